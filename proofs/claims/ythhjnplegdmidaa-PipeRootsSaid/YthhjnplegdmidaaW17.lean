/- Contracts: part; rows of fewer draws. -/
import Derived.Test.YthhjnplegdmidaaLaw0
import Derived.Test.YthhjnplegdmidaaPlain10
namespace Go.Proofs.Ythhjnplegdmidaa
open Go.RowKit Go.ChangeShapes Go.WideShapes Go.ChangeAt
set_option linter.unusedVariables false
set_option linter.unusedSimpArgs false
theorem sub_step (a b : List Int) {k i : Nat} (hk : k < a.length) (hi : i < b.length) : (a.drop k).isSublist (b.drop i) = if a[k] = b[i] then (a.drop (k + 1)).isSublist (b.drop (i + 1)) else (a.drop k).isSublist (b.drop (i + 1)) := by
  rw [List.drop_eq_getElem_cons hk, List.drop_eq_getElem_cons hi]
  simp only [List.isSublist]
  by_cases h : a[k] = b[i] <;> simp [h]
theorem sub_end (a b : List Int) {k : Nat} (hk : k = a.length) (i : Nat) : (a.drop k).isSublist (b.drop i) = true := by
  subst hk; rw [List.drop_length]; simp [List.isSublist]
theorem sub_out (a b : List Int) {k : Nat} (hk : k < a.length) : (a.drop k).isSublist (b.drop b.length) = false := by
  rw [List.drop_eq_getElem_cons hk, List.drop_length]; simp [List.isSublist]
set_option maxHeartbeats 2000000 in
theorem part_any (A C : Option Addr) (c d : Nat) (a b : List Int) (w : World) (ha : a.length ≤ 1000000) (hb : b.length ≤ 1000000) (hA : Ints w A a) (hC : Ints w C b) :
    Calls Try.prog 23 #[.slice A a.length c, .slice C b.length d] w fun e w' => e = .returned (.bool (a.isSublist b)) ∧ Below w.heap.size w w' := by
  go_enter Try.func23, Try.ntmps23
  go_wp2
  go_loopw [5, 6] (fun kv iv wr => ∃ (k i n : Nat), k ≤ a.length ∧ i ≤ b.length ∧ kv = .int .i64 k ∧ iv = .int .i64 i ∧ wr = w.drewN n ∧ Hid (a.isSublist b = (a.drop k).isSublist (b.drop i))) (fun _ iv _ => b.length - (intOf iv).toNat)
  case atStart => exact ⟨0, 0, 0, Nat.zero_le _, Nat.zero_le _, rfl, rfl, rfl, Lib.hid rfl⟩
  case round =>
    obtain ⟨k, i, n, hk, hi, rfl, rfl, rfl, he⟩ := hrel
    by_cases hil : i < b.length
    · by_cases hkl : k < a.length
      · have hst := sub_step a b hkl hil
        rw [← he.out] at hst
        have HST := Lib.hid hst
        obtain ⟨p, o, rfl, hcA⟩ := hA (by omega)
        obtain ⟨p', o', rfl, hcC⟩ := hC (by omega)
        have h1 := hcA k hkl
        have h2 := hcC i hil
        clear hst hcA hcC he
        generalize a[k] = x at *
        generalize b[i] = y at *
        by_cases hxy : x = y
        · have hxy' : (x == y) = true := by simpa using hxy
          have HE := Lib.hid (HST.out.trans (if_pos hxy))
          clear hxy HST
          go_wp2_with fail
          go_quiet (fail)
          go_wp2
          go_roundw
          case rel => exact ⟨k + 1, i + 1, _, by omega, by omega, by go_num, by go_num, rfl, HE⟩
          case measure => simp [intOf]; omega
        · have hxy' : (x == y) = false := by simpa using hxy
          have HE := Lib.hid (HST.out.trans (if_neg hxy))
          clear hxy HST
          go_wp2_with fail
          go_quiet (fail)
          go_wp2
          go_roundw
          case rel => exact ⟨k, i + 1, _, by omega, by omega, rfl, by go_num, rfl, HE⟩
          case measure => simp [intOf]; omega
      · have hke : k = a.length := by omega
        have HE := Lib.hid (he.out.trans (sub_end a b hke i))
        subst hke
        clear he
        go_wp2
        go_ret
        exact ⟨by rw [HE.out]; simp, below_dn (Below.refl _ _) _⟩
    · have hie : i = b.length := by omega
      subst hie
      by_cases hkl : k < a.length
      · have HE := Lib.hid (he.out.trans (sub_out a b hkl))
        have hne : ((k : Int) == (a.length : Int)) = false := by simp; omega
        clear he
        go_wp2
        go_ret
        exact ⟨by rw [HE.out]; first | rfl | (simp; done) | (simp; omega), below_dn (Below.refl _ _) _⟩
      · have hke : k = a.length := by omega
        have HE := Lib.hid (he.out.trans (sub_end a b hke b.length))
        subst hke
        clear he
        go_wp2
        go_ret
        exact ⟨by rw [HE.out]; simp, below_dn (Below.refl _ _) _⟩
/-- the draws when the first k are lessened -/
def fewK (ds : List Draw) (less : List Int) (k : Nat) : List Draw := ds.mapIdx fun i d => if i < k then ⟨d.node, max 0 (d.flow - less.getD i 0)⟩ else d
theorem fewK_length (ds : List Draw) (less : List Int) (k : Nat) : (fewK ds less k).length = ds.length := by simp [fewK]
theorem fewK_zero (ds : List Draw) (less : List Int) : fewK ds less 0 = ds := by
  unfold fewK
  apply List.ext_getElem <;> simp
theorem fewK_step (ds : List Draw) (less : List Int) {k : Nat} (hk : k < ds.length) (hl : k < less.length) : (fewK ds less k).set k ⟨ds[k].node, max 0 (ds[k].flow - less[k])⟩ = fewK ds less (k + 1) := by
  apply List.ext_getElem
  · simp [fewK]
  · intro i h1 h2
    rw [List.getElem_set]
    simp only [fewK, List.getElem_mapIdx]
    by_cases e : k = i
    · subst e; simp [List.getD, hl]
    · rw [if_neg e]
      by_cases e2 : i < k
      · rw [if_pos e2, if_pos (by omega)]
      · rw [if_neg e2, if_neg (by omega)]
theorem fewK_at (ds : List Draw) (less : List Int) {k : Nat} (hk : k < ds.length) : (fewK ds less k)[k]'(by rw [fewK_length]; exact hk) = ds[k] := by simp [fewK]
theorem leD_of : ∀ {a b : List Draw}, a.length = b.length → (∀ i (h1 : i < a.length) (h2 : i < b.length), a[i].node = b[i].node ∧ 0 ≤ a[i].flow ∧ a[i].flow ≤ b[i].flow) → leD a b
  | [], [], _, _ => trivial
  | x :: r, y :: s, hl, h => ⟨h 0 (by simp) (by simp), leD_of (by simpa using hl) fun i h1 h2 => by
      have := h (i + 1) (by simpa using h1) (by simpa using h2)
      simpa using this⟩
  | [], _ :: _, hl, _ => by simp at hl
  | _ :: _, [], hl, _ => by simp at hl
theorem leD_few {ds : List Draw} {less : List Int} (hp : posD ds) (hl : ∀ x ∈ less, 0 ≤ x) (k : Nat) : leD (fewK ds less k) ds := by
  apply leD_of (fewK_length _ _ _)
  intro i h1 h2
  have hf := hp ds[i] (List.getElem_mem h2)
  have hx := getD_pos hl i
  simp only [fewK, List.getElem_mapIdx]
  split
  · refine ⟨rfl, ?_, ?_⟩ <;> simp only <;> omega
  · exact ⟨rfl, hf, Int.le_refl _⟩
/-- a row of draws of the call's own -/
def FewIs (W : World) (B g : Nat) (l : List Draw) : Prop := B ≤ g ∧ Draws W (some ⟨g, 0, none⟩) l ∧ ∀ off, W.frozen? ⟨g, off, none⟩ = false
theorem FewIs.set {W : World} {B g : Nat} {l : List Draw} (h : FewIs W B g l) {k : Nat} (hk : k < l.length) (x : Int) : FewIs (W.setCell ⟨g, k * 2 + 1, none⟩ (.int .i64 x)) B g (l.set k ⟨l[k].node, x⟩) := by
  obtain ⟨h1, h2, h3⟩ := h
  refine ⟨h1, fun hn => ?_, fun off => by rw [World.frozen?_setCell]; exact h3 off⟩
  obtain ⟨b, off, e, hc⟩ := h2 (by simpa using hn)
  injection e with e
  injection e with e1 e2
  subst e1
  subst e2
  refine ⟨_, _, rfl, fun i hi => ?_⟩
  have hi' : i < l.length := by simpa using hi
  obtain ⟨c0, c1⟩ := hc i hi'
  simp only [Nat.zero_add] at c0 c1 ⊢
  have oth : ∀ {q : Nat} {v : Value}, k * 2 + 1 ≠ q → W.cell? ⟨g, q, none⟩ = some v → (W.setCell ⟨g, k * 2 + 1, none⟩ (.int .i64 x)).cell? ⟨g, q, none⟩ = some v := fun {q v} hne hh =>
    (World.cell?_setCell_other (w := W) (v := .int .i64 x) (a := ⟨g, k * 2 + 1, none⟩) (b := ⟨g, q, none⟩) (fun e => hne (by injection e))).trans hh
  rw [List.getElem_set]
  by_cases e : k = i
  · subst e
    rw [if_pos rfl]
    exact ⟨oth (by omega) c0, World.cell?_setCell_same _ _ _ c1⟩
  · rw [if_neg e]
    exact ⟨oth (by omega) c0, oth (by omega) c1⟩
/-- the slice leads to these numbers of two bytes -/
def U16s (w : World) (A : Option Addr) (l : List Int) : Prop :=
  0 < l.length → ∃ b off, A = some ⟨b, off, none⟩ ∧ ∀ i (h : i < l.length), w.cell? ⟨b, off + i, none⟩ = some (.int .u16 (l[i]))
theorem U16s.below {w w' : World} {A : Option Addr} {l : List Int} (h : U16s w A l) (hb : Below w.heap.size w w') : U16s w' A l := fun hn => by
  obtain ⟨b, off, rfl, hc⟩ := h hn
  exact ⟨b, off, rfl, fun i hi => cell_later hb (hc i hi)⟩
theorem u16_of_wf {x : Int} (h : (Lit.int .u16 x).wf = true) : 0 ≤ x ∧ x ≤ 65535 := by
  simpa [Lit.wf, IntKind.min, IntKind.max, IntKind.signed, IntKind.bits] using h
theorem open_less {H : Type} {enc : TypeId × Value → H} {w : World} {base : Nat} {held : Bool} {r : Reach} {b0 : Nat} {v : Value} {d : DataW H} {p : List MemPlace} (hv : Value.okWide Try.prog w r b0 40 v) (h : DataW.Trod enc Try.prog w base (fun _ => true) held 40 v d p) :
    ∃ (A : Option Addr) (c : Nat) (l : List Int), v = .slice A l.length c ∧ (l.length ≤ c ∧ c ≤ maxLen) ∧ (U16s w A l ∧ ∀ x ∈ l, 0 ≤ x ∧ x ≤ 65535) ∧ LenIs d l.length := by
  obtain ⟨A, n, c, rfl⟩ := okWide_slice Try.underlying40 hv
  obtain ⟨fuel, hf⟩ := h
  rcases open_ints Try.underlying40 Try.underlying43 (by kernel_rfl) hf with ⟨hcs, hx⟩ | ⟨a, len, cap, zs, hcs, _, hl, hm, hz, hx, hcell, hwz⟩
  · simp [Value.cells] at hcs
    obtain ⟨rfl, rfl, rfl⟩ := hcs
    simp only [Prod.mk.injEq] at hx
    exact ⟨none, 0, [], rfl, ⟨Nat.zero_le _, Nat.zero_le _⟩, ⟨fun h => by simp at h, fun x hx => by simp at hx⟩, .inl ⟨hx.1, rfl⟩⟩
  · simp [Value.cells] at hcs
    obtain ⟨rfl, rfl, rfl⟩ := hcs
    simp only [if_pos] at hz
    have hlen : (zs.take n).length = n := by rw [List.length_take, hz]; omega
    simp only [Prod.mk.injEq] at hx
    refine ⟨some a, c, zs.take n, by rw [hlen], ⟨by rw [hlen]; exact hl, hm⟩, ⟨fun hn => ?_, fun x hx => u16_of_wf (hwz x (List.mem_of_mem_take hx))⟩, .inr ⟨_, _, hx.1, by simp [lits]⟩⟩
    rw [hlen] at hn
    obtain ⟨b, off, spot⟩ := a
    have h0 := hcell 0 (by omega)
    have hspot : spot = none := by
      have := World.cell?_spot h0
      simpa [Addr.add] using this
    subst hspot
    refine ⟨b, off, rfl, fun i hi => ?_⟩
    rw [hlen] at hi
    have := hcell i (by omega)
    have e1 : (zs.take n)[i]'(by rw [hlen]; exact hi) = zs.getD i 0 := by simp [List.getElem_take, show i < zs.length by omega]
    rw [e1, ← this]
    congr 1
    unfold Addr.add
    split
    · rename_i h0; subst h0; rfl
    · rfl
theorem bytes43 : Try.prog.bytesOf 43 = 2 := by kernel_rfl
theorem len_ok3 {n : Nat} (h : n * Try.prog.bytesOf 43 ≤ reachBytes) : n ≤ 80000000000000 := by
  rw [bytes43] at h
  have : reachBytes < 140737488355328 := by simpa using reachBytes_lt
  omega
end Go.Proofs.Ythhjnplegdmidaa
