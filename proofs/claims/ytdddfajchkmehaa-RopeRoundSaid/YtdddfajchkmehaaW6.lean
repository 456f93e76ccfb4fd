/- Contracts: Same, with, Clone, set. -/
import Derived.Test.YtdddfajchkmehaaW5
namespace Go.Proofs.Ytdddfajchkmehaa
open Go.RowKit Go.Deep
set_option linter.unusedVariables false
set_option linter.unusedSimpArgs false
theorem results_cell {fn : Func} {p : Tmp} {ty : TypeId} (h : fn.results = #[.cell p ty]) (tmps : Array Value) (P : Program) (w : World) :
    (results fn tmps).run P w = ((asAddr (tmps.getD p undef)).run P w).andThen fun a w₁ => (loadVar ty a).run P w₁ := by
  simp only [results, h]
  simp [Sem.run_bind, Result.andThen]
theorem results_cell4 {fn : Func} {p t u v : Tmp} {ty : TypeId} (h : fn.results = #[.cell p ty, .tmp t, .tmp u, .tmp v]) (tmps : Array Value) (P : Program) (w : World) :
    (results fn tmps).run P w = ((asAddr (tmps.getD p undef)).run P w).andThen fun a w₁ => ((loadVar ty a).run P w₁).andThen fun x w₂ => .ok (.tuple #[x, tmps.getD t undef, tmps.getD u undef, tmps.getD v undef]) w₂ := by
  simp only [results, h]
  simp [Sem.run_bind, Result.andThen]
theorem Ints.far {W : World} {A : Option Addr} {l : List Int} (h : Ints W A l) (p : Addr) (v : Value) (hne : ∀ ad, A = some ad → ad.block ≠ p.block) : Ints (W.setCell p v) A l := fun hn => by
  obtain ⟨b, off, rfl, hc⟩ := h hn
  refine ⟨b, off, rfl, fun i hi => ?_⟩
  exact (World.cell?_setCell_other (w := W) (v := v) (a := p) (b := ⟨b, off + i, none⟩) (fun e => hne _ rfl (by rw [e]))).trans (hc i hi)
set_option maxHeartbeats 1000000 in
theorem Same_eq (x : Line) (A C : Option Addr) (c d : Nat) (w : World) (hm : x.load.length ≤ 1000000000000) (hA : Ints w A x.load) (hC : Ints w C x.load) :
    Calls Try.prog 13 #[x.val A c, x.val C d] w fun e w' => e = .returned (.bool true) ∧ Below w.heap.size w w' := by
  have hb0 := below_alloc w (.cells #[.int .i64 x.loop, .int .i64 x.spacing, .int .i64 x.offset, .slice A x.load.length c] 27)
  have hb1 := hb0.alloc hb0.size (.cells #[.int .i64 x.loop, .int .i64 x.spacing, .int .i64 x.offset, .slice C x.load.length d] 27)
  have hI := hA.below hb1
  have hJ := hC.below hb1
  unfold Line.val
  go_enter Try.func13, Try.ntmps13
  go_wp2
  go_loopw [5] (fun i wr => ∃ (k n : Nat), k ≤ x.load.length ∧ i = .int .i64 k ∧ wr = ((w.alloc (.cells #[.int .i64 x.loop, .int .i64 x.spacing, .int .i64 x.offset, .slice A x.load.length c] 27)).alloc (.cells #[.int .i64 x.loop, .int .i64 x.spacing, .int .i64 x.offset, .slice C x.load.length d] 27)).drewN n) (fun i _ => x.load.length - (intOf i).toNat)
  case atStart => exact ⟨0, 0, Nat.zero_le _, rfl, rfl⟩
  case round =>
    obtain ⟨k, n, hk, rfl, rfl⟩ := hrel
    by_cases hlt : k < x.load.length
    · obtain ⟨b, o, rfl, hcA⟩ := hI (by omega)
      obtain ⟨b', o', rfl, hcC⟩ := hJ (by omega)
      have ha := hcA k hlt
      have hc := hcC k hlt
      clear hcA hcC
      generalize x.load[k] = p at *
      have hne : (p != p) = false := by simp
      have hki : (k : Int) < (x.load.length : Int) := by omega
      have hk0 : (0 : Int) ≤ (k : Int) := by omega
      go_wp2_with fail
      go_quiet (fail)
      go_wp2
      go_roundw
      case rel => exact ⟨k + 1, _, by omega, by go_num, rfl⟩
      case measure => simp [intOf]; omega
    · go_wp2
      go_ret
      exact ⟨rfl, below_dn hb1 _⟩
/-- a line alone -/
def LineOut (w : World) (x : Line) (e : Ending) (w' : World) : Prop := ∃ A c, e = .returned (x.val A c) ∧ Ints w' A x.load ∧ Below w.heap.size w w' ∧ Fresh w A
theorem with_any (x : Line) (A C : Option Addr) (c n d : Nat) (w : World) : Calls Try.prog 33 #[x.val A c, .slice C n d] w fun e w' => e = .returned (.agg #[.int .i64 x.loop, .int .i64 x.spacing, .int .i64 x.offset, .slice C n d]) ∧ Below w.heap.size w w' := by
  have hb0 := below_alloc w (.cells #[.int .i64 x.loop, .int .i64 x.spacing, .int .i64 x.offset, .slice A x.load.length c] 27)
  unfold Line.val
  go_enter Try.func33, Try.ntmps33
  go_wp2
  refine bodyPost_ret (v := .agg #[.int .i64 x.loop, .int .i64 x.spacing, .int .i64 x.offset, .slice C n d]) ?_ rfl ?_
  · rw [results_cell rfl]
    go_simp
  · exact ⟨rfl, hb0.alloc hb0.size _⟩
def CloneN (w : World) (l : List Int) (e : Ending) (w' : World) : Prop := ∃ v, e = .returned v ∧ OwnI w' w.heap.size 3 v l ∧ Below w.heap.size w w'
theorem Clone_any (A : Option Addr) (c : Nat) (l : List Int) (w : World) (hn : l.length < 1000000000000) (h : Ints w A l) : Calls Try.prog 32 #[.slice A l.length c] w (CloneN w l) := by
  rcases A with _ | ad
  · have hl : l = [] := by
      cases l with
      | nil => rfl
      | cons y r => obtain ⟨b, off, h, _⟩ := h (by simp); cases h
    subst hl
    go_enter Try.func32, Try.ntmps32
    have q1 := fun (w : World) => Lib.run_eql_slice_nil (P := Try.prog) w 25 3 none 0 c 0 0 Try.underlying25
    go_wp2
    go_ret
    exact ⟨_, rfl, OwnI.nil _ _ _, Below.refl _ _⟩
  · go_enter Try.func32, Try.ntmps32
    have q1 := fun (w : World) => Lib.run_eql_slice_nil (P := Try.prog) w 25 3 (some ad) l.length c 0 0 Try.underlying25
    go_wp2_with (at_builtin; refine wpList_cat w _ rfl (.tmp 5) (.tmp 6) _ rfl w.heap.size 3 Try.underlying25 info3 _ [] rfl (OwnI.made w w.heap.size 3 (Nat.le_refl _)) _ _ l rfl (h.below ((Below.refl _ _).alloc (Nat.le_refl _) _)) ((Below.refl _ _).alloc (Nat.le_refl _) _) (by simpa using hn) (by simp) ?_; intro v1 w1 hown1 hbw hg1 hat1)
    go_ret
    exact ⟨_, rfl, by simpa using hown1, hbw⟩
/-- a row of the call's own that is not empty -/
theorem OwnI.some_ {w : World} {B : Nat} {v : Value} {l : List Int} (h : OwnI w B 3 v l) (hn : 0 < l.length) : ∃ g c, v = .slice (some ⟨g, 0, none⟩) l.length c ∧ B ≤ g ∧ OwnI w B 3 (.slice (some ⟨g, 0, none⟩) l.length c) l := by
  rcases h.2 with ⟨e, h0⟩ | ⟨g, cap, cur, e, hb, r⟩
  · omega
  · subst e
    exact ⟨g, cap, rfl, hb, h⟩
theorem OwnI.at_ {w : World} {B g c : Nat} {l : List Int} (h : OwnI w B 3 (.slice (some ⟨g, 0, none⟩) l.length c) l) {i : Nat} (hi : i < l.length) : w.cell? ⟨g, i, none⟩ = some (.int .i64 l[i]) ∧ w.frozen? ⟨g, i, none⟩ = false := by
  refine ⟨?_, World.ownsRow.frozenAt h i⟩
  rw [World.ownsRow.cellAt h i (by omega), List.getElem?_map, List.getElem?_eq_getElem hi]
  rfl
theorem OwnI.put {w : World} {B g c : Nat} {l : List Int} (h : OwnI w B 3 (.slice (some ⟨g, 0, none⟩) l.length c) l) (i : Nat) (n : Int) :
    OwnI (w.setCell ⟨g, i, none⟩ (.int .i64 n)) B 3 (.slice (some ⟨g, 0, none⟩) l.length c) (l.set i n) ∧ w.grownBy (w.setCell ⟨g, i, none⟩ (.int .i64 n)) (some g) := by
  obtain ⟨h1, h2⟩ := World.ownsRow.stored h i (.int .i64 n)
  refine ⟨?_, h2⟩
  unfold OwnI
  rw [List.map_set, List.length_set]
  exact h1
theorem OwnI.ints {w : World} {B : Nat} {A : Option Addr} {n c : Nat} {l : List Int} (h : OwnI w B 3 (.slice A n c) l) : Ints w A l ∧ n = l.length := by
  obtain ⟨A', c', e, hi⟩ := h.form
  injection e with e1 e2 e3
  subst e1
  exact ⟨hi, e2⟩
end Go.Proofs.Ytdddfajchkmehaa
