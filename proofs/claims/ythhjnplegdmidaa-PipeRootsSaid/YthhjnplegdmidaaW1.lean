/- Contracts: find, the searches in the list, with their tests. -/
import Derived.Test.YthhjnplegdmidaaTypes
import Derived.Laws.EntriesVeiled
import Derived.Shelf.Abstract
namespace Go.Proofs.Ythhjnplegdmidaa
open Go.RowKit Go.Shelf
set_option linter.unusedVariables false
theorem find1_any (x : Pipe) (n : Int) (p : Nat) (w : World) (hp : w.cell? ⟨p, 0, none⟩ = some (.int .i64 n)) : Calls Try.prog 35 #[x.val, .pointer (some ⟨p, 0, none⟩)] w fun e w' => e = .returned (.bool (x.to_ == n)) ∧ Below w.heap.size w w' := by
  have hlt := World.block_lt_of_cell? _ _ hp
  simp only at hlt
  have hp' : (w.alloc (.cells #[.int .i64 x.id, .int .i64 x.from_, .int .i64 x.to_, .int .i64 x.loss, .int .i64 x.rise] 45)).cell? ⟨p, 0, none⟩ = some (.int .i64 n) := cell_later (below_alloc _ _) hp
  unfold Pipe.val
  go_enter Try.func35, Try.ntmps35
  go_wp2
  go_ret
  exact ⟨rfl, below_alloc _ _⟩
def clash (q p : Pipe) : Bool := decide (q.id = p.id ∨ q.to_ = p.to_)
theorem clash1_any (x y : Pipe) (p : Nat) (w : World) (hp : w.cell? ⟨p, 0, none⟩ = some (.int .i64 y.id)) (hp2 : w.cell? ⟨p, 2, none⟩ = some (.int .i64 y.to_)) : Calls Try.prog 27 #[x.val, .pointer (some ⟨p, 0, none⟩)] w fun e w' => e = .returned (.bool (clash x y)) ∧ Below w.heap.size w w' := by
  have hlt := World.block_lt_of_cell? _ _ hp
  simp only at hlt
  have hp' : (w.alloc (.cells #[.int .i64 x.id, .int .i64 x.from_, .int .i64 x.to_, .int .i64 x.loss, .int .i64 x.rise] 45)).cell? ⟨p, 0, none⟩ = some (.int .i64 y.id) := cell_later (below_alloc _ _) hp
  have hp2' : (w.alloc (.cells #[.int .i64 x.id, .int .i64 x.from_, .int .i64 x.to_, .int .i64 x.loss, .int .i64 x.rise] 45)).cell? ⟨p, 2, none⟩ = some (.int .i64 y.to_) := cell_later (below_alloc _ _) hp2
  unfold Pipe.val clash
  by_cases h1 : x.id = y.id
  · have h1' : (x.id == y.id) = true := by simpa using h1
    have H1 := Lib.hid h1
    clear h1
    go_enter Try.func27, Try.ntmps27
    go_wp2
    go_ret
    exact ⟨by simp [H1.out], below_alloc _ _⟩
  · have h1' : (x.id == y.id) = false := by simpa using h1
    have H1 := Lib.hid h1
    clear h1
    go_enter Try.func27, Try.ntmps27
    go_wp2
    go_ret
    refine ⟨?_, below_alloc _ _⟩
    have e : (x.to_ == y.to_) = decide (x.id = y.id ∨ x.to_ = y.to_) := by
      rw [Bool.eq_iff_iff]
      simp [H1.out]
    rw [← e]
    rfl
/-- the first index at which a test of the kind f holds -/
def idxOf (l : List Pipe) (f : Pipe → Bool) : Int := match l.findIdx? f with
  | some i => i
  | none => -1
theorem idx_at (l : List Pipe) (f : Pipe → Bool) {k : Nat} (hk : k < l.length) (hno : ∀ x ∈ l.take k, f x = false) (h : f l[k] = true) : idxOf l f = k := by
  unfold idxOf
  have : l.findIdx? f = some k := by
    rw [List.findIdx?_eq_some_iff_getElem]
    refine ⟨hk, h, fun j hj => ?_⟩
    have := hno l[j] (by
      rw [List.mem_take_iff_getElem]
      exact ⟨j, by omega, rfl⟩)
    simp [this]
  rw [this]
theorem idx_none (l : List Pipe) (f : Pipe → Bool) (hno : ∀ x ∈ l, f x = false) : idxOf l f = -1 := by
  unfold idxOf
  have : l.findIdx? f = none := by
    rw [List.findIdx?_eq_none_iff]
    exact hno
  rw [this]
theorem idx_neg (l : List Pipe) (f : Pipe → Bool) : decide (0 ≤ idxOf l f) = l.any f := by
  unfold idxOf
  cases h : l.findIdx? f with
  | none =>
    rw [List.findIdx?_eq_none_iff] at h
    rw [Bool.eq_iff_iff]
    simp
    intro x hx
    exact h x hx
  | some i =>
    have := List.findIdx?_eq_some_iff_getElem.1 h
    obtain ⟨hi, hf, _⟩ := this
    rw [Bool.eq_iff_iff]
    simp
    exact ⟨_, List.getElem_mem hi, hf⟩
set_option maxHeartbeats 1000000 in
/-- the library's search, whatever the test (g: the test's function, f: what it tells) -/
theorem IndexFunc_any (A : Option Addr) (c : Nat) (l : List Pipe) (g : Nat) (f : Pipe → Bool) (p : Nat) (w : World) (hm : l.length ≤ 1000000000000000) (h : Pipes w A l) (heg : ∀ args w, (callFunc g args).run Try.prog w = .ok (.enter g args) w)
    (hf : ∀ (x : Pipe) W, Below w.heap.size w W → Calls Try.prog g #[x.val, .pointer (some ⟨p, 0, none⟩)] W fun e w' => e = .returned (.bool (f x)) ∧ Below W.heap.size W w') :
    Calls Try.prog 34 #[.slice A l.length c, .func (Fn.func g) #[] #[.pointer (some ⟨p, 0, none⟩)]] w fun e w' => e = .returned (.int .i64 (idxOf l f)) ∧ Below w.heap.size w w' := by
  go_enter Try.func34, Try.ntmps34
  go_wp2
  have hf := fun x W hW => Lib.hid (hf x W hW)
  go_loopw [8] (fun i wr => ∃ k : Nat, k ≤ l.length ∧ i = .int .i64 k ∧ (∀ x ∈ l.take k, f x = false) ∧ Below w.heap.size w wr) (fun i _ => l.length - (intOf i).toNat)
  case atStart => exact ⟨0, Nat.zero_le _, rfl, fun x hx => by simp at hx, Below.refl _ _⟩
  case round =>
    obtain ⟨k, hk, rfl, hno, hb⟩ := hrel
    have Hno := Lib.hid hno
    clear hno
    by_cases hlt : k < l.length
    · obtain ⟨b, off, rfl, hc⟩ := h (by omega)
      obtain ⟨h0, h1, h2, h3, h4⟩ := hc k hlt
      have h0' := cell_later hb h0
      have h1' := cell_later hb h1
      have h2' := cell_later hb h2
      have h3' := cell_later hb h3
      have h4' := cell_later hb h4
      clear h0 h1 h2 h3 h4 hc
      have hat := idx_at l f hlt
      have Hat := Lib.hid hat
      clear hat
      have htk : l.take (k + 1) = l.take k ++ [l[k]] := List.take_succ_eq_append_getElem hlt
      have Htk := Lib.hid htk
      clear htk
      generalize hx : l[k] = x at *
      have Hx := Lib.hid hx
      clear hx
      have hfx := hf x _ hb
      clear hf
      unfold Pipe.val at hfx
      go_wp2_with fail
      refine (hfx).out.mono ?_
      rintro e w1 ⟨rfl, hb1⟩
      have hbb := hb.trans (hb1.mono hb.size)
      clear hb1 h0' h1' h2' h3' h4' hfx
      by_cases he : f x = true
      · have He := Lib.hid he
        rw [he]
        clear he
        go_wp2
        go_ret
        exact ⟨ret_int (Hat.out Hno.out He.out).symm, hbb⟩
      · have he' : f x = false := by simpa using he
        have He := Lib.hid he'
        rw [he']
        clear he he'
        go_wp2
        go_roundw
        case rel =>
          refine ⟨k + 1, by omega, by go_num, ?_, hbb⟩
          rw [Htk.out]
          intro y hy
          rcases List.mem_append.1 hy with h | h
          · exact Hno.out y h
          · simp at h; subst h; exact He.out
        case measure => simp [intOf]; omega
    · have hke : k = l.length := by omega
      subst hke
      have hn := Hno.out
      rw [List.take_length] at hn
      have Hn := Lib.hid (idx_none l f hn)
      clear hn
      go_wp2
      go_ret
      exact ⟨ret_int Hn.out.symm, hb⟩
theorem find_any (A : Option Addr) (c : Nat) (l : List Pipe) (n : Int) (w : World) (hm : l.length ≤ 1000000000000000) (h : Pipes w A l) :
    Calls Try.prog 28 #[.slice A l.length c, .int .i64 n] w fun e w' => e = .returned (.int .i64 (idxOf l fun q => q.to_ == n)) ∧ Below w.heap.size w w' := by
  have hp : (w.alloc (.cells #[.int .i64 n] 3)).cell? ⟨w.heap.size, 0, none⟩ = some (.int .i64 n) := by go_simp
  go_enter Try.func28, Try.ntmps28
  go_wp2_with fail
  refine (IndexFunc_any A c l 35 (fun q => q.to_ == n) w.heap.size _ hm (h.below (below_alloc _ _)) (enters_of Try.func35 (by kernel_rfl) rfl) (fun x W hW => find1_any x n w.heap.size W (cell_later hW hp))).mono ?_
  rintro e w1 ⟨rfl, hb⟩
  go_wp2
  go_ret
  exact ⟨rfl, (below_alloc w (.cells #[.int .i64 n] 3)).trans (hb.mono (by simp))⟩
theorem Contains_any (A : Option Addr) (c : Nat) (l : List Pipe) (y : Pipe) (p : Nat) (w : World) (hm : l.length ≤ 1000000000000000) (h : Pipes w A l) (hp : w.cell? ⟨p, 0, none⟩ = some (.int .i64 y.id)) (hp2 : w.cell? ⟨p, 2, none⟩ = some (.int .i64 y.to_)) :
    Calls Try.prog 26 #[.slice A l.length c, .func (Fn.func 27) #[] #[.pointer (some ⟨p, 0, none⟩)]] w fun e w' => e = .returned (.bool (l.any fun q => clash q y)) ∧ Below w.heap.size w w' := by
  have hq := IndexFunc_any A c l 27 (fun q => clash q y) p w hm h (enters_of Try.func27 (by kernel_rfl) rfl) (fun x W hW => clash1_any x y p W (cell_later hW hp) (cell_later hW hp2))
  have hd := idx_neg l fun q => clash q y
  have Hd := Lib.hid hd
  have Hq := Lib.hid hq
  clear hd hq
  generalize idxOf l (fun q => clash q y) = i at *
  go_enter Try.func26, Try.ntmps26
  go_wp2_with fail
  refine Hq.out.mono ?_
  rintro e w1 ⟨rfl, hb⟩
  go_wp2
  go_ret
  exact ⟨by rw [← Hd.out]; rfl, hb⟩
end Go.Proofs.Ythhjnplegdmidaa
