/- Contract: alive, the chapter's examples. -/
import Derived.Test.YtoedkdgaofkgaaaW8
import Derived.Test.YtoedkdgaofkgaaaW9
namespace Go.Proofs.Ytoedkdgaofkgaaa
open Go.RowKit
set_option linter.unusedVariables false
def twoL : List Item := [⟨1, 1, 0⟩, ⟨1, 1, 5⟩]
def badL : List Item := [⟨-1, 0, 0⟩]
theorem Ints.lit (w : World) (T : TypeId) (l : List Int) : Ints (w.alloc (.cells (l.map (Value.int .i64)).toArray T)) (some ⟨w.heap.size, 0, none⟩) l := fun _ => by
  refine ⟨_, _, rfl, fun i hi => ?_⟩
  rw [Nat.zero_add, cell_of_row _ _ _ _ _ _ (heap_alloc_new w _)]
  simp [hi]
theorem below_alloc (w : World) (o : Obj) : Below w.heap.size w (w.alloc o) := (Below.refl _ _).alloc (Nat.le_refl _) _
theorem e1 : needOf threeL [0, 2] = (7, 2, 19, true) := by decide +kernel
theorem e2 : needOf threeL [2, 0] = (0, 0, 0, false) := by decide +kernel
theorem e3 : bestF threeL 6 3 = [0, 1] := by decide +kernel
theorem e4 : bestF twoL 2 2 = [0, 1] := by decide +kernel
theorem e5 : fitsOf threeL [0, 2] 7 2 = true := by decide +kernel
theorem e6 : fitsOf threeL [0, 2] 6 2 = false := by decide +kernel
theorem e7 : rightOf badL = 2 := by decide +kernel
theorem e8 : itemsB threeL = true := by decide +kernel
theorem e9 : itemsB twoL = true := by decide +kernel
theorem e10 : rightOf threeL = 0 := by decide +kernel
theorem e11 : rightOf twoL = 0 := by decide +kernel
theorem two_items (w : World) : Items (w.alloc (.cells #[.int .i64 1, .int .i64 1, .int .i64 0, .int .i64 1, .int .i64 1, .int .i64 5] 42)) (some ⟨w.heap.size, 0, none⟩) twoL := fun _ => by
  refine ⟨_, _, rfl, fun i hi => ?_⟩
  have hi' : i < 2 := hi
  match i, hi' with
  | 0, _ => exact ⟨by go_simp; rfl, by go_simp; rfl, by go_simp; rfl⟩
  | 1, _ => exact ⟨by go_simp; rfl, by go_simp; rfl, by go_simp; rfl⟩
theorem bad_items (w : World) : Items (w.alloc (.cells #[.int .i64 (-1), .int .i64 0, .int .i64 0] 42)) (some ⟨w.heap.size, 0, none⟩) badL := fun _ => by
  refine ⟨_, _, rfl, fun i hi => ?_⟩
  have hi' : i < 1 := hi
  match i, hi' with
  | 0, _ => exact ⟨by go_simp; rfl, by go_simp; rfl, by go_simp; rfl⟩
theorem len3 : threeL.length = 3 := rfl
theorem three_need (w : World) (A : Option Addr) (c : Nat) (h : Items w A threeL) (x y : Int) (q : Int × Int × Int × Bool) (hq : needOf threeL [x, y] = q) :
    Calls Try.prog 14 #[.slice A threeL.length c, .slice (some ⟨w.heap.size, 0, none⟩) 2 2] (w.alloc (.cells #[.int .i64 x, .int .i64 y] 3)) fun e w' => e = .returned (NeedV q) ∧ w.alloc (.cells #[.int .i64 x, .int .i64 y] 3) = w' := by
  have := Need_any A (some ⟨w.heap.size, 0, none⟩) c 2 threeL [x, y] (w.alloc (.cells #[.int .i64 x, .int .i64 y] 3)) (by rw [len3]; omega) e8 (by simp) (h.below (below_alloc _ _)) (Ints.lit w 3 [x, y])
  rw [hq] at this
  exact this
theorem three_fits (w : World) (A : Option Addr) (c : Nat) (h : Items w A threeL) (x y a b : Int) (q : Bool) (hq : fitsOf threeL [x, y] a b = q) :
    Calls Try.prog 16 #[.slice A threeL.length c, .slice (some ⟨w.heap.size, 0, none⟩) 2 2, .int .i64 a, .int .i64 b] (w.alloc (.cells #[.int .i64 x, .int .i64 y] 3)) fun e w' => e = .returned (.bool q) ∧ w.alloc (.cells #[.int .i64 x, .int .i64 y] 3) = w' := by
  have := Fits_any A (some ⟨w.heap.size, 0, none⟩) c 2 threeL [x, y] a b (w.alloc (.cells #[.int .i64 x, .int .i64 y] 3)) (by rw [len3]; omega) e8 (by simp) (h.below (below_alloc _ _)) (Ints.lit w 3 [x, y])
  rw [hq] at this
  exact this
theorem same_lit (w : World) (A : Option Addr) (c : Nat) (x y : Int) (h : Ints w A [x, y]) :
    Calls Try.prog 20 #[.slice A 2 c, .slice (some ⟨w.heap.size, 0, none⟩) 2 2] (w.alloc (.cells #[.int .i64 x, .int .i64 y] 3)) fun e w' => e = .returned (.bool true) ∧ ∃ n, w' = (w.alloc (.cells #[.int .i64 x, .int .i64 y] 3)).drewN n := by
  have := Same_any A (some ⟨w.heap.size, 0, none⟩) c 2 [x, y] [x, y] (w.alloc (.cells #[.int .i64 x, .int .i64 y] 3)) (by simp) (by simp) (h.below (below_alloc _ _)) (Ints.lit w 3 [x, y])
  rw [show sameOf [x, y] [x, y] = true by simp [sameOf, lessOf]] at this
  exact this
theorem best_lit (w : World) (A : Option Addr) (c : Nat) (l : List Item) (a b : Int) (h : Items w A l) (hr : rightOf l = 0) (hb : bestF l a b = [0, 1]) (hm : l.length ≤ 12) :
    Calls Try.prog 18 #[.slice A l.length c, .int .i64 a, .int .i64 b] w fun e w' => ∃ A' c', e = .returned (.tuple #[.slice A' 2 c', .int .i64 0]) ∧ Ints w' A' [0, 1] ∧ Below w.heap.size w w' := by
  refine (Best_any A c l a b w (by omega) h).mono ?_
  rintro e w' ⟨A', c', rfl, h1, h2⟩
  rw [hb] at h1
  exact ⟨A', c', by rw [hr, hb]; rfl, h1, h2⟩
set_option maxHeartbeats 2000000 in
theorem alive_any (w : World) : Calls Try.prog 11 #[] w fun e w' => e = .returned (.bool true) ∧ Below w.heap.size w w' := by
  go_enter Try.func11, Try.ntmps11
  go_wp2_with fail
  refine (three_any _).mono ?_
  rintro e w1 ⟨A1, c1, rfl, hi1, hb1⟩
  go_wp2_with fail
  refine (three_need w1 A1 c1 hi1 0 2 _ e1).mono ?_
  rintro e w' ⟨rfl, rfl⟩
  unfold NeedV
  have hb1' := hb1.trans ((below_alloc w1 (.cells #[.int .i64 0, .int .i64 2] 3)).mono hb1.size)
  clear hb1 hi1
  generalize w1.alloc (.cells #[.int .i64 0, .int .i64 2] 3) = w1' at *
  go_wp2_with fail
  refine (three_any _).mono ?_
  rintro e w2 ⟨A2, c2, rfl, hi2, hb2⟩
  go_wp2_with fail
  refine (three_need w2 A2 c2 hi2 2 0 _ e2).mono ?_
  rintro e w' ⟨rfl, rfl⟩
  unfold NeedV
  have hb2' := (hb1'.trans (hb2.mono hb1'.size)).trans ((below_alloc w2 (.cells #[.int .i64 2, .int .i64 0] 3)).mono (Nat.le_trans hb1'.size hb2.size))
  clear hb1' hb2 hi2
  generalize w2.alloc (.cells #[.int .i64 2, .int .i64 0] 3) = w2' at *
  go_wp2_with fail
  refine (three_any _).mono ?_
  rintro e w3 ⟨A3, c3, rfl, hi3, hb3⟩
  go_wp2_with fail
  refine (best_lit w3 A3 c3 threeL 6 3 hi3 e10 e3 (by decide)).mono ?_
  rintro e w4 ⟨A4, c4, rfl, hi4, hb4⟩
  have hb4' := (hb2'.trans (hb3.mono hb2'.size)).trans (hb4.mono (Nat.le_trans hb2'.size hb3.size))
  clear hb2' hb3 hb4 hi3
  go_wp2_with fail
  refine (best_lit (w4.alloc (.cells #[.int .i64 1, .int .i64 1, .int .i64 0, .int .i64 1, .int .i64 1, .int .i64 5] 42)) (some ⟨w4.heap.size, 0, none⟩) 2 twoL 2 2 (two_items _) e11 e4 (by decide)).mono ?_
  rintro e w5 ⟨A5, c5, rfl, hi5, hb5⟩
  have h45 := (below_alloc w4 (.cells #[.int .i64 1, .int .i64 1, .int .i64 0, .int .i64 1, .int .i64 1, .int .i64 5] 42)).trans (hb5.mono (by simp))
  have hb5' := hb4'.trans (h45.mono hb4'.size)
  have hi4' := hi4.below h45
  clear hb4' hi4 hb5 h45
  go_wp2_with fail
  refine (same_lit w5 A4 c4 0 1 hi4').mono ?_
  rintro e w6 ⟨rfl, n6, hw6⟩
  have h56 : Below w5.heap.size w5 w6 := by rw [hw6]; exact below_dn (below_alloc _ _) _
  have hb6 := hb5'.trans (h56.mono hb5'.size)
  have hi6 := hi5.below h56
  clear hw6 hb5' hi5 h56 hi4'
  go_wp2_with fail
  refine (same_lit w6 A5 c5 0 1 hi6).mono ?_
  rintro e w7 ⟨rfl, n7, hw7⟩
  have h67 : Below w6.heap.size w6 w7 := by rw [hw7]; exact below_dn (below_alloc _ _) _
  have hb7 := hb6.trans (h67.mono hb6.size)
  clear hw7 hb6 hi6 h67
  go_wp2_with fail
  refine (three_any _).mono ?_
  rintro e w8 ⟨A8, c8, rfl, hi8, hb8⟩
  go_wp2_with fail
  refine (three_fits w8 A8 c8 hi8 0 2 7 2 _ e5).mono ?_
  rintro e w' ⟨rfl, rfl⟩
  have hb8' := (hb7.trans (hb8.mono hb7.size)).trans ((below_alloc w8 (.cells #[.int .i64 0, .int .i64 2] 3)).mono (Nat.le_trans hb7.size hb8.size))
  clear hb7 hb8 hi8
  generalize w8.alloc (.cells #[.int .i64 0, .int .i64 2] 3) = w8' at *
  go_wp2_with fail
  refine (three_any _).mono ?_
  rintro e w9 ⟨A9, c9, rfl, hi9, hb9⟩
  go_wp2_with fail
  refine (three_fits w9 A9 c9 hi9 0 2 6 2 _ e6).mono ?_
  rintro e w' ⟨rfl, rfl⟩
  have hb9' := (hb8'.trans (hb9.mono hb8'.size)).trans ((below_alloc w9 (.cells #[.int .i64 0, .int .i64 2] 3)).mono (Nat.le_trans hb8'.size hb9.size))
  clear hb8' hb9 hi9
  generalize w9.alloc (.cells #[.int .i64 0, .int .i64 2] 3) = w9' at *
  go_wp2_with fail
  refine (Right_any (some ⟨w9'.heap.size, 0, none⟩) 1 badL (w9'.alloc (.cells #[.int .i64 (-1), .int .i64 0, .int .i64 0] 42)) (by decide) (bad_items _)).mono ?_
  rintro e w10 ⟨rfl, hb10⟩
  have hb10' := hb9'.trans (((below_alloc w9' (.cells #[.int .i64 (-1), .int .i64 0, .int .i64 0] 42)).trans (hb10.mono (by simp))).mono hb9'.size)
  clear hb9' hb10
  rw [e7]
  go_wp2
  go_ret
  exact ⟨rfl, hb10'⟩
end Go.Proofs.Ytoedkdgaofkgaaa
