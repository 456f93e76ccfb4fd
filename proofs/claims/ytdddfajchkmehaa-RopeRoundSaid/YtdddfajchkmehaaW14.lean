/- The examples of the chapter hold. -/
import Derived.Test.YtdddfajchkmehaaW13
namespace Go.Proofs.Ytdddfajchkmehaa
open Go.RowKit Go.Deep
set_option linter.unusedVariables false
set_option linter.unusedSimpArgs false
def ln (o : Int) (l : List Int) : Line := ⟨60000, 20000, o, l⟩
theorem zero_fit (l : List Int) (h : (l.all fun y => decide (0 ≤ y ∧ y ≤ 1000000)) = true) : fit l 1000000 := by
  intro y hy
  rw [List.all_eq_true] at h
  simpa using h y hy
theorem New_lit (w : World) : Calls Try.prog 11 #[.agg #[.int .i64 0, .int .i64 0, .int .i64 0, .int .i64 0, .int .i64 30, .int .i64 0, .int .i64 0, .int .i64 20]] w fun e w' => ∃ A c, e = .returned (.tuple #[.agg #[.int .i64 60000, .int .i64 20000, .int .i64 0, .slice A 3 c], .int .i64 0]) ∧ Ints w' A [0, 0, 0] ∧ Below w.heap.size w w' := by
  have := New_any ⟨0, 0, 0, 0, 30, 0, 0, 20⟩ w
  rw [show newOf ⟨0, 0, 0, 0, 30, 0, 0, 20⟩ = (ln 0 [0, 0, 0], 0) by kernel_rfl] at this
  exact this.mono fun _ _ ⟨A, c, h1, h2, h3, _⟩ => ⟨A, c, h1, h2, h3⟩
theorem Load_lit1 (A : Option Addr) (c : Nat) (w : World) (h : Ints w A [0, 0, 0]) : Calls Try.prog 26 #[.agg #[.int .i64 60000, .int .i64 20000, .int .i64 0, .slice A 3 c], .int .i64 0, .int .i64 4, .int .i64 4] w fun e w' => ∃ A' c', e = .returned (.tuple #[.agg #[.int .i64 60000, .int .i64 20000, .int .i64 0, .slice A' 3 c'], .int .i64 0]) ∧ Ints w' A' [4, 0, 0] ∧ Below w.heap.size w w' := by
  have := Load_any (ln 0 [0, 0, 0]) A c 0 4 4 (by decide +kernel) (zero_fit _ (by decide +kernel)) w h
  rw [show loadOf (ln 0 [0, 0, 0]) 0 4 4 = (ln 0 [4, 0, 0], 0) by kernel_rfl] at this
  exact this.mono fun _ _ ⟨A', c', h1, h2, h3, _⟩ => ⟨A', c', h1, h2, h3⟩
theorem Load_lit2 (A : Option Addr) (c : Nat) (w : World) (h : Ints w A [0, 0, 0]) : Calls Try.prog 26 #[.agg #[.int .i64 60000, .int .i64 20000, .int .i64 0, .slice A 3 c], .int .i64 1, .int .i64 4, .int .i64 4] w fun e w' => ∃ A' c', e = .returned (.tuple #[.agg #[.int .i64 0, .int .i64 0, .int .i64 0, .slice A' 0 c'], .int .i64 10]) ∧ Ints w' A' [] ∧ Below w.heap.size w w' := by
  have := Load_any (ln 0 [0, 0, 0]) A c 1 4 4 (by decide +kernel) (zero_fit _ (by decide +kernel)) w h
  rw [show loadOf (ln 0 [0, 0, 0]) 1 4 4 = (Line.zero, 10) by kernel_rfl] at this
  exact this.mono fun _ _ ⟨A', c', h1, h2, h3, _⟩ => ⟨A', c', h1, h2, h3⟩
theorem Move_lit1 (A : Option Addr) (c : Nat) (w : World) (h : Ints w A [4, 0, 0]) : Calls Try.prog 24 #[.agg #[.int .i64 60000, .int .i64 20000, .int .i64 0, .slice A 3 c], .int .i64 20000] w fun e w' => ∃ A' c', e = .returned (.tuple #[.agg #[.int .i64 60000, .int .i64 20000, .int .i64 20000, .slice A' 3 c'], .int .i64 2, .int .i64 0, .int .i64 0]) ∧ Ints w' A' [4, 0, 0] ∧ Below w.heap.size w w' := by
  have := Move_any (ln 0 [4, 0, 0]) A c 20000 (by decide +kernel) (zero_fit _ (by decide +kernel)) w h
  rw [show moveOf (ln 0 [4, 0, 0]) 20000 = (ln 20000 [4, 0, 0], 2, 0, 0) by kernel_rfl] at this
  exact this.mono fun _ _ ⟨A', c', h1, h2, h3, _⟩ => ⟨A', c', h1, h2, h3⟩
theorem Move_lit2 (A : Option Addr) (c : Nat) (w : World) (h : Ints w A [4, 0, 0]) : Calls Try.prog 24 #[.agg #[.int .i64 60000, .int .i64 20000, .int .i64 20000, .slice A 3 c], .int .i64 9999] w fun e w' => ∃ A' c', e = .returned (.tuple #[.agg #[.int .i64 60000, .int .i64 20000, .int .i64 29999, .slice A' 3 c'], .int .i64 (-1), .int .i64 0, .int .i64 0]) ∧ Ints w' A' [4, 0, 0] ∧ Below w.heap.size w w' := by
  have := Move_any (ln 20000 [4, 0, 0]) A c 9999 (by decide +kernel) (zero_fit _ (by decide +kernel)) w h
  rw [show moveOf (ln 20000 [4, 0, 0]) 9999 = (ln 29999 [4, 0, 0], (-1), 0, 0) by kernel_rfl] at this
  exact this.mono fun _ _ ⟨A', c', h1, h2, h3, _⟩ => ⟨A', c', h1, h2, h3⟩
theorem Move_lit3 (A : Option Addr) (c : Nat) (w : World) (h : Ints w A [4, 0, 0]) : Calls Try.prog 24 #[.agg #[.int .i64 60000, .int .i64 20000, .int .i64 29999, .slice A 3 c], .int .i64 1] w fun e w' => ∃ A' c', e = .returned (.tuple #[.agg #[.int .i64 60000, .int .i64 20000, .int .i64 30000, .slice A' 3 c'], .int .i64 (-1), .int .i64 4, .int .i64 0]) ∧ Ints w' A' [0, 0, 0] ∧ Below w.heap.size w w' := by
  have := Move_any (ln 29999 [4, 0, 0]) A c 1 (by decide +kernel) (zero_fit _ (by decide +kernel)) w h
  rw [show moveOf (ln 29999 [4, 0, 0]) 1 = (ln 30000 [0, 0, 0], (-1), 4, 0) by kernel_rfl] at this
  exact this.mono fun _ _ ⟨A', c', h1, h2, h3, _⟩ => ⟨A', c', h1, h2, h3⟩
theorem Take_lit (A : Option Addr) (c : Nat) (w : World) (h : Ints w A [4, 0, 0]) : Calls Try.prog 28 #[.agg #[.int .i64 60000, .int .i64 20000, .int .i64 0, .slice A 3 c], .int .i64 0, .int .i64 1] w fun e w' => ∃ A' c', e = .returned (.tuple #[.agg #[.int .i64 60000, .int .i64 20000, .int .i64 0, .slice A' 3 c'], .int .i64 0]) ∧ Ints w' A' [3, 0, 0] ∧ Below w.heap.size w w' := by
  have := Take_any (ln 0 [4, 0, 0]) A c 0 1 (by decide +kernel) (zero_fit _ (by decide +kernel)) w h
  rw [show takeOf (ln 0 [4, 0, 0]) 0 1 = (ln 0 [3, 0, 0], 0) by kernel_rfl] at this
  exact this.mono fun _ _ ⟨A', c', h1, h2, h3, _⟩ => ⟨A', c', h1, h2, h3⟩
theorem At_lit1 (A : Option Addr) (c : Nat) (w : World) : Calls Try.prog 18 #[.agg #[.int .i64 60000, .int .i64 20000, .int .i64 30000, .slice A 3 c], .int .i64 0] w fun e w' => e = .returned (.int .i64 30000) ∧ Below w.heap.size w w' := by
  have := At_any (ln 30000 [0, 0, 0]) A c 0 (by decide +kernel) w
  rw [show atOf (ln 30000 [0, 0, 0]) 0 = 30000 by decide +kernel] at this; exact this
theorem At_lit2 (A : Option Addr) (c : Nat) (w : World) : Calls Try.prog 18 #[.agg #[.int .i64 60000, .int .i64 20000, .int .i64 0, .slice A 3 c], .int .i64 3] w fun e w' => e = .returned (.int .i64 (-1)) ∧ Below w.heap.size w w' := by
  have := At_any (ln 0 [0, 0, 0]) A c 3 (by decide +kernel) w
  rw [show atOf (ln 0 [0, 0, 0]) 3 = -1 by decide +kernel] at this; exact this
theorem People_lit1 (A : Option Addr) (c : Nat) (w : World) (h : Ints w A [0, 0, 0]) : Calls Try.prog 20 #[.agg #[.int .i64 60000, .int .i64 20000, .int .i64 30000, .slice A 3 c]] w fun e w' => e = .returned (.int .i64 0) ∧ Below w.heap.size w w' := by
  have := People_any (ln 30000 [0, 0, 0]) A c (by decide) (zero_fit _ (by decide +kernel)) w h
  rw [show peopleOf (ln 30000 [0, 0, 0]) = 0 by decide +kernel] at this; exact this
theorem People_lit2 (A : Option Addr) (c : Nat) (w : World) (h : Ints w A [3, 0, 0]) : Calls Try.prog 20 #[.agg #[.int .i64 60000, .int .i64 20000, .int .i64 0, .slice A 3 c]] w fun e w' => e = .returned (.int .i64 3) ∧ Below w.heap.size w w' := by
  have := People_any (ln 0 [3, 0, 0]) A c (by decide) (zero_fit _ (by decide +kernel)) w h
  rw [show peopleOf (ln 0 [3, 0, 0]) = 3 by decide +kernel] at this; exact this
theorem Between_lit1 (A : Option Addr) (c : Nat) (w : World) (h : Ints w A [3, 0, 0]) : Calls Try.prog 22 #[.agg #[.int .i64 60000, .int .i64 20000, .int .i64 0, .slice A 3 c], .int .i64 0, .int .i64 1] w fun e w' => e = .returned (.int .i64 3) ∧ Below w.heap.size w w' := by
  have := Between_any (ln 0 [3, 0, 0]) A c 0 1 (by decide +kernel) (zero_fit _ (by decide +kernel)) w h
  rw [show betK (ln 0 [3, 0, 0]) 0 1 (ln 0 [3, 0, 0]).load.length = 3 by decide +kernel] at this; exact this
theorem Between_lit2 (A : Option Addr) (c : Nat) (w : World) (h : Ints w A [3, 0, 0]) : Calls Try.prog 22 #[.agg #[.int .i64 60000, .int .i64 20000, .int .i64 0, .slice A 3 c], .int .i64 1, .int .i64 60000] w fun e w' => e = .returned (.int .i64 0) ∧ Below w.heap.size w w' := by
  have := Between_any (ln 0 [3, 0, 0]) A c 1 60000 (by decide +kernel) (zero_fit _ (by decide +kernel)) w h
  rw [show betK (ln 0 [3, 0, 0]) 1 60000 (ln 0 [3, 0, 0]).load.length = 0 by decide +kernel] at this; exact this
theorem Right_lit1 (A : Option Addr) (c : Nat) (w : World) (h : Ints w A [4, 0, 0]) : Calls Try.prog 14 #[.agg #[.int .i64 60000, .int .i64 20000, .int .i64 0, .slice A 3 c], .int .i64 4] w fun e w' => e = .returned (.bool true) ∧ Below w.heap.size w w' := by
  have := Right_any (ln 0 [4, 0, 0]) A c 4 (by decide) w h
  rw [show rightB (ln 0 [4, 0, 0]) 4 = true by decide +kernel] at this; exact this
theorem Right_lit2 (A : Option Addr) (c : Nat) (w : World) (h : Ints w A [4, 0, 0]) : Calls Try.prog 14 #[.agg #[.int .i64 60000, .int .i64 20000, .int .i64 0, .slice A 3 c], .int .i64 3] w fun e w' => e = .returned (.bool false) ∧ Below w.heap.size w w' := by
  have := Right_any (ln 0 [4, 0, 0]) A c 3 (by decide) w h
  rw [show rightB (ln 0 [4, 0, 0]) 3 = false by decide +kernel] at this; exact this
set_option maxRecDepth 100000 in
set_option maxHeartbeats 8000000 in
theorem alive_any (w : World) : Calls Try.prog 10 #[] w fun e w' => e = .returned (.bool true) ∧ Below w.heap.size w w' := by
  go_enter Try.func10, Try.ntmps10
  go_wp2_with fail
  refine (New_lit _).mono ?_
  rintro e w1 ⟨A1, c1, rfl, hI, hb⟩
  have HB := Lib.hid hb
  have ka := below_alloc w1 (.cells #[.int .i64 60000, .int .i64 20000, .int .i64 0, .slice A1 3 c1] 27)
  replace HB := Lib.hid (HB.out.trans (ka.mono HB.out.size))
  have K1 := Lib.hid (Blk.new w1 #[.int .i64 60000, .int .i64 20000, .int .i64 0, .slice A1 3 c1] 27)
  have J1 := Lib.hid (hI.below ka)
  clear hI hb ka
  have x0 := K1.out.cell 0 (v := .int .i64 60000) rfl
  have x1 := K1.out.cell 1 (v := .int .i64 20000) rfl
  have x2 := K1.out.cell 2 (v := .int .i64 0) rfl
  have x3 := K1.out.cell 3 (v := .slice A1 3 c1) rfl
  go_wp2_with fail
  refine (Load_lit1 A1 c1 _ J1.out).mono ?_
  rintro e w3 ⟨A3, c3, rfl, hI, hb⟩
  clear x0 x1 x2 x3
  replace K1 := Lib.hid (K1.out.below hb)
  replace J1 := Lib.hid (J1.out.below hb)
  replace HB := Lib.hid (HB.out.trans (hb.mono HB.out.size))
  have ka := below_alloc w3 (.cells #[.int .i64 60000, .int .i64 20000, .int .i64 0, .slice A3 3 c3] 27)
  replace K1 := Lib.hid (K1.out.below ka)
  replace J1 := Lib.hid (J1.out.below ka)
  replace HB := Lib.hid (HB.out.trans (ka.mono HB.out.size))
  have K3 := Lib.hid (Blk.new w3 #[.int .i64 60000, .int .i64 20000, .int .i64 0, .slice A3 3 c3] 27)
  have J3 := Lib.hid (hI.below ka)
  clear hI hb ka
  have x0 := K1.out.cell 0 (v := .int .i64 60000) rfl
  have x1 := K1.out.cell 1 (v := .int .i64 20000) rfl
  have x2 := K1.out.cell 2 (v := .int .i64 0) rfl
  have x3 := K1.out.cell 3 (v := .slice A1 3 c1) rfl
  go_wp2_with fail
  refine (Load_lit2 A1 c1 _ J1.out).mono ?_
  rintro e w5 ⟨A5, c5, rfl, hI, hb⟩
  clear x0 x1 x2 x3
  replace K1 := Lib.hid (K1.out.below hb)
  replace K3 := Lib.hid (K3.out.below hb)
  replace J1 := Lib.hid (J1.out.below hb)
  replace J3 := Lib.hid (J3.out.below hb)
  replace HB := Lib.hid (HB.out.trans (hb.mono HB.out.size))
  have ka := below_alloc w5 (.cells #[.int .i64 0, .int .i64 0, .int .i64 0, .slice A5 0 c5] 27)
  replace K1 := Lib.hid (K1.out.below ka)
  replace K3 := Lib.hid (K3.out.below ka)
  replace J1 := Lib.hid (J1.out.below ka)
  replace J3 := Lib.hid (J3.out.below ka)
  replace HB := Lib.hid (HB.out.trans (ka.mono HB.out.size))
  clear hI hb ka
  have x0 := K3.out.cell 0 (v := .int .i64 60000) rfl
  have x1 := K3.out.cell 1 (v := .int .i64 20000) rfl
  have x2 := K3.out.cell 2 (v := .int .i64 0) rfl
  have x3 := K3.out.cell 3 (v := .slice A3 3 c3) rfl
  go_wp2_with fail
  refine (Move_lit1 A3 c3 _ J3.out).mono ?_
  rintro e w7 ⟨A7, c7, rfl, hI, hb⟩
  clear x0 x1 x2 x3
  replace K1 := Lib.hid (K1.out.below hb)
  replace K3 := Lib.hid (K3.out.below hb)
  replace J1 := Lib.hid (J1.out.below hb)
  replace J3 := Lib.hid (J3.out.below hb)
  replace HB := Lib.hid (HB.out.trans (hb.mono HB.out.size))
  have ka := below_alloc w7 (.cells #[.int .i64 60000, .int .i64 20000, .int .i64 20000, .slice A7 3 c7] 27)
  replace K1 := Lib.hid (K1.out.below ka)
  replace K3 := Lib.hid (K3.out.below ka)
  replace J1 := Lib.hid (J1.out.below ka)
  replace J3 := Lib.hid (J3.out.below ka)
  replace HB := Lib.hid (HB.out.trans (ka.mono HB.out.size))
  have K7 := Lib.hid (Blk.new w7 #[.int .i64 60000, .int .i64 20000, .int .i64 20000, .slice A7 3 c7] 27)
  have J7 := Lib.hid (hI.below ka)
  clear hI hb ka
  have x0 := K7.out.cell 0 (v := .int .i64 60000) rfl
  have x1 := K7.out.cell 1 (v := .int .i64 20000) rfl
  have x2 := K7.out.cell 2 (v := .int .i64 20000) rfl
  have x3 := K7.out.cell 3 (v := .slice A7 3 c7) rfl
  go_wp2_with fail
  refine (Move_lit2 A7 c7 _ J7.out).mono ?_
  rintro e w11 ⟨A11, c11, rfl, hI, hb⟩
  clear x0 x1 x2 x3
  replace K1 := Lib.hid (K1.out.below hb)
  replace K3 := Lib.hid (K3.out.below hb)
  replace K7 := Lib.hid (K7.out.below hb)
  replace J1 := Lib.hid (J1.out.below hb)
  replace J3 := Lib.hid (J3.out.below hb)
  replace J7 := Lib.hid (J7.out.below hb)
  replace HB := Lib.hid (HB.out.trans (hb.mono HB.out.size))
  have ka := below_alloc w11 (.cells #[.int .i64 60000, .int .i64 20000, .int .i64 29999, .slice A11 3 c11] 27)
  replace K1 := Lib.hid (K1.out.below ka)
  replace K3 := Lib.hid (K3.out.below ka)
  replace K7 := Lib.hid (K7.out.below ka)
  replace J1 := Lib.hid (J1.out.below ka)
  replace J3 := Lib.hid (J3.out.below ka)
  replace J7 := Lib.hid (J7.out.below ka)
  replace HB := Lib.hid (HB.out.trans (ka.mono HB.out.size))
  have K11 := Lib.hid (Blk.new w11 #[.int .i64 60000, .int .i64 20000, .int .i64 29999, .slice A11 3 c11] 27)
  have J11 := Lib.hid (hI.below ka)
  clear hI hb ka
  have x0 := K11.out.cell 0 (v := .int .i64 60000) rfl
  have x1 := K11.out.cell 1 (v := .int .i64 20000) rfl
  have x2 := K11.out.cell 2 (v := .int .i64 29999) rfl
  have x3 := K11.out.cell 3 (v := .slice A11 3 c11) rfl
  go_wp2_with fail
  refine (Move_lit3 A11 c11 _ J11.out).mono ?_
  rintro e w15 ⟨A15, c15, rfl, hI, hb⟩
  clear x0 x1 x2 x3
  replace K1 := Lib.hid (K1.out.below hb)
  replace K3 := Lib.hid (K3.out.below hb)
  replace K7 := Lib.hid (K7.out.below hb)
  replace K11 := Lib.hid (K11.out.below hb)
  replace J1 := Lib.hid (J1.out.below hb)
  replace J3 := Lib.hid (J3.out.below hb)
  replace J7 := Lib.hid (J7.out.below hb)
  replace J11 := Lib.hid (J11.out.below hb)
  replace HB := Lib.hid (HB.out.trans (hb.mono HB.out.size))
  have ka := below_alloc w15 (.cells #[.int .i64 60000, .int .i64 20000, .int .i64 30000, .slice A15 3 c15] 27)
  replace K1 := Lib.hid (K1.out.below ka)
  replace K3 := Lib.hid (K3.out.below ka)
  replace K7 := Lib.hid (K7.out.below ka)
  replace K11 := Lib.hid (K11.out.below ka)
  replace J1 := Lib.hid (J1.out.below ka)
  replace J3 := Lib.hid (J3.out.below ka)
  replace J7 := Lib.hid (J7.out.below ka)
  replace J11 := Lib.hid (J11.out.below ka)
  replace HB := Lib.hid (HB.out.trans (ka.mono HB.out.size))
  have K15 := Lib.hid (Blk.new w15 #[.int .i64 60000, .int .i64 20000, .int .i64 30000, .slice A15 3 c15] 27)
  have J15 := Lib.hid (hI.below ka)
  clear hI hb ka
  have x0 := K3.out.cell 0 (v := .int .i64 60000) rfl
  have x1 := K3.out.cell 1 (v := .int .i64 20000) rfl
  have x2 := K3.out.cell 2 (v := .int .i64 0) rfl
  have x3 := K3.out.cell 3 (v := .slice A3 3 c3) rfl
  go_wp2_with fail
  refine (Take_lit A3 c3 _ J3.out).mono ?_
  rintro e w19 ⟨A19, c19, rfl, hI, hb⟩
  clear x0 x1 x2 x3
  replace K1 := Lib.hid (K1.out.below hb)
  replace K3 := Lib.hid (K3.out.below hb)
  replace K7 := Lib.hid (K7.out.below hb)
  replace K11 := Lib.hid (K11.out.below hb)
  replace K15 := Lib.hid (K15.out.below hb)
  replace J1 := Lib.hid (J1.out.below hb)
  replace J3 := Lib.hid (J3.out.below hb)
  replace J7 := Lib.hid (J7.out.below hb)
  replace J11 := Lib.hid (J11.out.below hb)
  replace J15 := Lib.hid (J15.out.below hb)
  replace HB := Lib.hid (HB.out.trans (hb.mono HB.out.size))
  have ka := below_alloc w19 (.cells #[.int .i64 60000, .int .i64 20000, .int .i64 0, .slice A19 3 c19] 27)
  replace K1 := Lib.hid (K1.out.below ka)
  replace K3 := Lib.hid (K3.out.below ka)
  replace K7 := Lib.hid (K7.out.below ka)
  replace K11 := Lib.hid (K11.out.below ka)
  replace K15 := Lib.hid (K15.out.below ka)
  replace J1 := Lib.hid (J1.out.below ka)
  replace J3 := Lib.hid (J3.out.below ka)
  replace J7 := Lib.hid (J7.out.below ka)
  replace J11 := Lib.hid (J11.out.below ka)
  replace J15 := Lib.hid (J15.out.below ka)
  replace HB := Lib.hid (HB.out.trans (ka.mono HB.out.size))
  have K19 := Lib.hid (Blk.new w19 #[.int .i64 60000, .int .i64 20000, .int .i64 0, .slice A19 3 c19] 27)
  have J19 := Lib.hid (hI.below ka)
  clear hI hb ka
  have x0 := K15.out.cell 0 (v := .int .i64 60000) rfl
  have x1 := K15.out.cell 1 (v := .int .i64 20000) rfl
  have x2 := K15.out.cell 2 (v := .int .i64 30000) rfl
  have x3 := K15.out.cell 3 (v := .slice A15 3 c15) rfl
  have y0 := K1.out.cell 0 (v := .int .i64 60000) rfl
  have y1 := K1.out.cell 1 (v := .int .i64 20000) rfl
  have y3 := K1.out.cell 3 (v := .slice A1 3 c1) rfl
  go_wp2_with fail
  refine (At_lit1 A15 c15 _).mono ?_
  rintro e v1 ⟨rfl, hb⟩
  clear x0 x1 x2 x3 y0 y1 y3
  replace K1 := Lib.hid (K1.out.below hb)
  replace K3 := Lib.hid (K3.out.below hb)
  replace K7 := Lib.hid (K7.out.below hb)
  replace K11 := Lib.hid (K11.out.below hb)
  replace K15 := Lib.hid (K15.out.below hb)
  replace K19 := Lib.hid (K19.out.below hb)
  replace J1 := Lib.hid (J1.out.below hb)
  replace J3 := Lib.hid (J3.out.below hb)
  replace J7 := Lib.hid (J7.out.below hb)
  replace J11 := Lib.hid (J11.out.below hb)
  replace J15 := Lib.hid (J15.out.below hb)
  replace J19 := Lib.hid (J19.out.below hb)
  replace HB := Lib.hid (HB.out.trans (hb.mono HB.out.size))
  clear hb
  have x0 := K15.out.cell 0 (v := .int .i64 60000) rfl
  have x1 := K15.out.cell 1 (v := .int .i64 20000) rfl
  have x2 := K15.out.cell 2 (v := .int .i64 30000) rfl
  have x3 := K15.out.cell 3 (v := .slice A15 3 c15) rfl
  go_wp2_with fail
  refine (People_lit1 A15 c15 _ J15.out).mono ?_
  rintro e v2 ⟨rfl, hb⟩
  clear x0 x1 x2 x3
  replace K1 := Lib.hid (K1.out.below hb)
  replace K3 := Lib.hid (K3.out.below hb)
  replace K7 := Lib.hid (K7.out.below hb)
  replace K11 := Lib.hid (K11.out.below hb)
  replace K15 := Lib.hid (K15.out.below hb)
  replace K19 := Lib.hid (K19.out.below hb)
  replace J1 := Lib.hid (J1.out.below hb)
  replace J3 := Lib.hid (J3.out.below hb)
  replace J7 := Lib.hid (J7.out.below hb)
  replace J11 := Lib.hid (J11.out.below hb)
  replace J15 := Lib.hid (J15.out.below hb)
  replace J19 := Lib.hid (J19.out.below hb)
  replace HB := Lib.hid (HB.out.trans (hb.mono HB.out.size))
  clear hb
  have x0 := K1.out.cell 0 (v := .int .i64 60000) rfl
  have x1 := K1.out.cell 1 (v := .int .i64 20000) rfl
  have x2 := K1.out.cell 2 (v := .int .i64 0) rfl
  have x3 := K1.out.cell 3 (v := .slice A1 3 c1) rfl
  go_wp2_with fail
  refine (At_lit2 A1 c1 _).mono ?_
  rintro e v3 ⟨rfl, hb⟩
  clear x0 x1 x2 x3
  replace K1 := Lib.hid (K1.out.below hb)
  replace K3 := Lib.hid (K3.out.below hb)
  replace K7 := Lib.hid (K7.out.below hb)
  replace K11 := Lib.hid (K11.out.below hb)
  replace K15 := Lib.hid (K15.out.below hb)
  replace K19 := Lib.hid (K19.out.below hb)
  replace J1 := Lib.hid (J1.out.below hb)
  replace J3 := Lib.hid (J3.out.below hb)
  replace J7 := Lib.hid (J7.out.below hb)
  replace J11 := Lib.hid (J11.out.below hb)
  replace J15 := Lib.hid (J15.out.below hb)
  replace J19 := Lib.hid (J19.out.below hb)
  replace HB := Lib.hid (HB.out.trans (hb.mono HB.out.size))
  clear hb
  have x0 := K19.out.cell 0 (v := .int .i64 60000) rfl
  have x1 := K19.out.cell 1 (v := .int .i64 20000) rfl
  have x2 := K19.out.cell 2 (v := .int .i64 0) rfl
  have x3 := K19.out.cell 3 (v := .slice A19 3 c19) rfl
  go_wp2_with fail
  refine (People_lit2 A19 c19 _ J19.out).mono ?_
  rintro e v4 ⟨rfl, hb⟩
  clear x0 x1 x2 x3
  replace K1 := Lib.hid (K1.out.below hb)
  replace K3 := Lib.hid (K3.out.below hb)
  replace K7 := Lib.hid (K7.out.below hb)
  replace K11 := Lib.hid (K11.out.below hb)
  replace K15 := Lib.hid (K15.out.below hb)
  replace K19 := Lib.hid (K19.out.below hb)
  replace J1 := Lib.hid (J1.out.below hb)
  replace J3 := Lib.hid (J3.out.below hb)
  replace J7 := Lib.hid (J7.out.below hb)
  replace J11 := Lib.hid (J11.out.below hb)
  replace J15 := Lib.hid (J15.out.below hb)
  replace J19 := Lib.hid (J19.out.below hb)
  replace HB := Lib.hid (HB.out.trans (hb.mono HB.out.size))
  clear hb
  have x0 := K19.out.cell 0 (v := .int .i64 60000) rfl
  have x1 := K19.out.cell 1 (v := .int .i64 20000) rfl
  have x2 := K19.out.cell 2 (v := .int .i64 0) rfl
  have x3 := K19.out.cell 3 (v := .slice A19 3 c19) rfl
  go_wp2_with fail
  refine (Between_lit1 A19 c19 _ J19.out).mono ?_
  rintro e v5 ⟨rfl, hb⟩
  clear x0 x1 x2 x3
  replace K1 := Lib.hid (K1.out.below hb)
  replace K3 := Lib.hid (K3.out.below hb)
  replace K7 := Lib.hid (K7.out.below hb)
  replace K11 := Lib.hid (K11.out.below hb)
  replace K15 := Lib.hid (K15.out.below hb)
  replace K19 := Lib.hid (K19.out.below hb)
  replace J1 := Lib.hid (J1.out.below hb)
  replace J3 := Lib.hid (J3.out.below hb)
  replace J7 := Lib.hid (J7.out.below hb)
  replace J11 := Lib.hid (J11.out.below hb)
  replace J15 := Lib.hid (J15.out.below hb)
  replace J19 := Lib.hid (J19.out.below hb)
  replace HB := Lib.hid (HB.out.trans (hb.mono HB.out.size))
  clear hb
  have x0 := K19.out.cell 0 (v := .int .i64 60000) rfl
  have x1 := K19.out.cell 1 (v := .int .i64 20000) rfl
  have x2 := K19.out.cell 2 (v := .int .i64 0) rfl
  have x3 := K19.out.cell 3 (v := .slice A19 3 c19) rfl
  go_wp2_with fail
  refine (Between_lit2 A19 c19 _ J19.out).mono ?_
  rintro e v6 ⟨rfl, hb⟩
  clear x0 x1 x2 x3
  replace K1 := Lib.hid (K1.out.below hb)
  replace K3 := Lib.hid (K3.out.below hb)
  replace K7 := Lib.hid (K7.out.below hb)
  replace K11 := Lib.hid (K11.out.below hb)
  replace K15 := Lib.hid (K15.out.below hb)
  replace K19 := Lib.hid (K19.out.below hb)
  replace J1 := Lib.hid (J1.out.below hb)
  replace J3 := Lib.hid (J3.out.below hb)
  replace J7 := Lib.hid (J7.out.below hb)
  replace J11 := Lib.hid (J11.out.below hb)
  replace J15 := Lib.hid (J15.out.below hb)
  replace J19 := Lib.hid (J19.out.below hb)
  replace HB := Lib.hid (HB.out.trans (hb.mono HB.out.size))
  clear hb
  have x0 := K3.out.cell 0 (v := .int .i64 60000) rfl
  have x1 := K3.out.cell 1 (v := .int .i64 20000) rfl
  have x2 := K3.out.cell 2 (v := .int .i64 0) rfl
  have x3 := K3.out.cell 3 (v := .slice A3 3 c3) rfl
  go_wp2_with fail
  refine (Right_lit1 A3 c3 _ J3.out).mono ?_
  rintro e v7 ⟨rfl, hb⟩
  clear x0 x1 x2 x3
  replace K1 := Lib.hid (K1.out.below hb)
  replace K3 := Lib.hid (K3.out.below hb)
  replace K7 := Lib.hid (K7.out.below hb)
  replace K11 := Lib.hid (K11.out.below hb)
  replace K15 := Lib.hid (K15.out.below hb)
  replace K19 := Lib.hid (K19.out.below hb)
  replace J1 := Lib.hid (J1.out.below hb)
  replace J3 := Lib.hid (J3.out.below hb)
  replace J7 := Lib.hid (J7.out.below hb)
  replace J11 := Lib.hid (J11.out.below hb)
  replace J15 := Lib.hid (J15.out.below hb)
  replace J19 := Lib.hid (J19.out.below hb)
  replace HB := Lib.hid (HB.out.trans (hb.mono HB.out.size))
  clear hb
  have x0 := K3.out.cell 0 (v := .int .i64 60000) rfl
  have x1 := K3.out.cell 1 (v := .int .i64 20000) rfl
  have x2 := K3.out.cell 2 (v := .int .i64 0) rfl
  have x3 := K3.out.cell 3 (v := .slice A3 3 c3) rfl
  go_wp2_with fail
  refine (Right_lit2 A3 c3 _ J3.out).mono ?_
  rintro e v8 ⟨rfl, hb⟩
  clear x0 x1 x2 x3
  replace K1 := Lib.hid (K1.out.below hb)
  replace K3 := Lib.hid (K3.out.below hb)
  replace K7 := Lib.hid (K7.out.below hb)
  replace K11 := Lib.hid (K11.out.below hb)
  replace K15 := Lib.hid (K15.out.below hb)
  replace K19 := Lib.hid (K19.out.below hb)
  replace J1 := Lib.hid (J1.out.below hb)
  replace J3 := Lib.hid (J3.out.below hb)
  replace J7 := Lib.hid (J7.out.below hb)
  replace J11 := Lib.hid (J11.out.below hb)
  replace J15 := Lib.hid (J15.out.below hb)
  replace J19 := Lib.hid (J19.out.below hb)
  replace HB := Lib.hid (HB.out.trans (hb.mono HB.out.size))
  clear hb
  have HBB := HB.out
  clear HB
  go_wp2
  go_ret
  exact ⟨rfl, HBB⟩
end Go.Proofs.Ytdddfajchkmehaa
