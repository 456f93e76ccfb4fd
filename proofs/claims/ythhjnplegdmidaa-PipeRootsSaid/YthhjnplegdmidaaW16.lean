/- The examples of the chapter hold. -/
import Derived.Test.YthhjnplegdmidaaW15
namespace Go.Proofs.Ythhjnplegdmidaa
open Go.RowKit
set_option linter.unusedVariables false
set_option linter.unusedSimpArgs false
def threeL : List Pipe := [⟨1, 0, 10, 500, 100⟩, ⟨2, 10, 20, 1000, 200⟩, ⟨3, 10, 30, 0, -50⟩]
def twoL : List Draw := [⟨20, 300⟩, ⟨30, 101⟩]
def needL : List Draw := [⟨20, 4201⟩, ⟨30, 4750⟩, ⟨40, 1⟩]
theorem three_any (w : World) : Calls Try.prog 24 #[] w fun e w' => ∃ A, e = .returned (.slice A 3 3) ∧ Pipes w' A threeL ∧ Below w.heap.size w w' := by
  go_enter Try.func24, Try.ntmps24
  go_wp2
  go_ret
  refine ⟨_, rfl, fun _ => ⟨_, _, rfl, fun i hi => ?_⟩, below_alloc _ _⟩
  match i, hi with
  | 0, _ => simp only [threeL, List.getElem_cons_zero]; refine ⟨?_, ?_, ?_, ?_, ?_⟩ <;> go_simp
  | 1, _ => simp only [threeL, List.getElem_cons_succ, List.getElem_cons_zero]; refine ⟨?_, ?_, ?_, ?_, ?_⟩ <;> go_simp
  | 2, _ => simp only [threeL, List.getElem_cons_succ, List.getElem_cons_zero]; refine ⟨?_, ?_, ?_, ?_, ?_⟩ <;> go_simp
theorem two_any (w : World) : Calls Try.prog 25 #[] w fun e w' => ∃ A, e = .returned (.slice A 2 2) ∧ Draws w' A twoL ∧ Below w.heap.size w w' := by
  go_enter Try.func25, Try.ntmps25
  go_wp2
  go_ret
  refine ⟨_, rfl, fun _ => ⟨_, _, rfl, fun i hi => ?_⟩, below_alloc _ _⟩
  match i, hi with
  | 0, _ => simp only [twoL, List.getElem_cons_zero]; refine ⟨?_, ?_⟩ <;> go_simp
  | 1, _ => simp only [twoL, List.getElem_cons_succ, List.getElem_cons_zero]; refine ⟨?_, ?_⟩ <;> go_simp
theorem three_right : rightOf threeL = 0 := by decide +kernel
theorem three_good : Good threeL := (good_right three_right).1
theorem two_pos : posD twoL := by
  intro x hx
  simp only [twoL, List.mem_cons, List.not_mem_nil, or_false] at hx
  rcases hx with rfl | rfl <;> decide
theorem two_tot : tot twoL ≤ 1000000000000 := by decide
theorem flows_lit : flowsOf threeL twoL = [401, 300, 101] := by decide +kernel
theorem press_lit (A C : Option Addr) (n x : Int) (ok : Bool) (h : pressOf threeL (flowsOf threeL twoL) 5000 n = (x, ok)) (w : World) (hp : Pipes w A threeL) (hd : Draws w C twoL) :
    Calls Try.prog 17 #[.slice A 3 3, .slice C 2 2, .int .i64 5000, .int .i64 n] w fun e w' => e = .returned (.tuple #[.int .i64 x, .bool ok]) ∧ Below w.heap.size w w' := by
  have := Pressure_any A C 3 2 threeL twoL 5000 n w (by decide) (by decide) three_good hp hd two_pos two_tot (by omega)
  rw [h] at this; exact this
theorem path_lit (A : Option Addr) (w : World) (hp : Pipes w A threeL) : Calls Try.prog 19 #[.slice A 3 3, .int .i64 20] w (PathPost w [1, 2] true) := by
  have := Path_any A 3 threeL 20 w (by decide) (by decide) three_good hp
  rw [show pathOf threeL 20 = [1, 2] by decide +kernel, show known threeL 20 = true by decide +kernel] at this; exact this
theorem right_lit (A : Option Addr) (w : World) (hp : Pipes w A threeL) : Calls Try.prog 11 #[.slice A 3 3] w fun e w' => e = .returned (.int .i64 0) ∧ Below w.heap.size w w' := by
  have := Right_any A 3 threeL w (by decide) (by decide) hp
  rw [three_right] at this; exact this
theorem Flows_lit (A C : Option Addr) (w : World) (hp : Pipes w A threeL) (hd : Draws w C twoL) : Calls Try.prog 15 #[.slice A 3 3, .slice C 2 2] w fun e w' => ∃ A' c', e = .returned (.slice A' 3 c') ∧ Ints w' A' [401, 300, 101] ∧ Below w.heap.size w w' := by
  have := Flows_any A C 3 2 threeL twoL w (by decide) (by decide) three_good hp hd two_pos two_tot
  rw [flows_lit] at this; exact this
theorem Low_lit (A C E : Option Addr) (w : World) (hp : Pipes w A threeL) (hd : Draws w C twoL) (he : Draws w E needL) : Calls Try.prog 21 #[.slice A 3 3, .slice C 2 2, .int .i64 5000, .slice E 3 3] w (SliceN w [20, 40]) := by
  have := Low_any A C E 3 2 3 threeL twoL needL 5000 w (by decide) (by decide) (by decide) three_good hp hd he two_pos two_tot (by omega)
  rw [show lowOf threeL (flowsOf threeL twoL) 5000 needL = [20, 40] by decide +kernel] at this; exact this
theorem need_lit (w : World) : Draws (w.alloc (.cells #[.int .i64 20, .int .i64 4201, .int .i64 30, .int .i64 4750, .int .i64 40, .int .i64 1] 42)) (some ⟨w.heap.size, 0, none⟩) needL := fun _ => by
  refine ⟨_, _, rfl, fun i hi => ?_⟩
  match i, hi with
  | 0, _ => simp only [needL, List.getElem_cons_zero]; refine ⟨?_, ?_⟩ <;> go_simp
  | 1, _ => simp only [needL, List.getElem_cons_succ, List.getElem_cons_zero]; refine ⟨?_, ?_⟩ <;> go_simp
  | 2, _ => simp only [needL, List.getElem_cons_succ, List.getElem_cons_zero]; refine ⟨?_, ?_⟩ <;> go_simp
set_option maxRecDepth 100000 in
set_option maxHeartbeats 8000000 in
theorem alive_any (w : World) : Calls Try.prog 10 #[] w fun e w' => e = .returned (.bool true) ∧ Below w.heap.size w w' := by
  go_enter Try.func10, Try.ntmps10
  go_wp2_with fail
  refine (three_any _).mono ?_
  rintro e w1 ⟨A, rfl, hP, hB⟩
  go_wp2_with fail
  refine (two_any _).mono ?_
  rintro e w2 ⟨C, rfl, hD, hb⟩
  replace hP := hP.below hb
  replace hB := hB.trans (hb.mono hB.size)
  clear hb
  go_wp2_with fail
  refine (press_lit A C 10 4700 true (by decide +kernel) _ hP hD).mono ?_
  rintro e w3 ⟨rfl, hb⟩
  replace hP := hP.below hb
  replace hD := hD.below hb
  replace hB := hB.trans (hb.mono hB.size)
  clear hb
  go_wp2_with fail
  refine (press_lit A C 20 4200 true (by decide +kernel) _ hP hD).mono ?_
  rintro e w4 ⟨rfl, hb⟩
  replace hP := hP.below hb
  replace hD := hD.below hb
  replace hB := hB.trans (hb.mono hB.size)
  clear hb
  go_wp2_with fail
  refine (press_lit A C 30 4750 true (by decide +kernel) _ hP hD).mono ?_
  rintro e w5 ⟨rfl, hb⟩
  replace hP := hP.below hb
  replace hD := hD.below hb
  replace hB := hB.trans (hb.mono hB.size)
  clear hb
  go_wp2_with fail
  refine (press_lit A C 0 5000 true (by decide +kernel) _ hP hD).mono ?_
  rintro e w6 ⟨rfl, hb⟩
  replace hP := hP.below hb
  replace hD := hD.below hb
  replace hB := hB.trans (hb.mono hB.size)
  clear hb
  go_wp2_with fail
  refine (press_lit A C 40 0 false (by decide +kernel) _ hP hD).mono ?_
  rintro e w7 ⟨rfl, hb⟩
  replace hP := hP.below hb
  replace hD := hD.below hb
  replace hB := hB.trans (hb.mono hB.size)
  clear hb
  go_wp2_with fail
  refine (path_lit A _ hP).mono ?_
  rintro e w8 ⟨A8, c8, rfl, hI8, hb⟩
  replace hP := hP.below hb
  replace hD := hD.below hb
  replace hB := hB.trans (hb.mono hB.size)
  clear hb
  go_wp2_with fail
  refine (right_lit A _ hP).mono ?_
  rintro e w9 ⟨rfl, hb⟩
  replace hP := hP.below hb
  replace hD := hD.below hb
  replace hI8 := hI8.below hb
  replace hB := hB.trans (hb.mono hB.size)
  clear hb
  go_wp2_with fail
  refine (Flows_lit A C _ hP hD).mono ?_
  rintro e w10 ⟨A10, c10, rfl, hI10, hb⟩
  replace hP := hP.below hb
  replace hD := hD.below hb
  replace hI8 := hI8.below hb
  replace hB := hB.trans (hb.mono hB.size)
  clear hb
  have ka := below_alloc w10 (.cells #[.int .i64 401, .int .i64 300, .int .i64 101] 3)
  have hS := Lib.hid (Same_eq A10 (some ⟨w10.heap.size, 0, none⟩) c10 3 [401, 300, 101] (w10.alloc (.cells #[.int .i64 401, .int .i64 300, .int .i64 101] 3)) (by decide) (hI10.below ka) (Ints.lit w10 3 [401, 300, 101]))
  replace hP := hP.below ka
  replace hD := hD.below ka
  replace hI8 := hI8.below ka
  replace hB := hB.trans (ka.mono hB.size)
  clear ka hI10
  go_wp2_with fail
  refine hS.out.mono ?_
  rintro e w11 ⟨rfl, n11, rfl⟩
  clear hS
  have kb := below_dn (Below.refl (w10.alloc (.cells #[.int .i64 401, .int .i64 300, .int .i64 101] 3)).heap.size (w10.alloc (.cells #[.int .i64 401, .int .i64 300, .int .i64 101] 3))) n11
  replace hP := hP.below kb
  replace hD := hD.below kb
  replace hI8 := hI8.below kb
  replace hB := hB.trans (kb.mono hB.size)
  clear kb
  generalize (w10.alloc (.cells #[.int .i64 401, .int .i64 300, .int .i64 101] 3)).drewN n11 = W11 at *
  have kc := below_alloc W11 (.cells #[.int .i64 20, .int .i64 4201, .int .i64 30, .int .i64 4750, .int .i64 40, .int .i64 1] 42)
  have hL := Lib.hid (Low_lit A C _ _ (hP.below kc) (hD.below kc) (need_lit W11))
  replace hI8 := hI8.below kc
  replace hB := hB.trans (kc.mono hB.size)
  clear kc hP hD
  go_wp2_with fail
  refine hL.out.mono ?_
  rintro e w12 ⟨A12, c12, rfl, hI12, hb⟩
  replace hI8 := hI8.below hb
  replace hB := hB.trans (hb.mono hB.size)
  clear hb hL
  have ka := below_alloc w12 (.cells #[.int .i64 20, .int .i64 40] 3)
  have hS := Lib.hid (Same_eq A12 (some ⟨w12.heap.size, 0, none⟩) c12 2 [20, 40] (w12.alloc (.cells #[.int .i64 20, .int .i64 40] 3)) (by decide) (hI12.below ka) (Ints.lit w12 3 [20, 40]))
  replace hI8 := hI8.below ka
  replace hB := hB.trans (ka.mono hB.size)
  clear ka hI12
  go_wp2_with fail
  refine hS.out.mono ?_
  rintro e w13 ⟨rfl, n13, rfl⟩
  clear hS
  have kb := below_dn (Below.refl (w12.alloc (.cells #[.int .i64 20, .int .i64 40] 3)).heap.size (w12.alloc (.cells #[.int .i64 20, .int .i64 40] 3))) n13
  replace hI8 := hI8.below kb
  replace hB := hB.trans (kb.mono hB.size)
  clear kb
  generalize (w12.alloc (.cells #[.int .i64 20, .int .i64 40] 3)).drewN n13 = W13 at *
  have ka := below_alloc W13 (.cells #[.int .i64 1, .int .i64 2] 3)
  have hS := Lib.hid (Same_eq A8 (some ⟨W13.heap.size, 0, none⟩) c8 2 [1, 2] (W13.alloc (.cells #[.int .i64 1, .int .i64 2] 3)) (by decide) (hI8.below ka) (Ints.lit W13 3 [1, 2]))
  replace hB := hB.trans (ka.mono hB.size)
  clear ka hI8
  go_wp2_with fail
  refine hS.out.mono ?_
  rintro e w14 ⟨rfl, n14, rfl⟩
  clear hS
  go_wp2
  go_ret
  exact ⟨rfl, below_dn hB _⟩
end Go.Proofs.Ythhjnplegdmidaa
