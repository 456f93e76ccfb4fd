/- Contracts: Update (both). -/
import Derived.Test.YtjnokdpliocmmaaW1
namespace Go.Proofs.Ytjnokdpliocmmaa
open Go.RowKit
set_option linter.unusedVariables false
def Alarm.val (a : Alarm) : Value := .agg #[.int .i64 a.on, .int .i64 a.off, .int .i64 a.hold, .bool a.active, .int .i64 a.low]
def UpdPost (w : World) (q : Alarm × Int) (e : Ending) (w' : World) : Prop := e = .returned (.tuple #[q.1.val, .int .i64 q.2]) ∧ Below w.heap.size w w'
set_option maxHeartbeats 2000000 in
theorem Update_any (a : Alarm) (v t : Int) (w : World) : Calls Try.prog 22 #[a.val, .int .i64 v, .int .i64 t] w (UpdPost w (updOf a v t)) := by
  obtain ⟨on, off, hold, active, low⟩ := a
  by_cases hr : 0 ≤ off ∧ off ≤ on ∧ 0 ≤ hold ∧ hold ≤ 86400 ∧ 0 ≤ v ∧ 0 ≤ t ∧ t ≤ 20000000 ∧ low ≤ t
  · have w1 : inW hold 0 86400 = true := by simp [inW]; omega
    have w2 : inW t 0 20000000 = true := by simp [inW]; omega
    have q1 := fun W => Lib.hid (within_any hold 0 86400 W)
    have q2 := fun W => Lib.hid (within_any t 0 20000000 W)
    rw [w1] at q1
    rw [w2] at q2
    have hu : updOf ⟨on, off, hold, active, low⟩ v t = (if on ≤ v then (⟨on, off, hold, true, -1⟩, 0)
     else if off ≤ v then (⟨on, off, hold, active, -1⟩, 0)
     else if hold ≤ t - (if low < 0 then t else low) then (⟨on, off, hold, false, if low < 0 then t else low⟩, 0)
     else (⟨on, off, hold, active, if low < 0 then t else low⟩, 0)) := by unfold updOf; rw [if_pos hr]
    obtain ⟨r1, r2, r3, r4, r5, r6, r7, r8⟩ := hr
    clear w1 w2
    have Hu := Lib.hid hu
    clear hu
    unfold Alarm.val
    simp only
    by_cases c1 : on ≤ v
    · have H2 := Hu.out
      rw [if_pos c1] at H2
      have H3 := Lib.hid H2
      clear H2 Hu
      go_enter Try.func22, Try.ntmps22
      go_wp2_with fail
      refine (q1 _).out.mono ?_
      rintro e w' ⟨rfl, rfl⟩
      go_wp2_with fail
      refine (q2 _).out.mono ?_
      rintro e w' ⟨rfl, rfl⟩
      clear q1 q2
      go_wp2
      refine bodyPost_ret (v := .tuple #[.agg #[.int .i64 on, .int .i64 off, .int .i64 hold, .bool true, .int .i64 (-1)], .int .i64 0]) ?_ rfl ?_
      · rw [results_cell_tmp rfl]
        go_simp
      · rw [H3.out]
        exact ⟨rfl, ((Below.refl _ _).alloc (Nat.le_refl _) _).alloc (by simp) _⟩
    · have H2 := Hu.out
      rw [if_neg c1] at H2
      by_cases c2 : off ≤ v
      · rw [if_pos c2] at H2
        have H3 := Lib.hid H2
        clear H2 Hu
        go_enter Try.func22, Try.ntmps22
        go_wp2_with fail
        refine (q1 _).out.mono ?_
        rintro e w' ⟨rfl, rfl⟩
        go_wp2_with fail
        refine (q2 _).out.mono ?_
        rintro e w' ⟨rfl, rfl⟩
        clear q1 q2
        go_wp2
        refine bodyPost_ret (v := .tuple #[.agg #[.int .i64 on, .int .i64 off, .int .i64 hold, .bool active, .int .i64 (-1)], .int .i64 0]) ?_ rfl ?_
        · rw [results_cell_tmp rfl]
          go_simp
        · rw [H3.out]
          exact ⟨rfl, ((Below.refl _ _).alloc (Nat.le_refl _) _).alloc (by simp) _⟩
      · rw [if_neg c2] at H2
        by_cases c3 : low < 0
        · rw [if_pos c3] at H2
          by_cases c4 : hold ≤ t - t
          · rw [if_pos c4] at H2
            have c5 : hold ≤ 0 := by omega
            clear c4
            have H3 := Lib.hid H2
            clear H2 Hu
            go_enter Try.func22, Try.ntmps22
            go_wp2_with fail
            refine (q1 _).out.mono ?_
            rintro e w' ⟨rfl, rfl⟩
            go_wp2_with fail
            refine (q2 _).out.mono ?_
            rintro e w' ⟨rfl, rfl⟩
            clear q1 q2
            go_wp2
            refine bodyPost_ret (v := .tuple #[.agg #[.int .i64 on, .int .i64 off, .int .i64 hold, .bool false, .int .i64 t], .int .i64 0]) ?_ rfl ?_
            · rw [results_cell_tmp rfl]
              go_simp
            · rw [H3.out]
              exact ⟨rfl, ((Below.refl _ _).alloc (Nat.le_refl _) _).alloc (by simp) _⟩
          · rw [if_neg c4] at H2
            have c5 : 0 < hold := by omega
            clear c4
            have H3 := Lib.hid H2
            clear H2 Hu
            go_enter Try.func22, Try.ntmps22
            go_wp2_with fail
            refine (q1 _).out.mono ?_
            rintro e w' ⟨rfl, rfl⟩
            go_wp2_with fail
            refine (q2 _).out.mono ?_
            rintro e w' ⟨rfl, rfl⟩
            clear q1 q2
            go_wp2
            refine bodyPost_ret (v := .tuple #[.agg #[.int .i64 on, .int .i64 off, .int .i64 hold, .bool active, .int .i64 t], .int .i64 0]) ?_ rfl ?_
            · rw [results_cell_tmp rfl]
              go_simp
            · rw [H3.out]
              exact ⟨rfl, ((Below.refl _ _).alloc (Nat.le_refl _) _).alloc (by simp) _⟩
        · rw [if_neg c3] at H2
          have w3 : IntKind.i64.wrap (t - low) = t - low := IntWalk.i64_in _ (by omega)
          by_cases c4 : hold ≤ t - low
          · rw [if_pos c4] at H2
            have H3 := Lib.hid H2
            clear H2 Hu
            go_enter Try.func22, Try.ntmps22
            go_wp2_with fail
            refine (q1 _).out.mono ?_
            rintro e w' ⟨rfl, rfl⟩
            go_wp2_with fail
            refine (q2 _).out.mono ?_
            rintro e w' ⟨rfl, rfl⟩
            clear q1 q2
            go_wp2
            refine bodyPost_ret (v := .tuple #[.agg #[.int .i64 on, .int .i64 off, .int .i64 hold, .bool false, .int .i64 low], .int .i64 0]) ?_ rfl ?_
            · rw [results_cell_tmp rfl]
              go_simp
            · rw [H3.out]
              exact ⟨rfl, ((Below.refl _ _).alloc (Nat.le_refl _) _).alloc (by simp) _⟩
          · rw [if_neg c4] at H2
            have H3 := Lib.hid H2
            clear H2 Hu
            go_enter Try.func22, Try.ntmps22
            go_wp2_with fail
            refine (q1 _).out.mono ?_
            rintro e w' ⟨rfl, rfl⟩
            go_wp2_with fail
            refine (q2 _).out.mono ?_
            rintro e w' ⟨rfl, rfl⟩
            clear q1 q2
            go_wp2
            refine bodyPost_ret (v := .tuple #[.agg #[.int .i64 on, .int .i64 off, .int .i64 hold, .bool active, .int .i64 low], .int .i64 0]) ?_ rfl ?_
            · rw [results_cell_tmp rfl]
              go_simp
            · rw [H3.out]
              exact ⟨rfl, ((Below.refl _ _).alloc (Nat.le_refl _) _).alloc (by simp) _⟩
  · have hu : updOf ⟨on, off, hold, active, low⟩ v t = (⟨on, off, hold, active, low⟩, 2) := by unfold updOf; rw [if_neg hr]
    have H3 := Lib.hid hu
    clear hu
    have ho : off < 0 ∨ 0 ≤ off ∧ (on < off ∨ off ≤ on ∧ (inW hold 0 86400 = false ∨ inW hold 0 86400 = true ∧ (v < 0 ∨ 0 ≤ v ∧ (inW t 0 20000000 = false ∨ inW t 0 20000000 = true ∧ t < low)))) := by
      simp only [inW, decide_eq_true_eq, decide_eq_false_iff_not]; omega
    have q1 := fun W => Lib.hid (within_any hold 0 86400 W)
    have q2 := fun W => Lib.hid (within_any t 0 20000000 W)
    clear hr
    unfold Alarm.val
    simp only
    rcases ho with ho | ⟨o1, ho | ⟨o2, ho | ⟨o3, ho | ⟨o4, ho | ⟨o5, ho⟩⟩⟩⟩⟩
    · go_enter Try.func22, Try.ntmps22
      go_wp2
      refine bodyPost_ret (v := .tuple #[.agg #[.int .i64 on, .int .i64 off, .int .i64 hold, .bool active, .int .i64 low], .int .i64 2]) ?_ rfl ?_
      · rw [results_cell_tmp rfl]
        go_simp
      · rw [H3.out]
        exact ⟨rfl, ((Below.refl _ _).alloc (Nat.le_refl _) _).alloc (by simp) _⟩
    · go_enter Try.func22, Try.ntmps22
      go_wp2
      refine bodyPost_ret (v := .tuple #[.agg #[.int .i64 on, .int .i64 off, .int .i64 hold, .bool active, .int .i64 low], .int .i64 2]) ?_ rfl ?_
      · rw [results_cell_tmp rfl]
        go_simp
      · rw [H3.out]
        exact ⟨rfl, ((Below.refl _ _).alloc (Nat.le_refl _) _).alloc (by simp) _⟩
    · rw [ho] at q1
      go_enter Try.func22, Try.ntmps22
      go_wp2_with fail
      refine (q1 _).out.mono ?_
      rintro e w' ⟨rfl, rfl⟩
      go_wp2
      refine bodyPost_ret (v := .tuple #[.agg #[.int .i64 on, .int .i64 off, .int .i64 hold, .bool active, .int .i64 low], .int .i64 2]) ?_ rfl ?_
      · rw [results_cell_tmp rfl]
        go_simp
      · rw [H3.out]
        exact ⟨rfl, ((Below.refl _ _).alloc (Nat.le_refl _) _).alloc (by simp) _⟩
    · rw [o3] at q1
      go_enter Try.func22, Try.ntmps22
      go_wp2_with fail
      refine (q1 _).out.mono ?_
      rintro e w' ⟨rfl, rfl⟩
      go_wp2
      refine bodyPost_ret (v := .tuple #[.agg #[.int .i64 on, .int .i64 off, .int .i64 hold, .bool active, .int .i64 low], .int .i64 2]) ?_ rfl ?_
      · rw [results_cell_tmp rfl]
        go_simp
      · rw [H3.out]
        exact ⟨rfl, ((Below.refl _ _).alloc (Nat.le_refl _) _).alloc (by simp) _⟩
    · rw [o3] at q1
      rw [ho] at q2
      go_enter Try.func22, Try.ntmps22
      go_wp2_with fail
      refine (q1 _).out.mono ?_
      rintro e w' ⟨rfl, rfl⟩
      go_wp2_with fail
      refine (q2 _).out.mono ?_
      rintro e w' ⟨rfl, rfl⟩
      go_wp2
      refine bodyPost_ret (v := .tuple #[.agg #[.int .i64 on, .int .i64 off, .int .i64 hold, .bool active, .int .i64 low], .int .i64 2]) ?_ rfl ?_
      · rw [results_cell_tmp rfl]
        go_simp
      · rw [H3.out]
        exact ⟨rfl, ((Below.refl _ _).alloc (Nat.le_refl _) _).alloc (by simp) _⟩
    · rw [o3] at q1
      rw [o5] at q2
      go_enter Try.func22, Try.ntmps22
      go_wp2_with fail
      refine (q1 _).out.mono ?_
      rintro e w' ⟨rfl, rfl⟩
      go_wp2_with fail
      refine (q2 _).out.mono ?_
      rintro e w' ⟨rfl, rfl⟩
      go_wp2
      refine bodyPost_ret (v := .tuple #[.agg #[.int .i64 on, .int .i64 off, .int .i64 hold, .bool active, .int .i64 low], .int .i64 2]) ?_ rfl ?_
      · rw [results_cell_tmp rfl]
        go_simp
      · rw [H3.out]
        exact ⟨rfl, ((Below.refl _ _).alloc (Nat.le_refl _) _).alloc (by simp) _⟩
set_option maxHeartbeats 2000000 in
theorem refUpdate_any (a : Alarm) (v t : Int) (w : World) : Calls Try.prog 23 #[a.val, .int .i64 v, .int .i64 t] w (UpdPost w (updOf a v t)) := by
  obtain ⟨on, off, hold, active, low⟩ := a
  by_cases hr : 0 ≤ off ∧ off ≤ on ∧ 0 ≤ hold ∧ hold ≤ 86400 ∧ 0 ≤ v ∧ 0 ≤ t ∧ t ≤ 20000000 ∧ low ≤ t
  · have hz := hr
    have hu : updOf ⟨on, off, hold, active, low⟩ v t = (if on ≤ v then (⟨on, off, hold, true, -1⟩, 0)
     else if off ≤ v then (⟨on, off, hold, active, -1⟩, 0)
     else if hold ≤ t - (if low < 0 then t else low) then (⟨on, off, hold, false, if low < 0 then t else low⟩, 0)
     else (⟨on, off, hold, active, if low < 0 then t else low⟩, 0)) := by unfold updOf; rw [if_pos hr]
    obtain ⟨r1, r2, r3, r4, r5, r6, r7, r8⟩ := hr
    clear hz
    have Hu := Lib.hid hu
    clear hu
    unfold Alarm.val
    simp only
    by_cases c1 : on ≤ v
    · have H2 := Hu.out
      rw [if_pos c1] at H2
      have H3 := Lib.hid H2
      clear H2 Hu
      go_enter Try.func23, Try.ntmps23
      go_wp2
      refine bodyPost_ret (v := .tuple #[.agg #[.int .i64 on, .int .i64 off, .int .i64 hold, .bool true, .int .i64 (-1)], .int .i64 0]) ?_ rfl ?_
      · rw [results_cell_tmp rfl]
        go_simp
      · rw [H3.out]
        exact ⟨rfl, ((Below.refl _ _).alloc (Nat.le_refl _) _).alloc (by simp) _⟩
    · have H2 := Hu.out
      rw [if_neg c1] at H2
      by_cases c2 : off ≤ v
      · rw [if_pos c2] at H2
        have H3 := Lib.hid H2
        clear H2 Hu
        go_enter Try.func23, Try.ntmps23
        go_wp2
        refine bodyPost_ret (v := .tuple #[.agg #[.int .i64 on, .int .i64 off, .int .i64 hold, .bool active, .int .i64 (-1)], .int .i64 0]) ?_ rfl ?_
        · rw [results_cell_tmp rfl]
          go_simp
        · rw [H3.out]
          exact ⟨rfl, ((Below.refl _ _).alloc (Nat.le_refl _) _).alloc (by simp) _⟩
      · rw [if_neg c2] at H2
        by_cases c3 : low < 0
        · rw [if_pos c3] at H2
          by_cases c4 : hold ≤ t - t
          · rw [if_pos c4] at H2
            have c5 : hold ≤ 0 := by omega
            clear c4
            have H3 := Lib.hid H2
            clear H2 Hu
            go_enter Try.func23, Try.ntmps23
            go_wp2
            refine bodyPost_ret (v := .tuple #[.agg #[.int .i64 on, .int .i64 off, .int .i64 hold, .bool false, .int .i64 t], .int .i64 0]) ?_ rfl ?_
            · rw [results_cell_tmp rfl]
              go_simp
            · rw [H3.out]
              exact ⟨rfl, ((Below.refl _ _).alloc (Nat.le_refl _) _).alloc (by simp) _⟩
          · rw [if_neg c4] at H2
            have c5 : 0 < hold := by omega
            clear c4
            have H3 := Lib.hid H2
            clear H2 Hu
            go_enter Try.func23, Try.ntmps23
            go_wp2
            refine bodyPost_ret (v := .tuple #[.agg #[.int .i64 on, .int .i64 off, .int .i64 hold, .bool active, .int .i64 t], .int .i64 0]) ?_ rfl ?_
            · rw [results_cell_tmp rfl]
              go_simp
            · rw [H3.out]
              exact ⟨rfl, ((Below.refl _ _).alloc (Nat.le_refl _) _).alloc (by simp) _⟩
        · rw [if_neg c3] at H2
          have w3 : IntKind.i64.wrap (t - low) = t - low := IntWalk.i64_in _ (by omega)
          by_cases c4 : hold ≤ t - low
          · rw [if_pos c4] at H2
            have H3 := Lib.hid H2
            clear H2 Hu
            go_enter Try.func23, Try.ntmps23
            go_wp2
            refine bodyPost_ret (v := .tuple #[.agg #[.int .i64 on, .int .i64 off, .int .i64 hold, .bool false, .int .i64 low], .int .i64 0]) ?_ rfl ?_
            · rw [results_cell_tmp rfl]
              go_simp
            · rw [H3.out]
              exact ⟨rfl, ((Below.refl _ _).alloc (Nat.le_refl _) _).alloc (by simp) _⟩
          · rw [if_neg c4] at H2
            have H3 := Lib.hid H2
            clear H2 Hu
            go_enter Try.func23, Try.ntmps23
            go_wp2
            refine bodyPost_ret (v := .tuple #[.agg #[.int .i64 on, .int .i64 off, .int .i64 hold, .bool active, .int .i64 low], .int .i64 0]) ?_ rfl ?_
            · rw [results_cell_tmp rfl]
              go_simp
            · rw [H3.out]
              exact ⟨rfl, ((Below.refl _ _).alloc (Nat.le_refl _) _).alloc (by simp) _⟩
  · have hu : updOf ⟨on, off, hold, active, low⟩ v t = (⟨on, off, hold, active, low⟩, 2) := by unfold updOf; rw [if_neg hr]
    have H3 := Lib.hid hu
    clear hu
    have ho : off < 0 ∨ 0 ≤ off ∧ (on < off ∨ off ≤ on ∧ (hold < 0 ∨ 0 ≤ hold ∧ (86400 < hold ∨ hold ≤ 86400 ∧ (v < 0 ∨ 0 ≤ v ∧ (t < 0 ∨ 0 ≤ t ∧ (20000000 < t ∨ t ≤ 20000000 ∧ t < low)))))) := by omega
    clear hr
    unfold Alarm.val
    simp only
    rcases ho with ho | ⟨o1, ho | ⟨o2, ho | ⟨o3, ho | ⟨o4, ho | ⟨o5, ho | ⟨o6, ho | ⟨o7, ho⟩⟩⟩⟩⟩⟩⟩
    all_goals
      go_enter Try.func23, Try.ntmps23
      go_wp2
      refine bodyPost_ret (v := .tuple #[.agg #[.int .i64 on, .int .i64 off, .int .i64 hold, .bool active, .int .i64 low], .int .i64 2]) ?_ rfl ?_
      · rw [results_cell_tmp rfl]
        go_simp
      · rw [H3.out]
        exact ⟨rfl, ((Below.refl _ _).alloc (Nat.le_refl _) _).alloc (by simp) _⟩
end Go.Proofs.Ytjnokdpliocmmaa
