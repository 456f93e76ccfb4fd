/- Contracts: within, inRange, counts, the reference's within, Wet (both). -/
import Derived.Test.YtjnokdpliocmmaaTypes
import Derived.Deep.QuietTactic
import Derived.BigQuiet
namespace Go.Proofs.Ytjnokdpliocmmaa
open Go.RowKit
set_option linter.unusedVariables false
theorem within_any (n a b : Int) (w : World) : Calls Try.prog 32 #[.int .i64 n, .int .i64 a, .int .i64 b] w fun e w' => e = .returned (.bool (inW n a b)) ∧ w = w' := by
  by_cases h1 : a ≤ n <;> by_cases h2 : n ≤ b
  all_goals
    go_enter Try.func32, Try.ntmps32
    go_wp2
    go_ret
    exact ⟨by simp [inW, *], rfl⟩
theorem inR_eq (s a g t h n : Int) : inR ⟨s, a, g, t, h, n⟩ = (inW s 1 9999 && inW a 0 20000000 && inW g 0 100000 && inW t (-600) 600 && inW h 0 1000 && inW n 0 2000) := by
  rw [Bool.eq_iff_iff]
  simp [inR, inW]
  omega
set_option maxHeartbeats 1000000 in
theorem inRange_any (x : Obs) (w : World) : Calls Try.prog 28 #[x.val] w fun e w' => e = .returned (.bool (inR x)) ∧ Below w.heap.size w w' := by
  obtain ⟨s, a, g, t, h, n⟩ := x
  rw [inR_eq]
  unfold Obs.val
  simp only
  go_enter Try.func28, Try.ntmps28
  go_wp2_with (go_at_call 32; refine (within_any _ _ _ _).mono ?_; rintro e w' ⟨rfl, rfl⟩)
  all_goals
    go_ret
    exact ⟨by first | (simp_all; done) | (simp_all; rfl), below_alloc _ _⟩
set_option maxHeartbeats 1000000 in
theorem counts_any (x : Obs) (s : Int) (p : Itv) (w : World) : Calls Try.prog 30 #[x.val, .int .i64 s, p.val] w fun e w' => e = .returned (.bool (countsOf x s p)) ∧ Below w.heap.size w w' := by
  obtain ⟨st, a, g, t, h, n⟩ := x
  obtain ⟨f, o⟩ := p
  have ho : st ≠ s ∨ st = s ∧ (a < f ∨ f ≤ a ∧ (o ≤ a ∨ a < o)) := by omega
  unfold Obs.val Itv.val countsOf
  simp only
  rcases ho with ho | ⟨ho, h1 | ⟨h1, h2 | h2⟩⟩
  · have hq : (st == s) = false := by simp [ho]
    have ho := Lib.hid ho
    go_enter Try.func30, Try.ntmps30
    go_wp2
    go_ret
    exact ⟨by simp [ho.out], (below_alloc _ _).trans ((below_alloc _ _).mono (by simp))⟩
  all_goals
    have hq : (st == s) = true := by simp [ho]
    have ho := Lib.hid ho
    go_enter Try.func30, Try.ntmps30
    go_wp2
    go_ret
    refine ⟨?_, (below_alloc _ _).trans ((below_alloc _ _).mono (by simp))⟩
    first
      | (rw [decide_eq_false (by omega)]; done)
      | (rw [decide_eq_true (by have := ho.out; omega)]; done)
      | (simp [ho.out]; omega)
      | simp [ho.out, *]
set_option maxHeartbeats 1000000 in
theorem refWithin_any (x : Obs) (s : Int) (p : Itv) (w : World) : Calls Try.prog 31 #[x.val, .int .i64 s, p.val] w fun e w' => e = .returned (.bool (countsOf x s p)) ∧ Below w.heap.size w w' := by
  obtain ⟨st, a, g, t, h, n⟩ := x
  obtain ⟨f, o⟩ := p
  have ho : st ≠ s ∨ st = s ∧ (a < f ∨ f ≤ a ∧ (o ≤ a ∨ a < o)) := by omega
  unfold Obs.val Itv.val countsOf
  simp only
  rcases ho with ho | ⟨ho, h1 | ⟨h1, h2 | h2⟩⟩
  · have hq : (st == s) = false := by simp [ho]
    have ho := Lib.hid ho
    go_enter Try.func31, Try.ntmps31
    go_wp2
    go_ret
    exact ⟨by simp [ho.out], (below_alloc _ _).trans ((below_alloc _ _).mono (by simp))⟩
  all_goals
    have hq : (st == s) = true := by simp [ho]
    have ho := Lib.hid ho
    go_enter Try.func31, Try.ntmps31
    go_wp2
    go_ret
    refine ⟨?_, (below_alloc _ _).trans ((below_alloc _ _).mono (by simp))⟩
    first
      | (rw [decide_eq_false (by omega)]; done)
      | (rw [decide_eq_true (by have := ho.out; omega)]; done)
      | (simp [ho.out]; omega)
      | simp [ho.out, *]
theorem wet_bd {m k : Int} (h0 : 0 ≤ m) (h1 : m ≤ 900) (h2 : 0 ≤ k) (h3 : k ≤ 1000) : 0 ≤ k * m ∧ k * m ≤ 900000 := by
  refine ⟨Int.mul_nonneg h2 h0, ?_⟩
  have := Int.mul_le_mul h3 h1 h0 (by omega)
  omega
def WetPost (w : World) (q : Int × Int) (e : Ending) (w' : World) : Prop := e = .returned (.tuple #[.int .i64 q.1, .int .i64 q.2]) ∧ w = w'
theorem w64 (x : Int) (h : -9223372036854775808 ≤ x ∧ x ≤ 9223372036854775807) : wrap64 x = x := by unfold wrap64; omega
theorem wet_val {temp hum : Int} (hr : -600 ≤ temp ∧ temp ≤ 600 ∧ 0 ≤ hum ∧ hum ≤ 1000) (h : 0 < temp + 300) : wrap64 (temp - wrap64 ((wrap64 ((1000 - hum) * (temp + 300))).tdiv 6000)) = (wetOf temp hum).1 ∧ (wetOf temp hum).2 = 0 := by
  obtain ⟨hp0, hp1⟩ := wet_bd (m := temp + 300) (by omega) (by omega) (k := 1000 - hum) (by omega) (by omega)
  unfold wetOf
  rw [if_pos hr, show max 0 (temp + 300) = temp + 300 by omega]
  generalize (1000 - hum) * (temp + 300) = p at *
  rw [w64 p (by omega), Int.tdiv_eq_ediv_of_nonneg hp0, w64 (p / 6000) (by omega), w64 _ (by omega)]
  exact ⟨rfl, rfl⟩
theorem wet_val0 {temp hum : Int} (hr : -600 ≤ temp ∧ temp ≤ 600 ∧ 0 ≤ hum ∧ hum ≤ 1000) (h : temp + 300 ≤ 0) : temp = (wetOf temp hum).1 ∧ (wetOf temp hum).2 = 0 := by
  unfold wetOf
  rw [if_pos hr, show max 0 (temp + 300) = 0 by omega]
  simp
set_option maxHeartbeats 1000000 in
theorem Wet_any (temp hum : Int) (w : World) : Calls Try.prog 20 #[.int .i64 temp, .int .i64 hum] w (WetPost w (wetOf temp hum)) := by
  by_cases hr : -600 ≤ temp ∧ temp ≤ 600 ∧ 0 ≤ hum ∧ hum ≤ 1000
  · have w1 : inW temp (-600) 600 = true := by simp [inW]; omega
    have w2 : inW hum 0 1000 = true := by simp [inW]; omega
    have q1 := fun W => Lib.hid (within_any temp (-600) 600 W)
    have q2 := fun W => Lib.hid (within_any hum 0 1000 W)
    rw [w1] at q1
    rw [w2] at q2
    have hwv := @wet_val temp hum hr
    have hwv0 := @wet_val0 temp hum hr
    have Hwv := Lib.hid hwv
    have Hwv0 := Lib.hid hwv0
    obtain ⟨r1, r2, r3, r4⟩ := hr
    clear w1 w2 hwv hwv0
    go_enter Try.func20, Try.ntmps20
    go_wp2_with fail
    refine (q1 _).out.mono ?_
    rintro e w' ⟨rfl, rfl⟩
    go_wp2_with fail
    refine (q2 _).out.mono ?_
    rintro e w' ⟨rfl, rfl⟩
    clear q1 q2
    by_cases hm : 0 < temp + 300
    · have hv := Lib.hid (Hwv.out hm)
      clear Hwv Hwv0
      go_wp2
      go_ret2
      refine ⟨?_, rfl⟩
      rw [← hv.out.1, hv.out.2]
      rfl
    · have hv := Lib.hid (Hwv0.out (by omega))
      clear Hwv Hwv0
      go_wp2
      go_ret2
      refine ⟨?_, rfl⟩
      rw [← hv.out.1, hv.out.2]
      rfl
  · have hw : wetOf temp hum = (0, 2) := by unfold wetOf; rw [if_neg hr]
    rw [hw]
    have ho : inW temp (-600) 600 = false ∨ inW temp (-600) 600 = true ∧ inW hum 0 1000 = false := by
      simp only [inW, decide_eq_true_eq, decide_eq_false_iff_not]; omega
    have q1 := fun W => Lib.hid (within_any temp (-600) 600 W)
    have q2 := fun W => Lib.hid (within_any hum 0 1000 W)
    clear hw hr
    go_enter Try.func20, Try.ntmps20
    go_wp2_with fail
    refine (q1 _).out.mono ?_
    rintro e w' ⟨rfl, rfl⟩
    rcases ho with ho | ⟨ho, ho2⟩
    · rw [ho]
      go_wp2
      go_ret2
      exact ⟨rfl, rfl⟩
    · rw [ho]
      go_wp2_with fail
      refine (q2 _).out.mono ?_
      rintro e w' ⟨rfl, rfl⟩
      rw [ho2]
      go_wp2
      go_ret2
      exact ⟨rfl, rfl⟩
set_option maxHeartbeats 1000000 in
theorem refWet_any (temp hum : Int) (w : World) : Calls Try.prog 21 #[.int .i64 temp, .int .i64 hum] w (WetPost w (wetOf temp hum)) := by
  by_cases hr : -600 ≤ temp ∧ temp ≤ 600 ∧ 0 ≤ hum ∧ hum ≤ 1000
  · have hwv := @wet_val temp hum hr
    have hwv0 := @wet_val0 temp hum hr
    have Hwv := Lib.hid hwv
    have Hwv0 := Lib.hid hwv0
    obtain ⟨r1, r2, r3, r4⟩ := hr
    clear hwv hwv0
    have ho : 0 < temp + 300 ∨ temp + 300 = 0 ∨ temp + 300 < 0 := by omega
    rcases ho with hm | hm | hm
    · have hv := Lib.hid (Hwv.out hm)
      clear Hwv Hwv0
      go_enter Try.func21, Try.ntmps21
      go_wp2
      go_ret2
      refine ⟨?_, rfl⟩
      rw [← hv.out.1, hv.out.2]
      rfl
    · have ht : temp = -300 := by omega
      subst ht
      have hv := Lib.hid (Hwv0.out (by omega))
      clear Hwv Hwv0
      go_enter Try.func21, Try.ntmps21
      go_wp2
      go_ret2
      refine ⟨?_, rfl⟩
      rw [← hv.out.1, hv.out.2]
      rfl
    · have hv := Lib.hid (Hwv0.out (by omega))
      clear Hwv Hwv0
      go_enter Try.func21, Try.ntmps21
      go_wp2
      go_ret2
      refine ⟨?_, rfl⟩
      rw [← hv.out.1, hv.out.2]
      rfl
  · have hw : wetOf temp hum = (0, 2) := by unfold wetOf; rw [if_neg hr]
    rw [hw]
    have ho : temp < -600 ∨ -600 ≤ temp ∧ (600 < temp ∨ temp ≤ 600 ∧ (hum < 0 ∨ 0 ≤ hum ∧ 1000 < hum)) := by omega
    clear hw hr
    rcases ho with ho | ⟨o1, ho | ⟨o2, ho | ⟨o3, ho⟩⟩⟩
    all_goals
      go_enter Try.func21, Try.ntmps21
      go_wp2
      go_ret2
      exact ⟨rfl, rfl⟩
end Go.Proofs.Ytjnokdpliocmmaa
