/- Contracts: within, inRange, nineTenths, nine, Valid (both). -/
import Derived.Test.YtgmkfjgkpakhfaaTypes
import Derived.Deep.QuietTactic
import Derived.BigQuiet
namespace Go.Proofs.Ytgmkfjgkpakhfaa
open Go.RowKit
set_option linter.unusedVariables false
theorem within_any (n a b : Int) (w : World) : Calls Try.prog 28 #[.int .i64 n, .int .i64 a, .int .i64 b] w fun e w' => e = .returned (.bool (inW n a b)) ∧ w = w' := by
  by_cases h1 : a ≤ n <;> by_cases h2 : n ≤ b
  all_goals
    go_enter Try.func28, Try.ntmps28
    go_wp2
    go_ret
    exact ⟨by simp [inW, *], rfl⟩
theorem neg_parts (n : Int) (h : I64 n) (hn : n < 0) : ∃ a r : Int, n.tdiv 10 = -a ∧ n.tmod 10 = -r ∧ n = -(10 * a + r) ∧ 0 ≤ r ∧ r ≤ 9 ∧ 0 ≤ a ∧ a ≤ 922337203685477580 := by
  unfold I64 at h
  refine ⟨(-n) / 10, (-n) % 10, ?_, ?_, by omega, by omega, by omega, by omega, by omega⟩
  · have : n = -(-n) := by omega
    conv => lhs; rw [this]
    rw [Int.neg_tdiv, Int.tdiv_eq_ediv_of_nonneg (by omega)]
  · have : n = -(-n) := by omega
    conv => lhs; rw [this]
    rw [Int.neg_tmod, Int.tmod_eq_emod_of_nonneg (by omega)]
theorem nineTenths_any (n : Int) (w : World) (h : I64 n) : Calls Try.prog 30 #[.int .i64 n] w fun e w' => e = .returned (.int .i64 (nineOf n)) ∧ w = w' := by
  have hI := h
  unfold I64 at h
  by_cases h1 : 0 ≤ n
  · have h2 : 0 ≤ n % 10 ∧ n % 10 < 10 := by omega
    have h3 : 0 ≤ n / 10 ∧ n / 10 ≤ 922337203685477580 := by omega
    go_enter Try.func30, Try.ntmps30
    go_wp2
    go_ret
    exact ⟨ret_int (by unfold nineOf; omega), rfl⟩
  · obtain ⟨a, r, ha, hr, hn, r0, r9, a0, a9⟩ := neg_parts n hI (by omega)
    have Hn := Lib.hid hn
    clear hn hI h
    by_cases hr0 : 0 < r
    · go_enter Try.func30, Try.ntmps30
      go_wp2
      go_ret
      have := Hn.out
      exact ⟨ret_int (by unfold nineOf; omega), rfl⟩
    · have hz : r = 0 := by omega
      subst hz
      go_enter Try.func30, Try.ntmps30
      go_wp2
      go_ret
      have := Hn.out
      exact ⟨ret_int (by unfold nineOf; omega), rfl⟩
theorem nine_any (n : Int) (w : World) (h : I64 n) : Calls Try.prog 31 #[.int .i64 n] w fun e w' => e = .returned (.int .i64 (nineOf n)) ∧ w = w' := by
  have hI := h
  unfold I64 at h
  by_cases h1 : 0 ≤ n
  · have h2 : 0 ≤ n % 10 ∧ n % 10 < 10 := by omega
    have h3 : 0 ≤ n / 10 ∧ n / 10 ≤ 922337203685477580 := by omega
    by_cases h4 : 0 < n % 10
    all_goals
      go_enter Try.func31, Try.ntmps31
      go_wp2
      go_ret
      exact ⟨ret_int (by unfold nineOf; omega), rfl⟩
  · obtain ⟨a, r, ha, hr, hn, r0, r9, a0, a9⟩ := neg_parts n hI (by omega)
    have Hn := Lib.hid hn
    clear hn hI h
    have h9 : ((9 * -r : Int)).tdiv 10 = -((9 * r) / 10) := by
      rw [show (9 * -r : Int) = -(9 * r) by omega, Int.neg_tdiv, Int.tdiv_eq_ediv_of_nonneg (by omega)]
    go_enter Try.func31, Try.ntmps31
    go_wp2
    go_ret
    have := Hn.out
    exact ⟨ret_int (by unfold nineOf; omega), rfl⟩
set_option maxHeartbeats 1000000 in
theorem Valid_any (x : Brake) (t : Int) (w : World) (h : x.I) (ht : I64 t) : Calls Try.prog 16 #[x.val, .int .i64 t] w fun e w' => e = .returned (.bool (validB x t)) ∧ Below w.heap.size w w' := by
  have h2 := h.2.2.1
  have h3 := h.2.2.2.1
  have hnine := fun W => Lib.hid (nineTenths_any x.force W h2)
  have hv : validB x t = (decide (0 ≤ x.tested) && decide (x.tested ≤ t) && decide (t - x.tested < 604800) && decide (nineOf x.force ≤ x.measured)) := by
    unfold validB
    by_cases a : 0 ≤ x.tested <;> by_cases b : x.tested ≤ t <;> by_cases c : t - x.tested < 604800 <;> by_cases d : nineOf x.force ≤ x.measured <;> simp [a, b, c, d]
  rw [hv]
  unfold I64 at h3 ht
  unfold Brake.val
  obtain ⟨id, kind, force, tested, measured⟩ := x
  simp only at *
  clear hv h
  generalize nineOf force = q at *
  by_cases c1 : 0 ≤ tested
  · by_cases c2 : tested ≤ t
    · by_cases c3 : t - tested < 604800
      · by_cases c4 : q ≤ measured
        all_goals
          go_enter Try.func16, Try.ntmps16
          go_wp2_with fail
          go_quiet ((go_at_call 30; exact quiet_of_eq (hnine _).out))
          go_wp2
          go_ret
          exact ⟨by simp [c1, c2, c3, c4], below_dn (below_alloc _ _) _⟩
      · have d3 : decide (t - tested < 604800) = false := by simpa using c3
        go_enter Try.func16, Try.ntmps16
        go_wp2_with fail
        go_quiet (fail)
        go_wp2
        go_ret
        exact ⟨by simp; omega, below_dn (below_alloc _ _) _⟩
    · have d2 : decide (tested ≤ t) = false := by simpa using c2
      go_enter Try.func16, Try.ntmps16
      go_wp2_with fail
      go_quiet (fail)
      go_wp2
      go_ret
      exact ⟨by simp; omega, below_dn (below_alloc _ _) _⟩
  · have d1 : decide (0 ≤ tested) = false := by simpa using c1
    go_enter Try.func16, Try.ntmps16
    go_wp2_with fail
    go_quiet (fail)
    go_wp2
    go_ret
    exact ⟨by simp; omega, below_dn (below_alloc _ _) _⟩
set_option maxHeartbeats 1000000 in
theorem refValid_any (x : Brake) (t : Int) (w : World) (h : x.I) (ht : I64 t) : Calls Try.prog 17 #[x.val, .int .i64 t] w fun e w' => e = .returned (.bool (validB x t)) ∧ Below w.heap.size w w' := by
  have h2 := h.2.2.1
  have h3 := h.2.2.2.1
  have hnine := fun W => Lib.hid (nine_any x.force W h2)
  have hv : validB x t = (decide (0 ≤ x.tested) && decide (x.tested ≤ t) && decide (t - x.tested < 604800) && decide (nineOf x.force ≤ x.measured)) := by
    unfold validB
    by_cases a : 0 ≤ x.tested <;> by_cases b : x.tested ≤ t <;> by_cases c : t - x.tested < 604800 <;> by_cases d : nineOf x.force ≤ x.measured <;> simp [a, b, c, d]
  rw [hv]
  unfold I64 at h3 ht
  unfold Brake.val
  obtain ⟨id, kind, force, tested, measured⟩ := x
  simp only at *
  clear hv h
  generalize nineOf force = q at *
  by_cases c1 : 0 ≤ tested
  · by_cases c2 : tested ≤ t
    · by_cases c3 : t - tested < 604800
      · by_cases c4 : q ≤ measured
        all_goals
          go_enter Try.func17, Try.ntmps17
          go_wp2_with fail
          go_quiet ((go_at_call 31; exact quiet_of_eq (hnine _).out))
          go_wp2
          go_ret
          exact ⟨by simp [c1, c2, c3, c4], below_dn (below_alloc _ _) _⟩
      · have d3 : decide (t - tested < 604800) = false := by simpa using c3
        go_enter Try.func17, Try.ntmps17
        go_wp2_with fail
        go_quiet (fail)
        go_wp2
        go_ret
        exact ⟨by simp; omega, below_dn (below_alloc _ _) _⟩
    · have d2 : decide (tested ≤ t) = false := by simpa using c2
      go_enter Try.func17, Try.ntmps17
      go_wp2_with fail
      go_quiet (fail)
      go_wp2
      go_ret
      exact ⟨by simp; omega, below_dn (below_alloc _ _) _⟩
  · have d1 : decide (0 ≤ tested) = false := by simpa using c1
    go_enter Try.func17, Try.ntmps17
    go_wp2_with fail
    go_quiet (fail)
    go_wp2
    go_ret
    exact ⟨by simp; omega, below_dn (below_alloc _ _) _⟩
end Go.Proofs.Ytgmkfjgkpakhfaa
