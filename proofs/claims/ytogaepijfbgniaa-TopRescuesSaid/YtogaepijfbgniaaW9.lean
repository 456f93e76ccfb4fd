/- Contracts: the reference's Plan. -/
import Derived.Test.YtogaepijfbgniaaW8
import Derived.Test.YtogaepijfbgniaaPlain5
namespace Go.Proofs.Ytogaepijfbgniaa
open Go.RowKit Go.Deep
set_option linter.unusedVariables false
theorem w64 (x : Int) (h : -9223372036854775808 ≤ x ∧ x ≤ 9223372036854775807) : wrap64 x = x := by unfold wrap64; omega
theorem lists_ne {T : Nat} (hT : 1 ≤ T) (n : Nat) : listsOf (List.range' 1 T) n ≠ [] := fun h => by
  have := lists_length (T := T) n
  rw [h] at this
  have hp := Nat.pow_pos (n := n) (show 0 < T by omega)
  simp at this
  omega
theorem endOf_ok {l : List Sec} (hs : ∀ x ∈ l, 1 ≤ x.seconds ∧ x.seconds ≤ 86400) (a : List Nat) : 0 ≤ endOf l a ∧ endOf l a ≤ 86400 * l.length := maxL_ok (busyTo_ok (a := a) hs _ (Nat.le_refl _))
/-- what assign tells is the best one -/
theorem assign_best {l : List Sec} (hs : ∀ x ∈ l, 1 ≤ x.seconds ∧ x.seconds ≤ 86400) {T : Nat} (hT : 1 ≤ T) (s0 : Look) (h0 : s0.least < 0) (s : Look) (h : s = pick (endOf l) (listsOf (List.range' 1 T) l.length) s0) : 0 ≤ s.least ∧ s.least = endOf l s.best ∧ s.best.length = l.length ∧ (∀ t ∈ s.best, 1 ≤ t ∧ t ≤ T) ∧ ∀ a, a.length = l.length → (∀ t ∈ a, 1 ≤ t ∧ t ≤ T) → s.least ≤ endOf l a := by
  obtain ⟨b1, b2, b3⟩ := pick_best (endOf l) _ s0 (fun a _ => (endOf_ok hs a).1) h0 (lists_ne hT l.length)
  rw [← h] at b1 b2 b3
  obtain ⟨m1, m2⟩ := (mem_lists _ _ _).1 b1
  refine ⟨by rw [b2]; exact (endOf_ok hs _).1, b2, m1, fun t ht => ?_, fun a ha hta => b3 a ((mem_lists _ _ _).2 ⟨ha, fun t ht => ?_⟩)⟩
  · have := List.mem_range'_1.1 (m2 t ht); omega
  · have := hta t ht
    exact List.mem_range'_1.2 (by omega)
theorem pow_small {T n : Nat} (hT : T ≤ 3) (hn : n ≤ 8) : T ^ n ≤ 6561 := Nat.le_trans (Nat.pow_le_pow_left hT n) (Nat.pow_le_pow_right (by omega) hn)
theorem mul_int (m T : Nat) (hm : m ≤ 6561) (hT : T ≤ 3) : IntKind.i64.wrap ((m : Int) * (T : Int)) = ((m * T : Nat) : Int) := by
  have h : m * T ≤ 6561 * 3 := Nat.mul_le_mul hm hT
  rw [show ((m : Int) * (T : Int)) = ((m * T : Nat) : Int) by push_cast; rfl]
  exact IntWalk.i64_in _ (by omega)
/-- the best jobs so far -/
def jobsAt (l : List Sec) (s : Look) : List Job := if s.least < 0 then [] else jobsTo l s.best l.length
end Go.Proofs.Ytogaepijfbgniaa
