/- Known nodes and ways. -/
import Derived.Test.YthhjnplegdmidaaPlain6
namespace Go.Proofs.Ythhjnplegdmidaa
theorem wayR_none (rl : List Pipe) : ∀ n : Int, (∀ q ∈ rl, q.to_ ≠ n) → wayR rl n = ([], n) := by
  induction rl with
  | nil => intro n _; rfl
  | cons p r ih =>
    intro n h
    rw [wayR, if_neg (h p (by simp))]
    exact ih n (fun q hq => h q (by simp [hq]))
theorem way_known {l : List Pipe} (hg : Good l) (n : Int) : (wayOf l n).2 = known l n := by
  unfold wayOf
  simp only
  cases hk : known l n with
  | true => simp [good_root hg n hk]
  | false =>
    unfold known at hk
    simp only [Bool.or_eq_false_iff, decide_eq_false_iff_not, List.any_eq_false, decide_eq_true_eq] at hk
    rw [wayR_none l.reverse n (fun q hq => hk.2 q (by simpa using hq))]
    simpa using hk.1
/-- an unknown node has no pressure -/
theorem pressAt_none {l : List Pipe} (ps : List Int) (root : Int) {n : Int} (hn : known l n = false) : pressAt l ps root n = (0, false) := by
  unfold known at hn
  simp only [Bool.or_eq_false_iff, decide_eq_false_iff_not, List.any_eq_false, decide_eq_true_eq] at hn
  unfold pressAt
  rw [if_neg hn.1]
  have : l.findIdx? (fun p => p.to_ == n) = none := by
    rw [List.findIdx?_eq_none_iff]
    intro x hx
    simpa using hn.2 x hx
  rw [this]
/-- the pressure at a node -/
def pressOf (l : List Pipe) (fs : List Int) (root n : Int) : Int × Bool := if known l n then (pR fs root l.reverse n, true) else (0, false)
theorem pressAt_all {l : List Pipe} (hg : Good l) (fs : List Int) (root n : Int) : pressAt l (presRow l fs root l.length) root n = pressOf l fs root n := by
  unfold pressOf
  cases hk : known l n with
  | true =>
    have := pressAt_row hg fs root (Nat.le_refl l.length) (n := n) (by rw [List.take_length]; exact hk)
    rw [List.take_length] at this
    simpa using this
  | false => simpa using pressAt_none _ _ hk
theorem pfold_all (l : List Pipe) (fs : List Int) (root n : Int) : pfold l fs root (wayOf l n).1 = pR fs root l.reverse n := by
  have := pfold_way l fs root l.length (Nat.le_refl _) n
  rw [List.take_length] at this
  exact this
end Go.Proofs.Ythhjnplegdmidaa
