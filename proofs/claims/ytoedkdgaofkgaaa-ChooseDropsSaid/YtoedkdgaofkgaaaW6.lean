/- Contract: slices.Clone of ints. -/
import Derived.Test.YtoedkdgaofkgaaaW5
namespace Go.Proofs.Ytoedkdgaofkgaaa
open Go.RowKit
set_option linter.unusedVariables false
def CloneN (w : World) (l : List Int) (e : Ending) (w' : World) : Prop := ∃ v, e = .returned v ∧ OwnI w' w.heap.size 3 v l ∧ Below w.heap.size w w'
theorem Clone_any (A : Option Addr) (c : Nat) (l : List Int) (w : World) (hn : l.length < 1000000000000) (h : Ints w A l) : Calls Try.prog 26 #[.slice A l.length c] w (CloneN w l) := by
  rcases A with _ | ad
  · have hl : l = [] := by
      cases l with
      | nil => rfl
      | cons y r => obtain ⟨b, off, h, _⟩ := h (by simp); cases h
    subst hl
    go_enter Try.func26, Try.ntmps26
    have q1 := fun (w : World) => Lib.run_eql_slice_nil (P := Try.prog) w 27 3 none 0 c 0 0 Try.underlying27
    go_wp2
    go_ret
    exact ⟨_, rfl, OwnI.nil _ _ _, Below.refl _ _⟩
  · go_enter Try.func26, Try.ntmps26
    have q1 := fun (w : World) => Lib.run_eql_slice_nil (P := Try.prog) w 27 3 (some ad) l.length c 0 0 Try.underlying27
    go_wp2_with (at_builtin; refine wpList_cat w _ rfl (.tmp 5) (.tmp 6) _ rfl w.heap.size 3 Try.underlying27 info3 _ [] rfl (OwnI.made w w.heap.size 3 (Nat.le_refl _)) _ _ l rfl (h.below ((Below.refl _ _).alloc (Nat.le_refl _) _)) ((Below.refl _ _).alloc (Nat.le_refl _) _) (by simpa using hn) (by simp) ?_; intro v1 w1 hown1 hbw hg1 hat1)
    go_ret
    exact ⟨_, rfl, by simpa using hown1, hbw⟩
end Go.Proofs.Ytoedkdgaofkgaaa
