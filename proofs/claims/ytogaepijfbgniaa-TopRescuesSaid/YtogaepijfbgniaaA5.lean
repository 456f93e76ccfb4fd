/- Contracts of package assign: Best. -/
import Derived.Test.YtogaepijfbgniaaA4
import Derived.Test.YtogaepijfbgniaaW6
namespace Go.Proofs.Ytogaepijfbgniaa
open Go.RowKit Go.Shelf Go.Deep
set_option linter.unusedVariables false
def startA (w : World) (A : Option Addr) (n c : Nat) : World := allocs w [.cells #[.slice A n c] 45, .cells #[.slice none 0 0] 36, .cells #[.slice none 0 0] 36, .cells #[.int .i64 0] 3, .cells #[.bool false] 4, .cells #[av w.heap.size] 62]
theorem start_a (w : World) (A : Option Addr) (n c : Nat) : AAt w (startA w A n c) A n c ⟨[], 0, false⟩ where
  below := allocs_below _ _ _ (Below.refl _ _)
  cost := allocs_at _ w 0 (by simp)
  best := ⟨none, 0, 0, allocs_at _ w 1 (by simp)⟩
  p := ⟨_, allocs_at _ w 2 (by simp), OwnI.nil _ _ _⟩
  least := allocs_at _ w 3 (by simp)
  found := allocs_at _ w 4 (by simp)
  try_ := allocs_at _ w 5 (by simp)
set_option maxHeartbeats 4000000 in
set_option maxRecDepth 100000 in
theorem aBest_any (A : Option Addr) (c : Nat) (M : List (List Int)) (hM : OkMat M) (y : AS) (hy : tryM M M.length 0 ⟨[], 0, false⟩ = some y) (w : World) (h : Mat w A M) :
    Calls Try.prog 11 #[.slice A M.length c] w fun e w' => ∃ v, e = .returned (.tuple #[v, .int .i64 y.least, .int .i64 0]) ∧ Below w.heap.size w w' := by
  have hka := below_alloc w (.cells #[.slice A M.length c] 45)
  have q1 := Lib.hid (aRight_any A c M hM (w.alloc (.cells #[.slice A M.length c] 45)) (h.below hka))
  have hA := start_a w A M.length c
  have hq := tryA_any w A c M h hM.1 M.length 0 _ y (by decide) hy _ hA
  have c5 := hA.try_.cell 0 (v := av w.heap.size) rfl
  have Hq := Lib.hid hq
  unfold aargs at Hq
  unfold av at c5
  clear hka hq hA h
  go_enter Try.func11, Try.ntmps11
  go_wp2_with fail
  refine q1.out.mono ?_
  rintro e w1 ⟨rfl, rfl⟩
  clear q1
  go_upto_region 8 with (fail)
  simp only [Nat.add_assoc, Nat.reduceAdd]
  change Code.wp _ _ _ _ (startA w A M.length c)
  generalize startA w A M.length c = W at *
  go_wp2_with fail
  refine Hq.out.mono ?_
  rintro e w3 ⟨rfl, hB⟩
  obtain ⟨Ab, lb, cb, k1⟩ := hB.best
  have d1 := k1.cell 0 (v := .slice Ab lb cb) rfl
  have d2 := hB.least.cell 0 (v := .int .i64 y.least) rfl
  have hbb := hB.below
  clear hB k1 Hq c5
  go_wp2_with fail
  go_quiet (fail)
  go_wp2
  go_ret3
  exact ⟨_, rfl, below_dn hbb _⟩
end Go.Proofs.Ytogaepijfbgniaa
