/- Contracts: the reference's jobs. -/
import Derived.Test.YtogaepijfbgniaaW7
import Derived.Test.YtogaepijfbgniaaPlain4
namespace Go.Proofs.Ytogaepijfbgniaa
open Go.RowKit Go.Deep
set_option linter.unusedVariables false
theorem blk_ints {W : World} {F : Nat} {b : List Int} {T : TypeId} (h : Blk W F (b.map (Value.int .i64)).toArray T) (k : Nat) (x : Int) : Blk (W.setCell ⟨F, k, none⟩ (.int .i64 x)) F ((b.set k x).map (Value.int .i64)).toArray T := by
  have := h.set k (.int .i64 x)
  rw [set_toArray, ← List.map_set] at this
  exact this
theorem grown_set (w : World) (a : Addr) (u : Value) : w.grownBy (w.setCell a u) (some a.block) :=
  ⟨rfl, rfl, rfl, by simp, fun k _ hk => Below.heap_setCell w a u k (fun e => hk (by rw [e]))⟩
theorem mx_eq (a b : Int) : (if a < b then b else a) = mx a b := rfl
theorem endTo_succ (l : List Sec) (a : List Nat) (k : Nat) : endTo l a (k + 1) = mx (endTo l a k) ((busyTo l a (k + 1)).getD (teamAt a k) 0) := rfl
end Go.Proofs.Ytogaepijfbgniaa
