/- Contracts: assign. -/
import Derived.Test.YtogaepijfbgniaaW5
import Derived.Deep.OwnRows
namespace Go.Proofs.Ytogaepijfbgniaa
open Go.RowKit Go.Deep
set_option linter.unusedVariables false
/-- what assign tells -/
def assignOf (l : List Sec) (T : Nat) : Look := tryAll (List.range' 1 T) (l.map Sec.seconds) [] [0, 0, 0, 0] ⟨-1, List.replicate l.length 0⟩
theorem made_nat (n : Nat) : madeCells #[Value.int .i64 0] n = ((List.replicate n 0).map nat).toArray := by
  apply Array.ext
  · simp [size_madeCells]
  · intro i h1 h2
    simp [madeCells, Nat.mod_one, nat]
def allocs (w : World) (os : List Obj) : World := os.foldl World.alloc w
theorem allocs_below (os : List Obj) : ∀ (w0 w : World), Below w0.heap.size w0 w → Below w0.heap.size w0 (allocs w os) := by
  induction os with
  | nil => intro w0 w h; exact h
  | cons o r ih => intro w0 w h; exact ih w0 (w.alloc o) (h.alloc h.size o)
theorem allocs_old (os : List Obj) : ∀ (w : World) (i : Nat), i < w.heap.size → (allocs w os).heap[i]? = w.heap[i]? := by
  induction os with
  | nil => intro w i hi; rfl
  | cons o r ih =>
    intro w i hi
    show (allocs (w.alloc o) r).heap[i]? = _
    rw [ih _ _ (by simp; omega), alloc_heap, if_neg (by omega)]
theorem allocs_at (os : List Obj) : ∀ (w : World) (j : Nat) (hj : j < os.length), (allocs w os).heap[w.heap.size + j]? = some os[j] := by
  induction os with
  | nil => intro w j hj; simp at hj
  | cons o r ih =>
    intro w j hj
    show (allocs (w.alloc o) r).heap[w.heap.size + j]? = _
    cases j with
    | zero =>
      rw [allocs_old _ _ _ (by simp), alloc_heap, if_pos (by omega)]
      rfl
    | succ j =>
      have := ih (w.alloc o) j (by simpa using hj)
      rw [show (w.alloc o).heap.size + j = w.heap.size + (j + 1) by simp; omega] at this
      rw [this]
      rfl
def startW (w : World) (A : Option Addr) (c n T : Nat) : World := allocs w [.cells #[.slice A n c] 22, .cells #[.int .i64 (T : Int)] 3, .cells (madeCells #[Value.int .i64 0] n) 3, .cells #[.slice (some ⟨w.heap.size + 2, 0, none⟩) n n] 36,
  .cells (madeCells #[Value.int .i64 0] n) 3, .cells #[.slice (some ⟨w.heap.size + 4, 0, none⟩) n n] 36, .cells #[.int .i64 (-1)] 3, .cells #[.int .i64 0, .int .i64 0, .int .i64 0, .int .i64 0] 50, .cells #[tv w.heap.size] 62]
theorem start_try (w : World) (A : Option Addr) (c n T : Nat) : TryAt w (startW w A c n T) A c n T (List.replicate n 0) (List.replicate n 0) (-1) [0, 0, 0, 0] where
  below := allocs_below _ _ _ (Below.refl _ _)
  need := allocs_at _ w 0 (by simp)
  team := allocs_at _ w 1 (by simp)
  now := by
    have := allocs_at [.cells #[.slice A n c] 22, .cells #[.int .i64 (T : Int)] 3, .cells (madeCells #[Value.int .i64 0] n) 3, .cells #[.slice (some ⟨w.heap.size + 2, 0, none⟩) n n] 36,
      .cells (madeCells #[Value.int .i64 0] n) 3, .cells #[.slice (some ⟨w.heap.size + 4, 0, none⟩) n n] 36, .cells #[.int .i64 (-1)] 3, .cells #[.int .i64 0, .int .i64 0, .int .i64 0, .int .i64 0] 50, .cells #[tv w.heap.size] 62] w 2 (by simp)
    rw [← made_nat]
    exact this
  nowp := allocs_at _ w 3 (by simp)
  best := by
    have := allocs_at [.cells #[.slice A n c] 22, .cells #[.int .i64 (T : Int)] 3, .cells (madeCells #[Value.int .i64 0] n) 3, .cells #[.slice (some ⟨w.heap.size + 2, 0, none⟩) n n] 36,
      .cells (madeCells #[Value.int .i64 0] n) 3, .cells #[.slice (some ⟨w.heap.size + 4, 0, none⟩) n n] 36, .cells #[.int .i64 (-1)] 3, .cells #[.int .i64 0, .int .i64 0, .int .i64 0, .int .i64 0] 50, .cells #[tv w.heap.size] 62] w 4 (by simp)
    rw [← made_nat]
    exact this
  bestp := allocs_at _ w 5 (by simp)
  least := allocs_at _ w 6 (by simp)
  busy := allocs_at _ w 7 (by simp)
  try_ := allocs_at _ w 8 (by simp)
  nl := by simp
  bl := by simp
  b4 := rfl
theorem TryAt.bestInts {w0 W : World} {A : Option Addr} {c n T : Nat} {now best : List Nat} {least : Int} {busy : List Int} (h : TryAt w0 W A c n T now best least busy) : Ints W (some ⟨w0.heap.size + 4, 0, none⟩) (best.map fun n : Nat => (n : Int)) := fun _ => by
  refine ⟨_, _, rfl, fun i hi => ?_⟩
  rw [Nat.zero_add]
  refine h.best.cell i ?_
  simp at hi
  simp [hi, nat]
set_option maxHeartbeats 2000000 in
theorem assign_any (A : Option Addr) (c : Nat) (l : List Sec) (T : Nat) (hT : 1 ≤ T ∧ T ≤ 3) (hl : l.length ≤ 8) (hs : ∀ x ∈ l, 1 ≤ x.seconds ∧ x.seconds ≤ 86400) (w : World) (hS : Secs w A l) :
    Calls Try.prog 14 #[.slice A l.length c, .int .i64 (T : Int)] w fun e w' => ∃ A' c', e = .returned (.tuple #[.slice A' l.length c', .int .i64 (assignOf l T).least]) ∧ Ints w' A' ((assignOf l T).best.map fun n : Nat => (n : Int)) ∧ (assignOf l T).best.length = l.length ∧ Below w.heap.size w w' := by
  have hmk := fun W => run_make_row' (P := Try.prog) 36 3 (.int .i64 0) 8 Try.underlying36 info3 rfl .i64 .i64 l.length (by omega) (by omega) W
  have q := fun W now best least busy hb h => Lib.hid (try_any w A c l T hT hl hs hS l.length 0 (by omega) W now best least busy hb h)
  go_enter Try.func14, Try.ntmps14
  go_upto_region 7 with (fail)
  have hA := start_try w A c l.length T
  have hq := q _ _ _ _ _ BusyOk.zero hA
  simp only [List.drop_zero, List.take_zero] at hq
  clear q hmk
  have hf : tryAll (List.range' 1 T) (l.map Sec.seconds) [] [0, 0, 0, 0] ⟨-1, List.replicate l.length 0⟩ = assignOf l T := rfl
  rw [hf] at hq
  clear hf
  have c5 : (startW w A c l.length T).cell? ⟨w.heap.size + 8, 0, none⟩ = some (tv w.heap.size) := hA.try_.cell 0 rfl
  simp only [Nat.add_assoc, Nat.reduceAdd]
  change Code.wp _ _ _ _ (startW w A c l.length T)
  clear hA
  generalize startW w A c l.length T = W at *
  unfold args at hq
  unfold tv at c5
  simp only [Int.natCast_zero] at hq
  go_wp2_with fail
  refine hq.out.mono ?_
  rintro e w3 ⟨rfl, nw, hB, _⟩
  have d1 : w3.cell? ⟨w.heap.size + 5, 0, none⟩ = some (.slice (some ⟨w.heap.size + 4, 0, none⟩) l.length l.length) := hB.bestp.cell 0 rfl
  have d2 : w3.cell? ⟨w.heap.size + 6, 0, none⟩ = some (.int .i64 (assignOf l T).least) := hB.least.cell 0 rfl
  have hi := hB.bestInts
  have hbl := hB.bl
  have hbb := hB.below
  clear hB hq c5
  go_wp2_with fail
  go_quiet (fail)
  go_wp2
  go_ret2
  exact ⟨_, _, rfl, hi, hbl, below_dn hbb _⟩
end Go.Proofs.Ytogaepijfbgniaa
