/- Contracts: slices.Max; the memory of 'assign'. -/
import Derived.Test.YtogaepijfbgniaaW3
import Derived.Test.YtogaepijfbgniaaPlain2
import Derived.Laws.CopyOwn
import Derived.Laws.Rows
import Derived.OwnWalk
namespace Go.Proofs.Ytogaepijfbgniaa
open Go.RowKit
set_option linter.unusedVariables false
theorem Max_any (A : Option Addr) (c : Nat) (l : List Int) (w : World) (h0 : 0 < l.length) (hm : l.length ≤ 1000000000000000) (h : Ints w A l) :
    Calls Try.prog 28 #[.slice A l.length c] w fun e w' => e = .returned (.int .i64 (maxL l)) ∧ w' = w := by
  obtain ⟨b, off, rfl, hc⟩ := h h0
  have hc0 := hc 0 h0
  rw [Nat.add_zero] at hc0
  have hd0 : l.headD 0 = l[0] := by cases l with
    | nil => simp at h0
    | cons x r => rfl
  have HS : Hid (∀ k, (hk : k < l.length) → (l.take (k + 1)).foldl mx (l.headD 0) = if (l.take k).foldl mx (l.headD 0) < l[k] then l[k] else (l.take k).foldl mx (l.headD 0)) := Lib.hid (fun k hk => by
    rw [List.take_succ_eq_append_getElem hk, List.foldl_append]
    rfl)
  have H1 : Hid (l[0] = (l.take 1).foldl mx (l.headD 0)) := Lib.hid (by
    rw [show l.take 1 = l.take (0 + 1) from rfl, HS.out 0 h0, hd0]
    simp)
  have HM : Hid ((l.take l.length).foldl mx (l.headD 0) = maxL l) := Lib.hid (by rw [List.take_length]; rfl)
  clear hd0
  generalize l.headD 0 = m0 at *
  generalize l[0] = a0 at *
  generalize maxL l = ml at *
  go_enter Try.func28, Try.ntmps28
  go_wp2
  go_loopw [3, 4] (fun v i wr => ∃ (k : Nat), 1 ≤ k ∧ k ≤ l.length ∧ v = .int .i64 ((l.take k).foldl mx m0) ∧ i = .int .i64 k ∧ wr = w) (fun _ i _ => l.length - (intOf i).toNat)
  case atStart => exact ⟨1, Nat.le_refl _, h0, by rw [H1.out], rfl, rfl⟩
  case round =>
    obtain ⟨k, hk1, hk, rfl, rfl, rfl⟩ := hrel
    by_cases hlt : k < l.length
    · have a3 := hc k hlt
      have Hs := Lib.hid (HS.out k hlt)
      clear HS H1 HM hc hc0
      generalize (l.take k).foldl mx m0 = m at *
      generalize l[k] = x at *
      go_wp2
      go_roundw
      case rel => exact ⟨k + 1, by omega, by omega, by rw [Hs.out], by go_num, trivial⟩
      case measure => simp [intOf]; omega
    · have hke : k = l.length := by omega
      subst hke
      rw [HM.out]
      go_wp2
      go_ret
      exact ⟨rfl, rfl⟩
/-- block B holds just these cells -/
def Blk (W : World) (B : Nat) (cs : Array Value) (t : TypeId) : Prop := W.heap[B]? = some (.cells cs t (0, 0))
section
variable {W W' : World} {B : Nat} {cs : Array Value} {t : TypeId}
theorem Blk.lt (h : Blk W B cs t) : B < W.heap.size := (Array.getElem?_eq_some_iff.1 h).1
theorem Blk.cell (h : Blk W B cs t) (j : Nat) {v : Value} (hv : cs[j]? = some v) : W.cell? ⟨B, j, none⟩ = some v := by
  rw [cell_of_row _ _ _ _ _ _ h]; exact hv
theorem Blk.frozen (h : Blk W B cs t) (j : Nat) : W.frozen? ⟨B, j, none⟩ = false := by
  unfold Blk at h
  simp [World.frozen?, h]
theorem Blk.new (W : World) (cs : Array Value) (t : TypeId) : Blk (W.alloc (.cells cs t)) W.heap.size cs t := heap_alloc_new W _
theorem Blk.kept {row : Option Nat} (h : Blk W B cs t) (hg : W.grownBy W' row) (hne : some B ≠ row) : Blk W' B cs t := (hg.block B h.lt hne).trans h
theorem Blk.alloc (h : Blk W B cs t) (o : Obj) : Blk (W.alloc o) B cs t := h.kept (World.grownBy_alloc W o none) (by simp)
theorem Blk.below (h : Blk W B cs t) (hb : Below W.heap.size W W') : Blk W' B cs t := (hb.block B h.lt).trans h
theorem Blk.far (h : Blk W B cs t) (p : Addr) (u : Value) (hne : B ≠ p.block) : Blk (W.setCell p u) B cs t := (Below.heap_setCell W p u B hne).trans h
theorem Blk.set (h : Blk W B cs t) (i : Nat) (v : Value) : Blk (W.setCell ⟨B, i, none⟩ v) B (cs.setIfInBounds i v) t := heap_setCell_same W B i cs t v h
theorem Blk.row (h : Blk W B cs t) (cs' : Array Value) : Blk (W.setRow B cs') B cs' t := setRow_heap W B cs cs' t _ h
theorem Blk.farRow (h : Blk W B cs t) (g : Nat) (cs' : Array Value) (hne : B ≠ g) : Blk (W.setRow g cs') B cs t := (setRow_other W g B cs' hne).trans h
theorem Blk.drewN (h : Blk W B cs t) (n : Nat) : Blk (W.drewN n) B cs t := h
end
/-- teams and times as cells -/
def nat (n : Nat) : Value := .int .i64 (n : Int)
def tv (s : Nat) : Value := .func (Fn.func 27) #[] #[.pointer (some ⟨s, 0, none⟩), .pointer (some ⟨s + 7, 0, none⟩), .pointer (some ⟨s + 6, 0, none⟩), .pointer (some ⟨s + 5, 0, none⟩), .pointer (some ⟨s + 3, 0, none⟩), .pointer (some ⟨s + 1, 0, none⟩), .pointer (some ⟨s + 8, 0, none⟩)]
/-- the memory of 'assign', called in w0, while it tries -/
structure TryAt (w0 W : World) (A : Option Addr) (c n T : Nat) (nw bs : List Nat) (ls : Int) (bz : List Int) : Prop where
  below : Below w0.heap.size w0 W
  need : Blk W w0.heap.size #[.slice A n c] 22
  team : Blk W (w0.heap.size + 1) #[.int .i64 (T : Int)] 3
  now : Blk W (w0.heap.size + 2) (nw.map nat).toArray 3
  nowp : Blk W (w0.heap.size + 3) #[.slice (some ⟨w0.heap.size + 2, 0, none⟩) n n] 36
  best : Blk W (w0.heap.size + 4) (bs.map nat).toArray 3
  bestp : Blk W (w0.heap.size + 5) #[.slice (some ⟨w0.heap.size + 4, 0, none⟩) n n] 36
  least : Blk W (w0.heap.size + 6) #[.int .i64 ls] 3
  busy : Blk W (w0.heap.size + 7) (bz.map (Value.int .i64)).toArray 50
  try_ : Blk W (w0.heap.size + 8) #[tv w0.heap.size] 62
  nl : nw.length = n
  bl : bs.length = n
  b4 : bz.length = 4
section
variable {w0 W : World} {A : Option Addr} {c n T : Nat} {now best : List Nat} {least : Int} {busy : List Int}
theorem set_toArray (l : List Value) (i : Nat) (v : Value) : l.toArray.setIfInBounds i v = (l.set i v).toArray := by simp
theorem TryAt.setNow (h : TryAt w0 W A c n T now best least busy) (i k : Nat) : TryAt w0 (W.setCell ⟨w0.heap.size + 2, i, none⟩ (.int .i64 (k : Int))) A c n T (now.set i k) best least busy where
  below := h.below.setCell (by simp) _
  need := h.need.far _ _ (by simp)
  team := h.team.far _ _ (by simp)
  now := by
    have := h.now.set i (nat k)
    rw [set_toArray, ← List.map_set] at this
    exact this
  nowp := h.nowp.far _ _ (by simp)
  best := h.best.far _ _ (by simp)
  bestp := h.bestp.far _ _ (by simp)
  least := h.least.far _ _ (by simp)
  busy := h.busy.far _ _ (by simp)
  try_ := h.try_.far _ _ (by simp)
  nl := by rw [List.length_set]; exact h.nl
  bl := h.bl
  b4 := h.b4
theorem TryAt.setBusy (h : TryAt w0 W A c n T now best least busy) (k : Nat) (x : Int) : TryAt w0 (W.setCell ⟨w0.heap.size + 7, k, none⟩ (.int .i64 x)) A c n T now best least (busy.set k x) where
  below := h.below.setCell (by simp) _
  need := h.need.far _ _ (by simp)
  team := h.team.far _ _ (by simp)
  now := h.now.far _ _ (by simp)
  nowp := h.nowp.far _ _ (by simp)
  best := h.best.far _ _ (by simp)
  bestp := h.bestp.far _ _ (by simp)
  least := h.least.far _ _ (by simp)
  busy := by
    have := h.busy.set k (.int .i64 x)
    rw [set_toArray, ← List.map_set] at this
    exact this
  try_ := h.try_.far _ _ (by simp)
  nl := h.nl
  bl := h.bl
  b4 := by rw [List.length_set]; exact h.b4
theorem TryAt.setLeast (h : TryAt w0 W A c n T now best least busy) (x : Int) : TryAt w0 (W.setCell ⟨w0.heap.size + 6, 0, none⟩ (.int .i64 x)) A c n T now best x busy where
  below := h.below.setCell (by simp) _
  need := h.need.far _ _ (by simp)
  team := h.team.far _ _ (by simp)
  now := h.now.far _ _ (by simp)
  nowp := h.nowp.far _ _ (by simp)
  best := h.best.far _ _ (by simp)
  bestp := h.bestp.far _ _ (by simp)
  least := h.least.set 0 (.int .i64 x)
  busy := h.busy.far _ _ (by simp)
  try_ := h.try_.far _ _ (by simp)
  nl := h.nl
  bl := h.bl
  b4 := h.b4
theorem TryAt.setBest (h : TryAt w0 W A c n T now best least busy) : TryAt w0 (W.setRow (w0.heap.size + 4) (now.map nat).toArray) A c n T now now least busy where
  below := below_setRow h.below (by simp) _
  need := h.need.farRow _ _ (by simp)
  team := h.team.farRow _ _ (by simp)
  now := h.now.farRow _ _ (by simp)
  nowp := h.nowp.farRow _ _ (by simp)
  best := h.best.row _
  bestp := h.bestp.farRow _ _ (by simp)
  least := h.least.farRow _ _ (by simp)
  busy := h.busy.farRow _ _ (by simp)
  try_ := h.try_.farRow _ _ (by simp)
  nl := h.nl
  bl := h.nl
  b4 := h.b4
theorem TryAt.drewN (h : TryAt w0 W A c n T now best least busy) (k : Nat) : TryAt w0 (W.drewN k) A c n T now best least busy :=
  ⟨below_dn h.below k, h.need, h.team, h.now, h.nowp, h.best, h.bestp, h.least, h.busy, h.try_, h.nl, h.bl, h.b4⟩
theorem TryAt.ints (h : TryAt w0 W A c n T now best least busy) : Ints W (some ⟨w0.heap.size + 7, 0, none⟩) busy := fun _ => by
  refine ⟨_, _, rfl, fun i hi => ?_⟩
  rw [Nat.zero_add]
  exact h.busy.cell i (by simp [hi])
end
end Go.Proofs.Ytogaepijfbgniaa
