/- Contracts of package assign: Clone, the closure 'try' of Best. -/
import Derived.Test.YtogaepijfbgniaaA1
import Derived.Test.YtogaepijfbgniaaR3
import Derived.Lib.BufferMore
namespace Go.Proofs.Ytogaepijfbgniaa
open Go.RowKit Go.Shelf Go.Deep
set_option linter.unusedVariables false
set_option maxHeartbeats 1000000 in
theorem Clone_any (A : Option Addr) (c : Nat) (l : List Int) (hl : 0 < l.length) (hm : l.length ≤ 100) (w : World) (h : Ints w A l) :
    Calls Try.prog 24 #[.slice A l.length c] w fun e w' => ∃ A' c', e = .returned (.slice A' l.length c') ∧ Below w.heap.size w w' := by
  have h' := h
  obtain ⟨b, off, rfl, _⟩ := h' hl
  have hka := below_alloc w (.cells #[] 3)
  have hI := h.below hka
  have hO := OwnI.made w w.heap.size 3 (Nat.le_refl _)
  have hsz : w.heap.size ≤ (w.alloc (.cells #[] 3)).heap.size := hka.size
  have HK := Lib.hid hka
  have hnil : ∀ W, (binOp .eql 36 (.slice (some ⟨b, off, none⟩) l.length c) (.slice none 0 0)).run Try.prog W = .ok (.bool false) W := fun W => Lib.run_eql_slice_some_nil W _ _ _ Try.underlying36
  clear h hka
  go_enter Try.func24, Try.ntmps24
  go_wp2_with (at_builtin; refine wpList_cat w _ rfl (.tmp 5) (.tmp 6) 36 rfl w.heap.size 3 Try.underlying36 info3 _ [] rfl (by exact hO) _ c l rfl (by exact hI) (by exact HK.out) (by simp; omega) (by exact hsz) ?_; intro v1 w1 own1 hb1 hg1 hat1; obtain ⟨A1, c1, rfl, _⟩ := own1.form)
  clear own1 hg1 hat1 hO hI
  go_wp2
  go_ret
  exact ⟨A1, c1, by simp, hb1⟩
structure AS where
  p : List Int
  least : Int
  found : Bool
def loopA (f : Nat → AS → Option AS) : Nat → Nat → AS → Option AS
  | 0, _, s => some s
  | c + 1, k, s => (f k s).bind (loopA f c (k + 1))
theorem loopA_step (f : Nat → AS → Option AS) {n k : Nat} (hk : k < n) (s : AS) : loopA f (n - k) k s = (f k s).bind (loopA f (n - (k + 1)) (k + 1)) := by
  obtain ⟨c, hc⟩ : ∃ c, n - k = c + 1 := ⟨n - k - 1, by omega⟩
  rw [hc, show n - (k + 1) = c by omega]
  rfl
theorem loopA_end (f : Nat → AS → Option AS) (k : Nat) (s : AS) : loopA f (k - k) k s = some s := by rw [Nat.sub_self]; rfl
def stepA (row : List Int) (rec : Int → AS → Option AS) (total : Int) (k : Nat) (s : AS) : Option AS :=
  match row[k]? with
  | none => none
  | some x => if 50 ≤ s.p.length then none else if (s.p.any fun y => (k : Int) == y) = true then some s
    else if inB (total + x) = true then
      (rec (total + x) ⟨s.p ++ [(k : Int)], s.least, s.found⟩).bind fun s1 => if 0 < s1.p.length ∧ s1.p.length ≤ 50 then some ⟨s1.p.take (s1.p.length - 1), s1.least, s1.found⟩ else none
    else none
/-- what 'try' makes of the search's state; none if it goes astray -/
def tryM (M : List (List Int)) : Nat → Int → AS → Option AS
  | 0, total, s => if (s.found && decide (s.least ≤ total)) = true then some s else if s.p.length = M.length ∧ 0 < s.p.length then some ⟨s.p, total, true⟩ else none
  | d + 1, total, s => if (s.found && decide (s.least ≤ total)) = true then some s else if s.p.length = M.length then none else
    match M[s.p.length]? with
    | none => none
    | some row => if row.length ≤ 8 then loopA (stepA row (tryM M d) total) row.length 0 s else none
def av (S : Nat) : Value := .func (Fn.func 23) #[] #[.pointer (some ⟨S + 4, 0, none⟩), .pointer (some ⟨S + 3, 0, none⟩), .pointer (some ⟨S + 2, 0, none⟩), .pointer (some ⟨S, 0, none⟩), .pointer (some ⟨S + 1, 0, none⟩), .pointer (some ⟨S + 5, 0, none⟩)]
/-- the memory of Best, called in w0, while it tries -/
structure AAt (w0 W : World) (A : Option Addr) (n c : Nat) (x : AS) : Prop where
  below : Below w0.heap.size w0 W
  cost : Blk W w0.heap.size #[.slice A n c] 45
  best : ∃ Ab lb cb, Blk W (w0.heap.size + 1) #[.slice Ab lb cb] 36
  p : ∃ v, Blk W (w0.heap.size + 2) #[v] 36 ∧ OwnI W (w0.heap.size + 6) 3 v x.p
  least : Blk W (w0.heap.size + 3) #[.int .i64 x.least] 3
  found : Blk W (w0.heap.size + 4) #[.bool x.found] 4
  try_ : Blk W (w0.heap.size + 5) #[av w0.heap.size] 62
section
variable {w0 W W' : World} {A : Option Addr} {n c : Nat} {x : AS}
theorem AAt.later (h : AAt w0 W A n c x) (hb : Below W.heap.size W W') : AAt w0 W' A n c x where
  below := h.below.trans (hb.mono h.below.size)
  cost := h.cost.below hb
  best := by obtain ⟨Ab, lb, cb, q⟩ := h.best; exact ⟨Ab, lb, cb, q.below hb⟩
  p := by obtain ⟨v, q1, q2⟩ := h.p; exact ⟨v, q1.below hb, q2.grown hb⟩
  least := h.least.below hb
  found := h.found.below hb
  try_ := h.try_.below hb
/-- p is set to another row of the call's own -/
theorem AAt.setP (h : AAt w0 W A n c x) {v u : Value} {p' : List Int} (hv : Blk W (w0.heap.size + 2) #[v] 36) (ho : OwnI W (w0.heap.size + 6) 3 v x.p) (hg : W.grownBy W' v.ownBlock) (hW : w0.heap.size ≤ W.heap.size) (hu : OwnI W' (w0.heap.size + 6) 3 u p') : AAt w0 (W'.setCell ⟨w0.heap.size + 2, 0, none⟩ u) A n c ⟨p', x.least, x.found⟩ := by
  have hne : ∀ g, g < w0.heap.size + 6 → some g ≠ v.ownBlock := fun g hlt e => by
    have := (World.ownsRow.lt ho g e.symm).1
    omega
  have hneu : u.ownBlock ≠ some (w0.heap.size + 2) := fun e => by
    have := (World.ownsRow.lt hu _ e).1
    omega
  refine ⟨(h.below.grown hg hW (fun g e => by have := (World.ownsRow.lt ho g e).1; omega)).setCell (p := ⟨w0.heap.size + 2, 0, none⟩) (by simp) u, (h.cost.kept hg (hne _ (by omega))).far _ _ (by simp), ?_, ⟨u, (hv.kept hg (hne _ (by omega))).set 0 u, ?_⟩, (h.least.kept hg (hne _ (by omega))).far _ _ (by simp), (h.found.kept hg (hne _ (by omega))).far _ _ (by simp), (h.try_.kept hg (hne _ (by omega))).far _ _ (by simp)⟩
  · obtain ⟨Ab, lb, cb, q⟩ := h.best
    exact ⟨Ab, lb, cb, (q.kept hg (hne _ (by omega))).far _ _ (by simp)⟩
  · exact ownsRow_setCell_other hu (by simpa using hneu) u
end
end Go.Proofs.Ytogaepijfbgniaa
