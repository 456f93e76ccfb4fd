/- Contracts of package assign: the closure 'try' of Best. -/
import Derived.Test.YtogaepijfbgniaaA2
namespace Go.Proofs.Ytogaepijfbgniaa
open Go.RowKit Go.Shelf Go.Deep
set_option linter.unusedVariables false
def aargs (S : Nat) (total : Int) : Array Value := #[.int .i64 total, .pointer (some ⟨S + 4, 0, none⟩), .pointer (some ⟨S + 3, 0, none⟩), .pointer (some ⟨S + 2, 0, none⟩), .pointer (some ⟨S, 0, none⟩), .pointer (some ⟨S + 1, 0, none⟩), .pointer (some ⟨S + 5, 0, none⟩)]
def APost (w0 : World) (A : Option Addr) (n c : Nat) (x : AS) (e : Ending) (w' : World) : Prop := e = .returned (.tuple #[]) ∧ AAt w0 w' A n c x
theorem int_slice_to (A : Option Addr) (n c k : Nat) (hk : k ≤ c) (w : World) : (Instr.slice 36 (.slice A n c) none (some (.int .i64 (k : Int))) none).run Try.prog w = .ok (.slice A k c) w := by
  go_simp
theorem tryA_out (w0 : World) (A : Option Addr) (n c : Nat) (x : AS) (total : Int) (h1 : x.found = true) (h2 : x.least ≤ total) (W : World) (h : AAt w0 W A n c x) : Calls Try.prog 23 (aargs w0.heap.size total) W (APost w0 A n c x) := by
  have c4 := h.found.cell 0 (v := .bool x.found) rfl
  have c3 := h.least.cell 0 (v := .int .i64 x.least) rfl
  rw [h1] at c4
  unfold aargs
  go_enter Try.func23, Try.ntmps23
  go_wp2
  refine bodyPost_ret (results_none rfl _ _ _) rfl ?_
  exact ⟨rfl, h⟩
/-- the first two tests of 'try' -/
theorem test_two {f : Bool} {a t : Int} (h : ¬ (f && decide (a ≤ t)) = true) : f = false ∨ f = true ∧ t < a := by
  cases f
  · exact .inl rfl
  · simp at h
    exact .inr ⟨rfl, h⟩
set_option maxHeartbeats 2000000 in
theorem tryA_end (w0 : World) (A : Option Addr) (n c : Nat) (x : AS) (total : Int) (h0 : ¬ (x.found && decide (x.least ≤ total)) = true) (hn : x.p.length = n) (hp : 0 < x.p.length) (hl : x.p.length ≤ 50) (W : World) (h : AAt w0 W A n c x) : Calls Try.prog 23 (aargs w0.heap.size total) W (APost w0 A n c ⟨x.p, total, true⟩) := by
  have c4 := h.found.cell 0 (v := .bool x.found) rfl
  have c3 := h.least.cell 0 (v := .int .i64 x.least) rfl
  have c0 := h.cost.cell 0 (v := .slice A n c) rfl
  obtain ⟨v, q1, q2⟩ := h.p
  obtain ⟨Ap, cp, rfl, hI⟩ := q2.form
  have c2 := q1.cell 0 (v := .slice Ap x.p.length cp) rfl
  have hq := Clone_any Ap cp x.p hp (by omega) W hI
  have Hq := Lib.hid hq
  have H := Lib.hid h
  have hb : ((x.p.length : Int) == (n : Int)) = true := by simp [hn]
  clear q1 q2 h hq hI hn
  unfold aargs
  rcases test_two h0 with h0 | ⟨h0, h1⟩
  all_goals
    rw [h0] at c4
    go_enter Try.func23, Try.ntmps23
    go_wp2_with fail
    refine Hq.out.mono ?_
    rintro e w1 ⟨A1, c1, rfl, hb1⟩
    have h1 := H.out.later hb1
    obtain ⟨Ab, lb, cb, k1⟩ := h1.best
    obtain ⟨v2, k2, k3⟩ := h1.p
    have b1 := k1.cell 0 (v := .slice Ab lb cb) rfl
    have b3 := h1.least.cell 0 (v := .int .i64 x.least) rfl
    have b4 := h1.found.cell 0 (v := .bool x.found) rfl
    have f1 := k1.frozen 0
    have f3 := h1.least.frozen 0
    have f4 := h1.found.frozen 0
    have hfin : AAt w0 (((w1.setCell ⟨w0.heap.size + 1, 0, none⟩ (.slice A1 x.p.length c1)).setCell ⟨w0.heap.size + 3, 0, none⟩ (.int .i64 total)).setCell ⟨w0.heap.size + 4, 0, none⟩ (.bool true)) A n c ⟨x.p, total, true⟩ := by
      refine ⟨((h1.below.setCell (by simp) _).setCell (by simp) _).setCell (by simp) _, ((h1.cost.far _ _ (by simp)).far _ _ (by simp)).far _ _ (by simp), ⟨A1, x.p.length, c1, ((k1.set 0 _).far _ _ (by simp)).far _ _ (by simp)⟩, ⟨v2, ((k2.far _ _ (by simp)).far _ _ (by simp)).far _ _ (by simp), ?_⟩, ((h1.least.far _ _ (by simp)).set 0 _).far _ _ (by simp), ((h1.found.far _ _ (by simp)).far _ _ (by simp)).set 0 _, ((h1.try_.far _ _ (by simp)).far _ _ (by simp)).far _ _ (by simp)⟩
      have hne : ∀ g, g < w0.heap.size + 6 → v2.ownBlock ≠ some g := fun g hlt e => by
        have := (World.ownsRow.lt k3 g e).1
        omega
      exact ownsRow_setCell_other (ownsRow_setCell_other (ownsRow_setCell_other k3 (hne _ (by simp)) _) (hne _ (by simp)) _) (hne _ (by simp)) _
    have HF := Lib.hid hfin
    clear hfin k1 k2 k3 h1 Hq H c0 c2 c3 c4
    go_wp2
    refine bodyPost_ret (results_none rfl _ _ _) rfl ?_
    exact ⟨rfl, HF.out⟩
end Go.Proofs.Ytogaepijfbgniaa
