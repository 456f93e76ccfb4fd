/- Contract: Best. -/
import Derived.Test.YtoedkdgaofkgaaaW7
import Derived.Laws.EntriesVeiled
namespace Go.Proofs.Ytoedkdgaofkgaaa
open Go.RowKit
set_option linter.unusedVariables false
theorem alloc_heap (w : World) (o : Obj) (k : Nat) : (w.alloc o).heap[k]? = if k = w.heap.size then some o else w.heap[k]? := by
  show (w.heap.push o)[k]? = _
  rw [Array.getElem?_push]
def clo (p q : Nat) : Value := .func (Fn.func 25) #[] #[.pointer (some ⟨p, 0, none⟩), .pointer (some ⟨q + 1, 0, none⟩), .pointer (some ⟨p + 1, 0, none⟩), .pointer (some ⟨p + 2, 0, none⟩), .pointer (some ⟨q + 2, 0, none⟩), .pointer (some ⟨q, 0, none⟩), .pointer (some ⟨q + 3, 0, none⟩)]
theorem Inv.start (w w1 : World) (A : Option Addr) (c : Nat) (l : List Item) (a b : Int)
    (hb : Below (((w.alloc (.cells #[.slice A l.length c] 22)).alloc (.cells #[.int .i64 a] 3)).alloc (.cells #[.int .i64 b] 3)).heap.size (((w.alloc (.cells #[.slice A l.length c] 22)).alloc (.cells #[.int .i64 a] 3)).alloc (.cells #[.int .i64 b] 3)) w1) :
    Inv w ((((w1.alloc (.cells #[.slice none 0 0] 27)).alloc (.cells #[.slice none 0 0] 27)).alloc (.cells #[.int .i64 (-1)] 3)).alloc (.cells #[clo w.heap.size w1.heap.size] 47)) w1.heap.size A c l a b [] [] (-1) (.slice none 0 0) (.slice none 0 0) := by
  have hsz := hb.size
  simp only [World.size_alloc] at hsz
  refine ⟨?_, ?_, ?_, ?_, ?_, ?_, ?_, by omega, by simp, OwnI.nil _ _ _, OwnI.nil _ _ _, .inl rfl, ?_⟩
  · simp only [alloc_heap, World.size_alloc]
    rw [if_neg (by omega), if_neg (by omega), if_neg (by omega), if_neg (by omega), hb.block _ (by simp; omega)]
    simp only [alloc_heap, World.size_alloc]
    rw [if_neg (by omega), if_neg (by omega), if_pos trivial]
  · simp only [alloc_heap, World.size_alloc]
    rw [if_neg (by omega), if_neg (by omega), if_neg (by omega), if_neg (by omega), hb.block _ (by simp)]
    simp only [alloc_heap, World.size_alloc]
    rw [if_neg (by omega), if_pos trivial]
  · simp only [alloc_heap, World.size_alloc]
    rw [if_neg (by omega), if_neg (by omega), if_neg (by omega), if_neg (by omega), hb.block _ (by simp)]
    simp only [alloc_heap, World.size_alloc]
    rw [if_pos trivial]
  · simp only [alloc_heap, World.size_alloc]
    rw [if_neg (by omega), if_neg (by omega), if_neg (by omega), if_pos trivial]
  · simp only [alloc_heap, World.size_alloc]
    rw [if_neg (by omega), if_neg (by omega), if_pos trivial]
  · simp only [alloc_heap, World.size_alloc]
    rw [if_neg (by omega), if_pos trivial]
  · simp only [alloc_heap, World.size_alloc]
    rw [if_pos trivial]
    rfl
  · have h1 : Below w.heap.size w w1 := ((((Below.refl _ _).alloc (by simp) _).alloc (by simp) _).alloc (by simp; omega) _).trans (hb.mono (by simp; omega))
    exact (((h1.alloc (by omega) _).alloc (by simp; omega) _).alloc (by simp; omega) _).alloc (by simp; omega) _

def bestF (l : List Item) (a b : Int) : List Int := if rightOf l = 0 then (tryF l a b 13 0 0 [] ([], -1)).1 else []
def BestPost (w : World) (l : List Item) (best : List Int) (e : Ending) (w' : World) : Prop :=
  ∃ A c, e = .returned (.tuple #[.slice A best.length c, .int .i64 (rightOf l)]) ∧ Ints w' A best ∧ Below w.heap.size w w'
set_option maxHeartbeats 1000000 in
theorem Best_any (A : Option Addr) (c : Nat) (l : List Item) (a b : Int) (w : World) (hm : l.length ≤ 1000000000000000) (h : Items w A l) :
    Calls Try.prog 18 #[.slice A l.length c, .int .i64 a, .int .i64 b] w (BestPost w l (bestF l a b)) := by
  by_cases hr : rightOf l = 0
  · have hr0 := Lib.hid hr
    have hb : bestF l a b = (tryF l a b 13 0 0 [] ([], -1)).1 := by rw [bestF, if_pos hr]
    have hl12 : l.length ≤ 12 := by
      unfold rightOf at hr; split at hr
      · omega
      · omega
    have hl : itemsB l = true := by
      unfold rightOf at hr; rw [if_neg (by omega)] at hr; split at hr
      · assumption
      · omega
    have HB := Lib.hid hb
    clear hb
    have hright := fun W (hW : Below w.heap.size w W) => Lib.hid (Right_any A c l W hm (h.below hW))
    rw [hr] at hright
    clear hr
    go_enter Try.func18, Try.ntmps18
    go_wp2_with fail
    refine ((hright _ ?_).out).mono ?_
    · go_grown
    rintro e w1 ⟨rfl, hb1⟩
    clear hright
    go_wp2_with fail
    have HI := Inv.start w w1 A c l a b hb1
    have hfin : Hid (Below w.heap.size w w1) := by
      have hsz := hb1.size
      simp only [World.size_alloc] at hsz
      exact ((((Below.refl _ _).alloc (by simp) _).alloc (by simp) _).alloc (by simp; omega) _).trans (hb1.mono (by simp; omega))
    refine (try_any 13 w w1.heap.size A c l a b hl hl12 h _ 0 0 0 [] [] (-1) _ _ (by simp) (by omega) (by omega) (by simp) (by omega) (by omega) HI).mono ?_
    rintro e w2 ⟨rfl, v2, sv2, hI2⟩
    clear HI hb1
    have c6 := cell_of_one hI2.hS
    obtain ⟨A2, d2, rfl, hi2⟩ := hI2.owns.form
    have HI2 := Lib.hid hI2; clear hI2
    go_wp2
    go_ret2
    rw [HB.out]
    exact ⟨_, _, by rw [hr0.out]; rfl, hi2, HI2.out.below⟩
  · have hr0 := Lib.hid hr
    have hb : bestF l a b = [] := by rw [bestF, if_neg hr]
    have HB := Lib.hid hb
    clear hb
    have hright := fun W (hW : Below w.heap.size w W) => Lib.hid (Right_any A c l W hm (h.below hW))
    have hne : (rightOf l != 0) = true := by simpa using hr
    generalize hrr : rightOf l = r at *
    have Hrr := Lib.hid hrr; clear hrr hr
    go_enter Try.func18, Try.ntmps18
    go_wp2_with fail
    refine ((hright _ ?_).out).mono ?_
    · go_grown
    rintro e w1 ⟨rfl, hb1⟩
    clear hright
    go_wp2
    go_ret2
    rw [HB.out]
    have hsz := hb1.size
    simp only [World.size_alloc] at hsz
    exact ⟨none, 0, by rw [Hrr.out]; rfl, Ints.nil _ _, ((((Below.refl _ _).alloc (by simp) _).alloc (by simp) _).alloc (by simp; omega) _).trans (hb1.mono (by simp; omega))⟩
end Go.Proofs.Ytoedkdgaofkgaaa
