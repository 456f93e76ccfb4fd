/- The examples of the chapter hold. -/
import Derived.Test.YtgmkfjgkpakhfaaW3
import Derived.Test.YtgmkfjgkpakhfaaW7
namespace Go.Proofs.Ytgmkfjgkpakhfaa
open Go.RowKit
set_option linter.unusedVariables false
def twoL : List Brake := [⟨1, 0, 1000, 50, 900⟩, ⟨2, 1, 500, -1, 0⟩]
def newL : List Brake := [⟨1, 0, 1000, 50, 900⟩, ⟨2, 1, 500, 55, 700⟩]
theorem two_any (w : World) : Calls Try.prog 25 #[] w fun e w' => ∃ A c, e = .returned (.slice A 2 c) ∧ 2 ≤ c ∧ Brakes w' A twoL ∧ Below w.heap.size w w' := by
  go_enter Try.func25, Try.ntmps25
  go_wp2
  go_ret
  refine ⟨_, _, rfl, Nat.le_refl _, fun _ => ⟨_, _, rfl, fun i hi => ?_⟩, below_alloc _ _⟩
  match i, hi with
  | 0, _ => simp only [twoL, List.getElem_cons_zero]; refine ⟨?_, ?_, ?_, ?_, ?_⟩ <;> go_simp
  | 1, _ => simp only [twoL, List.getElem_cons_succ, List.getElem_cons_zero]; refine ⟨?_, ?_, ?_, ?_, ?_⟩ <;> go_simp
theorem i_lit {x : Int} (h : decide (-1000000000 ≤ x ∧ x ≤ 1000000000) = true) : I64 x := by
  simp at h; unfold I64; omega
def smallB (x : Brake) : Bool := decide (-1000000000 ≤ x.id ∧ x.id ≤ 1000000000) && decide (-1000000000 ≤ x.kind ∧ x.kind ≤ 1000000000) && decide (-1000000000 ≤ x.force ∧ x.force ≤ 1000000000) && decide (-1000000000 ≤ x.tested ∧ x.tested ≤ 1000000000) && decide (0 ≤ x.measured ∧ x.measured ≤ 10000000)
theorem smallB_I {x : Brake} (h : smallB x = true) : x.I := by
  simp [smallB] at h; unfold Brake.I I64; omega
theorem smallB_all {l : List Brake} (h : l.all smallB = true) : AllI l ∧ measB l := by
  rw [List.all_eq_true] at h
  refine ⟨fun x hx => smallB_I (h x hx), fun x hx => ?_⟩
  have := h x hx
  simp [smallB] at this; omega
theorem two_small : AllI twoL ∧ measB twoL := smallB_all (by decide)
theorem new_small : AllI newL ∧ measB newL := smallB_all (by decide)
theorem valid_lit (x : Brake) (t : Int) (b : Bool) (hs : smallB x = true) (ht : decide (-1000000000 ≤ t ∧ t ≤ 1000000000) = true) (hv : validB x t = b) (w : World) : Calls Try.prog 16 #[x.val, .int .i64 t] w fun e w' => e = .returned (.bool b) ∧ Below w.heap.size w w' := by
  have := Valid_any x t w (smallB_I hs) (i_lit ht)
  rw [hv] at this; exact this
theorem test_lit (A : Option Addr) (c : Nat) (l : List Brake) (n : Nat) (id m t : Int) (q : List Brake × Int) (hn : n = l.length) (hm : l.length ≤ 8) (hq : testOf l id m t = q) (w : World) (h : Brakes w A l) : Calls Try.prog 13 #[.slice A n c, .int .i64 id, .int .i64 m, .int .i64 t] w (TestPost w q) := by
  have := Test_any A c l id m t w hm h
  rw [hq, ← hn] at this; exact this
theorem right_lit (A : Option Addr) (c : Nat) (l : List Brake) (n : Nat) (hn : n = l.length) (hm : l.length ≤ 8) (hc : l.length ≤ c) (q : Int) (hq : rightOf l = q) (w : World) (h : Brakes w A l) : Calls Try.prog 11 #[.slice A n c] w fun e w' => e = .returned (.int .i64 q) ∧ Below w.heap.size w w' := by
  have := Right_any A c l w (by omega) hc h
  rw [hq, ← hn] at this; exact this
theorem force_lit (A : Option Addr) (c : Nat) (l : List Brake) (n : Nat) (kind t q : Int) (hn : n = l.length) (hm : l.length ≤ 8) (hs : AllI l ∧ measB l) (ht : decide (-1000000000 ≤ t ∧ t ≤ 1000000000) = true) (hq : forceOf l kind t = q) (w : World) (h : Brakes w A l) : Calls Try.prog 18 #[.slice A n c, .int .i64 kind, .int .i64 t] w fun e w' => e = .returned (.int .i64 q) ∧ Below w.heap.size w w' := by
  have := Force_any A c l kind t w hm h hs.1 (i_lit ht) hs.2
  rw [hq, ← hn] at this; exact this
theorem enough_lit (A : Option Addr) (c : Nat) (l : List Brake) (n : Nat) (load t : Int) (b : Bool) (hn : n = l.length) (hm : l.length ≤ 8) (hs : AllI l ∧ measB l) (ht : decide (-1000000000 ≤ t ∧ t ≤ 1000000000) = true) (hq : enoughOf l load t = b) (w : World) (h : Brakes w A l) : Calls Try.prog 20 #[.slice A n c, .int .i64 load, .int .i64 t] w fun e w' => e = .returned (.bool b) ∧ Below w.heap.size w w' := by
  have := Enough_any A c l load t w hm h hs.1 (i_lit ht) hs.2
  rw [hq, ← hn] at this; exact this
theorem due_lit (A : Option Addr) (c : Nat) (l : List Brake) (n : Nat) (t : Int) (q : List Int) (hn : n = l.length) (hm : l.length ≤ 8) (hs : AllI l ∧ measB l) (ht : decide (-1000000000 ≤ t ∧ t ≤ 1000000000) = true) (hq : dueOf l t = q) (w : World) (h : Brakes w A l) : Calls Try.prog 23 #[.slice A n c, .int .i64 t] w (SliceN w q) := by
  have := Due_any A c l t w hm h hs.1 (i_lit ht)
  rw [hq, ← hn] at this; exact this
theorem same_lit (w : World) (A : Option Addr) (c : Nat) (x : Int) (h : Ints w A [x]) :
    Calls Try.prog 22 #[.slice A 1 c, .slice (some ⟨w.heap.size, 0, none⟩) 1 1] (w.alloc (.cells #[.int .i64 x] 3)) fun e w' => e = .returned (.bool true) ∧ ∃ n, w' = (w.alloc (.cells #[.int .i64 x] 3)).drewN n :=
  SameInts_eq A (some ⟨w.heap.size, 0, none⟩) c 1 [x] (w.alloc (.cells #[.int .i64 x] 3)) (by simp) (h.below (below_alloc _ _)) (Ints.lit w 3 [x])
def weakO : Obj := .cells #[.int .i64 1, .int .i64 0, .int .i64 1000, .int .i64 50, .int .i64 899] 32
theorem weak_at (w : World) (i : Nat) (u : Value) (h : #[Value.int .i64 1, .int .i64 0, .int .i64 1000, .int .i64 50, .int .i64 899][i]? = some u) : (w.alloc weakO).cell? ⟨w.heap.size, i, none⟩ = some u := by
  unfold weakO
  rw [World.cell?_alloc_new]
  exact h
set_option maxHeartbeats 4000000 in
theorem alive_any (w : World) : Calls Try.prog 10 #[] w fun e w' => e = .returned (.bool true) ∧ Below w.heap.size w w' := by
  go_enter Try.func10, Try.ntmps10
  go_wp2_with fail
  refine (two_any _).mono ?_
  rintro e w1 ⟨A, c, rfl, hc2, h1, hb1⟩
  have hs := h1
  obtain ⟨b, off, rfl, hcc⟩ := h1 (by decide)
  obtain ⟨a0, a1, a2, a3, a4⟩ := hcc 0 (by decide)
  clear hcc
  simp only [twoL, List.getElem_cons_zero, Nat.zero_mul, Nat.add_zero] at a0 a1 a2 a3 a4
  have hbw := hb1.alloc hb1.size weakO
  have k := below_alloc w1 weakO
  have s := Lib.hid hs
  clear hs hb1 h1
  have hs := s.out.below k
  have e0 := weak_at w1 0 _ rfl
  have e1 := weak_at w1 1 _ rfl
  have e2 := weak_at w1 2 _ rfl
  have e3 := weak_at w1 3 _ rfl
  have e4 := weak_at w1 4 _ rfl
  have d0 := cell_later k a0
  have d1 := cell_later k a1
  have d2 := cell_later k a2
  have d3 := cell_later k a3
  have d4 := cell_later k a4
  have E := Lib.hid (And.intro e0 (And.intro e1 (And.intro e2 (And.intro e3 e4))))
  have D := Lib.hid (And.intro d0 (And.intro d1 (And.intro d2 (And.intro d3 d4))))
  have S := Lib.hid hs
  clear e0 e1 e2 e3 e4 d0 d1 d2 d3 d4 hs s k
  have B0 := Below.refl (w1.alloc weakO).heap.size (w1.alloc weakO)
  go_wp2_with fail
  refine (test_lit (some ⟨b, off, none⟩) c twoL 2 2 700 55 (newL, 0) rfl (by decide) (by rfl) _ (S.out.below B0)).mono ?_
  rintro e w2 ⟨A3, n3, rfl, hx, bx⟩
  have B2 := B0.trans (bx.mono B0.size)
  have X2 := hx
  clear hx
  clear bx B0
  go_wp2_with fail
  refine (test_lit (some ⟨b, off, none⟩) c twoL 2 1 5 49 ([], 11) rfl (by decide) (by rfl) _ (S.out.below B2)).mono ?_
  rintro e w3 ⟨A4, n4, rfl, _, bx⟩
  have B3 := B2.trans (bx.mono B2.size)
  have X3 := X2.below bx
  clear bx B2 X2
  go_wp2_with fail
  refine (test_lit (some ⟨b, off, none⟩) c twoL 2 3 5 60 ([], 8) rfl (by decide) (by rfl) _ (S.out.below B3)).mono ?_
  rintro e w4 ⟨A5, n5, rfl, _, bx⟩
  have B4 := B3.trans (bx.mono B3.size)
  have X4 := X3.below bx
  clear bx B3 X3
  go_wp2_with fail
  refine (right_lit (some ⟨b, off, none⟩) c twoL 2 rfl (by decide) (by exact hc2) 0 (by decide +kernel) _ (S.out.below B4)).mono ?_
  rintro e w5 ⟨rfl, bx⟩
  have B5 := B4.trans (bx.mono B4.size)
  have X5 := X4.below bx
  clear bx B4 X4
  have c0 := cell_later B5 D.out.1
  have c1 := cell_later B5 D.out.2.1
  have c2 := cell_later B5 D.out.2.2.1
  have c3 := cell_later B5 D.out.2.2.2.1
  have c4 := cell_later B5 D.out.2.2.2.2
  go_wp2_with fail
  clear c0 c1 c2 c3 c4
  refine (valid_lit ⟨1, 0, 1000, 50, 900⟩ 50 true (by decide +kernel) (by decide) (by decide +kernel) _).mono ?_
  rintro e w6 ⟨rfl, bx⟩
  have B6 := B5.trans (bx.mono B5.size)
  have X6 := X5.below bx
  clear bx B5 X5
  have c0 := cell_later B6 D.out.1
  have c1 := cell_later B6 D.out.2.1
  have c2 := cell_later B6 D.out.2.2.1
  have c3 := cell_later B6 D.out.2.2.2.1
  have c4 := cell_later B6 D.out.2.2.2.2
  go_wp2_with fail
  clear c0 c1 c2 c3 c4
  refine (valid_lit ⟨1, 0, 1000, 50, 900⟩ 604849 true (by decide +kernel) (by decide) (by decide +kernel) _).mono ?_
  rintro e w7 ⟨rfl, bx⟩
  have B7 := B6.trans (bx.mono B6.size)
  have X7 := X6.below bx
  clear bx B6 X6
  have c0 := cell_later B7 D.out.1
  have c1 := cell_later B7 D.out.2.1
  have c2 := cell_later B7 D.out.2.2.1
  have c3 := cell_later B7 D.out.2.2.2.1
  have c4 := cell_later B7 D.out.2.2.2.2
  go_wp2_with fail
  clear c0 c1 c2 c3 c4
  refine (valid_lit ⟨1, 0, 1000, 50, 900⟩ 604850 false (by decide +kernel) (by decide) (by decide +kernel) _).mono ?_
  rintro e w8 ⟨rfl, bx⟩
  have B8 := B7.trans (bx.mono B7.size)
  have X8 := X7.below bx
  clear bx B7 X7
  have c0 := cell_later B8 D.out.1
  have c1 := cell_later B8 D.out.2.1
  have c2 := cell_later B8 D.out.2.2.1
  have c3 := cell_later B8 D.out.2.2.2.1
  have c4 := cell_later B8 D.out.2.2.2.2
  go_wp2_with fail
  clear c0 c1 c2 c3 c4
  refine (valid_lit ⟨1, 0, 1000, 50, 900⟩ 49 false (by decide +kernel) (by decide) (by decide +kernel) _).mono ?_
  rintro e w9 ⟨rfl, bx⟩
  have B9 := B8.trans (bx.mono B8.size)
  have X9 := X8.below bx
  clear bx B8 X8
  have c0 := cell_later B9 E.out.1
  have c1 := cell_later B9 E.out.2.1
  have c2 := cell_later B9 E.out.2.2.1
  have c3 := cell_later B9 E.out.2.2.2.1
  have c4 := cell_later B9 E.out.2.2.2.2
  go_wp2_with fail
  clear c0 c1 c2 c3 c4
  refine (valid_lit ⟨1, 0, 1000, 50, 899⟩ 50 false (by decide +kernel) (by decide) (by decide +kernel) _).mono ?_
  rintro e w10 ⟨rfl, bx⟩
  have B10 := B9.trans (bx.mono B9.size)
  have X10 := X9.below bx
  clear bx B9 X9
  go_wp2_with fail
  refine (force_lit (some ⟨b, off, none⟩) c twoL 2 0 60 900 rfl (by decide) two_small (by decide) (by decide +kernel) _ (S.out.below B10)).mono ?_
  rintro e w11 ⟨rfl, bx⟩
  have B11 := B10.trans (bx.mono B10.size)
  have X11 := X10.below bx
  clear bx B10 X10
  go_wp2_with fail
  refine (enough_lit (some ⟨b, off, none⟩) c twoL 2 1 60 false rfl (by decide) two_small (by decide) (by decide +kernel) _ (S.out.below B11)).mono ?_
  rintro e w12 ⟨rfl, bx⟩
  have B12 := B11.trans (bx.mono B11.size)
  have X12 := X11.below bx
  clear bx B11 X11
  go_wp2_with fail
  refine (due_lit (some ⟨b, off, none⟩) c twoL 2 60 [2] rfl (by decide) two_small (by decide) (by decide +kernel) _ (S.out.below B12)).mono ?_
  rintro e w13 ⟨A6, n6, rfl, hi, bx⟩
  have B13 := B12.trans (bx.mono B12.size)
  have X13 := X12.below bx
  clear bx B12 X12
  go_wp2_with fail
  refine (same_lit w13 A6 n6 2 hi).mono ?_
  rintro e w14 ⟨rfl, m6, hw⟩
  have bx := (by rw [hw]; exact below_dn (below_alloc _ _) _ : Below w13.heap.size w13 w14)
  have B14 := B13.trans (bx.mono B13.size)
  have X14 := X13.below bx
  clear hw hi
  clear bx B13 X13
  go_wp2_with fail
  refine (enough_lit A3 n3 newL 2 700 60 true rfl (by decide) new_small (by decide) (by decide +kernel) _ X14).mono ?_
  rintro e w15 ⟨rfl, bx⟩
  have B15 := B14.trans (bx.mono B14.size)
  have X15 := X14.below bx
  clear bx B14 X14
  go_wp2_with fail
  refine (enough_lit A3 n3 newL 2 701 60 false rfl (by decide) new_small (by decide) (by decide +kernel) _ X15).mono ?_
  rintro e w16 ⟨rfl, bx⟩
  have B16 := B15.trans (bx.mono B15.size)
  have X16 := X15.below bx
  clear bx B15 X15
  have BB := hbw.trans (B16.mono hbw.size)
  clear S D E hbw B16 X16 a0 a1 a2 a3 a4
  go_wp2
  go_ret
  exact ⟨rfl, BB⟩
end Go.Proofs.Ytgmkfjgkpakhfaa
