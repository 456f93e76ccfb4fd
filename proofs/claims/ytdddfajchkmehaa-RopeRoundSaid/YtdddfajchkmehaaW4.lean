/- Contracts: the reference's Right, few, right. -/
import Derived.Test.YtdddfajchkmehaaW3
namespace Go.Proofs.Ytdddfajchkmehaa
open Go.RowKit
set_option linter.unusedVariables false
set_option linter.unusedSimpArgs false
set_option maxHeartbeats 4000000 in
theorem refRight_shape (x : Line) (A : Option Addr) (c : Nat) (seats : Int) (hs : x.shape) (w : World) (h : Ints w A x.load) : Calls Try.prog 16 #[x.val A c, .int .i64 seats] w fun e w' => e = .returned (.bool (rightB x seats)) ∧ Below w.heap.size w w' := by
  have hb0 := below_alloc w (.cells #[.int .i64 x.loop, .int .i64 x.spacing, .int .i64 x.offset, .slice A x.load.length c] 27)
  have hI := Lib.hid (h.below hb0)
  have hL : Hid (LineAt _ w.heap.size x A c) := Lib.hid (Blk.new w #[.int .i64 x.loop, .int .i64 x.spacing, .int .i64 x.offset, .slice A x.load.length c] 27)
  clear h
  have hbb := Lib.hid hb0
  clear hb0
  obtain ⟨p1, p2, p3, p4, p5, p6, p7, q⟩ := id hs
  have ec : x.spacing * (x.load.length : Int) = (x.load.length : Int) * x.spacing := Int.mul_comm _ _
  have a1 : 0 ≤ (x.load.length : Int) * x.spacing := Int.mul_nonneg (by omega) (by omega)
  have a2 : (x.load.length : Int) * x.spacing ≤ 200 * 1000000 := Int.mul_le_mul (by omega) (by omega) (by omega) (by omega)
  rw [← ec] at a1 a2 p5
  have hne : (x.loop != x.spacing * (x.load.length : Int)) = false := by simpa using p5
  have a3 : 0 ≤ x.loop ∧ x.loop ≤ 200000000 := by omega
  have hne2 : (x.loop % 2 != 0) = false := by simpa using p6
  have hbad := Lib.hid (fun k (hk : k < x.load.length) => right_bad (x := x) (seats := seats) hk)
  have hgood := Lib.hid (fun h => right_good (x := x) (seats := seats) hs h)
  clear ec p5 p6
  have HP := Lib.hid (fun i W => refAt_any x A c i hs W)
  have HPB := Lib.hid (fun i => pos_bd hs i)
  clear hs
  have hb0 := hbb.out
  unfold Line.val at *
  go_enter Try.func16, Try.ntmps16
  go_wp2
  go_loopw [5] (fun i wr => ∃ k : Nat, k ≤ x.load.length ∧ i = .int .i64 k ∧ Below w.heap.size w wr ∧ Hid (LineAt wr w.heap.size x A c) ∧ Hid (Ints wr A x.load) ∧ Hid (∀ j (hj : j < x.load.length), j < k → okAt x seats j x.load[j] = true)) (fun i _ => x.load.length - (intOf i).toNat)
  case atStart => exact ⟨0, Nat.zero_le _, rfl, hb0, hL, hI, Lib.hid fun j hj h => by omega⟩
  case round =>
    clear hb0 hI hL hbb
    obtain ⟨k, hk, rfl, hb, hL, hI, hall⟩ := hrel
    obtain ⟨c0, c1, c2, c3⟩ := LineAt.cells hL.out
    by_cases hlt : k < x.load.length
    · obtain ⟨b, off, rfl, hc⟩ := hI.out (by omega)
      have g0 := hc k hlt
      have ha : atOf x (k : Int) = posOf x k := by unfold atOf; rw [if_pos ⟨by omega, by omega⟩]; rfl
      have hcall := Lib.hid (fun W => HP.out k W)
      rw [ha] at hcall
      have hpb := HPB.out k
      have HB := Lib.hid (hbad.out k hlt)
      have hok : Hid (∀ b, decide (0 ≤ x.load[k] ∧ x.load[k] ≤ seats ∧ (x.load[k] ≠ 0 → posOf x k < x.loop / 2)) = b → okAt x seats k x.load[k] = b) := Lib.hid fun b h => h
      have hnext : Hid (okAt x seats k x.load[k] = true → ∀ j (hj : j < x.load.length), j < k + 1 → okAt x seats j x.load[j] = true) := Lib.hid (fun h0 j hj hjk => by
        by_cases e : j = k
        · subst e; exact h0
        · exact hall.out j hj (by omega))
      clear hc HP HPB hbad hgood hall ha
      obtain ⟨y, hy⟩ : ∃ y, y = x.load[k] := ⟨_, rfl⟩
      rw [← hy] at g0 HB hok hnext
      clear hy
      generalize posOf x k = p at *
      have hki : (k : Int) < (x.load.length : Int) := by omega
      have hk0 : (0 : Int) ≤ (k : Int) := by omega
      have ho : y < 0 ∨ 0 ≤ y ∧ (seats < y ∨ y ≤ seats ∧ (x.loop / 2 ≤ p ∧ (y ≠ 0 ∨ y = 0) ∨ p < x.loop / 2)) := by omega
      rcases ho with ho | ⟨q1, ho | ⟨q2, ⟨ho, q3 | q3⟩ | ho⟩⟩
      · have HR := Lib.hid (HB.out (hok.out false (by simp; omega)))
        have hd1 : decide (y < 0) = true := by simpa using ho
        clear HB hok hnext
        go_wp2_with fail
        go_quiet (fail)
        go_wp2
        go_ret
        exact ⟨by rw [HR.out]; rfl, below_dn hb _⟩
      · have HR := Lib.hid (HB.out (hok.out false (by simp; omega)))
        have hd1 : decide (y < 0) = false := by simpa using q1
        have hd2 : decide (seats < y) = true := by simpa using ho
        clear HB hok hnext
        go_wp2_with fail
        go_quiet (fail)
        go_wp2
        go_ret
        exact ⟨by rw [HR.out]; rfl, below_dn hb _⟩
      · have HR := Lib.hid (HB.out (hok.out false (by simp; omega)))
        have hne3 : (y != 0) = true := by simpa using q3
        have hd1 : decide (y < 0) = false := by simpa using q1
        have hd2 : decide (seats < y) = false := by simpa using q2
        have hd3 : decide (x.loop / 2 ≤ p) = true := by simpa using ho
        clear HB hok hnext q3
        go_wp2_with fail
        have c0a := fun x => above_cell (w := wr) c0 x
        have c1a := fun x => above_cell (w := wr) c1 x
        have c2a := fun x => above_cell (w := wr) c2 x
        have c3a := fun x => above_cell (w := wr) c3 x
        have g0a := fun x => above_cell (w := wr) g0 x
        clear c0 c1 c2 c3 g0
        refine wp_region_above (by kernel_rfl) (by kernel_rfl) ?_
        repeat (go_big_quiet_step ((go_at_call 19; exact above_call (hcall.out _))))
        refine wpQuiet_nil ?_
        rintro _ ⟨v, rfl⟩
        obtain ⟨v, hv⟩ := v
        go_wp2
        go_ret
        exact ⟨by rw [HR.out]; rfl, hb.trans (hv.mono hb.size)⟩
      · have HR := Lib.hid (hnext.out (hok.out true (by simp [q3]; omega)))
        have hne3 : (y != 0) = false := by simpa using q3
        have hd1 : decide (y < 0) = false := by simpa using q1
        have hd2 : decide (seats < y) = false := by simpa using q2
        have hd3 : decide (x.loop / 2 ≤ p) = true := by simpa using ho
        clear HB hok hnext q3
        go_wp2_with fail
        have c0a := fun x => above_cell (w := wr) c0 x
        have c1a := fun x => above_cell (w := wr) c1 x
        have c2a := fun x => above_cell (w := wr) c2 x
        have c3a := fun x => above_cell (w := wr) c3 x
        have g0a := fun x => above_cell (w := wr) g0 x
        clear c0 c1 c2 c3 g0
        refine wp_region_above (by kernel_rfl) (by kernel_rfl) ?_
        repeat (go_big_quiet_step ((go_at_call 19; exact above_call (hcall.out _))))
        refine wpQuiet_nil ?_
        rintro _ ⟨v, rfl⟩
        obtain ⟨v, hv⟩ := v
        go_wp2
        go_roundw
        case rel => exact ⟨k + 1, by omega, by go_num, hb.trans (hv.mono hb.size), Lib.hid (hL.out.below hv), Lib.hid (hI.out.below hv), HR⟩
        case measure => simp [intOf]; omega
      · have HR := Lib.hid (hnext.out (hok.out true (by simp; omega)))
        have hd1 : decide (y < 0) = false := by simpa using q1
        have hd2 : decide (seats < y) = false := by simpa using q2
        have hd3 : decide (x.loop / 2 ≤ p) = false := by simpa using ho
        clear HB hok hnext
        go_wp2_with fail
        have c0a := fun x => above_cell (w := wr) c0 x
        have c1a := fun x => above_cell (w := wr) c1 x
        have c2a := fun x => above_cell (w := wr) c2 x
        have c3a := fun x => above_cell (w := wr) c3 x
        have g0a := fun x => above_cell (w := wr) g0 x
        clear c0 c1 c2 c3 g0
        refine wp_region_above (by kernel_rfl) (by kernel_rfl) ?_
        repeat (go_big_quiet_step ((go_at_call 19; exact above_call (hcall.out _))))
        refine wpQuiet_nil ?_
        rintro _ ⟨v, rfl⟩
        obtain ⟨v, hv⟩ := v
        go_wp2
        go_roundw
        case rel => exact ⟨k + 1, by omega, by go_num, hb.trans (hv.mono hb.size), Lib.hid (hL.out.below hv), Lib.hid (hI.out.below hv), HR⟩
        case measure => simp [intOf]; omega
    · have hke : k = x.load.length := by omega
      subst hke
      have HR := Lib.hid (hgood.out fun j hj => hall.out j hj hj)
      clear hbad hgood HP HPB hall
      go_wp2
      go_ret
      exact ⟨by rw [HR.out]; rfl, hb⟩
set_option maxHeartbeats 4000000 in
theorem refRight_any (x : Line) (A : Option Addr) (c : Nat) (seats : Int) (hlen : x.load.length ≤ 1000000000000) (w : World) (h : Ints w A x.load) : Calls Try.prog 16 #[x.val A c, .int .i64 seats] w fun e w' => e = .returned (.bool (rightB x seats)) ∧ Below w.heap.size w w' := by
  have hb0 := below_alloc w (.cells #[.int .i64 x.loop, .int .i64 x.spacing, .int .i64 x.offset, .slice A x.load.length c] 27)
  have hI := Lib.hid (h.below hb0)
  have hL : Hid (LineAt _ w.heap.size x A c) := Lib.hid (Blk.new w #[.int .i64 x.loop, .int .i64 x.spacing, .int .i64 x.offset, .slice A x.load.length c] 27)
  have H0 := Lib.hid h
  clear h
  have fin : ∀ (b : Bool), rightB x seats = b → Hid (rightB x seats = b) := fun b h => Lib.hid h
  have nos := Lib.hid (fun (h : ¬ x.shape) => right_noshape h seats)
  have hdef : Hid (x.shape ↔ (5000 ≤ x.spacing ∧ x.spacing ≤ 1000000 ∧ 1 ≤ x.load.length ∧ x.load.length ≤ 200 ∧ x.loop = (x.load.length : Int) * x.spacing ∧ x.loop % 2 = 0 ∧ 0 ≤ x.offset ∧ x.offset < x.loop)) := Lib.hid Iff.rfl
  have hbb := Lib.hid hb0
  clear hb0 fin
  rcases shape_cases x with q | ⟨p1, q | ⟨p2, q | ⟨p3, q | ⟨p4, q⟩⟩⟩⟩
  · have HR := Lib.hid (nos.out fun h => by have := hdef.out.1 h; omega)
    clear nos hdef hI hL
    unfold Line.val
    go_enter Try.func16, Try.ntmps16
    go_wp2
    go_ret
    exact ⟨by rw [HR.out]; rfl, hbb.out⟩
  · have HR := Lib.hid (nos.out fun h => by have := hdef.out.1 h; omega)
    clear nos hdef hI hL
    unfold Line.val
    go_enter Try.func16, Try.ntmps16
    go_wp2
    go_ret
    exact ⟨by rw [HR.out]; rfl, hbb.out⟩
  · have HR := Lib.hid (nos.out fun h => by have := hdef.out.1 h; omega)
    clear nos hdef hI hL
    unfold Line.val
    go_enter Try.func16, Try.ntmps16
    go_wp2
    go_ret
    exact ⟨by rw [HR.out]; rfl, hbb.out⟩
  · have HR := Lib.hid (nos.out fun h => by have := hdef.out.1 h; omega)
    clear nos hdef hI hL
    unfold Line.val
    go_enter Try.func16, Try.ntmps16
    go_wp2
    go_ret
    exact ⟨by rw [HR.out]; rfl, hbb.out⟩
  · have ec : x.spacing * (x.load.length : Int) = (x.load.length : Int) * x.spacing := Int.mul_comm _ _
    have a1 : 0 ≤ (x.load.length : Int) * x.spacing := Int.mul_nonneg (by omega) (by omega)
    have a2 : (x.load.length : Int) * x.spacing ≤ 200 * 1000000 := Int.mul_le_mul (by omega) (by omega) (by omega) (by omega)
    rw [← ec] at a1 a2 hdef q
    clear ec
    rcases q with q | ⟨p5, q⟩
    · have HR := Lib.hid (nos.out fun h => q (hdef.out.1 h).2.2.2.2.1)
      have hne : (x.loop != x.spacing * (x.load.length : Int)) = true := by simpa using q
      clear nos hdef hI hL q
      unfold Line.val
      go_enter Try.func16, Try.ntmps16
      go_wp2
      go_ret
      exact ⟨by rw [HR.out]; rfl, hbb.out⟩
    · have hne : (x.loop != x.spacing * (x.load.length : Int)) = false := by simpa using p5
      have a3 : 0 ≤ x.loop ∧ x.loop ≤ 200000000 := by omega
      have HP5 := Lib.hid p5
      clear p5
      rcases q with q | ⟨p6, q⟩
      · have HR := Lib.hid (nos.out fun h => q (hdef.out.1 h).2.2.2.2.2.1)
        have hne2 : (x.loop % 2 != 0) = true := by simpa using q
        clear nos hdef hI hL q
        unfold Line.val
        go_enter Try.func16, Try.ntmps16
        go_wp2
        go_ret
        exact ⟨by rw [HR.out]; rfl, hbb.out⟩
      · have hne2 : (x.loop % 2 != 0) = false := by simpa using p6
        have HP6 := Lib.hid p6
        clear p6
        rcases q with q | ⟨p7, q | q⟩
        · have HR := Lib.hid (nos.out fun h => by have := hdef.out.1 h; omega)
          clear nos hdef hI hL
          unfold Line.val
          go_enter Try.func16, Try.ntmps16
          go_wp2
          go_ret
          exact ⟨by rw [HR.out]; rfl, hbb.out⟩
        · have HR := Lib.hid (nos.out fun h => by have := hdef.out.1 h; omega)
          clear nos hdef hI hL
          unfold Line.val
          go_enter Try.func16, Try.ntmps16
          go_wp2
          go_ret
          exact ⟨by rw [HR.out]; rfl, hbb.out⟩
        · have hs : x.shape := hdef.out.2 ⟨p1, p2, by omega, by omega, HP5.out, HP6.out, p7, q⟩
          exact refRight_shape x A c seats hs w H0.out
theorem few_any (x : Line) (A : Option Addr) (c : Nat) (hlen : x.load.length ≤ 9223372036854775807) (w : World) : Calls Try.prog 15 #[x.val A c] w fun e w' => e = .returned (.bool (decide (x.load.length ≤ 250))) ∧ Below w.heap.size w w' := by
  unfold Line.val
  by_cases h : x.load.length ≤ 250
  all_goals
    go_enter Try.func15, Try.ntmps15
    go_wp2
    go_ret
    refine ⟨?_, below_alloc _ _⟩
    congr 2
    first | (symm; simp; omega) | (simp; omega)
/-- the functions are defined for a line -/
def goodB (x : Line) : Bool := decide (x.load.length ≤ 250) && rightB x 16
theorem right1_any (x : Line) (A : Option Addr) (c : Nat) (hlen : x.load.length ≤ 9223372036854775807) (w : World) (h : Ints w A x.load) : Calls Try.prog 17 #[x.val A c] w fun e w' => e = .returned (.bool (goodB x)) ∧ Below w.heap.size w w' := by
  have hb0 := below_alloc w (.cells #[.int .i64 x.loop, .int .i64 x.spacing, .int .i64 x.offset, .slice A x.load.length c] 27)
  have hI := Lib.hid (h.below hb0)
  have hL : Hid (LineAt _ w.heap.size x A c) := Lib.hid (Blk.new w #[.int .i64 x.loop, .int .i64 x.spacing, .int .i64 x.offset, .slice A x.load.length c] 27)
  have q1 := fun W => Lib.hid (few_any x A c (by omega) W)
  have hd : Hid (goodB x = (decide (x.load.length ≤ 250) && rightB x 16)) := Lib.hid rfl
  clear h
  by_cases h : x.load.length ≤ 250
  · have e1 : decide (x.load.length ≤ 250) = true := by simpa using h
    have q2 := fun W h => Lib.hid (refRight_any x A c 16 (by omega) W h)
    rw [e1] at q1 hd
    have hbb := Lib.hid hb0
    clear e1 hb0
    unfold Line.val at *
    go_enter Try.func17, Try.ntmps17
    go_wp2_with fail
    refine (q1 _).out.mono ?_
    rintro e w1 ⟨rfl, hb1⟩
    obtain ⟨c0, c1, c2, c3⟩ := LineAt.cells (hL.out.below hb1)
    have hI1 := hI.out.below hb1
    have hb2 := hbb.out.trans (hb1.mono hbb.out.size)
    clear hb1 hL hI hbb q1
    go_wp2_with fail
    refine (q2 _ hI1).out.mono ?_
    rintro e w2 ⟨rfl, hb3⟩
    have hb4 := hb2.trans (hb3.mono hb2.size)
    clear c0 c1 c2 c3 hI1 hb2 hb3 q2
    go_wp2
    go_ret
    exact ⟨by rw [hd.out, Bool.true_and]; rfl, hb4⟩
  · have e1 : decide (x.load.length ≤ 250) = false := by simpa using h
    rw [e1] at q1 hd
    have hbb := Lib.hid hb0
    clear e1 hb0
    unfold Line.val at *
    go_enter Try.func17, Try.ntmps17
    go_wp2_with fail
    refine (q1 _).out.mono ?_
    rintro e w1 ⟨rfl, hb1⟩
    have hb2 := hbb.out.trans (hb1.mono hbb.out.size)
    clear hb1 hL hI hbb q1
    go_wp2
    go_ret
    exact ⟨by rw [hd.out, Bool.false_and]; rfl, hb2⟩
end Go.Proofs.Ytdddfajchkmehaa
