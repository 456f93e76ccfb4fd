/- Contracts: Right (both), few, right. -/
import Derived.Test.YtdddfajchkmehaaW2
import Derived.Test.YtdddfajchkmehaaAbove
namespace Go.Proofs.Ytdddfajchkmehaa
open Go.RowKit
set_option linter.unusedVariables false
set_option linter.unusedSimpArgs false
theorem right_noshape {x : Line} (h : ¬ x.shape) (seats : Int) : rightB x seats = false := by unfold rightB; simp [h]
theorem right_bad {x : Line} {seats : Int} {k : Nat} (hk : k < x.load.length) (h : okAt x seats k x.load[k] = false) : rightB x seats = false := by
  unfold rightB
  have : ((List.range x.load.length).all fun i => okAt x seats i (x.load.getD i 0)) = false := by
    rw [List.all_eq_false]
    exact ⟨k, by simpa using hk, by rw [getD_at hk]; simp [h]⟩
  rw [this, Bool.and_false]
theorem right_good {x : Line} {seats : Int} (hs : x.shape) (h : ∀ k (hk : k < x.load.length), okAt x seats k x.load[k] = true) : rightB x seats = true := by
  unfold rightB
  simp only [hs, decide_true, Bool.true_and, List.all_eq_true, List.mem_range]
  intro k hk
  rw [getD_at hk]
  exact h k hk
theorem right_use {x : Line} {seats : Int} (h : rightB x seats = true) : x.shape ∧ ∀ k (hk : k < x.load.length), 0 ≤ x.load[k] ∧ x.load[k] ≤ seats ∧ (x.load[k] ≠ 0 → posOf x k < x.loop / 2) := by
  unfold rightB at h
  simp only [Bool.and_eq_true, decide_eq_true_eq, List.all_eq_true, List.mem_range] at h
  refine ⟨h.1, fun k hk => ?_⟩
  have := h.2 k hk
  rw [getD_at hk] at this
  exact of_decide_eq_true this
theorem right_fit {x : Line} {seats : Int} (hse : seats ≤ 1000000) (h : rightB x seats = true) : fit x.load 1000000 := by
  intro y hy
  obtain ⟨k, hk, rfl⟩ := List.mem_iff_getElem.1 hy
  have := (right_use h).2 k hk
  omega
/-- the ways in which a line is not in shape, in the program's order -/
theorem shape_cases (x : Line) : x.spacing < 5000 ∨ 5000 ≤ x.spacing ∧ (1000000 < x.spacing ∨ x.spacing ≤ 1000000 ∧ ((x.load.length : Int) < 1 ∨ 1 ≤ (x.load.length : Int) ∧ (200 < (x.load.length : Int) ∨ (x.load.length : Int) ≤ 200 ∧
    (x.loop ≠ (x.load.length : Int) * x.spacing ∨ x.loop = (x.load.length : Int) * x.spacing ∧ (x.loop % 2 ≠ 0 ∨ x.loop % 2 = 0 ∧ (x.offset < 0 ∨ 0 ≤ x.offset ∧ (x.loop ≤ x.offset ∨ x.offset < x.loop))))))) := by
  by_cases h : x.loop = (x.load.length : Int) * x.spacing
  · generalize (x.load.length : Int) * x.spacing = y at *
    omega
  · generalize (x.load.length : Int) * x.spacing = y at *
    omega
set_option maxHeartbeats 4000000 in
theorem Right_any (x : Line) (A : Option Addr) (c : Nat) (seats : Int) (hlen : x.load.length ≤ 1000000000000) (w : World) (h : Ints w A x.load) : Calls Try.prog 14 #[x.val A c, .int .i64 seats] w fun e w' => e = .returned (.bool (rightB x seats)) ∧ Below w.heap.size w w' := by
  have hb0 := below_alloc w (.cells #[.int .i64 x.loop, .int .i64 x.spacing, .int .i64 x.offset, .slice A x.load.length c] 27)
  have hI := Lib.hid (h.below hb0)
  have hL : Hid (LineAt _ w.heap.size x A c) := Lib.hid (Blk.new w #[.int .i64 x.loop, .int .i64 x.spacing, .int .i64 x.offset, .slice A x.load.length c] 27)
  clear h
  have fin : ∀ (b : Bool), rightB x seats = b → Hid (rightB x seats = b) := fun b h => Lib.hid h
  have nos := Lib.hid (fun (h : ¬ x.shape) => right_noshape h seats)
  have hdef : Hid (x.shape ↔ (5000 ≤ x.spacing ∧ x.spacing ≤ 1000000 ∧ 1 ≤ x.load.length ∧ x.load.length ≤ 200 ∧ x.loop = (x.load.length : Int) * x.spacing ∧ x.loop % 2 = 0 ∧ 0 ≤ x.offset ∧ x.offset < x.loop)) := Lib.hid Iff.rfl
  have hbb := Lib.hid hb0
  clear hb0 fin
  rcases shape_cases x with q | ⟨p1, q | ⟨p2, q | ⟨p3, q | ⟨p4, q⟩⟩⟩⟩
  · have HR := Lib.hid (nos.out fun h => by have := hdef.out.1 h; omega)
    clear nos hdef hI hL
    unfold Line.val
    go_enter Try.func14, Try.ntmps14
    go_wp2
    go_ret
    exact ⟨by rw [HR.out]; rfl, hbb.out⟩
  · have HR := Lib.hid (nos.out fun h => by have := hdef.out.1 h; omega)
    clear nos hdef hI hL
    unfold Line.val
    go_enter Try.func14, Try.ntmps14
    go_wp2
    go_ret
    exact ⟨by rw [HR.out]; rfl, hbb.out⟩
  · have HR := Lib.hid (nos.out fun h => by have := hdef.out.1 h; omega)
    clear nos hdef hI hL
    unfold Line.val
    go_enter Try.func14, Try.ntmps14
    go_wp2
    go_ret
    exact ⟨by rw [HR.out]; rfl, hbb.out⟩
  · have HR := Lib.hid (nos.out fun h => by have := hdef.out.1 h; omega)
    clear nos hdef hI hL
    unfold Line.val
    go_enter Try.func14, Try.ntmps14
    go_wp2
    go_ret
    exact ⟨by rw [HR.out]; rfl, hbb.out⟩
  · have a1 : 0 ≤ (x.load.length : Int) * x.spacing := Int.mul_nonneg (by omega) (by omega)
    have a2 : (x.load.length : Int) * x.spacing ≤ 200 * 1000000 := Int.mul_le_mul (by omega) (by omega) (by omega) (by omega)
    rcases q with q | ⟨p5, q⟩
    · have HR := Lib.hid (nos.out fun h => q (hdef.out.1 h).2.2.2.2.1)
      have hne : (x.loop != (x.load.length : Int) * x.spacing) = true := by simpa using q
      clear nos hdef hI hL q
      unfold Line.val
      go_enter Try.func14, Try.ntmps14
      go_wp2
      go_ret
      exact ⟨by rw [HR.out]; rfl, hbb.out⟩
    · have hne : (x.loop != (x.load.length : Int) * x.spacing) = false := by simpa using p5
      have a3 : 0 ≤ x.loop ∧ x.loop ≤ 200000000 := by omega
      have HP5 := Lib.hid p5
      clear p5
      rcases q with q | ⟨p6, q⟩
      · have HR := Lib.hid (nos.out fun h => q (hdef.out.1 h).2.2.2.2.2.1)
        have hne2 : (x.loop % 2 != 0) = true := by simpa using q
        clear nos hdef hI hL q
        unfold Line.val
        go_enter Try.func14, Try.ntmps14
        go_wp2
        go_ret
        exact ⟨by rw [HR.out]; rfl, hbb.out⟩
      · have hne2 : (x.loop % 2 != 0) = false := by simpa using p6
        have HP6 := Lib.hid p6
        clear p6
        rcases q with q | ⟨p7, q | q⟩
        · have HR := Lib.hid (nos.out fun h => by have := hdef.out.1 h; omega)
          clear nos hdef hI hL
          unfold Line.val
          go_enter Try.func14, Try.ntmps14
          go_wp2
          go_ret
          exact ⟨by rw [HR.out]; rfl, hbb.out⟩
        · have HR := Lib.hid (nos.out fun h => by have := hdef.out.1 h; omega)
          clear nos hdef hI hL
          unfold Line.val
          go_enter Try.func14, Try.ntmps14
          go_wp2
          go_ret
          exact ⟨by rw [HR.out]; rfl, hbb.out⟩
        · have hs : x.shape := hdef.out.2 ⟨p1, p2, by omega, by omega, HP5.out, HP6.out, p7, q⟩
          have hbad := Lib.hid (fun k (hk : k < x.load.length) => right_bad (x := x) (seats := seats) hk)
          have hgood := Lib.hid (fun h => right_good (x := x) (seats := seats) hs h)
          have HP := Lib.hid (fun i hi W => position_any x A c i hs hi W)
          have HPB := Lib.hid (fun i => pos_bd hs i)
          clear nos hdef hs HP5 HP6
          have hb0 := hbb.out
          unfold Line.val at *
          go_enter Try.func14, Try.ntmps14
          go_wp2
          go_loopw [55] (fun i wr => ∃ k : Nat, k ≤ x.load.length ∧ i = .int .i64 k ∧ Below w.heap.size w wr ∧ Hid (LineAt wr w.heap.size x A c) ∧ Hid (Ints wr A x.load) ∧ Hid (∀ j (hj : j < x.load.length), j < k → okAt x seats j x.load[j] = true)) (fun i _ => x.load.length - (intOf i).toNat)
          case atStart => exact ⟨0, Nat.zero_le _, rfl, hb0, hL, hI, Lib.hid fun j hj h => by omega⟩
          case round =>
            clear hb0 hI hL hbb
            obtain ⟨k, hk, rfl, hb, hL, hI, hall⟩ := hrel
            by_cases hlt : k < x.load.length
            · obtain ⟨b, off, rfl, hc⟩ := hI.out (by omega)
              have g0 := hc k hlt
              have hcall := Lib.hid (fun W => HP.out k (by omega) W)
              have hpb := HPB.out k
              have HB := Lib.hid (hbad.out k hlt)
              have hok : Hid (∀ b, decide (0 ≤ x.load[k] ∧ x.load[k] ≤ seats ∧ (x.load[k] ≠ 0 → posOf x k < x.loop / 2)) = b → okAt x seats k x.load[k] = b) := Lib.hid fun b h => h
              have hnext : Hid (okAt x seats k x.load[k] = true → ∀ j (hj : j < x.load.length), j < k + 1 → okAt x seats j x.load[j] = true) := Lib.hid (fun h0 j hj hjk => by
                by_cases e : j = k
                · subst e; exact h0
                · exact hall.out j hj (by omega))
              obtain ⟨c0, c1, c2, c3⟩ := LineAt.cells hL.out
              clear hc HP HPB hbad hgood hall
              obtain ⟨y, hy⟩ : ∃ y, y = x.load[k] := ⟨_, rfl⟩
              rw [← hy] at g0 HB hok hnext
              clear hy
              generalize posOf x k = p at *
              have ho : y < 0 ∨ 0 ≤ y ∧ (seats < y ∨ y ≤ seats ∧ (y = 0 ∨ y ≠ 0 ∧ (x.loop / 2 ≤ p ∨ p < x.loop / 2))) := by omega
              rcases ho with ho | ⟨q1, ho | ⟨q2, ho | ⟨q3, ho | ho⟩⟩⟩
              · have HR := Lib.hid (HB.out (hok.out false (by simp; omega)))
                clear HB hok hnext
                go_wp2
                go_ret
                exact ⟨by rw [HR.out]; rfl, hb⟩
              · have HR := Lib.hid (HB.out (hok.out false (by simp; omega)))
                clear HB hok hnext
                go_wp2
                go_ret
                exact ⟨by rw [HR.out]; rfl, hb⟩
              · have HR := Lib.hid (hnext.out (hok.out true (by simp [ho]; omega)))
                subst ho
                clear HB hok hnext
                go_wp2_with fail
                go_quiet (fail)
                go_wp2
                go_roundw
                case rel => exact ⟨k + 1, by omega, by go_num, below_dn hb _, Lib.hid (hL.out.below (below_dn (Below.refl _ _) _)), Lib.hid (hI.out.below (below_dn (Below.refl _ _) _)), HR⟩
                case measure => simp [intOf]; omega
              · have HR := Lib.hid (HB.out (hok.out false (by simp; omega)))
                have hne3 : (y != 0) = true := by simpa using q3
                clear HB hok hnext q3
                go_wp2_with fail
                have c0a := fun x => above_cell (w := wr) c0 x
                have c1a := fun x => above_cell (w := wr) c1 x
                have c2a := fun x => above_cell (w := wr) c2 x
                have c3a := fun x => above_cell (w := wr) c3 x
                clear c0 c1 c2 c3
                refine wp_region_above (by kernel_rfl) (by kernel_rfl) ?_
                repeat (go_big_quiet_step ((go_at_call 30; exact above_call (hcall.out _))))
                refine wpQuiet_nil ?_
                rintro _ ⟨v, rfl⟩
                obtain ⟨v, hv⟩ := v
                go_wp2
                go_ret
                exact ⟨by rw [HR.out]; rfl, hb.trans (hv.mono hb.size)⟩
              · have HR := Lib.hid (hnext.out (hok.out true (by simp; omega)))
                have hne3 : (y != 0) = true := by simpa using q3
                clear HB hok hnext q3
                go_wp2_with fail
                have c0a := fun x => above_cell (w := wr) c0 x
                have c1a := fun x => above_cell (w := wr) c1 x
                have c2a := fun x => above_cell (w := wr) c2 x
                have c3a := fun x => above_cell (w := wr) c3 x
                clear c0 c1 c2 c3
                refine wp_region_above (by kernel_rfl) (by kernel_rfl) ?_
                repeat (go_big_quiet_step ((go_at_call 30; exact above_call (hcall.out _))))
                refine wpQuiet_nil ?_
                rintro _ ⟨v, rfl⟩
                obtain ⟨v, hv⟩ := v
                go_wp2
                go_roundw
                case rel => exact ⟨k + 1, by omega, by go_num, hb.trans (hv.mono hb.size), Lib.hid (hL.out.below hv), Lib.hid (hI.out.below hv), HR⟩
                case measure => simp [intOf]; omega
            · have hke : k = x.load.length := by omega
              subst hke
              have HR := Lib.hid (hgood.out fun j hj => hall.out j hj hj)
              clear hbad hgood HP HPB hall
              go_wp2
              go_ret
              exact ⟨by rw [HR.out]; rfl, hb⟩
end Go.Proofs.Ytdddfajchkmehaa
