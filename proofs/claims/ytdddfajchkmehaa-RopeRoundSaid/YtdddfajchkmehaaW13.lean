/- Contracts: the reference's Move. -/
import Derived.Test.YtdddfajchkmehaaW12
import Derived.Deep.DeepCutAuto
namespace Go.Proofs.Ytdddfajchkmehaa
open Go.RowKit Go.Deep
set_option linter.unusedVariables false
set_option linter.unusedSimpArgs false
theorem mapM_yes {x : Line} {d : Int} {k : Nat} (hc : cross x d k = true) : (List.range (k + 1)).map (loadM x d) = (List.range k).map (loadM x d) ++ [0] := by
  rw [List.range_succ, List.map_append]
  simp [loadM, hc]
theorem mapM_no {x : Line} {d : Int} {k : Nat} (hk : k < x.load.length) (hc : cross x d k = false) : (List.range (k + 1)).map (loadM x d) = (List.range k).map (loadM x d) ++ [x.load[k]] := by
  rw [List.range_succ, List.map_append]
  simp [loadM, hc, hk]
set_option maxHeartbeats 8000000 in
theorem refMove_any (x : Line) (A : Option Addr) (c : Nat) (d : Int) (hs : x.shape) (hf : fit x.load 1000000) (w : World) (h : Ints w A x.load) : Calls Try.prog 25 #[x.val A c, .int .i64 d] w (MovePost w (moveOf x d)) := by
  have hn : x.load.length ≤ 200 := hs.2.2.2.1
  have hn1 : 1 ≤ x.load.length := hs.2.2.1
  have hHB := Lib.hid ((below_alloc w (.cells #[.int .i64 x.loop, .int .i64 x.spacing, .int .i64 x.offset, .slice A x.load.length c] 27)).alloc (below_alloc w _).size (.cells #[.int .i64 0, .int .i64 0, .int .i64 0, .slice none 0 0] 27))
  have H0 := Lib.hid h
  have hHL := Lib.hid ((Blk.new w #[.int .i64 x.loop, .int .i64 x.spacing, .int .i64 x.offset, .slice A x.load.length c] 27).alloc (.cells #[.int .i64 0, .int .i64 0, .int .i64 0, .slice none 0 0] 27))
  have hR := Blk.new (w.alloc (.cells #[.int .i64 x.loop, .int .i64 x.spacing, .int .i64 x.offset, .slice A x.load.length c] 27)) #[.int .i64 0, .int .i64 0, .int .i64 0, .slice none 0 0] 27
  rw [World.size_alloc] at hR
  have hHR := Lib.hid hR
  have hlb := shape_bd hs
  have hpo : 0 ≤ x.offset ∧ x.offset < x.loop := ⟨hs.2.2.2.2.2.2.1, hs.2.2.2.2.2.2.2⟩
  have hsp : x.spacing ≤ 1000000 := hs.2.1
  have HPB := Lib.hid (fun i => pos_bd hs i)
  have HP := Lib.hid (fun i W => refAt_any x A c i hs W)
  have HLB := Lib.hid (fun k => left_bd (x := x) (by omega) hf d k)
  have HF := Lib.hid hf
  clear hR h hs hf
  have ho : d < 0 ∨ 0 ≤ d ∧ (x.spacing < d ∨ d ≤ x.spacing) := by omega
  rcases ho with ho | ⟨q1, ho | q2⟩
  · have HN := Lib.hid (move_no (x := x) (d := d) (by omega))
    unfold Line.val
    clear HPB HP HLB HF
    go_enter Try.func25, Try.ntmps25
    go_wp2
    refine bodyPost_ret (v := .tuple #[.agg #[.int .i64 0, .int .i64 0, .int .i64 0, .slice none 0 0], .int .i64 0, .int .i64 0, .int .i64 2]) ?_ rfl ?_
    · rw [results_cell4 rfl]
      go_simp
    · rw [HN.out]
      exact zero_move _ _ hHB.out
  · have HN := Lib.hid (move_no (x := x) (d := d) (by omega))
    unfold Line.val
    clear HPB HP HLB HF
    go_enter Try.func25, Try.ntmps25
    go_wp2
    refine bodyPost_ret (v := .tuple #[.agg #[.int .i64 0, .int .i64 0, .int .i64 0, .slice none 0 0], .int .i64 0, .int .i64 0, .int .i64 2]) ?_ rfl ?_
    · rw [results_cell4 rfl]
      go_simp
    · rw [HN.out]
      exact zero_move _ _ hHB.out
  · have HN := Lib.hid (move_yes (x := x) (d := d) ⟨q1, q2⟩)
    unfold Line.val at *
    go_enter Try.func25, Try.ntmps25
    go_wp2_with fail
    go_loopw [8, 9, 10, 11] (fun ov pv lv i wr => ∃ k : Nat, k ≤ x.load.length ∧ i = .int .i64 k ∧ pv = .int .i64 (passK x d k) ∧ lv = .int .i64 (leftK x d k) ∧ Hid (Below w.heap.size w wr) ∧ Hid (LineAt wr w.heap.size x A c) ∧ Hid (Blk wr (w.heap.size + 1) #[.int .i64 0, .int .i64 0, .int .i64 0, .slice none 0 0] 27) ∧ Hid (OwnI wr (w.heap.size + 2) 3 ov ((List.range k).map (loadM x d)))) (fun _ _ _ i _ => x.load.length - (intOf i).toNat)
    case atStart => exact ⟨0, Nat.zero_le _, rfl, rfl, rfl, hHB, hHL, hHR, Lib.hid (OwnI.nil _ _ _)⟩
    case round =>
      clear hHB hHL hHR
      obtain ⟨k, hk, rfl, rfl, rfl, HB, HL, HR, HO⟩ := hrel
      obtain ⟨c0, c1, c2, c3⟩ := LineAt.cells HL.out
      by_cases hlt : k < x.load.length
      · have hcall := HP.out (k : Int) wr
        rw [show atOf x (k : Int) = posOf x k by unfold atOf; rw [if_pos ⟨by omega, by omega⟩]; rfl] at hcall
        have HCALL := Lib.hid hcall
        have hpb := HPB.out k
        have hlk := HLB.out k
        have hyb := HF.out _ (List.getElem_mem hlt)
        clear HP HPB HLB HF hcall
        go_wp2_with fail
        refine HCALL.out.mono ?_
        rintro e w5 ⟨rfl, hb5⟩
        replace HB := Lib.hid (HB.out.trans (hb5.mono HB.out.size))
        replace HL := Lib.hid (HL.out.below hb5)
        replace HR := Lib.hid (HR.out.below hb5)
        replace HO := Lib.hid (HO.out.grown hb5)
        have hm0 : w.heap.size + 2 ≤ w5.heap.size := by have := Blk.lt HR.out; omega
        obtain ⟨b, off, rfl, hc⟩ := H0.out.below HB.out (by omega)
        have g0 := hc k hlt
        clear c0 c1 c2 c3 hb5 HCALL hc
        obtain ⟨c0, c1, c2, c3⟩ := LineAt.cells HL.out
        have hl3 : leftK x d k ≤ 250000000 := by omega
        have hki : (k : Int) < (x.load.length : Int) := by omega
        have hk0 : (0 : Int) ≤ (k : Int) := by omega
        have ho : (x.loop / 2 ≤ posOf x k ∨ posOf x k < x.loop / 2 ∧ (posOf x k + d < x.loop / 2 ∨ x.loop / 2 ≤ posOf x k + d)) := by omega
        have hq2 : posOf x k + d < x.loop ∨ x.loop ≤ posOf x k + d := by omega
        rcases ho with ho | ⟨ho1, ho | ho⟩
        · rcases hq2 with hq | hq
          · have hcr : cross x d k = false := by unfold cross; simp; omega
            have EL := Lib.hid (left_no hcr)
            have EM := Lib.hid (mapM_no hlt hcr)
            have EP := Lib.hid (pass_no (x := x) (d := d) (k := k) hq)
            clear hcr
            generalize posOf x k = p at *
            generalize x.load[k] = y at *
            go_wp2_with (at_builtin; refine wpList_push w5 w5 (by rfl) (.tmp 63) (.tmp 65) 25 (by rfl) (w.heap.size + 2) 3 Try.underlying25 info3 _ ((List.range k).map (loadM x d)) (by rfl) HO.out y (by rfl) (Below.refl _ _) (by simp; omega) (by omega) ?_; intro g1 cap1 w6 hown3 hbw3 hg1 hat1)
            rw [List.length_map, List.length_range] at hown3
            have HO6 := Lib.hid hown3
            have HB6 := Lib.hid (HB.out.trans (hbw3.mono (by omega)))
            have HL6 : Hid (LineAt w6 w.heap.size x (some ⟨b, off, none⟩) c) := Lib.hid ((hbw3.block _ (by omega)).trans HL.out)
            have HR6 : Hid (Blk w6 (w.heap.size + 1) #[.int .i64 0, .int .i64 0, .int .i64 0, .slice none 0 0] 27) := Lib.hid ((hbw3.block _ (by omega)).trans HR.out)
            clear hown3 hbw3 hg1 hat1 HO HB HL HR c0 c1 c2 c3 g0 hm0
            go_wp2
            go_roundw
            case rel => exact ⟨k + 1, by omega, by go_num, by rw [EP.out], by rw [EL.out], HB6, HL6, HR6, Lib.hid (by rw [EM.out]; exact HO6.out)⟩
            case measure => simp [intOf]; omega
          · have hcr : cross x d k = false := by unfold cross; simp; omega
            have EL := Lib.hid (left_no hcr)
            have EM := Lib.hid (mapM_no hlt hcr)
            have EP := Lib.hid (pass_yes (x := x) (d := d) (k := k) hq)
            clear hcr
            generalize posOf x k = p at *
            generalize x.load[k] = y at *
            go_wp2_with (at_builtin; refine wpList_push w5 w5 (by rfl) (.tmp 63) (.tmp 65) 25 (by rfl) (w.heap.size + 2) 3 Try.underlying25 info3 _ ((List.range k).map (loadM x d)) (by rfl) HO.out y (by rfl) (Below.refl _ _) (by simp; omega) (by omega) ?_; intro g1 cap1 w6 hown3 hbw3 hg1 hat1)
            rw [List.length_map, List.length_range] at hown3
            have HO6 := Lib.hid hown3
            have HB6 := Lib.hid (HB.out.trans (hbw3.mono (by omega)))
            have HL6 : Hid (LineAt w6 w.heap.size x (some ⟨b, off, none⟩) c) := Lib.hid ((hbw3.block _ (by omega)).trans HL.out)
            have HR6 : Hid (Blk w6 (w.heap.size + 1) #[.int .i64 0, .int .i64 0, .int .i64 0, .slice none 0 0] 27) := Lib.hid ((hbw3.block _ (by omega)).trans HR.out)
            clear hown3 hbw3 hg1 hat1 HO HB HL HR c0 c1 c2 c3 g0 hm0
            go_wp2
            go_roundw
            case rel => exact ⟨k + 1, by omega, by go_num, by rw [EP.out], by rw [EL.out], HB6, HL6, HR6, Lib.hid (by rw [EM.out]; exact HO6.out)⟩
            case measure => simp [intOf]; omega
        · have hq : posOf x k + d < x.loop := by omega
          have hcr : cross x d k = false := by unfold cross; simp; omega
          have EL := Lib.hid (left_no hcr)
          have EM := Lib.hid (mapM_no hlt hcr)
          have EP := Lib.hid (pass_no (x := x) (d := d) (k := k) hq)
          clear hcr
          generalize posOf x k = p at *
          generalize x.load[k] = y at *
          go_wp2_with (at_builtin; refine wpList_push w5 w5 (by rfl) (.tmp 63) (.tmp 65) 25 (by rfl) (w.heap.size + 2) 3 Try.underlying25 info3 _ ((List.range k).map (loadM x d)) (by rfl) HO.out y (by rfl) (Below.refl _ _) (by simp; omega) (by omega) ?_; intro g1 cap1 w6 hown3 hbw3 hg1 hat1)
          rw [List.length_map, List.length_range] at hown3
          have HO6 := Lib.hid hown3
          have HB6 := Lib.hid (HB.out.trans (hbw3.mono (by omega)))
          have HL6 : Hid (LineAt w6 w.heap.size x (some ⟨b, off, none⟩) c) := Lib.hid ((hbw3.block _ (by omega)).trans HL.out)
          have HR6 : Hid (Blk w6 (w.heap.size + 1) #[.int .i64 0, .int .i64 0, .int .i64 0, .slice none 0 0] 27) := Lib.hid ((hbw3.block _ (by omega)).trans HR.out)
          clear hown3 hbw3 hg1 hat1 HO HB HL HR c0 c1 c2 c3 g0 hm0
          go_wp2
          go_roundw
          case rel => exact ⟨k + 1, by omega, by go_num, by rw [EP.out], by rw [EL.out], HB6, HL6, HR6, Lib.hid (by rw [EM.out]; exact HO6.out)⟩
          case measure => simp [intOf]; omega
        · rcases hq2 with hq | hq
          · have hcr : cross x d k = true := by unfold cross; simp; omega
            have EL := Lib.hid (left_yes hlt hcr)
            have EM := Lib.hid (mapM_yes hcr)
            have EP := Lib.hid (pass_no (x := x) (d := d) (k := k) hq)
            clear hcr
            generalize posOf x k = p at *
            generalize x.load[k] = y at *
            go_wp2_with (at_builtin; refine wpList_push w5 w5 (by rfl) (.tmp 63) (.tmp 65) 25 (by rfl) (w.heap.size + 2) 3 Try.underlying25 info3 _ ((List.range k).map (loadM x d)) (by rfl) HO.out 0 (by rfl) (Below.refl _ _) (by simp; omega) (by omega) ?_; intro g1 cap1 w6 hown3 hbw3 hg1 hat1)
            rw [List.length_map, List.length_range] at hown3
            have HO6 := Lib.hid hown3
            have HB6 := Lib.hid (HB.out.trans (hbw3.mono (by omega)))
            have HL6 : Hid (LineAt w6 w.heap.size x (some ⟨b, off, none⟩) c) := Lib.hid ((hbw3.block _ (by omega)).trans HL.out)
            have HR6 : Hid (Blk w6 (w.heap.size + 1) #[.int .i64 0, .int .i64 0, .int .i64 0, .slice none 0 0] 27) := Lib.hid ((hbw3.block _ (by omega)).trans HR.out)
            clear hown3 hbw3 hg1 hat1 HO HB HL HR c0 c1 c2 c3 g0 hm0
            go_wp2
            go_roundw
            case rel => exact ⟨k + 1, by omega, by go_num, by rw [EP.out], by rw [EL.out], HB6, HL6, HR6, Lib.hid (by rw [EM.out]; exact HO6.out)⟩
            case measure => simp [intOf]; omega
          · have hcr : cross x d k = true := by unfold cross; simp; omega
            have EL := Lib.hid (left_yes hlt hcr)
            have EM := Lib.hid (mapM_yes hcr)
            have EP := Lib.hid (pass_yes (x := x) (d := d) (k := k) hq)
            clear hcr
            generalize posOf x k = p at *
            generalize x.load[k] = y at *
            go_wp2_with (at_builtin; refine wpList_push w5 w5 (by rfl) (.tmp 63) (.tmp 65) 25 (by rfl) (w.heap.size + 2) 3 Try.underlying25 info3 _ ((List.range k).map (loadM x d)) (by rfl) HO.out 0 (by rfl) (Below.refl _ _) (by simp; omega) (by omega) ?_; intro g1 cap1 w6 hown3 hbw3 hg1 hat1)
            rw [List.length_map, List.length_range] at hown3
            have HO6 := Lib.hid hown3
            have HB6 := Lib.hid (HB.out.trans (hbw3.mono (by omega)))
            have HL6 : Hid (LineAt w6 w.heap.size x (some ⟨b, off, none⟩) c) := Lib.hid ((hbw3.block _ (by omega)).trans HL.out)
            have HR6 : Hid (Blk w6 (w.heap.size + 1) #[.int .i64 0, .int .i64 0, .int .i64 0, .slice none 0 0] 27) := Lib.hid ((hbw3.block _ (by omega)).trans HR.out)
            clear hown3 hbw3 hg1 hat1 HO HB HL HR c0 c1 c2 c3 g0 hm0
            go_wp2
            go_roundw
            case rel => exact ⟨k + 1, by omega, by go_num, by rw [EP.out], by rw [EL.out], HB6, HL6, HR6, Lib.hid (by rw [EM.out]; exact HO6.out)⟩
            case measure => simp [intOf]; omega
      · have hke : k = x.load.length := by omega
        subst hke
        obtain ⟨A5, cg, hv5, hi5⟩ := HO.out.form
        subst hv5
        have hfr5 : Hid (∀ ad, A5 = some ad → w.heap.size + 2 ≤ ad.block) := Lib.hid (fun ad h => by
          rcases HO.out.2 with ⟨e, _⟩ | ⟨g, cap, cur, e, hb, _⟩
          · injection e with e1; rw [e1] at h; cases h
          · injection e with e1; rw [e1] at h; cases h; exact hb)
        rw [List.length_map, List.length_range]
        have HI5 := Lib.hid hi5
        have hw := Lib.hid (with_any x A A5 c x.load.length cg wr)
        unfold Line.val at hw
        clear hi5 HO HP HPB HLB HF
        go_wp2_with fail
        refine hw.out.mono ?_
        rintro e w7 ⟨rfl, hb7⟩
        replace HB := Lib.hid (HB.out.trans (hb7.mono HB.out.size))
        replace HL := Lib.hid (HL.out.below hb7)
        replace HR := Lib.hid (HR.out.below hb7)
        replace HI5 := Lib.hid (HI5.out.below hb7)
        clear c0 c1 c2 c3 hw hb7
        have hlt7 := Blk.lt HR.out
        have kb := below_alloc w7 (.cells #[.int .i64 x.loop, .int .i64 x.spacing, .int .i64 ((x.offset + d) % x.loop), .slice A5 x.load.length cg] 27)
        have HI6 := Lib.hid (HI5.out.below kb)
        have HB6 := Lib.hid (HB.out.trans (kb.mono HB.out.size))
        have kc := below_alloc w7 (.cells #[.int .i64 x.loop, .int .i64 x.spacing, .int .i64 x.offset, .slice A5 x.load.length cg] 27)
        obtain ⟨c0, c1, c2, c3⟩ := LineAt.cells HL.out
        obtain ⟨d0, d1, d2, d3⟩ := LineAt.cells (HL.out.below kc)
        obtain ⟨e0, e1, e2, e3⟩ := LineAt.cells (HL.out.below kb)
        replace HR := Lib.hid (HR.out.below kb)
        clear kb kc
        have s0 := HR.out.cell 0 (v := .int .i64 0) rfl
        have s1 := HR.out.cell 1 (v := .int .i64 0) rfl
        have s2 := HR.out.cell 2 (v := .int .i64 0) rfl
        have s3 := HR.out.cell 3 (v := .slice none 0 0) rfl
        have t0 := HR.out.frozen 0
        have t1 := HR.out.frozen 1
        have t2 := HR.out.frozen 2
        have t3 := HR.out.frozen 3
        have m0 : 1 ≤ x.loop := by omega
        have hB2 := Blk.new w7 #[.int .i64 x.loop, .int .i64 x.spacing, .int .i64 ((x.offset + d) % x.loop), .slice A5 x.load.length cg] 27
        have b0 := hB2.cell 0 (v := .int .i64 x.loop) rfl
        have b1 := hB2.cell 1 (v := .int .i64 x.spacing) rfl
        have b2 := hB2.cell 2 (v := .int .i64 ((x.offset + d) % x.loop)) rfl
        have b3 := hB2.cell 3 (v := .slice A5 x.load.length cg) rfl
        have S0 := Lib.hid s0
        have S1 := Lib.hid s1
        have S2 := Lib.hid s2
        have S3 := Lib.hid s3
        have T0 := Lib.hid t0
        have T1 := Lib.hid t1
        have T2 := Lib.hid t2
        have T3 := Lib.hid t3
        have b0 := Lib.hid b0
        have b1 := Lib.hid b1
        have b2 := Lib.hid b2
        have b3 := Lib.hid b3
        clear HI5 HB HL HR hB2 s0 s1 s2 s3 t0 t1 t2 t3
        go_upto_region 18 with (fail)
        clear c0 c1 c2 c3 d0 d1 d2 d3 e0 e1 e2 e3
        have hne2 : w7.heap.size ≠ w.heap.size + 1 := by omega
        have hne3 : w.heap.size + 1 ≠ w7.heap.size := by omega
        clear hlt7
        generalize w7.alloc (.cells #[.int .i64 x.loop, .int .i64 x.spacing, .int .i64 ((x.offset + d) % x.loop), .slice A5 x.load.length cg] 27) = W8 at *
        generalize w7.heap.size = B2 at *
        have s0 := S0.out
        have s1 := S1.out
        have s2 := S2.out
        have s3 := S3.out
        have t0 := T0.out
        have t1 := T1.out
        have t2 := T2.out
        have t3 := T3.out
        replace b0 := b0.out
        replace b1 := b1.out
        replace b2 := b2.out
        replace b3 := b3.out
        clear S0 S1 S2 S3 T0 T1 T2 T3
        go_wp2
        refine bodyPost_ret (v := .tuple #[.agg #[.int .i64 x.loop, .int .i64 x.spacing, .int .i64 ((x.offset + d) % x.loop), .slice A5 x.load.length cg], .int .i64 (passK x d x.load.length), .int .i64 (leftK x d x.load.length), .int .i64 0]) ?_ rfl ?_
        · rw [results_cell4 rfl]
          go_simp
        · rw [HN.out]
          exact moved_out HB6.out (by omega) HI6.out (fun ad h => by have := hfr5.out ad h; omega) (fun ad h => by have := hfr5.out ad h; omega) _ _ _ _
end Go.Proofs.Ytdddfajchkmehaa
