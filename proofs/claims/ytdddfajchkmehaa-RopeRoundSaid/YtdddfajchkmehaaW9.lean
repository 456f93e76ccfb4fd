/- Contracts: the reference's Take. -/
import Derived.Test.YtdddfajchkmehaaW8
namespace Go.Proofs.Ytdddfajchkmehaa
open Go.RowKit Go.Deep
set_option linter.unusedVariables false
set_option linter.unusedSimpArgs false
set_option maxHeartbeats 4000000 in
theorem refTake_any (x : Line) (A : Option Addr) (c : Nat) (i n : Int) (hs : x.shape) (hf : fit x.load 1000000) (w : World) (h : Ints w A x.load) : Calls Try.prog 29 #[x.val A c, .int .i64 i, .int .i64 n] w (LinePost w (takeOf x i n)) := by
  have hn : x.load.length ≤ 200 := hs.2.2.2.1
  have hHB := Lib.hid ((below_alloc w (.cells #[.int .i64 x.loop, .int .i64 x.spacing, .int .i64 x.offset, .slice A x.load.length c] 27)).alloc (below_alloc w _).size (.cells #[.int .i64 0, .int .i64 0, .int .i64 0, .slice none 0 0] 27))
  have hHI := Lib.hid (h.below hHB.out)
  have hHL := Lib.hid ((Blk.new w #[.int .i64 x.loop, .int .i64 x.spacing, .int .i64 x.offset, .slice A x.load.length c] 27).alloc (.cells #[.int .i64 0, .int .i64 0, .int .i64 0, .slice none 0 0] 27))
  have hR := Blk.new (w.alloc (.cells #[.int .i64 x.loop, .int .i64 x.spacing, .int .i64 x.offset, .slice A x.load.length c] 27)) #[.int .i64 0, .int .i64 0, .int .i64 0, .slice none 0 0] 27
  rw [World.size_alloc] at hR
  have hHR := Lib.hid hR
  have hlb := shape_bd hs
  have HPB := Lib.hid (fun i => pos_bd hs i)
  have HS := Lib.hid hs
  clear hR h hs
  have q1 := fun W => Lib.hid (refAt_any x A c i HS.out W)
  by_cases hi : 0 ≤ i ∧ i < (x.load.length : Int)
  · obtain ⟨j, rfl⟩ : ∃ j : Nat, i = j := ⟨i.toNat, by omega⟩
    have hj : j < x.load.length := by omega
    have ha : atOf x (j : Int) = posOf x j := by unfold atOf; rw [if_pos hi]; rfl
    rw [ha] at q1
    have hpb := HPB.out j
    have hy := hf x.load[j] (List.getElem_mem hj)
    have N2 := Lib.hid (fun h => take_range (n := n) hj h)
    have N3 := Lib.hid (fun h => take_yes (n := n) hj h)
    have HST := Lib.hid (fun W hW => set_any x A c j (x.load[j] - n) hj (by omega) W hW)
    have HF := Lib.hid hf
    clear ha hf HPB hi
    unfold Line.val at *
    go_enter Try.func29, Try.ntmps29
    go_wp2_with fail
    refine (q1 _).out.mono ?_
    rintro e w1 ⟨rfl, hb1⟩
    have HB := Lib.hid (hHB.out.trans (hb1.mono hHB.out.size))
    have HI := Lib.hid (hHI.out.below hb1)
    have HL := Lib.hid (hHL.out.below hb1)
    have HR := Lib.hid (hHR.out.below hb1)
    obtain ⟨c0, c1, c2, c3⟩ := LineAt.cells HL.out
    have r0 := HR.out.cell 0 (v := .int .i64 0) rfl
    have r1 := HR.out.cell 1 (v := .int .i64 0) rfl
    have r2 := HR.out.cell 2 (v := .int .i64 0) rfl
    have r3 := HR.out.cell 3 (v := .slice none 0 0) rfl
    have f0 := HR.out.frozen 0
    have f1 := HR.out.frozen 1
    have f2 := HR.out.frozen 2
    have f3 := HR.out.frozen 3
    obtain ⟨b, off, rfl, hc⟩ := HI.out (by omega)
    have g0 := hc j hj
    have hji : (j : Int) < (x.load.length : Int) := by omega
    have hj0 : (0 : Int) ≤ (j : Int) := by omega
    clear q1 hHB hHI hHL hHR hc hb1
    obtain ⟨y, hyy⟩ : ∃ y, y = x.load[j] := ⟨_, rfl⟩
    rw [← hyy] at g0 N2 N3 hy HST
    clear hyy
    generalize posOf x j = p at *
    have ho : n < 0 ∨ 0 ≤ n ∧ (y < n ∨ n ≤ y) := by omega
    rcases ho with ho | ⟨q3, ho | ho⟩
    · have HN := Lib.hid (N2.out (by omega))
      clear N2 N3 HST
      go_wp2
      refine bodyPost_ret (v := .tuple #[.agg #[.int .i64 0, .int .i64 0, .int .i64 0, .slice none 0 0], .int .i64 2]) ?_ rfl ?_
      · rw [results_cell_tmp rfl]
        go_simp
      · rw [HN.out]
        exact zero_post _ _ _ (four_below HB.out (by omega) _ _ _ _)
    · have HN := Lib.hid (N2.out (by omega))
      clear N2 N3 HST
      go_wp2
      refine bodyPost_ret (v := .tuple #[.agg #[.int .i64 0, .int .i64 0, .int .i64 0, .slice none 0 0], .int .i64 2]) ?_ rfl ?_
      · rw [results_cell_tmp rfl]
        go_simp
      · rw [HN.out]
        exact zero_post _ _ _ (four_below HB.out (by omega) _ _ _ _)
    · have HN := Lib.hid (N3.out ⟨q3, ho⟩)
      clear N2 N3
      go_wp2_with fail
      go_still_tail 9, (by kernel_rfl)
      have kb := (Below.refl w1.heap.size w1).drew
      replace HI := Lib.hid (HI.out.below kb)
      replace HR := Lib.hid (HR.out.below kb)
      replace HB := Lib.hid (HB.out.trans (kb.mono HB.out.size))
      replace r0 := cell_later kb r0
      clear c0 c1 c2 c3 r1 r2 r3 f0 f1 f2 f3 g0 kb HL
      go_wp2_with fail
      refine (HST.out _ HI.out).mono ?_
      rintro e w2 ⟨A2, cc, rfl, hi2, hb2, hfr⟩
      rw [put_val]
      have hsz := World.block_lt_of_cell? _ _ r0
      simp only at hsz
      have HF2 : Hid (Fresh w A2) := Lib.hid fun ad h => Nat.le_trans HB.out.size (hfr ad h)
      have HN2 : Hid (∀ ad, A2 = some ad → ad.block ≠ w.heap.size + 1) := Lib.hid fun ad h => by have := hfr ad h; omega
      have HB2 := Lib.hid (HB.out.trans (hb2.mono HB.out.size))
      have hR2 := HR.out.below hb2
      have s0 := hR2.cell 0 (v := .int .i64 0) rfl
      have s1 := hR2.cell 1 (v := .int .i64 0) rfl
      have s2 := hR2.cell 2 (v := .int .i64 0) rfl
      have s3 := hR2.cell 3 (v := .slice none 0 0) rfl
      have k0 := hR2.frozen 0
      have k1 := hR2.frozen 1
      have k2 := hR2.frozen 2
      have k3 := hR2.frozen 3
      have HI2 := Lib.hid hi2
      clear hi2 hfr hR2 hb2 r0 HST HB HI HR
      go_wp2
      refine bodyPost_ret (v := .tuple #[.agg #[.int .i64 x.loop, .int .i64 x.spacing, .int .i64 x.offset, .slice A2 x.load.length cc], .int .i64 0]) ?_ rfl ?_
      · rw [results_cell_tmp rfl]
        go_simp
      · rw [HN.out]
        exact put_out HB2.out (by omega) HI2.out HN2.out HF2.out _ _ _ _
  · have HN := Lib.hid (take_none (n := n) hi)
    have ha : atOf x i = -1 := by unfold atOf; rw [if_neg hi]
    rw [ha] at q1
    clear ha hf HPB hi
    unfold Line.val at *
    go_enter Try.func29, Try.ntmps29
    go_wp2_with fail
    refine (q1 _).out.mono ?_
    rintro e w1 ⟨rfl, hb1⟩
    have HB := Lib.hid (hHB.out.trans (hb1.mono hHB.out.size))
    have HI := Lib.hid (hHI.out.below hb1)
    have HL := Lib.hid (hHL.out.below hb1)
    have HR := Lib.hid (hHR.out.below hb1)
    obtain ⟨c0, c1, c2, c3⟩ := LineAt.cells HL.out
    have r0 := HR.out.cell 0 (v := .int .i64 0) rfl
    have r1 := HR.out.cell 1 (v := .int .i64 0) rfl
    have r2 := HR.out.cell 2 (v := .int .i64 0) rfl
    have r3 := HR.out.cell 3 (v := .slice none 0 0) rfl
    have f0 := HR.out.frozen 0
    have f1 := HR.out.frozen 1
    have f2 := HR.out.frozen 2
    have f3 := HR.out.frozen 3
    clear q1 hHB hHI hHL hHR hb1
    go_wp2
    refine bodyPost_ret (v := .tuple #[.agg #[.int .i64 0, .int .i64 0, .int .i64 0, .slice none 0 0], .int .i64 8]) ?_ rfl ?_
    · rw [results_cell_tmp rfl]
      go_simp
    · rw [HN.out]
      exact zero_post _ _ _ (four_below HB.out (by omega) _ _ _ _)
end Go.Proofs.Ytdddfajchkmehaa
