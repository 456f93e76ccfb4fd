/- Contracts: Load and Take (both). -/
import Derived.Test.YtdddfajchkmehaaW7
namespace Go.Proofs.Ytdddfajchkmehaa
open Go.RowKit Go.Deep
set_option linter.unusedVariables false
set_option linter.unusedSimpArgs false
theorem load_none {x : Line} {i n seats : Int} (h : ¬ (0 ≤ i ∧ i < (x.load.length : Int))) : loadOf x i n seats = (Line.zero, 8) := by unfold loadOf; rw [if_neg h]
theorem load_state {x : Line} {j : Nat} {n seats : Int} (hj : j < x.load.length) (h : ¬ (posOf x j < x.spacing ∧ posOf x j < x.loop / 2 ∧ x.load[j] = 0)) : loadOf x j n seats = (Line.zero, 10) := by
  unfold loadOf
  rw [if_pos ⟨by omega, by omega⟩, Int.toNat_natCast, getD_at hj, if_neg h]
theorem load_range {x : Line} {j : Nat} {n seats : Int} (hj : j < x.load.length) (h : posOf x j < x.spacing ∧ posOf x j < x.loop / 2 ∧ x.load[j] = 0) (h2 : ¬ (0 ≤ n ∧ n ≤ seats ∧ seats ≤ 16)) : loadOf x j n seats = (Line.zero, 2) := by
  unfold loadOf
  rw [if_pos ⟨by omega, by omega⟩, Int.toNat_natCast, getD_at hj, if_pos h, if_neg h2]
theorem load_yes {x : Line} {j : Nat} {n seats : Int} (hj : j < x.load.length) (h : posOf x j < x.spacing ∧ posOf x j < x.loop / 2 ∧ x.load[j] = 0) (h2 : 0 ≤ n ∧ n ≤ seats ∧ seats ≤ 16) : loadOf x j n seats = (putL x j n, 0) := by
  unfold loadOf
  rw [if_pos ⟨by omega, by omega⟩, Int.toNat_natCast, getD_at hj, if_pos h, if_pos h2]
theorem take_none {x : Line} {i n : Int} (h : ¬ (0 ≤ i ∧ i < (x.load.length : Int))) : takeOf x i n = (Line.zero, 8) := by unfold takeOf; rw [if_neg h]
theorem take_range {x : Line} {j : Nat} {n : Int} (hj : j < x.load.length) (h : ¬ (0 ≤ n ∧ n ≤ x.load[j])) : takeOf x j n = (Line.zero, 2) := by
  unfold takeOf
  rw [if_pos ⟨by omega, by omega⟩, Int.toNat_natCast, getD_at hj, if_neg h]
theorem take_yes {x : Line} {j : Nat} {n : Int} (hj : j < x.load.length) (h : 0 ≤ n ∧ n ≤ x.load[j]) : takeOf x j n = (putL x j (x.load[j] - n), 0) := by
  unfold takeOf
  rw [if_pos ⟨by omega, by omega⟩, Int.toNat_natCast, getD_at hj, if_pos h]
theorem four_below {w W : World} {B : Nat} (h : Below w.heap.size w W) (hB : w.heap.size ≤ B) (u0 u1 u2 u3 : Value) : Below w.heap.size w ((((W.setCell ⟨B, 0, none⟩ u0).setCell ⟨B, 1, none⟩ u1).setCell ⟨B, 2, none⟩ u2).setCell ⟨B, 3, none⟩ u3) :=
  (((h.setCell (p := ⟨B, 0, none⟩) hB _).setCell (p := ⟨B, 1, none⟩) hB _).setCell (p := ⟨B, 2, none⟩) hB _).setCell (p := ⟨B, 3, none⟩) hB _
theorem four_ints {W : World} {A : Option Addr} {l : List Int} {B : Nat} (h : Ints W A l) (hne : ∀ ad, A = some ad → ad.block ≠ B) (u0 u1 u2 u3 : Value) : Ints ((((W.setCell ⟨B, 0, none⟩ u0).setCell ⟨B, 1, none⟩ u1).setCell ⟨B, 2, none⟩ u2).setCell ⟨B, 3, none⟩ u3) A l :=
  (((h.far ⟨B, 0, none⟩ _ hne).far ⟨B, 1, none⟩ _ hne).far ⟨B, 2, none⟩ _ hne).far ⟨B, 3, none⟩ _ hne
theorem four_out {w W : World} {B : Nat} {x : Line} {A : Option Addr} {c : Nat} {e : Int} (h : Below w.heap.size w W) (hB : w.heap.size ≤ B) (hI : Ints W A x.load) (hne : ∀ ad, A = some ad → ad.block ≠ B) (hfr : Fresh w A) (u0 u1 u2 u3 : Value) :
    LinePost w (x, e) (.returned (.tuple #[.agg #[.int .i64 x.loop, .int .i64 x.spacing, .int .i64 x.offset, .slice A x.load.length c], .int .i64 e])) ((((W.setCell ⟨B, 0, none⟩ u0).setCell ⟨B, 1, none⟩ u1).setCell ⟨B, 2, none⟩ u2).setCell ⟨B, 3, none⟩ u3) :=
  ⟨A, c, rfl, four_ints hI hne _ _ _ _, four_below h hB _ _ _ _, hfr⟩
theorem put_out {w W : World} {B : Nat} {x : Line} {j : Nat} {n : Int} {A : Option Addr} {c : Nat} {e : Int} (h : Below w.heap.size w W) (hB : w.heap.size ≤ B) (hI : Ints W A (putL x j n).load) (hne : ∀ ad, A = some ad → ad.block ≠ B) (hfr : Fresh w A) (u0 u1 u2 u3 : Value) :
    LinePost w (putL x j n, e) (.returned (.tuple #[.agg #[.int .i64 x.loop, .int .i64 x.spacing, .int .i64 x.offset, .slice A x.load.length c], .int .i64 e])) ((((W.setCell ⟨B, 0, none⟩ u0).setCell ⟨B, 1, none⟩ u1).setCell ⟨B, 2, none⟩ u2).setCell ⟨B, 3, none⟩ u3) :=
  ⟨A, c, by simp [putL, Line.val], four_ints hI hne _ _ _ _, four_below h hB _ _ _ _, hfr⟩
theorem put_val (x : Line) (j : Nat) (n : Int) (A : Option Addr) (c : Nat) : (putL x j n).val A c = .agg #[.int .i64 x.loop, .int .i64 x.spacing, .int .i64 x.offset, .slice A x.load.length c] := by simp [putL, Line.val]
set_option maxHeartbeats 4000000 in
theorem refLoad_any (x : Line) (A : Option Addr) (c : Nat) (i n seats : Int) (hs : x.shape) (hf : fit x.load 1000000) (w : World) (h : Ints w A x.load) : Calls Try.prog 27 #[x.val A c, .int .i64 i, .int .i64 n, .int .i64 seats] w (LinePost w (loadOf x i n seats)) := by
  have hn : x.load.length ≤ 200 := hs.2.2.2.1
  have hHB := Lib.hid ((below_alloc w (.cells #[.int .i64 x.loop, .int .i64 x.spacing, .int .i64 x.offset, .slice A x.load.length c] 27)).alloc (below_alloc w _).size (.cells #[.int .i64 0, .int .i64 0, .int .i64 0, .slice none 0 0] 27))
  have hHI := Lib.hid (h.below hHB.out)
  have hHL := Lib.hid ((Blk.new w #[.int .i64 x.loop, .int .i64 x.spacing, .int .i64 x.offset, .slice A x.load.length c] 27).alloc (.cells #[.int .i64 0, .int .i64 0, .int .i64 0, .slice none 0 0] 27))
  have hR := Blk.new (w.alloc (.cells #[.int .i64 x.loop, .int .i64 x.spacing, .int .i64 x.offset, .slice A x.load.length c] 27)) #[.int .i64 0, .int .i64 0, .int .i64 0, .slice none 0 0] 27
  rw [World.size_alloc] at hR
  have hHR := Lib.hid hR
  have hlb := shape_bd hs
  have HPB := Lib.hid (fun i => pos_bd hs i)
  have HS := Lib.hid hs
  clear hR h hs
  have q1 := fun W => Lib.hid (refAt_any x A c i HS.out W)
  by_cases hi : 0 ≤ i ∧ i < (x.load.length : Int)
  · obtain ⟨j, rfl⟩ : ∃ j : Nat, i = j := ⟨i.toNat, by omega⟩
    have hj : j < x.load.length := by omega
    have ha : atOf x (j : Int) = posOf x j := by unfold atOf; rw [if_pos hi]; rfl
    rw [ha] at q1
    have hpb := HPB.out j
    have hy := hf x.load[j] (List.getElem_mem hj)
    have N1 := Lib.hid (fun h => load_state (n := n) (seats := seats) hj h)
    have N2 := Lib.hid (fun h h2 => load_range (n := n) (seats := seats) hj h h2)
    have N3 := Lib.hid (fun h h2 => load_yes (n := n) (seats := seats) hj h h2)
    have HST := Lib.hid (fun W hW => set_any x A c j n hj (by omega) W hW)
    have HF := Lib.hid hf
    clear ha hf HPB hi
    unfold Line.val at *
    go_enter Try.func27, Try.ntmps27
    go_wp2_with fail
    refine (q1 _).out.mono ?_
    rintro e w1 ⟨rfl, hb1⟩
    have HB := Lib.hid (hHB.out.trans (hb1.mono hHB.out.size))
    have HI := Lib.hid (hHI.out.below hb1)
    have HL := Lib.hid (hHL.out.below hb1)
    have HR := Lib.hid (hHR.out.below hb1)
    obtain ⟨c0, c1, c2, c3⟩ := LineAt.cells HL.out
    have r0 := HR.out.cell 0 (v := .int .i64 0) rfl
    have r1 := HR.out.cell 1 (v := .int .i64 0) rfl
    have r2 := HR.out.cell 2 (v := .int .i64 0) rfl
    have r3 := HR.out.cell 3 (v := .slice none 0 0) rfl
    have f0 := HR.out.frozen 0
    have f1 := HR.out.frozen 1
    have f2 := HR.out.frozen 2
    have f3 := HR.out.frozen 3
    obtain ⟨b, off, rfl, hc⟩ := HI.out (by omega)
    have g0 := hc j hj
    have hji : (j : Int) < (x.load.length : Int) := by omega
    have hj0 : (0 : Int) ≤ (j : Int) := by omega
    clear q1 hHB hHI hHL hHR hc hb1
    obtain ⟨y, hyy⟩ : ∃ y, y = x.load[j] := ⟨_, rfl⟩
    rw [← hyy] at g0 N1 N2 N3 hy
    clear hyy
    generalize posOf x j = p at *
    have ho : x.spacing ≤ p ∨ p < x.spacing ∧ (x.loop / 2 ≤ p ∨ p < x.loop / 2 ∧ (y ≠ 0 ∨ y = 0)) := by omega
    rcases ho with ho | ⟨q1, ho | ⟨q2, ho | ho⟩⟩
    · have HN := Lib.hid (N1.out (by omega))
      clear N1 N2 N3 HST
      go_wp2
      refine bodyPost_ret (v := .tuple #[.agg #[.int .i64 0, .int .i64 0, .int .i64 0, .slice none 0 0], .int .i64 10]) ?_ rfl ?_
      · rw [results_cell_tmp rfl]
        go_simp
      · rw [HN.out]
        exact zero_post _ _ _ (four_below HB.out (by omega) _ _ _ _)
    · have HN := Lib.hid (N1.out (by omega))
      clear N1 N2 N3 HST
      go_wp2
      refine bodyPost_ret (v := .tuple #[.agg #[.int .i64 0, .int .i64 0, .int .i64 0, .slice none 0 0], .int .i64 10]) ?_ rfl ?_
      · rw [results_cell_tmp rfl]
        go_simp
      · rw [HN.out]
        exact zero_post _ _ _ (four_below HB.out (by omega) _ _ _ _)
    · have HN := Lib.hid (N1.out (by omega))
      have hyb : (y != 0) = true := by simpa using ho
      clear N1 N2 N3 HST
      go_wp2
      refine bodyPost_ret (v := .tuple #[.agg #[.int .i64 0, .int .i64 0, .int .i64 0, .slice none 0 0], .int .i64 10]) ?_ rfl ?_
      · rw [results_cell_tmp rfl]
        go_simp
      · rw [HN.out]
        exact zero_post _ _ _ (four_below HB.out (by omega) _ _ _ _)
    · have N4 := Lib.hid (fun h => N2.out ⟨q1, q2, ho⟩ h)
      have N5 := Lib.hid (fun h => N3.out ⟨q1, q2, ho⟩ h)
      subst ho
      clear N1 N2 N3
      have ho : n < 0 ∨ 0 ≤ n ∧ (seats < n ∨ n ≤ seats ∧ (16 < seats ∨ seats ≤ 16)) := by omega
      rcases ho with ho | ⟨q3, ho | ⟨q4, ho | ho⟩⟩
      · have HN := Lib.hid (N4.out (by omega))
        clear N4 N5 HST
        go_wp2
        refine bodyPost_ret (v := .tuple #[.agg #[.int .i64 0, .int .i64 0, .int .i64 0, .slice none 0 0], .int .i64 2]) ?_ rfl ?_
        · rw [results_cell_tmp rfl]
          go_simp
        · rw [HN.out]
          exact zero_post _ _ _ (four_below HB.out (by omega) _ _ _ _)
      · have HN := Lib.hid (N4.out (by omega))
        clear N4 N5 HST
        go_wp2
        refine bodyPost_ret (v := .tuple #[.agg #[.int .i64 0, .int .i64 0, .int .i64 0, .slice none 0 0], .int .i64 2]) ?_ rfl ?_
        · rw [results_cell_tmp rfl]
          go_simp
        · rw [HN.out]
          exact zero_post _ _ _ (four_below HB.out (by omega) _ _ _ _)
      · have HN := Lib.hid (N4.out (by omega))
        clear N4 N5 HST
        go_wp2
        refine bodyPost_ret (v := .tuple #[.agg #[.int .i64 0, .int .i64 0, .int .i64 0, .slice none 0 0], .int .i64 2]) ?_ rfl ?_
        · rw [results_cell_tmp rfl]
          go_simp
        · rw [HN.out]
          exact zero_post _ _ _ (four_below HB.out (by omega) _ _ _ _)
      · have HN := Lib.hid (N5.out ⟨q3, q4, ho⟩)
        clear N4 N5
        go_wp2_with fail
        refine (HST.out _ HI.out).mono ?_
        rintro e w2 ⟨A2, cc, rfl, hi2, hb2, hfr⟩
        rw [put_val]
        have hsz := World.block_lt_of_cell? _ _ r0
        simp only at hsz
        have HF2 : Hid (Fresh w A2) := Lib.hid fun ad h => Nat.le_trans HB.out.size (hfr ad h)
        have HN2 : Hid (∀ ad, A2 = some ad → ad.block ≠ w.heap.size + 1) := Lib.hid fun ad h => by have := hfr ad h; omega
        have HB2 := Lib.hid (HB.out.trans (hb2.mono HB.out.size))
        have hR2 := HR.out.below hb2
        have s0 := hR2.cell 0 (v := .int .i64 0) rfl
        have s1 := hR2.cell 1 (v := .int .i64 0) rfl
        have s2 := hR2.cell 2 (v := .int .i64 0) rfl
        have s3 := hR2.cell 3 (v := .slice none 0 0) rfl
        have k0 := hR2.frozen 0
        have k1 := hR2.frozen 1
        have k2 := hR2.frozen 2
        have k3 := hR2.frozen 3
        have HI2 := Lib.hid hi2
        clear hi2 hfr hR2 hb2 c0 c1 c2 c3 r0 r1 r2 r3 f0 f1 f2 f3 HST HB HI HL HR
        go_wp2
        refine bodyPost_ret (v := .tuple #[.agg #[.int .i64 x.loop, .int .i64 x.spacing, .int .i64 x.offset, .slice A2 x.load.length cc], .int .i64 0]) ?_ rfl ?_
        · rw [results_cell_tmp rfl]
          go_simp
        · rw [HN.out]
          exact put_out HB2.out (by omega) HI2.out HN2.out HF2.out _ _ _ _
  · have HN := Lib.hid (load_none (n := n) (seats := seats) hi)
    have ha : atOf x i = -1 := by unfold atOf; rw [if_neg hi]
    rw [ha] at q1
    clear ha hf HPB hi
    unfold Line.val at *
    go_enter Try.func27, Try.ntmps27
    go_wp2_with fail
    refine (q1 _).out.mono ?_
    rintro e w1 ⟨rfl, hb1⟩
    have HB := Lib.hid (hHB.out.trans (hb1.mono hHB.out.size))
    have HI := Lib.hid (hHI.out.below hb1)
    have HL := Lib.hid (hHL.out.below hb1)
    have HR := Lib.hid (hHR.out.below hb1)
    obtain ⟨c0, c1, c2, c3⟩ := LineAt.cells HL.out
    have r0 := HR.out.cell 0 (v := .int .i64 0) rfl
    have r1 := HR.out.cell 1 (v := .int .i64 0) rfl
    have r2 := HR.out.cell 2 (v := .int .i64 0) rfl
    have r3 := HR.out.cell 3 (v := .slice none 0 0) rfl
    have f0 := HR.out.frozen 0
    have f1 := HR.out.frozen 1
    have f2 := HR.out.frozen 2
    have f3 := HR.out.frozen 3
    clear q1 hHB hHI hHL hHR hb1
    go_wp2
    refine bodyPost_ret (v := .tuple #[.agg #[.int .i64 0, .int .i64 0, .int .i64 0, .slice none 0 0], .int .i64 8]) ?_ rfl ?_
    · rw [results_cell_tmp rfl]
      go_simp
    · rw [HN.out]
      exact zero_post _ _ _ (four_below HB.out (by omega) _ _ _ _)
end Go.Proofs.Ytdddfajchkmehaa
