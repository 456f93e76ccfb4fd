/- Contracts: Load. -/
import Derived.Test.YtdddfajchkmehaaW9
namespace Go.Proofs.Ytdddfajchkmehaa
open Go.RowKit Go.Deep
set_option linter.unusedVariables false
set_option linter.unusedSimpArgs false
theorem grown_set (w : World) (a : Addr) (u : Value) : w.grownBy (w.setCell a u) (some a.block) :=
  ⟨rfl, rfl, rfl, by simp, fun k _ hk => Below.heap_setCell w a u k (fun e => hk (by rw [e]))⟩
theorem OwnI.far {w : World} {B : Nat} {v : Value} {l : List Int} (h : OwnI w B 3 v l) (p : Addr) (u : Value) (hne : v.ownBlock ≠ some p.block) : OwnI (w.setCell p u) B 3 v l :=
  World.ownsRow.kept h (grown_set w p u) (.inr hne)
set_option maxHeartbeats 4000000 in
theorem Load_any (x : Line) (A : Option Addr) (c : Nat) (i n seats : Int) (hs : x.shape) (hf : fit x.load 1000000) (w : World) (h : Ints w A x.load) : Calls Try.prog 26 #[x.val A c, .int .i64 i, .int .i64 n, .int .i64 seats] w (LinePost w (loadOf x i n seats)) := by
  have hn : x.load.length ≤ 200 := hs.2.2.2.1
  have hHB := Lib.hid ((below_alloc w (.cells #[.int .i64 x.loop, .int .i64 x.spacing, .int .i64 x.offset, .slice A x.load.length c] 27)).alloc (below_alloc w _).size (.cells #[.int .i64 0, .int .i64 0, .int .i64 0, .slice none 0 0] 27))
  have hHI := Lib.hid (h.below hHB.out)
  have hHL := Lib.hid ((Blk.new w #[.int .i64 x.loop, .int .i64 x.spacing, .int .i64 x.offset, .slice A x.load.length c] 27).alloc (.cells #[.int .i64 0, .int .i64 0, .int .i64 0, .slice none 0 0] 27))
  have hR := Blk.new (w.alloc (.cells #[.int .i64 x.loop, .int .i64 x.spacing, .int .i64 x.offset, .slice A x.load.length c] 27)) #[.int .i64 0, .int .i64 0, .int .i64 0, .slice none 0 0] 27
  rw [World.size_alloc] at hR
  have hHR := Lib.hid hR
  have hlb := shape_bd hs
  have HPB := Lib.hid (fun i => pos_bd hs i)
  have HS := Lib.hid hs
  clear hR h hs
  have q1 := fun W => Lib.hid (exists_any x A c i (by omega) W)
  by_cases hi : 0 ≤ i ∧ i < (x.load.length : Int)
  · have hd : decide (0 ≤ i ∧ i < (x.load.length : Int)) = true := by simpa using hi
    obtain ⟨j, rfl⟩ : ∃ j : Nat, i = j := ⟨i.toNat, by omega⟩
    have hj : j < x.load.length := by omega
    rw [hd] at q1
    have hpb := HPB.out j
    have hy := hf x.load[j] (List.getElem_mem hj)
    have hcl := fun W hW => Lib.hid (Clone_any A c x.load W (by omega) hW)
    have q2 := fun W => Lib.hid (position_any x A c j HS.out (by omega) W)
    have N1 := Lib.hid (fun h => load_state (n := n) (seats := seats) hj h)
    have N2 := Lib.hid (fun h h2 => load_range (n := n) (seats := seats) hj h h2)
    have N3 := Lib.hid (fun h h2 => load_yes (n := n) (seats := seats) hj h h2)
    have HF := Lib.hid hf
    clear hd hf HPB hi
    unfold Line.val at *
    go_enter Try.func26, Try.ntmps26
    go_wp2_with fail
    refine (q1 _).out.mono ?_
    rintro e w1 ⟨rfl, hb1⟩
    have HB := Lib.hid (hHB.out.trans (hb1.mono hHB.out.size))
    have HI := Lib.hid (hHI.out.below hb1)
    have HL := Lib.hid (hHL.out.below hb1)
    have HR := Lib.hid (hHR.out.below hb1)
    obtain ⟨c0, c1, c2, c3⟩ := LineAt.cells HL.out
    clear hb1
    go_wp2_with fail
    refine (q2 _).out.mono ?_
    rintro e w2 ⟨rfl, hb2⟩
    replace HB := Lib.hid (HB.out.trans (hb2.mono HB.out.size))
    replace HI := Lib.hid (HI.out.below hb2)
    replace HL := Lib.hid (HL.out.below hb2)
    replace HR := Lib.hid (HR.out.below hb2)
    clear hb2 c0 c1 c2 c3
    obtain ⟨c0, c1, c2, c3⟩ := LineAt.cells HL.out
    have r0 := HR.out.cell 0 (v := .int .i64 0) rfl
    have r1 := HR.out.cell 1 (v := .int .i64 0) rfl
    have r2 := HR.out.cell 2 (v := .int .i64 0) rfl
    have r3 := HR.out.cell 3 (v := .slice none 0 0) rfl
    have f0 := HR.out.frozen 0
    have f1 := HR.out.frozen 1
    have f2 := HR.out.frozen 2
    have f3 := HR.out.frozen 3
    obtain ⟨b, off, rfl, hc⟩ := HI.out (by omega)
    have g0 := hc j hj
    have hji : (j : Int) < (x.load.length : Int) := by omega
    have hj0 : (0 : Int) ≤ (j : Int) := by omega
    clear q1 q2 hHB hHI hHL hHR hc
    obtain ⟨y, hyy⟩ : ∃ y, y = x.load[j] := ⟨_, rfl⟩
    rw [← hyy] at g0 N1 N2 N3 hy
    generalize posOf x j = p at *
    have ho : x.spacing ≤ p ∨ p < x.spacing ∧ (x.loop / 2 ≤ p ∨ p < x.loop / 2 ∧ (y ≠ 0 ∨ y = 0)) := by omega
    rcases ho with ho | ⟨q1, ho | ⟨q2, ho | ho⟩⟩
    · have HN := Lib.hid (N1.out (by omega))
      clear N1 N2 N3 hyy
      go_wp2
      refine bodyPost_ret (v := .tuple #[.agg #[.int .i64 0, .int .i64 0, .int .i64 0, .slice none 0 0], .int .i64 10]) ?_ rfl ?_
      · rw [results_cell_tmp rfl]
        go_simp
      · rw [HN.out]
        exact zero_post _ _ _ (four_below HB.out (by omega) _ _ _ _)
    · have HN := Lib.hid (N1.out (by omega))
      clear N1 N2 N3 hyy
      go_wp2
      refine bodyPost_ret (v := .tuple #[.agg #[.int .i64 0, .int .i64 0, .int .i64 0, .slice none 0 0], .int .i64 10]) ?_ rfl ?_
      · rw [results_cell_tmp rfl]
        go_simp
      · rw [HN.out]
        exact zero_post _ _ _ (four_below HB.out (by omega) _ _ _ _)
    · have HN := Lib.hid (N1.out (by omega))
      have hyb : (y != 0) = true := by simpa using ho
      clear N1 N2 N3 hyy
      go_wp2
      refine bodyPost_ret (v := .tuple #[.agg #[.int .i64 0, .int .i64 0, .int .i64 0, .slice none 0 0], .int .i64 10]) ?_ rfl ?_
      · rw [results_cell_tmp rfl]
        go_simp
      · rw [HN.out]
        exact zero_post _ _ _ (four_below HB.out (by omega) _ _ _ _)
    · have N4 := Lib.hid (fun h => N2.out ⟨q1, q2, ho⟩ h)
      have N5 := Lib.hid (fun h => N3.out ⟨q1, q2, ho⟩ h)
      have HYY := Lib.hid hyy
      clear hyy
      subst ho
      clear N1 N2 N3
      have ho : n < 0 ∨ 0 ≤ n ∧ (seats < n ∨ n ≤ seats ∧ (16 < seats ∨ seats ≤ 16)) := by omega
      rcases ho with ho | ⟨q3, ho | ⟨q4, ho | ho⟩⟩
      · have HN := Lib.hid (N4.out (by omega))
        clear N4 N5
        go_wp2
        refine bodyPost_ret (v := .tuple #[.agg #[.int .i64 0, .int .i64 0, .int .i64 0, .slice none 0 0], .int .i64 2]) ?_ rfl ?_
        · rw [results_cell_tmp rfl]
          go_simp
        · rw [HN.out]
          exact zero_post _ _ _ (four_below HB.out (by omega) _ _ _ _)
      · have HN := Lib.hid (N4.out (by omega))
        clear N4 N5
        go_wp2
        refine bodyPost_ret (v := .tuple #[.agg #[.int .i64 0, .int .i64 0, .int .i64 0, .slice none 0 0], .int .i64 2]) ?_ rfl ?_
        · rw [results_cell_tmp rfl]
          go_simp
        · rw [HN.out]
          exact zero_post _ _ _ (four_below HB.out (by omega) _ _ _ _)
      · have HN := Lib.hid (N4.out (by omega))
        clear N4 N5
        go_wp2
        refine bodyPost_ret (v := .tuple #[.agg #[.int .i64 0, .int .i64 0, .int .i64 0, .slice none 0 0], .int .i64 2]) ?_ rfl ?_
        · rw [results_cell_tmp rfl]
          go_simp
        · rw [HN.out]
          exact zero_post _ _ _ (four_below HB.out (by omega) _ _ _ _)
      · have HN := Lib.hid (N5.out ⟨q3, q4, ho⟩)
        clear N4 N5
        go_wp2_with fail
        refine (hcl _ HI.out).out.mono ?_
        rintro e w3 ⟨v3, rfl, hown, hb3⟩
        obtain ⟨g, cg, rfl, hgB, ho3⟩ := hown.some_ (by omega)
        have hsz := World.block_lt_of_cell? _ _ r0
        simp only at hsz
        obtain ⟨o1, o2⟩ := ho3.at_ hj
        rw [← HYY.out] at o1
        have HB3 := HB.out.trans (hb3.mono HB.out.size)
        have hL3 := HL.out.below hb3
        have hR3 := HR.out.below hb3
        obtain ⟨k0, k1, k2, k3⟩ := LineAt.cells hL3
        have kf := Blk.frozen hL3 3
        have s0 := hR3.cell 0 (v := .int .i64 0) rfl
        have s1 := hR3.cell 1 (v := .int .i64 0) rfl
        have s2 := hR3.cell 2 (v := .int .i64 0) rfl
        have s3 := hR3.cell 3 (v := .slice none 0 0) rfl
        have t0 := hR3.frozen 0
        have t1 := hR3.frozen 1
        have t2 := hR3.frozen 2
        have t3 := hR3.frozen 3
        have ho4 := ho3.far ⟨w.heap.size, 3, none⟩ (.slice (some ⟨g, 0, none⟩) x.load.length cg) (by simp [Value.ownBlock]; omega)
        have ho5 := (ho4.put j n).1.ints.1
        have hB5 := (HB3.setCell (p := ⟨w.heap.size, 3, none⟩) (Nat.le_refl _) (.slice (some ⟨g, 0, none⟩) x.load.length cg)).setCell (p := ⟨g, j, none⟩) (Nat.le_trans (by omega) hgB) (.int .i64 n)
        have HI5 := Lib.hid ho5
        have HB5 := Lib.hid hB5
        have m1 : g ≠ w.heap.size := by omega
        have m2 : g ≠ w.heap.size + 1 := by omega
        have m3 : w.heap.size ≠ g := by omega
        have m4 : w.heap.size + 1 ≠ g := by omega
        clear ho4 ho5 hB5 hown hb3 ho3 HB3 hL3 hR3 c0 c1 c2 c3 r0 r1 r2 r3 f0 f1 f2 f3 g0 HB HI HL HR hcl
        go_wp2
        refine bodyPost_ret (v := .tuple #[.agg #[.int .i64 x.loop, .int .i64 x.spacing, .int .i64 x.offset, .slice (some ⟨g, 0, none⟩) x.load.length cg], .int .i64 0]) ?_ rfl ?_
        · rw [results_cell_tmp rfl]
          go_simp
        · rw [HN.out]
          exact put_out HB5.out (by omega) HI5.out (fun ad h => by cases h; exact m2) (fun ad h => by cases h; show w.heap.size ≤ g; omega) _ _ _ _
  · have HN := Lib.hid (load_none (n := n) (seats := seats) hi)
    have hd : decide (0 ≤ i ∧ i < (x.load.length : Int)) = false := by simpa using hi
    rw [hd] at q1
    clear hd hf HPB hi
    unfold Line.val at *
    go_enter Try.func26, Try.ntmps26
    go_wp2_with fail
    refine (q1 _).out.mono ?_
    rintro e w1 ⟨rfl, hb1⟩
    have HB := Lib.hid (hHB.out.trans (hb1.mono hHB.out.size))
    have HI := Lib.hid (hHI.out.below hb1)
    have HL := Lib.hid (hHL.out.below hb1)
    have HR := Lib.hid (hHR.out.below hb1)
    obtain ⟨c0, c1, c2, c3⟩ := LineAt.cells HL.out
    have r0 := HR.out.cell 0 (v := .int .i64 0) rfl
    have r1 := HR.out.cell 1 (v := .int .i64 0) rfl
    have r2 := HR.out.cell 2 (v := .int .i64 0) rfl
    have r3 := HR.out.cell 3 (v := .slice none 0 0) rfl
    have f0 := HR.out.frozen 0
    have f1 := HR.out.frozen 1
    have f2 := HR.out.frozen 2
    have f3 := HR.out.frozen 3
    clear q1 hHB hHI hHL hHR hb1
    go_wp2
    refine bodyPost_ret (v := .tuple #[.agg #[.int .i64 0, .int .i64 0, .int .i64 0, .slice none 0 0], .int .i64 8]) ?_ rfl ?_
    · rw [results_cell_tmp rfl]
      go_simp
    · rw [HN.out]
      exact zero_post _ _ _ (four_below HB.out (by omega) _ _ _ _)
end Go.Proofs.Ytdddfajchkmehaa
