/- Contracts: set, the reference's Load and Take. -/
import Derived.Test.YtdddfajchkmehaaW6
namespace Go.Proofs.Ytdddfajchkmehaa
open Go.RowKit Go.Deep
set_option linter.unusedVariables false
set_option linter.unusedSimpArgs false
theorem Blk.far {W : World} {B : Nat} {cs : Array Value} {t : TypeId} (h : Blk W B cs t) (p : Addr) (u : Value) (hne : B ≠ p.block) : Blk (W.setCell p u) B cs t := (Below.heap_setCell W p u B hne).trans h
theorem set_size (W : World) (p : Addr) (u : Value) : (W.setCell p u).heap.size = W.heap.size := by simp
set_option maxHeartbeats 4000000 in
theorem set_any (x : Line) (A : Option Addr) (c i : Nat) (n : Int) (hi : i < x.load.length) (hm : x.load.length ≤ 1000000) (w : World) (h : Ints w A x.load) : Calls Try.prog 34 #[x.val A c, .int .i64 i, .int .i64 n] w (LineOut w (putL x i n)) := by
  have hb0 := (below_alloc w (.cells #[.int .i64 x.loop, .int .i64 x.spacing, .int .i64 x.offset, .slice A x.load.length c] 27)).alloc (below_alloc w _).size (.cells #[.int .i64 0, .int .i64 0, .int .i64 0, .slice none 0 0] 27)
  have hI := h.below hb0
  have hL := (Blk.new w #[.int .i64 x.loop, .int .i64 x.spacing, .int .i64 x.offset, .slice A x.load.length c] 27).alloc (.cells #[.int .i64 0, .int .i64 0, .int .i64 0, .slice none 0 0] 27)
  have hR := Blk.new (w.alloc (.cells #[.int .i64 x.loop, .int .i64 x.spacing, .int .i64 x.offset, .slice A x.load.length c] 27)) #[.int .i64 0, .int .i64 0, .int .i64 0, .slice none 0 0] 27
  rw [World.size_alloc] at hR
  have hz : ((w.alloc (.cells #[.int .i64 x.loop, .int .i64 x.spacing, .int .i64 x.offset, .slice A x.load.length c] 27)).alloc (.cells #[.int .i64 0, .int .i64 0, .int .i64 0, .slice none 0 0] 27)).heap.size = w.heap.size + 2 := by simp
  have hHI := Lib.hid hI
  have hHL := Lib.hid hL
  have hHR := Lib.hid hR
  have hHZ := Lib.hid hz
  have hHB := Lib.hid hb0
  clear hI hL hR hz hb0 h
  unfold Line.val
  go_enter Try.func34, Try.ntmps34
  go_wp2_with (at_builtin; refine wpList_cat _ _ (by rfl) (.tmp 8) (.tmp 10) 25 (by rfl) (w.heap.size + 2) 3 Try.underlying25 info3 (.slice none 0 0) [] (by rfl) (OwnI.nil _ _ _) A c x.load (by rfl) hHI.out (by rw [← hHZ.out]; exact Below.refl _ _) (by simp; omega) (by rw [hHZ.out]; exact Nat.le_refl _) ?_)
  intro v' w3 hown hb3 hg3 _
  obtain ⟨g, cg, rfl, hgB, ho⟩ := hown.some_ (by omega)
  obtain ⟨o1, o2⟩ := ho.at_ hi
  obtain ⟨p1, p2⟩ := ho.put i n
  rw [← hHZ.out] at hb3
  have hL3 := hHL.out.below hb3
  have hR3 := hHR.out.below hb3
  have hB3 := hHB.out.trans (hb3.mono (by rw [hHZ.out]; omega))
  have hL4 := hL3.far ⟨g, i, none⟩ (.int .i64 n) (by simp; omega)
  have hR4 := hR3.far ⟨g, i, none⟩ (.int .i64 n) (by simp; omega)
  have hB4 := hB3.setCell (p := ⟨g, i, none⟩) (by simp; omega) (.int .i64 n)
  have hw := Lib.hid (with_any x A (some ⟨g, 0, none⟩) c x.load.length cg (w3.setCell ⟨g, i, none⟩ (.int .i64 n)))
  obtain ⟨c0, c1, c2, c3⟩ := LineAt.cells hL4
  have P1 := Lib.hid p1
  have HR4 := Lib.hid hR4
  have HB4 := Lib.hid hB4
  have hii : (i : Int) < (x.load.length : Int) := by omega
  have hi0 : (0 : Int) ≤ (i : Int) := by omega
  clear hown hb3 hg3 ho p1 p2 hL3 hR3 hB3 hL4 hR4 hB4 hHI hHL hHR hHZ hHB
  unfold Line.val at hw
  generalize x.load[i] = old at *
  go_wp2_with fail
  refine hw.out.mono ?_
  rintro e w5 ⟨rfl, hb5⟩
  have hR5 := HR4.out.below hb5
  have hB5 := HB4.out.trans (hb5.mono HB4.out.size)
  have hI5 := P1.out.grown hb5
  have r0 := hR5.cell 0 (v := .int .i64 0) rfl
  have r1 := hR5.cell 1 (v := .int .i64 0) rfl
  have r2 := hR5.cell 2 (v := .int .i64 0) rfl
  have r3 := hR5.cell 3 (v := .slice none 0 0) rfl
  have f0 := hR5.frozen 0
  have f1 := hR5.frozen 1
  have f2 := hR5.frozen 2
  have f3 := hR5.frozen 3
  have HB5 := Lib.hid hB5
  have HI5 := Lib.hid hI5.ints.1
  clear c0 c1 c2 c3 hb5 hR5 hB5 hI5 P1 HR4 HB4 hw o1 o2
  go_wp2
  refine bodyPost_ret (v := .agg #[.int .i64 x.loop, .int .i64 x.spacing, .int .i64 x.offset, .slice (some ⟨g, 0, none⟩) x.load.length cg]) ?_ rfl ?_
  · rw [results_cell rfl]
    go_simp
  · refine ⟨some ⟨g, 0, none⟩, cg, by simp [putL, Line.val], ?_, ?_, fun ad h => by cases h; simp; omega⟩
    · exact (((HI5.out.far ⟨w.heap.size + 1, 0, none⟩ _ (by simp; omega)).far ⟨w.heap.size + 1, 1, none⟩ _ (by simp; omega)).far ⟨w.heap.size + 1, 2, none⟩ _ (by simp; omega)).far ⟨w.heap.size + 1, 3, none⟩ _ (by simp; omega)
    · exact ((((HB5.out.setCell (p := ⟨w.heap.size + 1, 0, none⟩) (by simp) _).setCell (p := ⟨w.heap.size + 1, 1, none⟩) (by simp) _).setCell (p := ⟨w.heap.size + 1, 2, none⟩) (by simp) _).setCell (p := ⟨w.heap.size + 1, 3, none⟩) (by simp) _)
end Go.Proofs.Ytdddfajchkmehaa
