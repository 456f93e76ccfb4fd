/- Contracts: position, exists, At (both). -/
import Derived.Test.YtdddfajchkmehaaTypes
namespace Go.Proofs.Ytdddfajchkmehaa
open Go.RowKit
set_option linter.unusedVariables false
set_option linter.unusedSimpArgs false
/-- block B holds just these cells -/
def Blk (W : World) (B : Nat) (cs : Array Value) (t : TypeId) : Prop := W.heap[B]? = some (.cells cs t (0, 0))
theorem Blk.lt {W : World} {B : Nat} {cs : Array Value} {t : TypeId} (h : Blk W B cs t) : B < W.heap.size := (Array.getElem?_eq_some_iff.1 h).1
theorem Blk.cell {W : World} {B : Nat} {cs : Array Value} {t : TypeId} (h : Blk W B cs t) (j : Nat) {v : Value} (hv : cs[j]? = some v) : W.cell? ⟨B, j, none⟩ = some v := by
  rw [cell_of_row _ _ _ _ _ _ h]; exact hv
theorem Blk.frozen {W : World} {B : Nat} {cs : Array Value} {t : TypeId} (h : Blk W B cs t) (j : Nat) : W.frozen? ⟨B, j, none⟩ = false := by
  unfold Blk at h
  simp [World.frozen?, h]
theorem Blk.new (W : World) (cs : Array Value) (t : TypeId) : Blk (W.alloc (.cells cs t)) W.heap.size cs t := heap_alloc_new W _
theorem Blk.kept {W W' : World} {row : Option Nat} {B : Nat} {cs : Array Value} {t : TypeId} (h : Blk W B cs t) (hg : W.grownBy W' row) (hne : some B ≠ row) : Blk W' B cs t := (hg.block B h.lt hne).trans h
theorem Blk.alloc {W : World} {B : Nat} {cs : Array Value} {t : TypeId} (h : Blk W B cs t) (o : Obj) : Blk (W.alloc o) B cs t := h.kept (World.grownBy_alloc W o none) (by simp)
theorem Blk.below {W W' : World} {B : Nat} {cs : Array Value} {t : TypeId} (h : Blk W B cs t) (hb : Below W.heap.size W W') : Blk W' B cs t := (hb.block B h.lt).trans h
/-- block B holds a line -/
def LineAt (W : World) (B : Nat) (x : Line) (A : Option Addr) (c : Nat) : Prop := Blk W B #[.int .i64 x.loop, .int .i64 x.spacing, .int .i64 x.offset, .slice A x.load.length c] 27
theorem LineAt.cells {W : World} {B : Nat} {x : Line} {A : Option Addr} {c : Nat} (h : LineAt W B x A c) : W.cell? ⟨B, 0, none⟩ = some (.int .i64 x.loop) ∧ W.cell? ⟨B, 1, none⟩ = some (.int .i64 x.spacing) ∧ W.cell? ⟨B, 2, none⟩ = some (.int .i64 x.offset) ∧ W.cell? ⟨B, 3, none⟩ = some (.slice A x.load.length c) :=
  ⟨Blk.cell h 0 rfl, Blk.cell h 1 rfl, Blk.cell h 2 rfl, Blk.cell h 3 rfl⟩
theorem LineAt.below {W W' : World} {B : Nat} {x : Line} {A : Option Addr} {c : Nat} (h : LineAt W B x A c) (hb : Below W.heap.size W W') : LineAt W' B x A c := Blk.below h hb
theorem position_any (x : Line) (A : Option Addr) (c : Nat) (i : Nat) (hs : x.shape) (hi : i ≤ 250) (w : World) : Calls Try.prog 30 #[x.val A c, .int .i64 i] w fun e w' => e = .returned (.int .i64 (posOf x i)) ∧ Below w.heap.size w w' := by
  have hl := shape_bd hs
  have hm := mul_bd hs hi
  have ho : 0 ≤ x.offset ∧ x.offset < x.loop := ⟨hs.2.2.2.2.2.2.1, hs.2.2.2.2.2.2.2⟩
  have hl1 : 1 ≤ x.loop := by omega
  have hp : posOf x i = (x.offset + (i : Int) * x.spacing) % x.loop := rfl
  have HP := Lib.hid hp
  clear hp hs
  unfold Line.val
  go_enter Try.func30, Try.ntmps30
  go_wp2
  go_ret
  exact ⟨by rw [HP.out]; rfl, below_alloc _ _⟩
theorem exists_any (x : Line) (A : Option Addr) (c : Nat) (i : Int) (hm : x.load.length ≤ 1000000) (w : World) : Calls Try.prog 31 #[x.val A c, .int .i64 i] w fun e w' => e = .returned (.bool (decide (0 ≤ i ∧ i < (x.load.length : Int)))) ∧ Below w.heap.size w w' := by
  unfold Line.val
  have ho : i < 0 ∨ 0 ≤ i ∧ ((x.load.length : Int) ≤ i ∨ i < (x.load.length : Int)) := by omega
  rcases ho with ho | ⟨h1, h2 | h2⟩
  all_goals
    go_enter Try.func31, Try.ntmps31
    go_wp2
    go_ret
    refine ⟨?_, below_alloc _ _⟩
    congr 2
    first | (symm; simp; done) | (symm; simp; omega) | (simp; omega) | (simp; done)
set_option maxHeartbeats 1000000 in
theorem At_any (x : Line) (A : Option Addr) (c : Nat) (i : Int) (hs : x.shape) (w : World) : Calls Try.prog 18 #[x.val A c, .int .i64 i] w fun e w' => e = .returned (.int .i64 (atOf x i)) ∧ Below w.heap.size w w' := by
  have hn : x.load.length ≤ 200 := hs.2.2.2.1
  have q1 := fun W => Lib.hid (exists_any x A c i (by omega) W)
  have o0 : (w.alloc (.cells #[.int .i64 x.loop, .int .i64 x.spacing, .int .i64 x.offset, .slice A x.load.length c] 27)).cell? ⟨w.heap.size, 0, none⟩ = some (.int .i64 x.loop) := by go_simp
  have hL := LineAt.cells (Blk.new w #[.int .i64 x.loop, .int .i64 x.spacing, .int .i64 x.offset, .slice A x.load.length c] 27)
  have HL := Lib.hid hL
  have hb0 := below_alloc w (.cells #[.int .i64 x.loop, .int .i64 x.spacing, .int .i64 x.offset, .slice A x.load.length c] 27)
  by_cases hi : 0 ≤ i ∧ i < (x.load.length : Int)
  · have hd : decide (0 ≤ i ∧ i < (x.load.length : Int)) = true := by simpa using hi
    have ha : atOf x i = posOf x i.toNat := by unfold atOf; rw [if_pos hi]
    obtain ⟨j, rfl⟩ : ∃ j : Nat, i = j := ⟨i.toNat, by omega⟩
    simp only [Int.toNat_natCast] at ha
    have q2 := fun W => Lib.hid (position_any x A c j hs (by omega) W)
    rw [hd] at q1
    have HA := Lib.hid ha
    unfold Line.val at *
    clear hd ha hi o0 hL hs
    go_enter Try.func18, Try.ntmps18
    go_wp2_with fail
    refine (q1 _).out.mono ?_
    rintro e w1 ⟨rfl, hb1⟩
    have c0 := cell_later hb1 HL.out.1
    have c1 := cell_later hb1 HL.out.2.1
    have c2 := cell_later hb1 HL.out.2.2.1
    have c3 := cell_later hb1 HL.out.2.2.2
    have hb2 := hb0.trans (hb1.mono hb0.size)
    clear hb1 hb0
    go_wp2_with fail
    refine (q2 _).out.mono ?_
    rintro e w2 ⟨rfl, hb3⟩
    have hb4 := hb2.trans (hb3.mono hb2.size)
    clear hb3 hb2 c0 c1 c2 c3
    go_wp2
    go_ret
    exact ⟨by rw [HA.out]; rfl, hb4⟩
  · have hd : decide (0 ≤ i ∧ i < (x.load.length : Int)) = false := by simpa using hi
    have ha : atOf x i = -1 := by unfold atOf; rw [if_neg hi]
    rw [hd] at q1
    have HA := Lib.hid ha
    unfold Line.val at *
    clear hd ha hi o0 hL hs
    go_enter Try.func18, Try.ntmps18
    go_wp2_with fail
    refine (q1 _).out.mono ?_
    rintro e w1 ⟨rfl, hb1⟩
    have hb2 := hb0.trans (hb1.mono hb0.size)
    clear hb1 hb0
    go_wp2
    go_ret
    exact ⟨by rw [HA.out]; rfl, hb2⟩
set_option maxHeartbeats 1000000 in
theorem refAt_any (x : Line) (A : Option Addr) (c : Nat) (i : Int) (hs : x.shape) (w : World) : Calls Try.prog 19 #[x.val A c, .int .i64 i] w fun e w' => e = .returned (.int .i64 (atOf x i)) ∧ Below w.heap.size w w' := by
  have hn : x.load.length ≤ 200 := hs.2.2.2.1
  have ho : i < 0 ∨ 0 ≤ i ∧ ((x.load.length : Int) ≤ i ∨ i < (x.load.length : Int)) := by omega
  rcases ho with ho | ⟨h1, h2 | h2⟩
  · have ha : atOf x i = -1 := by unfold atOf; rw [if_neg (by omega)]
    have HA := Lib.hid ha
    unfold Line.val
    clear ha hs
    go_enter Try.func19, Try.ntmps19
    go_wp2
    go_ret
    exact ⟨by rw [HA.out]; rfl, below_alloc _ _⟩
  · have ha : atOf x i = -1 := by unfold atOf; rw [if_neg (by omega)]
    have HA := Lib.hid ha
    unfold Line.val
    clear ha hs
    go_enter Try.func19, Try.ntmps19
    go_wp2
    go_ret
    exact ⟨by rw [HA.out]; rfl, below_alloc _ _⟩
  · obtain ⟨j, rfl⟩ : ∃ j : Nat, i = j := ⟨i.toNat, by omega⟩
    have ha : atOf x (j : Int) = (x.offset + (j : Int) * x.spacing) % x.loop := by unfold atOf posOf; rw [if_pos ⟨h1, h2⟩]; rfl
    have hl := shape_bd hs
    have hm := mul_bd hs (i := j) (by omega)
    have ho : 0 ≤ x.offset ∧ x.offset < x.loop := ⟨hs.2.2.2.2.2.2.1, hs.2.2.2.2.2.2.2⟩
    have hl1 : 1 ≤ x.loop := by omega
    have HA := Lib.hid ha
    unfold Line.val
    clear ha hs
    go_enter Try.func19, Try.ntmps19
    go_wp2
    go_ret
    exact ⟨by rw [HA.out]; rfl, below_alloc _ _⟩
end Go.Proofs.Ytdddfajchkmehaa
