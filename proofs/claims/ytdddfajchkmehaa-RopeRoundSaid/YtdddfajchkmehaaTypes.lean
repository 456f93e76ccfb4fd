/- Structs of this seat, in memory and by value. -/
import Derived.Test.YtdddfajchkmehaaChecked
import Derived.Test.YtdddfajchkmehaaFrame
import Derived.Test.YtdddfajchkmehaaRec
import Derived.Test.YtdddfajchkmehaaPlain
namespace Go.Proofs.Ytdddfajchkmehaa
open Go.RowKit Go.ChangeShapes Go.WideShapes Go.ChangeAt Go.Deep
set_option linter.unusedVariables false

/-! ### Op -/
/-- the value of a struct -/
def Op.val (x : Op) : Value := .agg #[.int .i64 x.kind, .int .i64 x.i, .int .i64 x.n]
def Ops (w : World) (A : Option Addr) (l : List Op) : Prop :=
  0 < l.length → ∃ b off, A = some ⟨b, off, none⟩ ∧ ∀ i (h : i < l.length),
    w.cell? ⟨b, off + i * 3, none⟩ = some (.int .i64 (l[i]).kind) ∧ w.cell? ⟨b, off + i * 3 + 1, none⟩ = some (.int .i64 (l[i]).i) ∧ w.cell? ⟨b, off + i * 3 + 2, none⟩ = some (.int .i64 (l[i]).n)
theorem Ops.below {w w' : World} {A : Option Addr} {l : List Op} (h : Ops w A l) (hb : Below w.heap.size w w') : Ops w' A l := fun hn => by
  obtain ⟨b, off, rfl, hc⟩ := h hn
  exact ⟨b, off, rfl, fun i hi => ⟨cell_later hb (hc i hi).1, cell_later hb (hc i hi).2.1, cell_later hb (hc i hi).2.2⟩⟩
theorem Ops.nil (w : World) (A : Option Addr) : Ops w A [] := fun h => by simp at h
theorem Ops.of_recs {w : World} {A : Option Addr} {n : Nat} {g : Nat → Nat → Int} (h : Recs w A 3 n g) : Ops w A ((List.range n).map fun i => ⟨g i 0, g i 1, g i 2⟩) := fun hn => by
  obtain ⟨b, off, rfl, hc⟩ := h (by simpa using hn)
  refine ⟨b, off, rfl, fun i hi => ?_⟩
  have hi' : i < n := by simpa using hi
  have h0 := hc i 0 hi' (by omega)
  have h1 := hc i 1 hi' (by omega)
  have h2 := hc i 2 hi' (by omega)
  simp only [List.getElem_map, List.getElem_range]
  exact ⟨h0, h1, h2⟩
theorem Op.row_len (l : List Op) : ∀ r ∈ l.map Op.row, r.length = 3 := fun r hr => by
  obtain ⟨x, _, rfl⟩ := List.mem_map.1 hr; rfl
theorem Ops.src {w : World} {A : Option Addr} {l : List Op} (h : Ops w A l) : Src w A 3 (l.map Op.row) := fun hn => by
  obtain ⟨b, off, rfl, hc⟩ := h (by simpa using hn)
  refine ⟨b, off, rfl, fun i j r x hr hj hx => ?_⟩
  have hi : i < l.length := by
    have := (List.getElem?_eq_some_iff.1 hr).1
    simpa using this
  rw [List.getElem?_map, List.getElem?_eq_getElem hi] at hr
  simp at hr
  subst hr
  obtain ⟨h0, h1, h2⟩ := hc i hi
  match j, hj with
  | 0, _ => simp [Op.row] at hx; subst hx; exact h0
  | 1, _ => simp [Op.row] at hx; subst hx; exact h1
  | 2, _ => simp [Op.row] at hx; subst hx; exact h2
theorem Ops.of_src {w : World} {A : Option Addr} {l : List Op} (h : Src w A 3 (l.map Op.row)) : Ops w A l := fun hn => by
  obtain ⟨b, off, rfl, hc⟩ := h (by simpa using hn)
  refine ⟨b, off, rfl, fun i hi => ?_⟩
  have hr : (l.map Op.row)[i]? = some (Op.row l[i]) := by rw [List.getElem?_map, List.getElem?_eq_getElem hi]; rfl
  exact ⟨hc i 0 _ _ hr (by omega) rfl, hc i 1 _ _ hr (by omega) rfl, hc i 2 _ _ hr (by omega) rfl⟩
theorem Op.one_src (w : World) (x : Op) : Src (w.alloc (.cells #[.int .i64 x.kind, .int .i64 x.i, .int .i64 x.n] 49)) (some ⟨w.heap.size, 0, none⟩) 3 [Op.row x] := fun _ => by
  refine ⟨_, _, rfl, fun i j r y hr hj hy => ?_⟩
  have hi : i = 0 := by have := (List.getElem?_eq_some_iff.1 hr).1; simp at this; omega
  subst hi
  simp at hr
  subst hr
  match j, hj with
  | 0, _ => simp [Op.row] at hy; subst hy; go_simp
  | 1, _ => simp [Op.row] at hy; subst hy; go_simp
  | 2, _ => simp [Op.row] at hy; subst hy; go_simp
theorem Ops.take {w : World} {A : Option Addr} {l : List Op} (h : Ops w A l) (k : Nat) : Ops w A (l.take k) := fun hn => by
  simp at hn
  obtain ⟨b, off, rfl, hc⟩ := h (by omega)
  refine ⟨b, off, rfl, fun i hi => ?_⟩
  simp at hi
  rw [List.getElem_take]
  exact hc i (by omega)
theorem Op.slice_to (A : Option Addr) (n c k : Nat) (hk : k ≤ n) (hc : n ≤ c) (w : World) : (Instr.slice 47 (.slice A n c) none (some (.int .i64 (k : Int))) none).run Try.prog w = .ok (.slice A k c) w := by
  have h1 : k ≤ c := by omega
  go_simp
theorem Op.info : (Try.prog.info? 49).map (fun i => (i.zero, i.size, i.bytes)) = some (some (.agg #[.int .i64 0, .int .i64 0, .int .i64 0]), 3, 24) := by kernel_rfl
theorem Op.neq_self (x : Op) (w : World) : (binOp .neq 49 (.agg #[.int .i64 x.kind, .int .i64 x.i, .int .i64 x.n]) (.agg #[.int .i64 x.kind, .int .i64 x.i, .int .i64 x.n])).run Try.prog w = .ok (.bool false) w := by
  go_simp
theorem Op.eql_self (x : Op) (w : World) : (binOp .eql 49 (.agg #[.int .i64 x.kind, .int .i64 x.i, .int .i64 x.n]) (.agg #[.int .i64 x.kind, .int .i64 x.i, .int .i64 x.n])).run Try.prog w = .ok (.bool true) w := by
  go_simp
theorem Op.val_eq (x : Op) : x.val = .agg #[.int .i64 x.kind, .int .i64 x.i, .int .i64 x.n] := rfl
/-- all the numbers are ints -/
def Op.I (x : Op) : Prop := I64 x.kind ∧ I64 x.i ∧ I64 x.n
/-- a slice that came in -/
theorem open_ops {H : Type} {enc : TypeId × Value → H} {w : World} {base : Nat} {held : Bool} {r : Reach} {b0 : Nat} {v : Value} {d : DataW H} {p : List MemPlace} (hv : Value.okWide Try.prog w r b0 47 v) (h : DataW.Trod enc Try.prog w base (fun _ => true) held 47 v d p) :
    ∃ (A : Option Addr) (c : Nat) (l : List Op), v = .slice A l.length c ∧ (l.length ≤ c ∧ c ≤ maxLen) ∧ (Ops w A l ∧ ∀ x ∈ l, x.I) ∧ LenIs d l.length := by
  obtain ⟨A, n, c, g, rfl, hnc, hm, hr, hI, hL⟩ := open_recs (fs := _) Try.underlying47 Try.underlying49 (by kernel_rfl) (by kernel_rfl) (by kernel_rfl) (by decide) hv h
  refine ⟨A, c, (List.range n).map fun i => ⟨g i 0, g i 1, g i 2⟩, by simp, ⟨by simpa using hnc, hm⟩, ⟨Ops.of_recs hr, fun x hx => ?_⟩, by simpa using hL⟩
  obtain ⟨i, hi, rfl⟩ := List.mem_map.1 hx
  have hi' : i < n := by simpa using hi
  exact ⟨hI i 0 hi' (by show 0 < 3; omega), hI i 1 hi' (by show 1 < 3; omega), hI i 2 hi' (by show 2 < 3; omega)⟩
/-- a struct that came in by value -/
theorem open_op {H : Type} {enc : TypeId × Value → H} {w : World} {base : Nat} {spare : Nat → Bool} {held : Bool} {r : Reach} {b0 : Nat} {v : Value} {d : DataW H} {p : List MemPlace} (hv : Value.okWide Try.prog w r b0 49 v) (h : DataW.Trod enc Try.prog w base spare held 49 v d p) :
    ∃ x : Op, v = x.val ∧ x.I := by
  obtain ⟨l, hl, rfl, hI⟩ := open_agg (fs := _) Try.underlying49 (by kernel_rfl) (by kernel_rfl) (by kernel_rfl) hv h
  match l, hl with
  | [a0, a1, a2], _ => exact ⟨⟨a0, a1, a2⟩, rfl, hI a0 (by simp), hI a1 (by simp), hI a2 (by simp)⟩

/-! ### Lift, Board: by value -/
def Lift.val (x : Lift) : Value := .agg #[.int .i64 x.id, .int .i64 x.operator, .int .i64 x.from_, .int .i64 x.to_, .int .i64 x.length, .int .i64 x.speed, .int .i64 x.seats, .int .i64 x.spacing]
def Lift.I (x : Lift) : Prop := I64 x.length ∧ I64 x.spacing
theorem open_lift {H : Type} {enc : TypeId × Value → H} {w : World} {base : Nat} {spare : Nat → Bool} {held : Bool} {r : Reach} {b0 : Nat} {v : Value} {d : DataW H} {p : List MemPlace} (hv : Value.okWide Try.prog w r b0 23 v) (h : DataW.Trod enc Try.prog w base spare held 23 v d p) :
    ∃ x : Lift, v = x.val ∧ x.I := by
  obtain ⟨l, hl, rfl, hI⟩ := open_agg (fs := _) Try.underlying23 (by kernel_rfl) (by kernel_rfl) (by kernel_rfl) hv h
  match l, hl with
  | [a0, a1, a2, a3, a4, a5, a6, a7], _ => exact ⟨⟨a0, a1, a2, a3, a4, a5, a6, a7⟩, rfl, hI a4 (by simp), hI a7 (by simp)⟩
def Board.val (x : Board) : Value := .agg #[.int .i64 x.carrier, .int .i64 x.n, .int .i64 x.seats]
def Board.I (x : Board) : Prop := I64 x.carrier ∧ I64 x.n ∧ I64 x.seats
theorem open_board {H : Type} {enc : TypeId × Value → H} {w : World} {base : Nat} {spare : Nat → Bool} {held : Bool} {r : Reach} {b0 : Nat} {v : Value} {d : DataW H} {p : List MemPlace} (hv : Value.okWide Try.prog w r b0 43 v) (h : DataW.Trod enc Try.prog w base spare held 43 v d p) :
    ∃ x : Board, v = x.val ∧ x.I := by
  obtain ⟨l, hl, rfl, hI⟩ := open_agg (fs := _) Try.underlying43 (by kernel_rfl) (by kernel_rfl) (by kernel_rfl) hv h
  match l, hl with
  | [a0, a1, a2], _ => exact ⟨⟨a0, a1, a2⟩, rfl, hI a0 (by simp), hI a1 (by simp), hI a2 (by simp)⟩
/-! ### Line: three ints and a slice -/
/-- the cells of a line whose slice is led by A, with capacity c -/
def Line.cells (x : Line) (A : Option Addr) (c : Nat) : Array Value := #[.int .i64 x.loop, .int .i64 x.spacing, .int .i64 x.offset, .slice A x.load.length c]
def Line.val (x : Line) (A : Option Addr) (c : Nat) : Value := .agg #[.int .i64 x.loop, .int .i64 x.spacing, .int .i64 x.offset, .slice A x.load.length c]
/-- a line that came in -/
structure LineIn where
  x : Line
  A : Option Addr
  c : Nat
def LineIn.val (y : LineIn) : Value := y.x.val y.A y.c
def LineIn.ok (y : LineIn) (w : World) : Prop := Ints w y.A y.x.load ∧ y.x.load.length ≤ maxLen ∧ I64 y.x.loop ∧ I64 y.x.spacing ∧ I64 y.x.offset ∧ ∀ z ∈ y.x.load, I64 z
theorem open_line {H : Type} {enc : TypeId × Value → H} {w : World} {base : Nat} {held : Bool} {r : Reach} {b0 : Nat} {v : Value} {d : DataW H} {p : List MemPlace} (hv : Value.okWide Try.prog w r b0 27 v) (h : DataW.Trod enc Try.prog w base (fun _ => true) held 27 v d p) :
    ∃ y : LineIn, v = y.val ∧ y.ok w := by
  obtain ⟨cs, rfl, hsz⟩ := okWide_struct Try.underlying27 hv
  obtain ⟨l⟩ := cs
  have hsz' : l.length = 4 := hsz
  obtain ⟨fuel, hf⟩ := h
  obtain ⟨xs, n, _, hx, _, hlen, hg⟩ := DataW.trod_struct Try.underlying27 hf
  match l, hsz' with
  | [c0, c1, c2, c3], _ =>
    have hlen4 : xs.length = 4 := hlen
    match xs, hlen4 with
    | [y0, y1, y2, y3], _ =>
      have g0 := hg 0 _ rfl
      have g1 := hg 1 _ rfl
      have g2 := hg 2 _ rfl
      have g3 := hg 3 _ rfl
      have e3 : Try.prog.cellsOf 3 = 1 := by kernel_rfl
      have e4 : Try.prog.cellsOf 25 = 1 := by kernel_rfl
      simp [e3, e4, Value.cells] at g0 g1 g2 g3
      obtain ⟨x0, q0, _, w0⟩ := DataW.trod_int Try.underlying3 g0
      obtain ⟨x1, q1, _, w1⟩ := DataW.trod_int Try.underlying3 g1
      obtain ⟨x2, q2, _, w2⟩ := DataW.trod_int Try.underlying3 g2
      simp only [List.cons.injEq, and_true] at q0 q1 q2
      subst q0 q1 q2
      rcases open_ints Try.underlying25 Try.underlying3 e3 g3 with ⟨hcs, _⟩ | ⟨a, len, cap, zs, hcs, _, hl, hm, hz, _, hcell, hwz⟩
      · simp only [List.cons.injEq, and_true] at hcs
        subst hcs
        exact ⟨⟨⟨x0, x1, x2, []⟩, none, 0⟩, rfl, Ints.nil _ _, Nat.zero_le _, i64_of_wf w0, i64_of_wf w1, i64_of_wf w2, fun z hz => by simp at hz⟩
      · simp only [List.cons.injEq, and_true] at hcs
        subst hcs
        simp only [if_pos] at hz
        have hlen : (zs.take len).length = len := by rw [List.length_take, hz]; omega
        refine ⟨⟨⟨x0, x1, x2, zs.take len⟩, some a, cap⟩, by simp [LineIn.val, Line.val, hlen], fun hn => ?_, by simp only [hlen]; omega, i64_of_wf w0, i64_of_wf w1, i64_of_wf w2, fun z hz => i64_of_wf (hwz z (List.mem_of_mem_take hz))⟩
        simp only [hlen] at hn
        obtain ⟨b, off, spot⟩ := a
        have h0 := hcell 0 (by omega)
        have hspot : spot = none := by
          have := World.cell?_spot h0
          simpa [Addr.add] using this
        subst hspot
        refine ⟨b, off, rfl, fun i hi => ?_⟩
        simp only [hlen] at hi
        have := hcell i (by omega)
        have e1 : (zs.take len)[i]'(by rw [hlen]; exact hi) = zs.getD i 0 := by simp [List.getElem_take, show i < zs.length by omega]
        show w.cell? _ = some (.int .i64 ((zs.take len)[i]'(by rw [hlen]; exact hi)))
        rw [e1, ← this]
        congr 1
        unfold Addr.add
        split
        · rename_i h0; subst h0; rfl
        · rfl
end Go.Proofs.Ytdddfajchkmehaa
