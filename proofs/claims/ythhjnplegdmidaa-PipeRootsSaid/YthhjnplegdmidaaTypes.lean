/- Structs of ints of this seat, in memory. -/
import Derived.Test.YthhjnplegdmidaaChecked
import Derived.Test.YthhjnplegdmidaaFrame
import Derived.Test.YthhjnplegdmidaaRec
import Derived.Test.YthhjnplegdmidaaPlain
namespace Go.Proofs.Ythhjnplegdmidaa
open Go.RowKit Go.ChangeShapes Go.WideShapes Go.ChangeAt Go.Deep
set_option linter.unusedVariables false

/-! ### Pipe -/
/-- the value of a struct -/
def Pipe.val (x : Pipe) : Value := .agg #[.int .i64 x.id, .int .i64 x.from_, .int .i64 x.to_, .int .i64 x.loss, .int .i64 x.rise]
def Pipes (w : World) (A : Option Addr) (l : List Pipe) : Prop :=
  0 < l.length → ∃ b off, A = some ⟨b, off, none⟩ ∧ ∀ i (h : i < l.length),
    w.cell? ⟨b, off + i * 5, none⟩ = some (.int .i64 (l[i]).id) ∧ w.cell? ⟨b, off + i * 5 + 1, none⟩ = some (.int .i64 (l[i]).from_) ∧ w.cell? ⟨b, off + i * 5 + 2, none⟩ = some (.int .i64 (l[i]).to_) ∧ w.cell? ⟨b, off + i * 5 + 3, none⟩ = some (.int .i64 (l[i]).loss) ∧ w.cell? ⟨b, off + i * 5 + 4, none⟩ = some (.int .i64 (l[i]).rise)
theorem Pipes.below {w w' : World} {A : Option Addr} {l : List Pipe} (h : Pipes w A l) (hb : Below w.heap.size w w') : Pipes w' A l := fun hn => by
  obtain ⟨b, off, rfl, hc⟩ := h hn
  exact ⟨b, off, rfl, fun i hi => ⟨cell_later hb (hc i hi).1, cell_later hb (hc i hi).2.1, cell_later hb (hc i hi).2.2.1, cell_later hb (hc i hi).2.2.2.1, cell_later hb (hc i hi).2.2.2.2⟩⟩
theorem Pipes.nil (w : World) (A : Option Addr) : Pipes w A [] := fun h => by simp at h
theorem Pipes.of_recs {w : World} {A : Option Addr} {n : Nat} {g : Nat → Nat → Int} (h : Recs w A 5 n g) : Pipes w A ((List.range n).map fun i => ⟨g i 0, g i 1, g i 2, g i 3, g i 4⟩) := fun hn => by
  obtain ⟨b, off, rfl, hc⟩ := h (by simpa using hn)
  refine ⟨b, off, rfl, fun i hi => ?_⟩
  have hi' : i < n := by simpa using hi
  have h0 := hc i 0 hi' (by omega)
  have h1 := hc i 1 hi' (by omega)
  have h2 := hc i 2 hi' (by omega)
  have h3 := hc i 3 hi' (by omega)
  have h4 := hc i 4 hi' (by omega)
  simp only [List.getElem_map, List.getElem_range]
  exact ⟨h0, h1, h2, h3, h4⟩
theorem Pipe.row_len (l : List Pipe) : ∀ r ∈ l.map Pipe.row, r.length = 5 := fun r hr => by
  obtain ⟨x, _, rfl⟩ := List.mem_map.1 hr; rfl
theorem Pipes.src {w : World} {A : Option Addr} {l : List Pipe} (h : Pipes w A l) : Src w A 5 (l.map Pipe.row) := fun hn => by
  obtain ⟨b, off, rfl, hc⟩ := h (by simpa using hn)
  refine ⟨b, off, rfl, fun i j r x hr hj hx => ?_⟩
  have hi : i < l.length := by
    have := (List.getElem?_eq_some_iff.1 hr).1
    simpa using this
  rw [List.getElem?_map, List.getElem?_eq_getElem hi] at hr
  simp at hr
  subst hr
  obtain ⟨h0, h1, h2, h3, h4⟩ := hc i hi
  match j, hj with
  | 0, _ => simp [Pipe.row] at hx; subst hx; exact h0
  | 1, _ => simp [Pipe.row] at hx; subst hx; exact h1
  | 2, _ => simp [Pipe.row] at hx; subst hx; exact h2
  | 3, _ => simp [Pipe.row] at hx; subst hx; exact h3
  | 4, _ => simp [Pipe.row] at hx; subst hx; exact h4
theorem Pipes.of_src {w : World} {A : Option Addr} {l : List Pipe} (h : Src w A 5 (l.map Pipe.row)) : Pipes w A l := fun hn => by
  obtain ⟨b, off, rfl, hc⟩ := h (by simpa using hn)
  refine ⟨b, off, rfl, fun i hi => ?_⟩
  have hr : (l.map Pipe.row)[i]? = some (Pipe.row l[i]) := by rw [List.getElem?_map, List.getElem?_eq_getElem hi]; rfl
  exact ⟨hc i 0 _ _ hr (by omega) rfl, hc i 1 _ _ hr (by omega) rfl, hc i 2 _ _ hr (by omega) rfl, hc i 3 _ _ hr (by omega) rfl, hc i 4 _ _ hr (by omega) rfl⟩
theorem Pipe.one_src (w : World) (x : Pipe) : Src (w.alloc (.cells #[.int .i64 x.id, .int .i64 x.from_, .int .i64 x.to_, .int .i64 x.loss, .int .i64 x.rise] 45)) (some ⟨w.heap.size, 0, none⟩) 5 [Pipe.row x] := fun _ => by
  refine ⟨_, _, rfl, fun i j r y hr hj hy => ?_⟩
  have hi : i = 0 := by have := (List.getElem?_eq_some_iff.1 hr).1; simp at this; omega
  subst hi
  simp at hr
  subst hr
  match j, hj with
  | 0, _ => simp [Pipe.row] at hy; subst hy; go_simp
  | 1, _ => simp [Pipe.row] at hy; subst hy; go_simp
  | 2, _ => simp [Pipe.row] at hy; subst hy; go_simp
  | 3, _ => simp [Pipe.row] at hy; subst hy; go_simp
  | 4, _ => simp [Pipe.row] at hy; subst hy; go_simp
theorem Pipes.take {w : World} {A : Option Addr} {l : List Pipe} (h : Pipes w A l) (k : Nat) : Pipes w A (l.take k) := fun hn => by
  simp at hn
  obtain ⟨b, off, rfl, hc⟩ := h (by omega)
  refine ⟨b, off, rfl, fun i hi => ?_⟩
  simp at hi
  rw [List.getElem_take]
  exact hc i (by omega)
theorem Pipe.slice_to (A : Option Addr) (n c k : Nat) (hk : k ≤ n) (hc : n ≤ c) (w : World) : (Instr.slice 22 (.slice A n c) none (some (.int .i64 (k : Int))) none).run Try.prog w = .ok (.slice A k c) w := by
  have h1 : k ≤ c := by omega
  go_simp
theorem Pipe.info : (Try.prog.info? 45).map (fun i => (i.zero, i.size, i.bytes)) = some (some (.agg #[.int .i64 0, .int .i64 0, .int .i64 0, .int .i64 0, .int .i64 0]), 5, 40) := by kernel_rfl
theorem Pipe.neq_self (x : Pipe) (w : World) : (binOp .neq 45 (.agg #[.int .i64 x.id, .int .i64 x.from_, .int .i64 x.to_, .int .i64 x.loss, .int .i64 x.rise]) (.agg #[.int .i64 x.id, .int .i64 x.from_, .int .i64 x.to_, .int .i64 x.loss, .int .i64 x.rise])).run Try.prog w = .ok (.bool false) w := by
  go_simp
theorem Pipe.eql_self (x : Pipe) (w : World) : (binOp .eql 45 (.agg #[.int .i64 x.id, .int .i64 x.from_, .int .i64 x.to_, .int .i64 x.loss, .int .i64 x.rise]) (.agg #[.int .i64 x.id, .int .i64 x.from_, .int .i64 x.to_, .int .i64 x.loss, .int .i64 x.rise])).run Try.prog w = .ok (.bool true) w := by
  go_simp
theorem Pipe.val_eq (x : Pipe) : x.val = .agg #[.int .i64 x.id, .int .i64 x.from_, .int .i64 x.to_, .int .i64 x.loss, .int .i64 x.rise] := rfl
/-- all the numbers are ints -/
def Pipe.I (x : Pipe) : Prop := I64 x.id ∧ I64 x.from_ ∧ I64 x.to_ ∧ I64 x.loss ∧ I64 x.rise
/-- a slice that came in -/
theorem open_pipes {H : Type} {enc : TypeId × Value → H} {w : World} {base : Nat} {held : Bool} {r : Reach} {b0 : Nat} {v : Value} {d : DataW H} {p : List MemPlace} (hv : Value.okWide Try.prog w r b0 22 v) (h : DataW.Trod enc Try.prog w base (fun _ => true) held 22 v d p) :
    ∃ (A : Option Addr) (c : Nat) (l : List Pipe), v = .slice A l.length c ∧ (l.length ≤ c ∧ c ≤ maxLen) ∧ (Pipes w A l ∧ ∀ x ∈ l, x.I) ∧ LenIs d l.length := by
  obtain ⟨A, n, c, g, rfl, hnc, hm, hr, hI, hL⟩ := open_recs (fs := _) Try.underlying22 Try.underlying45 (by kernel_rfl) (by kernel_rfl) (by kernel_rfl) (by decide) hv h
  refine ⟨A, c, (List.range n).map fun i => ⟨g i 0, g i 1, g i 2, g i 3, g i 4⟩, by simp, ⟨by simpa using hnc, hm⟩, ⟨Pipes.of_recs hr, fun x hx => ?_⟩, by simpa using hL⟩
  obtain ⟨i, hi, rfl⟩ := List.mem_map.1 hx
  have hi' : i < n := by simpa using hi
  exact ⟨hI i 0 hi' (by show 0 < 5; omega), hI i 1 hi' (by show 1 < 5; omega), hI i 2 hi' (by show 2 < 5; omega), hI i 3 hi' (by show 3 < 5; omega), hI i 4 hi' (by show 4 < 5; omega)⟩
/-- a struct that came in by value -/
theorem open_pipe {H : Type} {enc : TypeId × Value → H} {w : World} {base : Nat} {spare : Nat → Bool} {held : Bool} {r : Reach} {b0 : Nat} {v : Value} {d : DataW H} {p : List MemPlace} (hv : Value.okWide Try.prog w r b0 45 v) (h : DataW.Trod enc Try.prog w base spare held 45 v d p) :
    ∃ x : Pipe, v = x.val ∧ x.I := by
  obtain ⟨l, hl, rfl, hI⟩ := open_agg (fs := _) Try.underlying45 (by kernel_rfl) (by kernel_rfl) (by kernel_rfl) hv h
  match l, hl with
  | [a0, a1, a2, a3, a4], _ => exact ⟨⟨a0, a1, a2, a3, a4⟩, rfl, hI a0 (by simp), hI a1 (by simp), hI a2 (by simp), hI a3 (by simp), hI a4 (by simp)⟩


/-! ### Draw -/
/-- the value of a struct -/
def Draw.val (x : Draw) : Value := .agg #[.int .i64 x.node, .int .i64 x.flow]
def Draws (w : World) (A : Option Addr) (l : List Draw) : Prop :=
  0 < l.length → ∃ b off, A = some ⟨b, off, none⟩ ∧ ∀ i (h : i < l.length),
    w.cell? ⟨b, off + i * 2, none⟩ = some (.int .i64 (l[i]).node) ∧ w.cell? ⟨b, off + i * 2 + 1, none⟩ = some (.int .i64 (l[i]).flow)
theorem Draws.below {w w' : World} {A : Option Addr} {l : List Draw} (h : Draws w A l) (hb : Below w.heap.size w w') : Draws w' A l := fun hn => by
  obtain ⟨b, off, rfl, hc⟩ := h hn
  exact ⟨b, off, rfl, fun i hi => ⟨cell_later hb (hc i hi).1, cell_later hb (hc i hi).2⟩⟩
theorem Draws.nil (w : World) (A : Option Addr) : Draws w A [] := fun h => by simp at h
theorem Draws.of_recs {w : World} {A : Option Addr} {n : Nat} {g : Nat → Nat → Int} (h : Recs w A 2 n g) : Draws w A ((List.range n).map fun i => ⟨g i 0, g i 1⟩) := fun hn => by
  obtain ⟨b, off, rfl, hc⟩ := h (by simpa using hn)
  refine ⟨b, off, rfl, fun i hi => ?_⟩
  have hi' : i < n := by simpa using hi
  have h0 := hc i 0 hi' (by omega)
  have h1 := hc i 1 hi' (by omega)
  simp only [List.getElem_map, List.getElem_range]
  exact ⟨h0, h1⟩
theorem Draw.row_len (l : List Draw) : ∀ r ∈ l.map Draw.row, r.length = 2 := fun r hr => by
  obtain ⟨x, _, rfl⟩ := List.mem_map.1 hr; rfl
theorem Draws.src {w : World} {A : Option Addr} {l : List Draw} (h : Draws w A l) : Src w A 2 (l.map Draw.row) := fun hn => by
  obtain ⟨b, off, rfl, hc⟩ := h (by simpa using hn)
  refine ⟨b, off, rfl, fun i j r x hr hj hx => ?_⟩
  have hi : i < l.length := by
    have := (List.getElem?_eq_some_iff.1 hr).1
    simpa using this
  rw [List.getElem?_map, List.getElem?_eq_getElem hi] at hr
  simp at hr
  subst hr
  obtain ⟨h0, h1⟩ := hc i hi
  match j, hj with
  | 0, _ => simp [Draw.row] at hx; subst hx; exact h0
  | 1, _ => simp [Draw.row] at hx; subst hx; exact h1
theorem Draws.of_src {w : World} {A : Option Addr} {l : List Draw} (h : Src w A 2 (l.map Draw.row)) : Draws w A l := fun hn => by
  obtain ⟨b, off, rfl, hc⟩ := h (by simpa using hn)
  refine ⟨b, off, rfl, fun i hi => ?_⟩
  have hr : (l.map Draw.row)[i]? = some (Draw.row l[i]) := by rw [List.getElem?_map, List.getElem?_eq_getElem hi]; rfl
  exact ⟨hc i 0 _ _ hr (by omega) rfl, hc i 1 _ _ hr (by omega) rfl⟩
theorem Draw.one_src (w : World) (x : Draw) : Src (w.alloc (.cells #[.int .i64 x.node, .int .i64 x.flow] 42)) (some ⟨w.heap.size, 0, none⟩) 2 [Draw.row x] := fun _ => by
  refine ⟨_, _, rfl, fun i j r y hr hj hy => ?_⟩
  have hi : i = 0 := by have := (List.getElem?_eq_some_iff.1 hr).1; simp at this; omega
  subst hi
  simp at hr
  subst hr
  match j, hj with
  | 0, _ => simp [Draw.row] at hy; subst hy; go_simp
  | 1, _ => simp [Draw.row] at hy; subst hy; go_simp
theorem Draws.take {w : World} {A : Option Addr} {l : List Draw} (h : Draws w A l) (k : Nat) : Draws w A (l.take k) := fun hn => by
  simp at hn
  obtain ⟨b, off, rfl, hc⟩ := h (by omega)
  refine ⟨b, off, rfl, fun i hi => ?_⟩
  simp at hi
  rw [List.getElem_take]
  exact hc i (by omega)
theorem Draw.slice_to (A : Option Addr) (n c k : Nat) (hk : k ≤ n) (hc : n ≤ c) (w : World) : (Instr.slice 27 (.slice A n c) none (some (.int .i64 (k : Int))) none).run Try.prog w = .ok (.slice A k c) w := by
  have h1 : k ≤ c := by omega
  go_simp
theorem Draw.info : (Try.prog.info? 42).map (fun i => (i.zero, i.size, i.bytes)) = some (some (.agg #[.int .i64 0, .int .i64 0]), 2, 16) := by kernel_rfl
theorem Draw.neq_self (x : Draw) (w : World) : (binOp .neq 42 (.agg #[.int .i64 x.node, .int .i64 x.flow]) (.agg #[.int .i64 x.node, .int .i64 x.flow])).run Try.prog w = .ok (.bool false) w := by
  go_simp
theorem Draw.eql_self (x : Draw) (w : World) : (binOp .eql 42 (.agg #[.int .i64 x.node, .int .i64 x.flow]) (.agg #[.int .i64 x.node, .int .i64 x.flow])).run Try.prog w = .ok (.bool true) w := by
  go_simp
theorem Draw.val_eq (x : Draw) : x.val = .agg #[.int .i64 x.node, .int .i64 x.flow] := rfl
/-- all the numbers are ints -/
def Draw.I (x : Draw) : Prop := I64 x.node ∧ I64 x.flow
/-- a slice that came in -/
theorem open_draws {H : Type} {enc : TypeId × Value → H} {w : World} {base : Nat} {held : Bool} {r : Reach} {b0 : Nat} {v : Value} {d : DataW H} {p : List MemPlace} (hv : Value.okWide Try.prog w r b0 27 v) (h : DataW.Trod enc Try.prog w base (fun _ => true) held 27 v d p) :
    ∃ (A : Option Addr) (c : Nat) (l : List Draw), v = .slice A l.length c ∧ (l.length ≤ c ∧ c ≤ maxLen) ∧ (Draws w A l ∧ ∀ x ∈ l, x.I) ∧ LenIs d l.length := by
  obtain ⟨A, n, c, g, rfl, hnc, hm, hr, hI, hL⟩ := open_recs (fs := _) Try.underlying27 Try.underlying42 (by kernel_rfl) (by kernel_rfl) (by kernel_rfl) (by decide) hv h
  refine ⟨A, c, (List.range n).map fun i => ⟨g i 0, g i 1⟩, by simp, ⟨by simpa using hnc, hm⟩, ⟨Draws.of_recs hr, fun x hx => ?_⟩, by simpa using hL⟩
  obtain ⟨i, hi, rfl⟩ := List.mem_map.1 hx
  have hi' : i < n := by simpa using hi
  exact ⟨hI i 0 hi' (by show 0 < 2; omega), hI i 1 hi' (by show 1 < 2; omega)⟩
/-- a struct that came in by value -/
theorem open_draw {H : Type} {enc : TypeId × Value → H} {w : World} {base : Nat} {spare : Nat → Bool} {held : Bool} {r : Reach} {b0 : Nat} {v : Value} {d : DataW H} {p : List MemPlace} (hv : Value.okWide Try.prog w r b0 42 v) (h : DataW.Trod enc Try.prog w base spare held 42 v d p) :
    ∃ x : Draw, v = x.val ∧ x.I := by
  obtain ⟨l, hl, rfl, hI⟩ := open_agg (fs := _) Try.underlying42 (by kernel_rfl) (by kernel_rfl) (by kernel_rfl) hv h
  match l, hl with
  | [a0, a1], _ => exact ⟨⟨a0, a1⟩, rfl, hI a0 (by simp), hI a1 (by simp)⟩

end Go.Proofs.Ythhjnplegdmidaa
