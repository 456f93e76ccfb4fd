/- Structs of ints of this seat, in memory. -/
import Derived.Test.YtgmkfjgkpakhfaaChecked
import Derived.Test.YtgmkfjgkpakhfaaFrame
import Derived.Test.YtgmkfjgkpakhfaaRec
import Derived.Test.YtgmkfjgkpakhfaaPlain
namespace Go.Proofs.Ytgmkfjgkpakhfaa
open Go.RowKit Go.ChangeShapes Go.WideShapes Go.ChangeAt Go.Deep
set_option linter.unusedVariables false

/-! ### Brake -/
/-- the value of a struct -/
def Brake.val (x : Brake) : Value := .agg #[.int .i64 x.id, .int .i64 x.kind, .int .i64 x.force, .int .i64 x.tested, .int .i64 x.measured]
def Brakes (w : World) (A : Option Addr) (l : List Brake) : Prop :=
  0 < l.length → ∃ b off, A = some ⟨b, off, none⟩ ∧ ∀ i (h : i < l.length),
    w.cell? ⟨b, off + i * 5, none⟩ = some (.int .i64 (l[i]).id) ∧ w.cell? ⟨b, off + i * 5 + 1, none⟩ = some (.int .i64 (l[i]).kind) ∧ w.cell? ⟨b, off + i * 5 + 2, none⟩ = some (.int .i64 (l[i]).force) ∧ w.cell? ⟨b, off + i * 5 + 3, none⟩ = some (.int .i64 (l[i]).tested) ∧ w.cell? ⟨b, off + i * 5 + 4, none⟩ = some (.int .i64 (l[i]).measured)
theorem Brakes.below {w w' : World} {A : Option Addr} {l : List Brake} (h : Brakes w A l) (hb : Below w.heap.size w w') : Brakes w' A l := fun hn => by
  obtain ⟨b, off, rfl, hc⟩ := h hn
  exact ⟨b, off, rfl, fun i hi => ⟨cell_later hb (hc i hi).1, cell_later hb (hc i hi).2.1, cell_later hb (hc i hi).2.2.1, cell_later hb (hc i hi).2.2.2.1, cell_later hb (hc i hi).2.2.2.2⟩⟩
theorem Brakes.nil (w : World) (A : Option Addr) : Brakes w A [] := fun h => by simp at h
theorem Brakes.of_recs {w : World} {A : Option Addr} {n : Nat} {g : Nat → Nat → Int} (h : Recs w A 5 n g) : Brakes w A ((List.range n).map fun i => ⟨g i 0, g i 1, g i 2, g i 3, g i 4⟩) := fun hn => by
  obtain ⟨b, off, rfl, hc⟩ := h (by simpa using hn)
  refine ⟨b, off, rfl, fun i hi => ?_⟩
  have hi' : i < n := by simpa using hi
  have h0 := hc i 0 hi' (by omega)
  have h1 := hc i 1 hi' (by omega)
  have h2 := hc i 2 hi' (by omega)
  have h3 := hc i 3 hi' (by omega)
  have h4 := hc i 4 hi' (by omega)
  simp only [List.getElem_map, List.getElem_range]
  exact ⟨h0, h1, h2, h3, h4⟩
theorem Brake.row_len (l : List Brake) : ∀ r ∈ l.map Brake.row, r.length = 5 := fun r hr => by
  obtain ⟨x, _, rfl⟩ := List.mem_map.1 hr; rfl
theorem Brakes.src {w : World} {A : Option Addr} {l : List Brake} (h : Brakes w A l) : Src w A 5 (l.map Brake.row) := fun hn => by
  obtain ⟨b, off, rfl, hc⟩ := h (by simpa using hn)
  refine ⟨b, off, rfl, fun i j r x hr hj hx => ?_⟩
  have hi : i < l.length := by
    have := (List.getElem?_eq_some_iff.1 hr).1
    simpa using this
  rw [List.getElem?_map, List.getElem?_eq_getElem hi] at hr
  simp at hr
  subst hr
  obtain ⟨h0, h1, h2, h3, h4⟩ := hc i hi
  match j, hj with
  | 0, _ => simp [Brake.row] at hx; subst hx; exact h0
  | 1, _ => simp [Brake.row] at hx; subst hx; exact h1
  | 2, _ => simp [Brake.row] at hx; subst hx; exact h2
  | 3, _ => simp [Brake.row] at hx; subst hx; exact h3
  | 4, _ => simp [Brake.row] at hx; subst hx; exact h4
theorem Brakes.of_src {w : World} {A : Option Addr} {l : List Brake} (h : Src w A 5 (l.map Brake.row)) : Brakes w A l := fun hn => by
  obtain ⟨b, off, rfl, hc⟩ := h (by simpa using hn)
  refine ⟨b, off, rfl, fun i hi => ?_⟩
  have hr : (l.map Brake.row)[i]? = some (Brake.row l[i]) := by rw [List.getElem?_map, List.getElem?_eq_getElem hi]; rfl
  exact ⟨hc i 0 _ _ hr (by omega) rfl, hc i 1 _ _ hr (by omega) rfl, hc i 2 _ _ hr (by omega) rfl, hc i 3 _ _ hr (by omega) rfl, hc i 4 _ _ hr (by omega) rfl⟩
theorem Brake.one_src (w : World) (x : Brake) : Src (w.alloc (.cells #[.int .i64 x.id, .int .i64 x.kind, .int .i64 x.force, .int .i64 x.tested, .int .i64 x.measured] 32)) (some ⟨w.heap.size, 0, none⟩) 5 [Brake.row x] := fun _ => by
  refine ⟨_, _, rfl, fun i j r y hr hj hy => ?_⟩
  have hi : i = 0 := by have := (List.getElem?_eq_some_iff.1 hr).1; simp at this; omega
  subst hi
  simp at hr
  subst hr
  match j, hj with
  | 0, _ => simp [Brake.row] at hy; subst hy; go_simp
  | 1, _ => simp [Brake.row] at hy; subst hy; go_simp
  | 2, _ => simp [Brake.row] at hy; subst hy; go_simp
  | 3, _ => simp [Brake.row] at hy; subst hy; go_simp
  | 4, _ => simp [Brake.row] at hy; subst hy; go_simp
theorem Brakes.take {w : World} {A : Option Addr} {l : List Brake} (h : Brakes w A l) (k : Nat) : Brakes w A (l.take k) := fun hn => by
  simp at hn
  obtain ⟨b, off, rfl, hc⟩ := h (by omega)
  refine ⟨b, off, rfl, fun i hi => ?_⟩
  simp at hi
  rw [List.getElem_take]
  exact hc i (by omega)
theorem Brake.slice_to (A : Option Addr) (n c k : Nat) (hk : k ≤ n) (hc : n ≤ c) (w : World) : (Instr.slice 22 (.slice A n c) none (some (.int .i64 (k : Int))) none).run Try.prog w = .ok (.slice A k c) w := by
  have h1 : k ≤ c := by omega
  go_simp
theorem Brake.info : (Try.prog.info? 32).map (fun i => (i.zero, i.size, i.bytes)) = some (some (.agg #[.int .i64 0, .int .i64 0, .int .i64 0, .int .i64 0, .int .i64 0]), 5, 40) := by kernel_rfl
theorem Brake.neq_self (x : Brake) (w : World) : (binOp .neq 32 (.agg #[.int .i64 x.id, .int .i64 x.kind, .int .i64 x.force, .int .i64 x.tested, .int .i64 x.measured]) (.agg #[.int .i64 x.id, .int .i64 x.kind, .int .i64 x.force, .int .i64 x.tested, .int .i64 x.measured])).run Try.prog w = .ok (.bool false) w := by
  go_simp
theorem Brake.eql_self (x : Brake) (w : World) : (binOp .eql 32 (.agg #[.int .i64 x.id, .int .i64 x.kind, .int .i64 x.force, .int .i64 x.tested, .int .i64 x.measured]) (.agg #[.int .i64 x.id, .int .i64 x.kind, .int .i64 x.force, .int .i64 x.tested, .int .i64 x.measured])).run Try.prog w = .ok (.bool true) w := by
  go_simp
theorem Brake.val_eq (x : Brake) : x.val = .agg #[.int .i64 x.id, .int .i64 x.kind, .int .i64 x.force, .int .i64 x.tested, .int .i64 x.measured] := rfl
/-- all the numbers are ints -/
def Brake.I (x : Brake) : Prop := I64 x.id ∧ I64 x.kind ∧ I64 x.force ∧ I64 x.tested ∧ I64 x.measured
/-- a slice that came in -/
theorem open_brakes {H : Type} {enc : TypeId × Value → H} {w : World} {base : Nat} {held : Bool} {r : Reach} {b0 : Nat} {v : Value} {d : DataW H} {p : List MemPlace} (hv : Value.okWide Try.prog w r b0 22 v) (h : DataW.Trod enc Try.prog w base (fun _ => true) held 22 v d p) :
    ∃ (A : Option Addr) (c : Nat) (l : List Brake), v = .slice A l.length c ∧ (l.length ≤ c ∧ c ≤ maxLen) ∧ (Brakes w A l ∧ ∀ x ∈ l, x.I) ∧ LenIs d l.length := by
  obtain ⟨A, n, c, g, rfl, hnc, hm, hr, hI, hL⟩ := open_recs (fs := _) Try.underlying22 Try.underlying32 (by kernel_rfl) (by kernel_rfl) (by kernel_rfl) (by decide) hv h
  refine ⟨A, c, (List.range n).map fun i => ⟨g i 0, g i 1, g i 2, g i 3, g i 4⟩, by simp, ⟨by simpa using hnc, hm⟩, ⟨Brakes.of_recs hr, fun x hx => ?_⟩, by simpa using hL⟩
  obtain ⟨i, hi, rfl⟩ := List.mem_map.1 hx
  have hi' : i < n := by simpa using hi
  exact ⟨hI i 0 hi' (by show 0 < 5; omega), hI i 1 hi' (by show 1 < 5; omega), hI i 2 hi' (by show 2 < 5; omega), hI i 3 hi' (by show 3 < 5; omega), hI i 4 hi' (by show 4 < 5; omega)⟩
/-- a struct that came in by value -/
theorem open_brake {H : Type} {enc : TypeId × Value → H} {w : World} {base : Nat} {spare : Nat → Bool} {held : Bool} {r : Reach} {b0 : Nat} {v : Value} {d : DataW H} {p : List MemPlace} (hv : Value.okWide Try.prog w r b0 32 v) (h : DataW.Trod enc Try.prog w base spare held 32 v d p) :
    ∃ x : Brake, v = x.val ∧ x.I := by
  obtain ⟨l, hl, rfl, hI⟩ := open_agg (fs := _) Try.underlying32 (by kernel_rfl) (by kernel_rfl) (by kernel_rfl) hv h
  match l, hl with
  | [a0, a1, a2, a3, a4], _ => exact ⟨⟨a0, a1, a2, a3, a4⟩, rfl, hI a0 (by simp), hI a1 (by simp), hI a2 (by simp), hI a3 (by simp), hI a4 (by simp)⟩

end Go.Proofs.Ytgmkfjgkpakhfaa
