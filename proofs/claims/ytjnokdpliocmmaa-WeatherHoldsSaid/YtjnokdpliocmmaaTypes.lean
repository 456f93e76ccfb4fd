/- Structs of ints of this seat, in memory. -/
import Derived.Test.YtjnokdpliocmmaaChecked
import Derived.Test.YtjnokdpliocmmaaFrame
import Derived.Test.YtjnokdpliocmmaaRec
import Derived.Test.YtjnokdpliocmmaaPlain
namespace Go.Proofs.Ytjnokdpliocmmaa
open Go.RowKit Go.ChangeShapes Go.WideShapes Go.ChangeAt Go.Deep
set_option linter.unusedVariables false

/-! ### Obs -/
/-- the value of a struct -/
def Obs.val (x : Obs) : Value := .agg #[.int .i64 x.station, .int .i64 x.at_, .int .i64 x.gust, .int .i64 x.temp, .int .i64 x.hum, .int .i64 x.snow]
def Obss (w : World) (A : Option Addr) (l : List Obs) : Prop :=
  0 < l.length → ∃ b off, A = some ⟨b, off, none⟩ ∧ ∀ i (h : i < l.length),
    w.cell? ⟨b, off + i * 6, none⟩ = some (.int .i64 (l[i]).station) ∧ w.cell? ⟨b, off + i * 6 + 1, none⟩ = some (.int .i64 (l[i]).at_) ∧ w.cell? ⟨b, off + i * 6 + 2, none⟩ = some (.int .i64 (l[i]).gust) ∧ w.cell? ⟨b, off + i * 6 + 3, none⟩ = some (.int .i64 (l[i]).temp) ∧ w.cell? ⟨b, off + i * 6 + 4, none⟩ = some (.int .i64 (l[i]).hum) ∧ w.cell? ⟨b, off + i * 6 + 5, none⟩ = some (.int .i64 (l[i]).snow)
theorem Obss.below {w w' : World} {A : Option Addr} {l : List Obs} (h : Obss w A l) (hb : Below w.heap.size w w') : Obss w' A l := fun hn => by
  obtain ⟨b, off, rfl, hc⟩ := h hn
  exact ⟨b, off, rfl, fun i hi => ⟨cell_later hb (hc i hi).1, cell_later hb (hc i hi).2.1, cell_later hb (hc i hi).2.2.1, cell_later hb (hc i hi).2.2.2.1, cell_later hb (hc i hi).2.2.2.2.1, cell_later hb (hc i hi).2.2.2.2.2⟩⟩
theorem Obss.nil (w : World) (A : Option Addr) : Obss w A [] := fun h => by simp at h
theorem Obss.of_recs {w : World} {A : Option Addr} {n : Nat} {g : Nat → Nat → Int} (h : Recs w A 6 n g) : Obss w A ((List.range n).map fun i => ⟨g i 0, g i 1, g i 2, g i 3, g i 4, g i 5⟩) := fun hn => by
  obtain ⟨b, off, rfl, hc⟩ := h (by simpa using hn)
  refine ⟨b, off, rfl, fun i hi => ?_⟩
  have hi' : i < n := by simpa using hi
  have h0 := hc i 0 hi' (by omega)
  have h1 := hc i 1 hi' (by omega)
  have h2 := hc i 2 hi' (by omega)
  have h3 := hc i 3 hi' (by omega)
  have h4 := hc i 4 hi' (by omega)
  have h5 := hc i 5 hi' (by omega)
  simp only [List.getElem_map, List.getElem_range]
  exact ⟨h0, h1, h2, h3, h4, h5⟩
theorem Obs.row_len (l : List Obs) : ∀ r ∈ l.map Obs.row, r.length = 6 := fun r hr => by
  obtain ⟨x, _, rfl⟩ := List.mem_map.1 hr; rfl
theorem Obss.src {w : World} {A : Option Addr} {l : List Obs} (h : Obss w A l) : Src w A 6 (l.map Obs.row) := fun hn => by
  obtain ⟨b, off, rfl, hc⟩ := h (by simpa using hn)
  refine ⟨b, off, rfl, fun i j r x hr hj hx => ?_⟩
  have hi : i < l.length := by
    have := (List.getElem?_eq_some_iff.1 hr).1
    simpa using this
  rw [List.getElem?_map, List.getElem?_eq_getElem hi] at hr
  simp at hr
  subst hr
  obtain ⟨h0, h1, h2, h3, h4, h5⟩ := hc i hi
  match j, hj with
  | 0, _ => simp [Obs.row] at hx; subst hx; exact h0
  | 1, _ => simp [Obs.row] at hx; subst hx; exact h1
  | 2, _ => simp [Obs.row] at hx; subst hx; exact h2
  | 3, _ => simp [Obs.row] at hx; subst hx; exact h3
  | 4, _ => simp [Obs.row] at hx; subst hx; exact h4
  | 5, _ => simp [Obs.row] at hx; subst hx; exact h5
theorem Obss.of_src {w : World} {A : Option Addr} {l : List Obs} (h : Src w A 6 (l.map Obs.row)) : Obss w A l := fun hn => by
  obtain ⟨b, off, rfl, hc⟩ := h (by simpa using hn)
  refine ⟨b, off, rfl, fun i hi => ?_⟩
  have hr : (l.map Obs.row)[i]? = some (Obs.row l[i]) := by rw [List.getElem?_map, List.getElem?_eq_getElem hi]; rfl
  exact ⟨hc i 0 _ _ hr (by omega) rfl, hc i 1 _ _ hr (by omega) rfl, hc i 2 _ _ hr (by omega) rfl, hc i 3 _ _ hr (by omega) rfl, hc i 4 _ _ hr (by omega) rfl, hc i 5 _ _ hr (by omega) rfl⟩
theorem Obs.one_src (w : World) (x : Obs) : Src (w.alloc (.cells #[.int .i64 x.station, .int .i64 x.at_, .int .i64 x.gust, .int .i64 x.temp, .int .i64 x.hum, .int .i64 x.snow] 30)) (some ⟨w.heap.size, 0, none⟩) 6 [Obs.row x] := fun _ => by
  refine ⟨_, _, rfl, fun i j r y hr hj hy => ?_⟩
  have hi : i = 0 := by have := (List.getElem?_eq_some_iff.1 hr).1; simp at this; omega
  subst hi
  simp at hr
  subst hr
  match j, hj with
  | 0, _ => simp [Obs.row] at hy; subst hy; go_simp
  | 1, _ => simp [Obs.row] at hy; subst hy; go_simp
  | 2, _ => simp [Obs.row] at hy; subst hy; go_simp
  | 3, _ => simp [Obs.row] at hy; subst hy; go_simp
  | 4, _ => simp [Obs.row] at hy; subst hy; go_simp
  | 5, _ => simp [Obs.row] at hy; subst hy; go_simp
theorem Obss.take {w : World} {A : Option Addr} {l : List Obs} (h : Obss w A l) (k : Nat) : Obss w A (l.take k) := fun hn => by
  simp at hn
  obtain ⟨b, off, rfl, hc⟩ := h (by omega)
  refine ⟨b, off, rfl, fun i hi => ?_⟩
  simp at hi
  rw [List.getElem_take]
  exact hc i (by omega)
theorem Obs.slice_to (A : Option Addr) (n c k : Nat) (hk : k ≤ n) (hc : n ≤ c) (w : World) : (Instr.slice 22 (.slice A n c) none (some (.int .i64 (k : Int))) none).run Try.prog w = .ok (.slice A k c) w := by
  have h1 : k ≤ c := by omega
  go_simp
theorem Obs.info : (Try.prog.info? 30).map (fun i => (i.zero, i.size, i.bytes)) = some (some (.agg #[.int .i64 0, .int .i64 0, .int .i64 0, .int .i64 0, .int .i64 0, .int .i64 0]), 6, 48) := by kernel_rfl
theorem Obs.neq_self (x : Obs) (w : World) : (binOp .neq 30 (.agg #[.int .i64 x.station, .int .i64 x.at_, .int .i64 x.gust, .int .i64 x.temp, .int .i64 x.hum, .int .i64 x.snow]) (.agg #[.int .i64 x.station, .int .i64 x.at_, .int .i64 x.gust, .int .i64 x.temp, .int .i64 x.hum, .int .i64 x.snow])).run Try.prog w = .ok (.bool false) w := by
  go_simp
theorem Obs.eql_self (x : Obs) (w : World) : (binOp .eql 30 (.agg #[.int .i64 x.station, .int .i64 x.at_, .int .i64 x.gust, .int .i64 x.temp, .int .i64 x.hum, .int .i64 x.snow]) (.agg #[.int .i64 x.station, .int .i64 x.at_, .int .i64 x.gust, .int .i64 x.temp, .int .i64 x.hum, .int .i64 x.snow])).run Try.prog w = .ok (.bool true) w := by
  go_simp
theorem Obs.val_eq (x : Obs) : x.val = .agg #[.int .i64 x.station, .int .i64 x.at_, .int .i64 x.gust, .int .i64 x.temp, .int .i64 x.hum, .int .i64 x.snow] := rfl
/-- all the numbers are ints -/
def Obs.I (x : Obs) : Prop := I64 x.station ∧ I64 x.at_ ∧ I64 x.gust ∧ I64 x.temp ∧ I64 x.hum ∧ I64 x.snow
/-- a slice that came in -/
theorem open_obss {H : Type} {enc : TypeId × Value → H} {w : World} {base : Nat} {held : Bool} {r : Reach} {b0 : Nat} {v : Value} {d : DataW H} {p : List MemPlace} (hv : Value.okWide Try.prog w r b0 22 v) (h : DataW.Trod enc Try.prog w base (fun _ => true) held 22 v d p) :
    ∃ (A : Option Addr) (c : Nat) (l : List Obs), v = .slice A l.length c ∧ (l.length ≤ c ∧ c ≤ maxLen) ∧ (Obss w A l ∧ ∀ x ∈ l, x.I) ∧ LenIs d l.length := by
  obtain ⟨A, n, c, g, rfl, hnc, hm, hr, hI, hL⟩ := open_recs (fs := _) Try.underlying22 Try.underlying30 (by kernel_rfl) (by kernel_rfl) (by kernel_rfl) (by decide) hv h
  refine ⟨A, c, (List.range n).map fun i => ⟨g i 0, g i 1, g i 2, g i 3, g i 4, g i 5⟩, by simp, ⟨by simpa using hnc, hm⟩, ⟨Obss.of_recs hr, fun x hx => ?_⟩, by simpa using hL⟩
  obtain ⟨i, hi, rfl⟩ := List.mem_map.1 hx
  have hi' : i < n := by simpa using hi
  exact ⟨hI i 0 hi' (by show 0 < 6; omega), hI i 1 hi' (by show 1 < 6; omega), hI i 2 hi' (by show 2 < 6; omega), hI i 3 hi' (by show 3 < 6; omega), hI i 4 hi' (by show 4 < 6; omega), hI i 5 hi' (by show 5 < 6; omega)⟩
/-- a struct that came in by value -/
theorem open_obs {H : Type} {enc : TypeId × Value → H} {w : World} {base : Nat} {spare : Nat → Bool} {held : Bool} {r : Reach} {b0 : Nat} {v : Value} {d : DataW H} {p : List MemPlace} (hv : Value.okWide Try.prog w r b0 30 v) (h : DataW.Trod enc Try.prog w base spare held 30 v d p) :
    ∃ x : Obs, v = x.val ∧ x.I := by
  obtain ⟨l, hl, rfl, hI⟩ := open_agg (fs := _) Try.underlying30 (by kernel_rfl) (by kernel_rfl) (by kernel_rfl) hv h
  match l, hl with
  | [a0, a1, a2, a3, a4, a5], _ => exact ⟨⟨a0, a1, a2, a3, a4, a5⟩, rfl, hI a0 (by simp), hI a1 (by simp), hI a2 (by simp), hI a3 (by simp), hI a4 (by simp), hI a5 (by simp)⟩


/-! ### Val -/
/-- the value of a struct -/
def Val.val (x : Val) : Value := .agg #[.int .i64 x.v, .int .i64 x.t]
def Vals (w : World) (A : Option Addr) (l : List Val) : Prop :=
  0 < l.length → ∃ b off, A = some ⟨b, off, none⟩ ∧ ∀ i (h : i < l.length),
    w.cell? ⟨b, off + i * 2, none⟩ = some (.int .i64 (l[i]).v) ∧ w.cell? ⟨b, off + i * 2 + 1, none⟩ = some (.int .i64 (l[i]).t)
theorem Vals.below {w w' : World} {A : Option Addr} {l : List Val} (h : Vals w A l) (hb : Below w.heap.size w w') : Vals w' A l := fun hn => by
  obtain ⟨b, off, rfl, hc⟩ := h hn
  exact ⟨b, off, rfl, fun i hi => ⟨cell_later hb (hc i hi).1, cell_later hb (hc i hi).2⟩⟩
theorem Vals.nil (w : World) (A : Option Addr) : Vals w A [] := fun h => by simp at h
theorem Vals.of_recs {w : World} {A : Option Addr} {n : Nat} {g : Nat → Nat → Int} (h : Recs w A 2 n g) : Vals w A ((List.range n).map fun i => ⟨g i 0, g i 1⟩) := fun hn => by
  obtain ⟨b, off, rfl, hc⟩ := h (by simpa using hn)
  refine ⟨b, off, rfl, fun i hi => ?_⟩
  have hi' : i < n := by simpa using hi
  have h0 := hc i 0 hi' (by omega)
  have h1 := hc i 1 hi' (by omega)
  simp only [List.getElem_map, List.getElem_range]
  exact ⟨h0, h1⟩
theorem Val.row_len (l : List Val) : ∀ r ∈ l.map Val.row, r.length = 2 := fun r hr => by
  obtain ⟨x, _, rfl⟩ := List.mem_map.1 hr; rfl
theorem Vals.src {w : World} {A : Option Addr} {l : List Val} (h : Vals w A l) : Src w A 2 (l.map Val.row) := fun hn => by
  obtain ⟨b, off, rfl, hc⟩ := h (by simpa using hn)
  refine ⟨b, off, rfl, fun i j r x hr hj hx => ?_⟩
  have hi : i < l.length := by
    have := (List.getElem?_eq_some_iff.1 hr).1
    simpa using this
  rw [List.getElem?_map, List.getElem?_eq_getElem hi] at hr
  simp at hr
  subst hr
  obtain ⟨h0, h1⟩ := hc i hi
  match j, hj with
  | 0, _ => simp [Val.row] at hx; subst hx; exact h0
  | 1, _ => simp [Val.row] at hx; subst hx; exact h1
theorem Vals.of_src {w : World} {A : Option Addr} {l : List Val} (h : Src w A 2 (l.map Val.row)) : Vals w A l := fun hn => by
  obtain ⟨b, off, rfl, hc⟩ := h (by simpa using hn)
  refine ⟨b, off, rfl, fun i hi => ?_⟩
  have hr : (l.map Val.row)[i]? = some (Val.row l[i]) := by rw [List.getElem?_map, List.getElem?_eq_getElem hi]; rfl
  exact ⟨hc i 0 _ _ hr (by omega) rfl, hc i 1 _ _ hr (by omega) rfl⟩
theorem Val.one_src (w : World) (x : Val) : Src (w.alloc (.cells #[.int .i64 x.v, .int .i64 x.t] 45)) (some ⟨w.heap.size, 0, none⟩) 2 [Val.row x] := fun _ => by
  refine ⟨_, _, rfl, fun i j r y hr hj hy => ?_⟩
  have hi : i = 0 := by have := (List.getElem?_eq_some_iff.1 hr).1; simp at this; omega
  subst hi
  simp at hr
  subst hr
  match j, hj with
  | 0, _ => simp [Val.row] at hy; subst hy; go_simp
  | 1, _ => simp [Val.row] at hy; subst hy; go_simp
theorem Vals.take {w : World} {A : Option Addr} {l : List Val} (h : Vals w A l) (k : Nat) : Vals w A (l.take k) := fun hn => by
  simp at hn
  obtain ⟨b, off, rfl, hc⟩ := h (by omega)
  refine ⟨b, off, rfl, fun i hi => ?_⟩
  simp at hi
  rw [List.getElem_take]
  exact hc i (by omega)
theorem Val.slice_to (A : Option Addr) (n c k : Nat) (hk : k ≤ n) (hc : n ≤ c) (w : World) : (Instr.slice 43 (.slice A n c) none (some (.int .i64 (k : Int))) none).run Try.prog w = .ok (.slice A k c) w := by
  have h1 : k ≤ c := by omega
  go_simp
theorem Val.info : (Try.prog.info? 45).map (fun i => (i.zero, i.size, i.bytes)) = some (some (.agg #[.int .i64 0, .int .i64 0]), 2, 16) := by kernel_rfl
theorem Val.neq_self (x : Val) (w : World) : (binOp .neq 45 (.agg #[.int .i64 x.v, .int .i64 x.t]) (.agg #[.int .i64 x.v, .int .i64 x.t])).run Try.prog w = .ok (.bool false) w := by
  go_simp
theorem Val.eql_self (x : Val) (w : World) : (binOp .eql 45 (.agg #[.int .i64 x.v, .int .i64 x.t]) (.agg #[.int .i64 x.v, .int .i64 x.t])).run Try.prog w = .ok (.bool true) w := by
  go_simp
theorem Val.val_eq (x : Val) : x.val = .agg #[.int .i64 x.v, .int .i64 x.t] := rfl
/-- all the numbers are ints -/
def Val.I (x : Val) : Prop := I64 x.v ∧ I64 x.t
/-- a slice that came in -/
theorem open_vals {H : Type} {enc : TypeId × Value → H} {w : World} {base : Nat} {held : Bool} {r : Reach} {b0 : Nat} {v : Value} {d : DataW H} {p : List MemPlace} (hv : Value.okWide Try.prog w r b0 43 v) (h : DataW.Trod enc Try.prog w base (fun _ => true) held 43 v d p) :
    ∃ (A : Option Addr) (c : Nat) (l : List Val), v = .slice A l.length c ∧ (l.length ≤ c ∧ c ≤ maxLen) ∧ (Vals w A l ∧ ∀ x ∈ l, x.I) ∧ LenIs d l.length := by
  obtain ⟨A, n, c, g, rfl, hnc, hm, hr, hI, hL⟩ := open_recs (fs := _) Try.underlying43 Try.underlying45 (by kernel_rfl) (by kernel_rfl) (by kernel_rfl) (by decide) hv h
  refine ⟨A, c, (List.range n).map fun i => ⟨g i 0, g i 1⟩, by simp, ⟨by simpa using hnc, hm⟩, ⟨Vals.of_recs hr, fun x hx => ?_⟩, by simpa using hL⟩
  obtain ⟨i, hi, rfl⟩ := List.mem_map.1 hx
  have hi' : i < n := by simpa using hi
  exact ⟨hI i 0 hi' (by show 0 < 2; omega), hI i 1 hi' (by show 1 < 2; omega)⟩
/-- a struct that came in by value -/
theorem open_val {H : Type} {enc : TypeId × Value → H} {w : World} {base : Nat} {spare : Nat → Bool} {held : Bool} {r : Reach} {b0 : Nat} {v : Value} {d : DataW H} {p : List MemPlace} (hv : Value.okWide Try.prog w r b0 45 v) (h : DataW.Trod enc Try.prog w base spare held 45 v d p) :
    ∃ x : Val, v = x.val ∧ x.I := by
  obtain ⟨l, hl, rfl, hI⟩ := open_agg (fs := _) Try.underlying45 (by kernel_rfl) (by kernel_rfl) (by kernel_rfl) hv h
  match l, hl with
  | [a0, a1], _ => exact ⟨⟨a0, a1⟩, rfl, hI a0 (by simp), hI a1 (by simp)⟩


/-! ### Itv -/
/-- the value of a struct -/
def Itv.val (x : Itv) : Value := .agg #[.int .i64 x.from_, .int .i64 x.to_]
def Itvs (w : World) (A : Option Addr) (l : List Itv) : Prop :=
  0 < l.length → ∃ b off, A = some ⟨b, off, none⟩ ∧ ∀ i (h : i < l.length),
    w.cell? ⟨b, off + i * 2, none⟩ = some (.int .i64 (l[i]).from_) ∧ w.cell? ⟨b, off + i * 2 + 1, none⟩ = some (.int .i64 (l[i]).to_)
theorem Itvs.below {w w' : World} {A : Option Addr} {l : List Itv} (h : Itvs w A l) (hb : Below w.heap.size w w') : Itvs w' A l := fun hn => by
  obtain ⟨b, off, rfl, hc⟩ := h hn
  exact ⟨b, off, rfl, fun i hi => ⟨cell_later hb (hc i hi).1, cell_later hb (hc i hi).2⟩⟩
theorem Itvs.nil (w : World) (A : Option Addr) : Itvs w A [] := fun h => by simp at h
theorem Itvs.of_recs {w : World} {A : Option Addr} {n : Nat} {g : Nat → Nat → Int} (h : Recs w A 2 n g) : Itvs w A ((List.range n).map fun i => ⟨g i 0, g i 1⟩) := fun hn => by
  obtain ⟨b, off, rfl, hc⟩ := h (by simpa using hn)
  refine ⟨b, off, rfl, fun i hi => ?_⟩
  have hi' : i < n := by simpa using hi
  have h0 := hc i 0 hi' (by omega)
  have h1 := hc i 1 hi' (by omega)
  simp only [List.getElem_map, List.getElem_range]
  exact ⟨h0, h1⟩
theorem Itv.row_len (l : List Itv) : ∀ r ∈ l.map Itv.row, r.length = 2 := fun r hr => by
  obtain ⟨x, _, rfl⟩ := List.mem_map.1 hr; rfl
theorem Itvs.src {w : World} {A : Option Addr} {l : List Itv} (h : Itvs w A l) : Src w A 2 (l.map Itv.row) := fun hn => by
  obtain ⟨b, off, rfl, hc⟩ := h (by simpa using hn)
  refine ⟨b, off, rfl, fun i j r x hr hj hx => ?_⟩
  have hi : i < l.length := by
    have := (List.getElem?_eq_some_iff.1 hr).1
    simpa using this
  rw [List.getElem?_map, List.getElem?_eq_getElem hi] at hr
  simp at hr
  subst hr
  obtain ⟨h0, h1⟩ := hc i hi
  match j, hj with
  | 0, _ => simp [Itv.row] at hx; subst hx; exact h0
  | 1, _ => simp [Itv.row] at hx; subst hx; exact h1
theorem Itvs.of_src {w : World} {A : Option Addr} {l : List Itv} (h : Src w A 2 (l.map Itv.row)) : Itvs w A l := fun hn => by
  obtain ⟨b, off, rfl, hc⟩ := h (by simpa using hn)
  refine ⟨b, off, rfl, fun i hi => ?_⟩
  have hr : (l.map Itv.row)[i]? = some (Itv.row l[i]) := by rw [List.getElem?_map, List.getElem?_eq_getElem hi]; rfl
  exact ⟨hc i 0 _ _ hr (by omega) rfl, hc i 1 _ _ hr (by omega) rfl⟩
theorem Itv.one_src (w : World) (x : Itv) : Src (w.alloc (.cells #[.int .i64 x.from_, .int .i64 x.to_] 28)) (some ⟨w.heap.size, 0, none⟩) 2 [Itv.row x] := fun _ => by
  refine ⟨_, _, rfl, fun i j r y hr hj hy => ?_⟩
  have hi : i = 0 := by have := (List.getElem?_eq_some_iff.1 hr).1; simp at this; omega
  subst hi
  simp at hr
  subst hr
  match j, hj with
  | 0, _ => simp [Itv.row] at hy; subst hy; go_simp
  | 1, _ => simp [Itv.row] at hy; subst hy; go_simp
theorem Itvs.take {w : World} {A : Option Addr} {l : List Itv} (h : Itvs w A l) (k : Nat) : Itvs w A (l.take k) := fun hn => by
  simp at hn
  obtain ⟨b, off, rfl, hc⟩ := h (by omega)
  refine ⟨b, off, rfl, fun i hi => ?_⟩
  simp at hi
  rw [List.getElem_take]
  exact hc i (by omega)

theorem Itv.info : (Try.prog.info? 28).map (fun i => (i.zero, i.size, i.bytes)) = some (some (.agg #[.int .i64 0, .int .i64 0]), 2, 16) := by kernel_rfl
theorem Itv.neq_self (x : Itv) (w : World) : (binOp .neq 28 (.agg #[.int .i64 x.from_, .int .i64 x.to_]) (.agg #[.int .i64 x.from_, .int .i64 x.to_])).run Try.prog w = .ok (.bool false) w := by
  go_simp
theorem Itv.eql_self (x : Itv) (w : World) : (binOp .eql 28 (.agg #[.int .i64 x.from_, .int .i64 x.to_]) (.agg #[.int .i64 x.from_, .int .i64 x.to_])).run Try.prog w = .ok (.bool true) w := by
  go_simp
theorem Itv.val_eq (x : Itv) : x.val = .agg #[.int .i64 x.from_, .int .i64 x.to_] := rfl
/-- all the numbers are ints -/
def Itv.I (x : Itv) : Prop := I64 x.from_ ∧ I64 x.to_
/-- a struct that came in by value -/
theorem open_itv {H : Type} {enc : TypeId × Value → H} {w : World} {base : Nat} {spare : Nat → Bool} {held : Bool} {r : Reach} {b0 : Nat} {v : Value} {d : DataW H} {p : List MemPlace} (hv : Value.okWide Try.prog w r b0 28 v) (h : DataW.Trod enc Try.prog w base spare held 28 v d p) :
    ∃ x : Itv, v = x.val ∧ x.I := by
  obtain ⟨l, hl, rfl, hI⟩ := open_agg (fs := _) Try.underlying28 (by kernel_rfl) (by kernel_rfl) (by kernel_rfl) hv h
  match l, hl with
  | [a0, a1], _ => exact ⟨⟨a0, a1⟩, rfl, hI a0 (by simp), hI a1 (by simp)⟩

end Go.Proofs.Ytjnokdpliocmmaa
