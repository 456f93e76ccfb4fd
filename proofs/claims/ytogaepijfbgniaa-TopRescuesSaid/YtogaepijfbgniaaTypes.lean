/- Structs of ints of this seat, in memory. -/
import Derived.Test.YtogaepijfbgniaaChecked
import Derived.Test.YtogaepijfbgniaaFrame
import Derived.Test.YtogaepijfbgniaaRec
import Derived.Test.YtogaepijfbgniaaPlain
namespace Go.Proofs.Ytogaepijfbgniaa
open Go.RowKit Go.ChangeShapes Go.WideShapes Go.ChangeAt Go.Deep
set_option linter.unusedVariables false

/-! ### Sec -/
/-- the value of a struct -/
def Sec.val (x : Sec) : Value := .agg #[.int .i64 x.id, .int .i64 x.people, .int .i64 x.seconds]
def Secs (w : World) (A : Option Addr) (l : List Sec) : Prop :=
  0 < l.length → ∃ b off, A = some ⟨b, off, none⟩ ∧ ∀ i (h : i < l.length),
    w.cell? ⟨b, off + i * 3, none⟩ = some (.int .i64 (l[i]).id) ∧ w.cell? ⟨b, off + i * 3 + 1, none⟩ = some (.int .i64 (l[i]).people) ∧ w.cell? ⟨b, off + i * 3 + 2, none⟩ = some (.int .i64 (l[i]).seconds)
theorem Secs.below {w w' : World} {A : Option Addr} {l : List Sec} (h : Secs w A l) (hb : Below w.heap.size w w') : Secs w' A l := fun hn => by
  obtain ⟨b, off, rfl, hc⟩ := h hn
  exact ⟨b, off, rfl, fun i hi => ⟨cell_later hb (hc i hi).1, cell_later hb (hc i hi).2.1, cell_later hb (hc i hi).2.2⟩⟩
theorem Secs.nil (w : World) (A : Option Addr) : Secs w A [] := fun h => by simp at h
theorem Secs.of_recs {w : World} {A : Option Addr} {n : Nat} {g : Nat → Nat → Int} (h : Recs w A 3 n g) : Secs w A ((List.range n).map fun i => ⟨g i 0, g i 1, g i 2⟩) := fun hn => by
  obtain ⟨b, off, rfl, hc⟩ := h (by simpa using hn)
  refine ⟨b, off, rfl, fun i hi => ?_⟩
  have hi' : i < n := by simpa using hi
  have h0 := hc i 0 hi' (by omega)
  have h1 := hc i 1 hi' (by omega)
  have h2 := hc i 2 hi' (by omega)
  simp only [List.getElem_map, List.getElem_range]
  exact ⟨h0, h1, h2⟩
theorem Sec.row_len (l : List Sec) : ∀ r ∈ l.map Sec.row, r.length = 3 := fun r hr => by
  obtain ⟨x, _, rfl⟩ := List.mem_map.1 hr; rfl
theorem Secs.src {w : World} {A : Option Addr} {l : List Sec} (h : Secs w A l) : Src w A 3 (l.map Sec.row) := fun hn => by
  obtain ⟨b, off, rfl, hc⟩ := h (by simpa using hn)
  refine ⟨b, off, rfl, fun i j r x hr hj hx => ?_⟩
  have hi : i < l.length := by
    have := (List.getElem?_eq_some_iff.1 hr).1
    simpa using this
  rw [List.getElem?_map, List.getElem?_eq_getElem hi] at hr
  simp at hr
  subst hr
  obtain ⟨h0, h1, h2⟩ := hc i hi
  match j, hj with
  | 0, _ => simp [Sec.row] at hx; subst hx; exact h0
  | 1, _ => simp [Sec.row] at hx; subst hx; exact h1
  | 2, _ => simp [Sec.row] at hx; subst hx; exact h2
theorem Secs.of_src {w : World} {A : Option Addr} {l : List Sec} (h : Src w A 3 (l.map Sec.row)) : Secs w A l := fun hn => by
  obtain ⟨b, off, rfl, hc⟩ := h (by simpa using hn)
  refine ⟨b, off, rfl, fun i hi => ?_⟩
  have hr : (l.map Sec.row)[i]? = some (Sec.row l[i]) := by rw [List.getElem?_map, List.getElem?_eq_getElem hi]; rfl
  exact ⟨hc i 0 _ _ hr (by omega) rfl, hc i 1 _ _ hr (by omega) rfl, hc i 2 _ _ hr (by omega) rfl⟩
theorem Sec.one_src (w : World) (x : Sec) : Src (w.alloc (.cells #[.int .i64 x.id, .int .i64 x.people, .int .i64 x.seconds] 33)) (some ⟨w.heap.size, 0, none⟩) 3 [Sec.row x] := fun _ => by
  refine ⟨_, _, rfl, fun i j r y hr hj hy => ?_⟩
  have hi : i = 0 := by have := (List.getElem?_eq_some_iff.1 hr).1; simp at this; omega
  subst hi
  simp at hr
  subst hr
  match j, hj with
  | 0, _ => simp [Sec.row] at hy; subst hy; go_simp
  | 1, _ => simp [Sec.row] at hy; subst hy; go_simp
  | 2, _ => simp [Sec.row] at hy; subst hy; go_simp
theorem Secs.take {w : World} {A : Option Addr} {l : List Sec} (h : Secs w A l) (k : Nat) : Secs w A (l.take k) := fun hn => by
  simp at hn
  obtain ⟨b, off, rfl, hc⟩ := h (by omega)
  refine ⟨b, off, rfl, fun i hi => ?_⟩
  simp at hi
  rw [List.getElem_take]
  exact hc i (by omega)
theorem Sec.slice_to (A : Option Addr) (n c k : Nat) (hk : k ≤ n) (hc : n ≤ c) (w : World) : (Instr.slice 22 (.slice A n c) none (some (.int .i64 (k : Int))) none).run Try.prog w = .ok (.slice A k c) w := by
  have h1 : k ≤ c := by omega
  go_simp
theorem Sec.info : (Try.prog.info? 33).map (fun i => (i.zero, i.size, i.bytes)) = some (some (.agg #[.int .i64 0, .int .i64 0, .int .i64 0]), 3, 24) := by kernel_rfl
theorem Sec.neq_self (x : Sec) (w : World) : (binOp .neq 33 (.agg #[.int .i64 x.id, .int .i64 x.people, .int .i64 x.seconds]) (.agg #[.int .i64 x.id, .int .i64 x.people, .int .i64 x.seconds])).run Try.prog w = .ok (.bool false) w := by
  go_simp
theorem Sec.eql_self (x : Sec) (w : World) : (binOp .eql 33 (.agg #[.int .i64 x.id, .int .i64 x.people, .int .i64 x.seconds]) (.agg #[.int .i64 x.id, .int .i64 x.people, .int .i64 x.seconds])).run Try.prog w = .ok (.bool true) w := by
  go_simp
theorem Sec.val_eq (x : Sec) : x.val = .agg #[.int .i64 x.id, .int .i64 x.people, .int .i64 x.seconds] := rfl
/-- all the numbers are ints -/
def Sec.I (x : Sec) : Prop := I64 x.id ∧ I64 x.people ∧ I64 x.seconds
/-- a slice that came in -/
theorem open_secs {H : Type} {enc : TypeId × Value → H} {w : World} {base : Nat} {held : Bool} {r : Reach} {b0 : Nat} {v : Value} {d : DataW H} {p : List MemPlace} (hv : Value.okWide Try.prog w r b0 22 v) (h : DataW.Trod enc Try.prog w base (fun _ => true) held 22 v d p) :
    ∃ (A : Option Addr) (c : Nat) (l : List Sec), v = .slice A l.length c ∧ (l.length ≤ c ∧ c ≤ maxLen) ∧ (Secs w A l ∧ ∀ x ∈ l, x.I) ∧ LenIs d l.length := by
  obtain ⟨A, n, c, g, rfl, hnc, hm, hr, hI, hL⟩ := open_recs (fs := _) Try.underlying22 Try.underlying33 (by kernel_rfl) (by kernel_rfl) (by kernel_rfl) (by decide) hv h
  refine ⟨A, c, (List.range n).map fun i => ⟨g i 0, g i 1, g i 2⟩, by simp, ⟨by simpa using hnc, hm⟩, ⟨Secs.of_recs hr, fun x hx => ?_⟩, by simpa using hL⟩
  obtain ⟨i, hi, rfl⟩ := List.mem_map.1 hx
  have hi' : i < n := by simpa using hi
  exact ⟨hI i 0 hi' (by show 0 < 3; omega), hI i 1 hi' (by show 1 < 3; omega), hI i 2 hi' (by show 2 < 3; omega)⟩
/-- a struct that came in by value -/
theorem open_sec {H : Type} {enc : TypeId × Value → H} {w : World} {base : Nat} {spare : Nat → Bool} {held : Bool} {r : Reach} {b0 : Nat} {v : Value} {d : DataW H} {p : List MemPlace} (hv : Value.okWide Try.prog w r b0 33 v) (h : DataW.Trod enc Try.prog w base spare held 33 v d p) :
    ∃ x : Sec, v = x.val ∧ x.I := by
  obtain ⟨l, hl, rfl, hI⟩ := open_agg (fs := _) Try.underlying33 (by kernel_rfl) (by kernel_rfl) (by kernel_rfl) hv h
  match l, hl with
  | [a0, a1, a2], _ => exact ⟨⟨a0, a1, a2⟩, rfl, hI a0 (by simp), hI a1 (by simp), hI a2 (by simp)⟩


/-! ### Job -/
/-- the value of a struct -/
def Job.val (x : Job) : Value := .agg #[.int .i64 x.team, .int .i64 x.sec, .int .i64 x.from_, .int .i64 x.to_]
def Jobs (w : World) (A : Option Addr) (l : List Job) : Prop :=
  0 < l.length → ∃ b off, A = some ⟨b, off, none⟩ ∧ ∀ i (h : i < l.length),
    w.cell? ⟨b, off + i * 4, none⟩ = some (.int .i64 (l[i]).team) ∧ w.cell? ⟨b, off + i * 4 + 1, none⟩ = some (.int .i64 (l[i]).sec) ∧ w.cell? ⟨b, off + i * 4 + 2, none⟩ = some (.int .i64 (l[i]).from_) ∧ w.cell? ⟨b, off + i * 4 + 3, none⟩ = some (.int .i64 (l[i]).to_)
theorem Jobs.below {w w' : World} {A : Option Addr} {l : List Job} (h : Jobs w A l) (hb : Below w.heap.size w w') : Jobs w' A l := fun hn => by
  obtain ⟨b, off, rfl, hc⟩ := h hn
  exact ⟨b, off, rfl, fun i hi => ⟨cell_later hb (hc i hi).1, cell_later hb (hc i hi).2.1, cell_later hb (hc i hi).2.2.1, cell_later hb (hc i hi).2.2.2⟩⟩
theorem Jobs.nil (w : World) (A : Option Addr) : Jobs w A [] := fun h => by simp at h
theorem Jobs.of_recs {w : World} {A : Option Addr} {n : Nat} {g : Nat → Nat → Int} (h : Recs w A 4 n g) : Jobs w A ((List.range n).map fun i => ⟨g i 0, g i 1, g i 2, g i 3⟩) := fun hn => by
  obtain ⟨b, off, rfl, hc⟩ := h (by simpa using hn)
  refine ⟨b, off, rfl, fun i hi => ?_⟩
  have hi' : i < n := by simpa using hi
  have h0 := hc i 0 hi' (by omega)
  have h1 := hc i 1 hi' (by omega)
  have h2 := hc i 2 hi' (by omega)
  have h3 := hc i 3 hi' (by omega)
  simp only [List.getElem_map, List.getElem_range]
  exact ⟨h0, h1, h2, h3⟩
theorem Job.row_len (l : List Job) : ∀ r ∈ l.map Job.row, r.length = 4 := fun r hr => by
  obtain ⟨x, _, rfl⟩ := List.mem_map.1 hr; rfl
theorem Jobs.src {w : World} {A : Option Addr} {l : List Job} (h : Jobs w A l) : Src w A 4 (l.map Job.row) := fun hn => by
  obtain ⟨b, off, rfl, hc⟩ := h (by simpa using hn)
  refine ⟨b, off, rfl, fun i j r x hr hj hx => ?_⟩
  have hi : i < l.length := by
    have := (List.getElem?_eq_some_iff.1 hr).1
    simpa using this
  rw [List.getElem?_map, List.getElem?_eq_getElem hi] at hr
  simp at hr
  subst hr
  obtain ⟨h0, h1, h2, h3⟩ := hc i hi
  match j, hj with
  | 0, _ => simp [Job.row] at hx; subst hx; exact h0
  | 1, _ => simp [Job.row] at hx; subst hx; exact h1
  | 2, _ => simp [Job.row] at hx; subst hx; exact h2
  | 3, _ => simp [Job.row] at hx; subst hx; exact h3
theorem Jobs.of_src {w : World} {A : Option Addr} {l : List Job} (h : Src w A 4 (l.map Job.row)) : Jobs w A l := fun hn => by
  obtain ⟨b, off, rfl, hc⟩ := h (by simpa using hn)
  refine ⟨b, off, rfl, fun i hi => ?_⟩
  have hr : (l.map Job.row)[i]? = some (Job.row l[i]) := by rw [List.getElem?_map, List.getElem?_eq_getElem hi]; rfl
  exact ⟨hc i 0 _ _ hr (by omega) rfl, hc i 1 _ _ hr (by omega) rfl, hc i 2 _ _ hr (by omega) rfl, hc i 3 _ _ hr (by omega) rfl⟩
theorem Job.one_src (w : World) (x : Job) : Src (w.alloc (.cells #[.int .i64 x.team, .int .i64 x.sec, .int .i64 x.from_, .int .i64 x.to_] 35)) (some ⟨w.heap.size, 0, none⟩) 4 [Job.row x] := fun _ => by
  refine ⟨_, _, rfl, fun i j r y hr hj hy => ?_⟩
  have hi : i = 0 := by have := (List.getElem?_eq_some_iff.1 hr).1; simp at this; omega
  subst hi
  simp at hr
  subst hr
  match j, hj with
  | 0, _ => simp [Job.row] at hy; subst hy; go_simp
  | 1, _ => simp [Job.row] at hy; subst hy; go_simp
  | 2, _ => simp [Job.row] at hy; subst hy; go_simp
  | 3, _ => simp [Job.row] at hy; subst hy; go_simp
theorem Jobs.take {w : World} {A : Option Addr} {l : List Job} (h : Jobs w A l) (k : Nat) : Jobs w A (l.take k) := fun hn => by
  simp at hn
  obtain ⟨b, off, rfl, hc⟩ := h (by omega)
  refine ⟨b, off, rfl, fun i hi => ?_⟩
  simp at hi
  rw [List.getElem_take]
  exact hc i (by omega)
theorem Job.slice_to (A : Option Addr) (n c k : Nat) (hk : k ≤ n) (hc : n ≤ c) (w : World) : (Instr.slice 23 (.slice A n c) none (some (.int .i64 (k : Int))) none).run Try.prog w = .ok (.slice A k c) w := by
  have h1 : k ≤ c := by omega
  go_simp
theorem Job.info : (Try.prog.info? 35).map (fun i => (i.zero, i.size, i.bytes)) = some (some (.agg #[.int .i64 0, .int .i64 0, .int .i64 0, .int .i64 0]), 4, 32) := by kernel_rfl
theorem Job.neq_self (x : Job) (w : World) : (binOp .neq 35 (.agg #[.int .i64 x.team, .int .i64 x.sec, .int .i64 x.from_, .int .i64 x.to_]) (.agg #[.int .i64 x.team, .int .i64 x.sec, .int .i64 x.from_, .int .i64 x.to_])).run Try.prog w = .ok (.bool false) w := by
  go_simp
theorem Job.eql_self (x : Job) (w : World) : (binOp .eql 35 (.agg #[.int .i64 x.team, .int .i64 x.sec, .int .i64 x.from_, .int .i64 x.to_]) (.agg #[.int .i64 x.team, .int .i64 x.sec, .int .i64 x.from_, .int .i64 x.to_])).run Try.prog w = .ok (.bool true) w := by
  go_simp
theorem Job.val_eq (x : Job) : x.val = .agg #[.int .i64 x.team, .int .i64 x.sec, .int .i64 x.from_, .int .i64 x.to_] := rfl
/-- all the numbers are ints -/
def Job.I (x : Job) : Prop := I64 x.team ∧ I64 x.sec ∧ I64 x.from_ ∧ I64 x.to_
/-- a slice that came in -/
theorem open_jobs {H : Type} {enc : TypeId × Value → H} {w : World} {base : Nat} {held : Bool} {r : Reach} {b0 : Nat} {v : Value} {d : DataW H} {p : List MemPlace} (hv : Value.okWide Try.prog w r b0 23 v) (h : DataW.Trod enc Try.prog w base (fun _ => true) held 23 v d p) :
    ∃ (A : Option Addr) (c : Nat) (l : List Job), v = .slice A l.length c ∧ (l.length ≤ c ∧ c ≤ maxLen) ∧ (Jobs w A l ∧ ∀ x ∈ l, x.I) ∧ LenIs d l.length := by
  obtain ⟨A, n, c, g, rfl, hnc, hm, hr, hI, hL⟩ := open_recs (fs := _) Try.underlying23 Try.underlying35 (by kernel_rfl) (by kernel_rfl) (by kernel_rfl) (by decide) hv h
  refine ⟨A, c, (List.range n).map fun i => ⟨g i 0, g i 1, g i 2, g i 3⟩, by simp, ⟨by simpa using hnc, hm⟩, ⟨Jobs.of_recs hr, fun x hx => ?_⟩, by simpa using hL⟩
  obtain ⟨i, hi, rfl⟩ := List.mem_map.1 hx
  have hi' : i < n := by simpa using hi
  exact ⟨hI i 0 hi' (by show 0 < 4; omega), hI i 1 hi' (by show 1 < 4; omega), hI i 2 hi' (by show 2 < 4; omega), hI i 3 hi' (by show 3 < 4; omega)⟩
/-- a struct that came in by value -/
theorem open_job {H : Type} {enc : TypeId × Value → H} {w : World} {base : Nat} {spare : Nat → Bool} {held : Bool} {r : Reach} {b0 : Nat} {v : Value} {d : DataW H} {p : List MemPlace} (hv : Value.okWide Try.prog w r b0 35 v) (h : DataW.Trod enc Try.prog w base spare held 35 v d p) :
    ∃ x : Job, v = x.val ∧ x.I := by
  obtain ⟨l, hl, rfl, hI⟩ := open_agg (fs := _) Try.underlying35 (by kernel_rfl) (by kernel_rfl) (by kernel_rfl) hv h
  match l, hl with
  | [a0, a1, a2, a3], _ => exact ⟨⟨a0, a1, a2, a3⟩, rfl, hI a0 (by simp), hI a1 (by simp), hI a2 (by simp), hI a3 (by simp)⟩

end Go.Proofs.Ytogaepijfbgniaa
