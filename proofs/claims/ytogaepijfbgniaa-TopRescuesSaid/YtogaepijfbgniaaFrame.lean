/- The frame of a law's proof, whatever its parameters: from a walk that returns true and leaves what was there, to the row's post; arguments opened. -/
import Derived.Test.YtogaepijfbgniaaBase
import Derived.SizedLaws
namespace Go.Proofs.Ytogaepijfbgniaa
open Go.RowKit Go.ChangeShapes Go.WideShapes Go.ChangeAt Go.Deep
set_option linter.unusedVariables false

section
variable {H : Type} {enc : TypeId × Value → H} {P : Program}
def readable (P : Program) (ts : List TypeId) : Bool := ts.all fun t => P.readableRec t && decide (t < P.types.size)
theorem below_trodAll (hl : laidOutB P = true) {W W' : World} (hb : Below W.heap.size W W') : ∀ {ts : List TypeId} {vs : List Value} {ds : List (DataW H)} {ps : List MemPlace}, readable P ts = true → DataW.TrodAll enc P W 0 (fun _ => true) true ts vs ds ps →
    DataW.TrodAll enc P W' 0 (fun b => decide (b < W.heap.size)) true ts vs ds ps := by
  intro ts
  induction ts with
  | nil => intro vs ds ps _ h; cases vs <;> cases ds <;> simp_all [DataW.TrodAll]
  | cons t ts ih =>
    intro vs ds ps hr h
    obtain ⟨v, vs', d, ds', p, q, rfl, rfl, rfl, h0, r0⟩ := trodAll_cons h
    simp only [readable, List.all_cons, Bool.and_eq_true, decide_eq_true_eq] at hr
    exact trodAll_cons_mk (Below.trod hl hr.1.1 hr.1.2 h0 hb (by obtain ⟨m, hm⟩ := h0; exact DataW.trod_lt m _ _ _ hm)) (ih (by simpa [readable] using hr.2) r0)
theorem law_post {f : FuncId} {fn : Func} {s : ChangeSpec} {T : TypeId} {W : World} {args : Array Value} {ds gs : List (DataW H)} {before : List MemPlace} (hl : laidOutB P = true) (hr : readable P fn.params.toList = true) (hT : P.underlying T = some .bool) (hres : fn.resultTypes = #[T])
    (hvars : s.vars = []) (hW : DataW.Whole enc P fn.params.toList s.vars false W args.toList ds gs before)
    (hs : ds.length = fn.params.size → s.fn H ds = { results := [.lit (.bool true)], args := ds })
    (hc : Calls P f args W fun e W' => e = .returned (.bool true) ∧ Below W.heap.size W W') :
    Calls P f args W fun e W' => ∃ v, e = .returned v ∧ s.post enc P fn false true false false W args v W' := by
  refine hc.mono fun e W' ⟨he, bel⟩ => ⟨_, he, ?_⟩
  have hW' := hW
  obtain ⟨p, q, hA, hV, rfl, hfz, hnd⟩ := hW
  have hlen : ds.length = fn.params.size := by
    have : ∀ {ts : List TypeId} {vs : List Value} {ds : List (DataW H)} {ps : List MemPlace}, DataW.TrodAll enc P W 0 (fun _ => true) true ts vs ds ps → ds.length = ts.length := by
      intro ts
      induction ts with
      | nil => intro vs ds ps h; cases vs <;> cases ds <;> simp_all [DataW.TrodAll]
      | cons t ts ih =>
        intro vs ds ps h
        obtain ⟨v, vs', d, ds', p, q, rfl, rfl, rfl, h0, r0⟩ := trodAll_cons h
        simp [ih r0]
    simpa using this hA
  have e := hs hlen
  rw [hvars] at hV
  obtain ⟨rfl, rfl⟩ := trodVars_none hV
  have e2 : s.fn H (ds ++ []) = { results := [.lit (.bool true)], args := ds } := by rw [List.append_nil]; exact e
  refine ⟨ds, [], _, [], p, [], hW', ?_, ?_, ?_, bel.frame _, fun h => by cases h⟩
  · rw [e2, hres]
    exact trodAll_mk1 (shut_bool hT _)
  · rw [e2]
    exact below_trodAll hl bel hr hA
  · rw [e2, hvars]
    rfl
end

section
variable {H : Type} {enc : TypeId × Value → H} {P : Program} {w : World} {base : Nat} {spare : Nat → Bool} {held : Bool}
theorem open_slice_fields {t e : TypeId} {fs : Array Field} {fuel : Nat} {cs : List Value} {x : DataW H × List MemPlace} (ht : P.underlying t = some (.slice e)) (he : P.underlying e = some (.struct fs))
    (hone : oneCellFields P fs = true) (hC : P.cellsOf e = fs.size) (h : DataW.trod enc P w base spare held fuel t cs = some x) :
    (cs = [.slice none 0 0] ∧ x = (.nil, [])) ∨
    ∃ (a : Addr) (len cap m : Nat) (D : Nat → DataW H) (Pl : Nat → List MemPlace), cs = [.slice (some a) len cap] ∧ base ≤ a.block ∧ len ≤ cap ∧ cap ≤ maxLen ∧ m = (if spare a.block then cap else len) ∧
      x = (.slice ((List.range len).map D) ((List.range (m - len)).map fun j => D (len + j)), MemPlace.row a (m * fs.size) ++ (List.range m).flatMap Pl) ∧
      ∀ i, i < m → ∃ (ys : List (DataW H × List MemPlace)) (n : Nat), D i = .agg (ys.map (·.1)) ∧ Pl i = ys.flatMap (·.2) ∧ ys.length = fs.size ∧
        ∀ (j : Nat) (f : Field), fs[j]? = some f → ∃ (v : Value) (y : DataW H × List MemPlace), w.cell? (a.add (i * fs.size + j)) = some v ∧ ys[j]? = some y ∧ DataW.trod enc P w base spare held n f.type [v] = some y := by
  rcases open_slice ht h with h0 | ⟨a, len, cap, m, n, D, Pl, hcs, hb, hl, hm, hmm, hx, hi⟩
  · exact .inl h0
  · refine .inr ⟨a, len, cap, m, D, Pl, hcs, hb, hl, hm, hmm, by rw [hC] at hx; exact hx, fun i him => ?_⟩
    obtain ⟨cs', hc, ht'⟩ := hi i him
    rw [hC] at hc
    obtain ⟨ys, n', hn', hy, hlen, hyl, hf⟩ := DataW.trod_struct he ht'
    obtain ⟨_, hcl, hat⟩ := World.cells?_some hc
    simp only [Prod.mk.injEq] at hy
    refine ⟨ys, n', hy.1, hy.2, hyl, fun j f hj => ?_⟩
    obtain ⟨ho, hk⟩ := hone_of hone j f hj
    have hjl : j < fs.size := (Array.getElem?_eq_some_iff.1 hj).1
    have hcell := hat j hjl
    have hv : cs'[j]? = some (cs'[j]'(by omega)) := List.getElem?_eq_getElem (by omega)
    have h1 := hf j f hj
    rw [ho, hk] at h1
    have hone' : (cs'.drop j).take 1 = [cs'[j]'(by omega)] := by
      rw [List.drop_eq_getElem_cons (by omega)]
      rfl
    rw [hone'] at h1
    have hys : ys[j]? = some (ys[j]'(by omega)) := List.getElem?_eq_getElem (by omega)
    refine ⟨_, _, ?_, hys, h1.trans hys⟩
    rw [← Go.Deep.add_add, hcell, hv]
/-- what a slice's datum says of its length -/
def LenIs (d : DataW H) (n : Nat) : Prop := (d = .nil ∧ n = 0) ∨ ∃ el sp, d = .slice el sp ∧ el.length = n
def intFields (P : Program) (fs : Array Field) : Bool := fs.toList.all fun f => match P.underlying f.type with | some (.int .i64) => true | _ => false
theorem intFields_of {fs : Array Field} (h : intFields P fs = true) (j : Nat) (f : Field) (hj : fs[j]? = some f) : P.underlying f.type = some (.int .i64) := by
  unfold intFields at h
  rw [List.all_eq_true] at h
  have := h f (by
    obtain ⟨hl, he⟩ := Array.getElem?_eq_some_iff.1 hj
    rw [← he]; exact Array.getElem_mem_toList hl)
  split at this
  · assumption
  · cases this
theorem open_recs {t e : TypeId} {fs : Array Field} {r : Reach} {b0 : Nat} {v : Value} {d : DataW H} {p : List MemPlace} (ht : P.underlying t = some (.slice e)) (he : P.underlying e = some (.struct fs))
    (hone : oneCellFields P fs = true) (hC : P.cellsOf e = fs.size) (hint : intFields P fs = true) (hpos : 0 < fs.size) (hv : Value.okWide P w r b0 t v) (h : DataW.Trod enc P w base (fun _ => true) held t v d p) :
    ∃ (A : Option Addr) (n c : Nat) (g : Nat → Nat → Int), v = .slice A n c ∧ n ≤ c ∧ c ≤ maxLen ∧ Recs w A fs.size n g ∧ (∀ i j, i < n → j < fs.size → I64 (g i j)) ∧ LenIs d n := by
  obtain ⟨A, n, c, rfl⟩ := okWide_slice ht hv
  obtain ⟨fuel, hf⟩ := h
  rcases open_slice_fields ht he hone hC hf with ⟨hcs, hx⟩ | ⟨a, len, cap, m, D, Pl, hcs, _, hl, hm, hmm, hx, hi⟩
  · simp [Value.cells] at hcs
    obtain ⟨rfl, rfl, rfl⟩ := hcs
    simp only [Prod.mk.injEq] at hx
    exact ⟨none, 0, 0, fun _ _ => 0, rfl, Nat.zero_le _, Nat.zero_le _, fun h => by omega, fun i j h => by omega, .inl ⟨hx.1, rfl⟩⟩
  · simp [Value.cells] at hcs
    obtain ⟨rfl, rfl, rfl⟩ := hcs
    simp only [if_pos] at hmm
    subst hmm
    have hl := hl
    simp only [Prod.mk.injEq] at hx
    have key : ∀ i j, i < n → j < fs.size → ∃ x : Int, w.cell? (a.add (i * fs.size + j)) = some (.int .i64 x) ∧ I64 x := by
      intro i j hin hj
      obtain ⟨ys, n', _, _, _, hall⟩ := hi i (by omega)
      obtain ⟨v, y, hc, _, ht'⟩ := hall j fs[j] (Array.getElem?_eq_getElem hj)
      obtain ⟨x, hcs, _, hwf⟩ := DataW.trod_int (intFields_of hint j _ (Array.getElem?_eq_getElem hj)) ht'
      injection hcs with hcs
      subst hcs
      exact ⟨x, hc, i64_of_wf hwf⟩
    refine ⟨some a, n, m, fun i j => if hh : i < n ∧ j < fs.size then Classical.choose (key i j hh.1 hh.2) else 0, rfl, hl, by omega, fun hn => ?_, fun i j hin hj => ?_, .inr ⟨_, _, hx.1, by simp⟩⟩
    · obtain ⟨b, off, spot⟩ := a
      obtain ⟨x, hc, _⟩ := key 0 0 hn hpos
      have hspot : spot = none := by
        have := World.cell?_spot hc
        simpa [Addr.add] using this
      subst hspot
      refine ⟨b, off, rfl, fun i j hin hj => ?_⟩
      have := (Classical.choose_spec (key i j hin hj)).1
      simp only [dif_pos (And.intro hin hj)]
      rw [← this]
      congr 1
      unfold Addr.add
      split
      · rename_i h0; rw [h0]; rfl
      · rfl
    · simp only [dif_pos (And.intro hin hj)]
      exact (Classical.choose_spec (key i j hin hj)).2
theorem open_intsl {t e : TypeId} {r : Reach} {b0 : Nat} {v : Value} {d : DataW H} {p : List MemPlace} (ht : P.underlying t = some (.slice e)) (he : P.underlying e = some (.int .i64)) (hC : P.cellsOf e = 1)
    (hv : Value.okWide P w r b0 t v) (h : DataW.Trod enc P w base (fun _ => true) held t v d p) :
    ∃ (A : Option Addr) (c : Nat) (l : List Int), v = .slice A l.length c ∧ l.length ≤ maxLen ∧ Ints w A l ∧ (∀ x ∈ l, I64 x) ∧ LenIs d l.length := by
  obtain ⟨A, n, c, rfl⟩ := okWide_slice ht hv
  obtain ⟨fuel, hf⟩ := h
  rcases open_ints ht he hC hf with ⟨hcs, hx⟩ | ⟨a, len, cap, zs, hcs, _, hl, hm, hz, hx, hcell, hwz⟩
  · simp [Value.cells] at hcs
    obtain ⟨rfl, rfl, rfl⟩ := hcs
    simp only [Prod.mk.injEq] at hx
    exact ⟨none, 0, [], rfl, Nat.zero_le _, Ints.nil _ _, fun x hx => by simp at hx, .inl ⟨hx.1, rfl⟩⟩
  · simp [Value.cells] at hcs
    obtain ⟨rfl, rfl, rfl⟩ := hcs
    simp only [if_pos] at hz
    have hlen : (zs.take n).length = n := by rw [List.length_take, hz]; omega
    simp only [Prod.mk.injEq] at hx
    refine ⟨some a, c, zs.take n, by rw [hlen], by rw [hlen]; omega, fun hn => ?_, fun x hx => i64_of_wf (hwz x (List.mem_of_mem_take hx)), .inr ⟨_, _, hx.1, by simp [lits]⟩⟩
    rw [hlen] at hn
    obtain ⟨b, off, spot⟩ := a
    have h0 := hcell 0 (by omega)
    have hspot : spot = none := by
      have := World.cell?_spot h0
      simpa [Addr.add] using this
    subst hspot
    refine ⟨b, off, rfl, fun i hi => ?_⟩
    rw [hlen] at hi
    have := hcell i (by omega)
    have e1 : (zs.take n)[i]'(by rw [hlen]; exact hi) = zs.getD i 0 := by simp [List.getElem_take, show i < zs.length by omega]
    rw [e1, ← this]
    congr 1
    unfold Addr.add
    split
    · rename_i h0; subst h0; rfl
    · rfl
theorem LenIs.reach {ts : List TypeId} {ds : List (DataW H)} {n j : Nat} {t e : TypeId} {d : DataW H} (hL : LenIs d n) (h : (DataW.weightsEach P ts ds).all (· ≤ reachBytes) = true) (ht : ts[j]? = some t) (hd : ds[j]? = some d) (hu : P.underlying t = some (.slice e)) :
    n * P.bytesOf e ≤ reachBytes := by
  rcases hL with ⟨rfl, rfl⟩ | ⟨el, sp, rfl, rfl⟩
  · simp
  · exact Nat.le_trans (Nat.mul_le_mul_right _ (Nat.le_add_right _ _)) (sized_slice h ht hd hu)
/-- an int argument -/
theorem open_i {t : TypeId} {k : IntKind} {r : Reach} {b0 : Nat} {v : Value} {d : DataW H} {p : List MemPlace} (ht : P.underlying t = some (.int k)) (hv : Value.okWide P w r b0 t v) (h : DataW.Trod enc P w base spare held t v d p) :
    ∃ x, v = .int k x ∧ (Lit.int k x).wf = true := by
  obtain ⟨x, rfl, _, _, hwf⟩ := open_int ht hv h
  exact ⟨x, rfl, hwf⟩
/-- a struct of one-cell int fields, by value -/
theorem open_agg {t : TypeId} {fs : Array Field} {r : Reach} {b0 : Nat} {v : Value} {d : DataW H} {p : List MemPlace} (hs : P.underlying t = some (.struct fs)) (hone : oneCellFields P fs = true) (hC : P.cellsOf t = fs.size) (hint : intFields P fs = true)
    (hv : Value.okWide P w r b0 t v) (h : DataW.Trod enc P w base spare held t v d p) : ∃ l : List Int, l.length = fs.size ∧ v = .agg (l.map (Value.int .i64)).toArray ∧ ∀ x ∈ l, I64 x := by
  obtain ⟨cs, rfl, hsz⟩ := okWide_struct hs hv
  obtain ⟨l⟩ := cs
  have hsz' : l.length = fs.size := by simpa [hC] using hsz
  obtain ⟨fuel, hf⟩ := h
  obtain ⟨xs, n, _, hx, _, hlen, hg⟩ := DataW.trod_struct hs hf
  have key : ∀ j (hj : j < l.length), ∃ x, l[j] = .int .i64 x ∧ I64 x := by
    intro j hj
    have hjf : fs[j]? = some (fs[j]'(by omega)) := Array.getElem?_eq_getElem (by omega)
    obtain ⟨o0, k0⟩ := hone_of hone j _ hjf
    have h1 := hg j _ hjf
    rw [o0, k0] at h1
    simp only [Value.cells] at h1
    have e1 : (l.drop j).take 1 = [l[j]] := by rw [List.drop_eq_getElem_cons hj]; rfl
    have hxs : xs[j]? = some (xs[j]'(by omega)) := List.getElem?_eq_getElem (by omega)
    rw [hxs] at h1
    have e2 : (List.take 1 (List.drop j l)) = [l[j]] := e1
    first
      | (rw [e2] at h1; obtain ⟨x, hcs, _, hwf⟩ := DataW.trod_int (intFields_of hint j _ hjf) h1; injection hcs with hcs; exact ⟨x, hcs, i64_of_wf hwf⟩)
  have all : ∀ m : List Value, (∀ j (hj : j < m.length), ∃ x, m[j] = .int .i64 x ∧ I64 x) → ∃ z : List Int, m = z.map (Value.int .i64) ∧ ∀ x ∈ z, I64 x := by
    intro m
    induction m with
    | nil => intro _; exact ⟨[], rfl, fun x h => by simp at h⟩
    | cons u r ih =>
      intro hm
      obtain ⟨x, hx, hb⟩ := hm 0 (by simp)
      obtain ⟨z, hz, hbz⟩ := ih fun j hj => by have := hm (j + 1) (by simpa using hj); simpa using this
      refine ⟨x :: z, by simp at hx; simp [hx, hz], fun y hy => ?_⟩
      rcases List.mem_cons.1 hy with rfl | hy
      · exact hb
      · exact hbz y hy
  obtain ⟨z, rfl, hb⟩ := all l key
  exact ⟨z, by simpa using hsz', rfl, hb⟩
/-- an array of two ints, by value -/
theorem open_arr2 {t e : TypeId} {k : IntKind} {r : Reach} {b0 : Nat} {v : Value} {d : DataW H} {p : List MemPlace} (hs : P.underlying t = some (.array 2 e)) (he : P.underlying e = some (.int k)) (hce : P.cellsOf e = 1) (hC : P.cellsOf t = 2)
    (hv : Value.okWide P w r b0 t v) (h : DataW.Trod enc P w base spare held t v d p) : ∃ x y : Int, v = .agg #[.int k x, .int k y] ∧ (Lit.int k x).wf = true ∧ (Lit.int k y).wf = true := by
  have hv' : ∃ cs, v = .agg cs ∧ cs.size = P.cellsOf t := by
    simp only [Value.okWide, hs] at hv
    obtain ⟨cs, h1, h2, _⟩ := hv
    exact ⟨cs, h1, h2⟩
  obtain ⟨cs, rfl, hsz⟩ := hv'
  obtain ⟨l⟩ := cs
  match l, hsz.trans hC with
  | [c0, c1], _ =>
    obtain ⟨fuel, hf⟩ := h
    obtain ⟨xs, m, _, _, _, hlen, hg⟩ := DataW.trod_array hs hf
    match xs, hlen with
    | [y0, y1], _ =>
      have h0 := hg 0 (by omega)
      have h1 := hg 1 (by omega)
      simp [hce, Value.cells] at h0 h1
      obtain ⟨x, e0, _, w0⟩ := DataW.trod_int he h0
      obtain ⟨y, e1, _, w1⟩ := DataW.trod_int he h1
      injection e0 with e0
      injection e1 with e1
      subst e0 e1
      exact ⟨x, y, rfl, w0, w1⟩
end
end Go.Proofs.Ytogaepijfbgniaa
