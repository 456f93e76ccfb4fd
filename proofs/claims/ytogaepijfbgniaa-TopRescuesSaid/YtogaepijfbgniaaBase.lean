/- Words for memory, independent of any program: a slice that reads as a list of ints or of structs of ints; rows of the call's own; opening of arguments. -/
import Derived.WalkKit
import Derived.ProofKit
import Derived.OpenShut
import Derived.Handy
import Derived.LoopTactic
import Derived.WalkSpells
import Derived.Lib.Hide
import Derived.Lib.SmallJoins
import Derived.Deep.Slices
import Derived.Deep.Fields
import Derived.Deep.AppendLies
import Derived.Deep.Draws
import Derived.Maps.AppendAt
import Derived.ChangeSame
import Derived.ChangeOld
import Derived.WalkSmall
import Derived.Deep.QuietTactic
import Derived.BigQuiet
import Derived.StillTailTactics
namespace Go.Proofs.Ytogaepijfbgniaa
open Go.RowKit Go.ChangeShapes Go.WideShapes Go.Deep

/-- the range of int -/
def I64 (x : Int) : Prop := -9223372036854775808 ≤ x ∧ x ≤ 9223372036854775807
theorem i64_of_wf {x : Int} (h : (Lit.int .i64 x).wf = true) : I64 x := by
  simpa [Lit.wf, IntKind.min, IntKind.max, IntKind.signed, IntKind.bits, I64] using h

theorem block_of_add (a : Addr) (n : Nat) : (a.add n).block = a.block := by unfold Addr.add; split <;> rfl

/-- the slice value's address A leads to n rows of k cells, all ints: row i, cell j holds g i j -/
def Recs (w : World) (A : Option Addr) (k n : Nat) (g : Nat → Nat → Int) : Prop :=
  0 < n → ∃ b off, A = some ⟨b, off, none⟩ ∧ ∀ i j, i < n → j < k → w.cell? ⟨b, off + (i * k + j), none⟩ = some (.int .i64 (g i j))
/-- the slice value's address A leads to the ints l -/
def Ints (w : World) (A : Option Addr) (l : List Int) : Prop :=
  0 < l.length → ∃ b off, A = some ⟨b, off, none⟩ ∧ ∀ i (h : i < l.length), w.cell? ⟨b, off + i, none⟩ = some (.int .i64 (l[i]))

section
variable {w w' : World} {A : Option Addr} {k n : Nat} {g : Nat → Nat → Int} {l : List Int}
theorem Recs.below (h : Recs w A k n g) (hb : Below w.heap.size w w') : Recs w' A k n g := fun hn => by
  obtain ⟨b, off, rfl, hc⟩ := h hn
  exact ⟨b, off, rfl, fun i j hi hj => cell_later hb (hc i j hi hj)⟩
theorem Ints.below (h : Ints w A l) (hb : Below w.heap.size w w') : Ints w' A l := fun hn => by
  obtain ⟨b, off, rfl, hc⟩ := h hn
  exact ⟨b, off, rfl, fun i hi => cell_later hb (hc i hi)⟩
theorem Ints.nil (w : World) (A : Option Addr) : Ints w A [] := fun h => by simp at h
theorem Ints.of_recs (h : Recs w A 1 n g) : Ints w A ((List.range n).map fun i => g i 0) := fun hn => by
  obtain ⟨b, off, rfl, hc⟩ := h (by simpa using hn)
  refine ⟨b, off, rfl, fun i hi => ?_⟩
  have := hc i 0 (by simpa using hi) (by omega)
  simpa using this
end

theorem alloc_heap (w : World) (o : Obj) (k : Nat) : (w.alloc o).heap[k]? = if k = w.heap.size then some o else w.heap[k]? := by
  show (w.heap.push o)[k]? = _
  rw [Array.getElem?_push]
/-- a row of ints of the call's own (T: int's type number) -/
def OwnI (w : World) (B T : Nat) (v : Value) (l : List Int) : Prop := w.ownsRow B T 1 v l.length (l.map (Value.int .i64))
section
variable {w w' : World} {B T : Nat} {v : Value} {l : List Int}
theorem OwnI.nil (w : World) (B T : Nat) : OwnI w B T (.slice none 0 0) [] := World.ownsRow_nil w B T 1
theorem OwnI.alloc (h : OwnI w B T v l) (o : Obj) : OwnI (w.alloc o) B T v l := World.ownsRow.alloc h o
theorem OwnI.form (h : OwnI w B T v l) : ∃ A c, v = .slice A l.length c ∧ Ints w A l := by
  rcases h.2 with ⟨rfl, h0⟩ | ⟨g, cap, cur, rfl, _, hg, hnc, _⟩
  · have : l = [] := List.eq_nil_of_length_eq_zero h0
    subst this
    exact ⟨none, 0, rfl, Ints.nil _ _⟩
  · refine ⟨some ⟨g, 0, none⟩, cap, rfl, fun hn => ⟨g, 0, rfl, fun i hi => ?_⟩⟩
    have hc := World.ownsRow.cellAt h i (by omega)
    rw [Nat.zero_add, hc]
    simp [hi]
theorem OwnI.grown (h : OwnI w B T v l) (hb : Below w.heap.size w w') : OwnI w' B T v l := by
  refine ⟨h.1, ?_⟩
  rcases h.2 with hn | ⟨g, cap, cur, rfl, hb', hg, r⟩
  · exact .inl hn
  · exact .inr ⟨g, cap, cur, rfl, hb', by rw [hb.block g (Array.getElem?_eq_some_iff.1 hg).1]; exact hg, r⟩
theorem Below.own {w0 : World} (hb : Below B w0 w) (h : OwnI w B T v l) (hg : w.grownBy w' v.ownBlock) (hB : B ≤ w.heap.size) : Below B w0 w' :=
  hb.grown hg hB fun k hk => (World.ownsRow.lt h k hk).1
end

theorem below_dn {B : Nat} {a w : World} (h : Below B a w) (n : Nat) : Below B a (w.drewN n) := h.trans ⟨rfl, rfl, rfl, Nat.le_refl _, fun _ _ => rfl⟩
theorem below_alloc (w : World) (o : Obj) : Below w.heap.size w (w.alloc o) := (Below.refl _ _).alloc (Nat.le_refl _) _
theorem Ints.lit (w : World) (T : TypeId) (l : List Int) : Ints (w.alloc (.cells (l.map (Value.int .i64)).toArray T)) (some ⟨w.heap.size, 0, none⟩) l := fun _ => by
  refine ⟨_, _, rfl, fun i hi => ?_⟩
  rw [Nat.zero_add, cell_of_row _ _ _ _ _ _ (heap_alloc_new w _)]
  simp [hi]
theorem dN2 (w : World) (a b : Nat) : ∃ k, (w.drewN a).drewN b = w.drewN k := ⟨_, World.drewN_drewN _ _ _⟩
theorem dN3 (w : World) (a b c : Nat) : ∃ k, ((w.drewN a).drewN b).drewN c = w.drewN k := by rw [World.drewN_drewN]; exact dN2 _ _ _
theorem ret_int {k : IntKind} {a b : Int} (h : a = b) : Ending.returned (.int k a) = .returned (.int k b) := by rw [h]
theorem results_tmp4 {fn : Func} {t u v x : Tmp} (h : fn.results = #[.tmp t, .tmp u, .tmp v, .tmp x]) (tmps : Array Value) (P : Program) (w : World) :
    (results fn tmps).run P w = .ok (.tuple #[tmps.getD t undef, tmps.getD u undef, tmps.getD v undef, tmps.getD x undef]) w := by simp [results, h]
theorem quiet_of_eq {P : Program} {f : FuncId} {args : Array Value} {w : World} {n : Nat} {v : Value}
    (h : Calls P f args (w.drewN n) fun e w' => e = .returned v ∧ w.drewN n = w') : Calls P f args (w.drewN n) fun e w'' => e = .returned v ∧ ∃ m, w'' = w.drewN m :=
  h.mono fun _ _ ⟨he, hm⟩ => ⟨he, n, hm.symm⟩
section
variable {P : Program}
/-- 'out = append(out, x)' behind its one-cell block, onto ints of the call's own -/
theorem wpList_push {ops : Array Oper} {rest : List Oper} {o : Oper} {a : Act} {Q : Exit → Act → World → Prop} (ws w : World) (hgd : o.guard = none) (s x : Operand) (t : TypeId)
    (ho : o.op = .call { callee := .builtin .append, args := #[s, x], argTypes := #[t, t] })
    (B T : Nat) (ht : P.underlying t = some (.slice T)) (hi : (P.info? T).map (fun i => (i.zero, i.size, i.bytes)) = some (some (.int .i64 0), 1, 8))
    (v : Value) (l : List Int) (hs : a.eval s = v) (hown : OwnI w B T v l) (y : Int) (hx : a.eval x = .slice (some ⟨w.heap.size, 0, none⟩) 1 1)
    (hb : Below B ws w) (hlen : l.length < 1000000000000) (hbase : B ≤ w.heap.size)
    (h : ∀ g cap w', OwnI w' B T (.slice (some ⟨g, 0, none⟩) (l.length + 1) cap) (l ++ [y]) → Below B ws w' → (w.alloc (.cells #[.int .i64 y] T)).grownBy w' v.ownBlock → (some g = v.ownBlock ∨ g = w.heap.size + 1) → wpList P ops Q rest (a.put o.dst (.slice (some ⟨g, 0, none⟩) (l.length + 1) cap)) w') :
    wpList P ops Q (o :: rest) a (w.alloc (.cells #[.int .i64 y] T)) := by
  obtain ⟨i0, hi0, hz0, hz1, hz2⟩ := info_parts hi
  have hbase' : B ≤ (w.alloc (.cells #[.int .i64 y] T)).heap.size := by simp; omega
  obtain ⟨v', w', hrun, h2, h3, _, h5⟩ := run_append_own_at (P := P) (w.alloc (.cells #[.int .i64 y] T)) B t o.type T i0 (.int .i64 0) 1 8 ht hi0 hz0 hz1 hz2 rfl (by omega) v l.length _ (hown.alloc _) ⟨w.heap.size, 0, none⟩ 1 1 [.int .i64 y] rfl
    (cell_one_new _ _ _) (by simp [Value.oneCell']) (by simp only [maxLen]; omega) (by omega) hbase'
  refine wpList_plain hgd fun _ hK => ?_
  unfold Oper.wp execOp
  simp only [ho, resolve, invoke, builtin, Sem.run_bind, Sem.run_pure, Result.andThen_ok, List.map_toArray, List.map_cons, List.map_nil, hs, hx, hrun]
  have h2' : OwnI w' B T v' (l ++ [y]) := by
    show w'.ownsRow B T 1 v' (l ++ [y]).length ((l ++ [y]).map (Value.int .i64))
    simpa using h2
  obtain ⟨g, cap, rfl⟩ : ∃ g cap, v' = .slice (some ⟨g, 0, none⟩) (l.length + 1) cap := by
    rcases h2.2 with ⟨_, h0⟩ | ⟨g, cap, cur, e, _⟩
    · omega
    · exact ⟨g, cap, e⟩
  refine hK _ _ (h g cap w' h2' (Below.own (hb.alloc hbase _) (hown.alloc _) h3 hbase') h3 (by simpa [Value.ownBlock] using h5))
theorem Ints.at_add {w : World} {A : Option Addr} {l : List Int} (h : Ints w A l) (hn : 0 < l.length) : ∃ ad, A = some ad ∧ ∀ j u, (l.map (Value.int .i64))[j]? = some u → w.cell? (ad.add j) = some u := by
  obtain ⟨b, off, rfl, hc⟩ := h hn
  refine ⟨_, rfl, fun j u hu => ?_⟩
  have hj : j < l.length := by
    have := (List.getElem?_eq_some_iff.1 hu).1
    simpa using this
  have := hc j hj
  rw [List.getElem?_map, List.getElem?_eq_getElem hj] at hu
  simp at hu
  subst hu
  unfold Addr.add
  split
  · subst_vars; simpa using this
  · exact this
/-- 'out = append(out, src...)', onto ints of the call's own, the source nil, empty or not -/
theorem wpList_cat {ops : Array Oper} {rest : List Oper} {o : Oper} {a : Act} {Q : Exit → Act → World → Prop} (ws w : World) (hgd : o.guard = none) (s x : Operand) (t : TypeId)
    (ho : o.op = .call { callee := .builtin .append, args := #[s, x], argTypes := #[t, t] })
    (B T : Nat) (ht : P.underlying t = some (.slice T)) (hi : (P.info? T).map (fun i => (i.zero, i.size, i.bytes)) = some (some (.int .i64 0), 1, 8))
    (v : Value) (l : List Int) (hs : a.eval s = v) (hown : OwnI w B T v l) (A : Option Addr) (c : Nat) (r : List Int) (hx : a.eval x = .slice A r.length c) (hr : Ints w A r)
    (hb : Below B ws w) (hlen : l.length + r.length < 1000000000000) (hbase : B ≤ w.heap.size)
    (h : ∀ v' w', OwnI w' B T v' (l ++ r) → Below B ws w' → w.grownBy w' v.ownBlock → (v'.ownBlock = v.ownBlock ∨ v'.ownBlock = some w.heap.size) → wpList P ops Q rest (a.put o.dst v') w') :
    wpList P ops Q (o :: rest) a w := by
  obtain ⟨i0, hi0, hz0, hz1, hz2⟩ := info_parts hi
  have key : ∃ v' w', (Builtin.append_ #[t, t] o.type #[v, .slice A r.length c]).run P w = .ok v' w' ∧ w'.ownsRow B T 1 v' (l.length + r.length) (l.map (Value.int .i64) ++ r.map (Value.int .i64)) ∧ w.grownBy w' v.ownBlock ∧ (v'.ownBlock = v.ownBlock ∨ v'.ownBlock = some w.heap.size) := by
    rcases A with _ | ad
    · have hr0 : r = [] := by
        cases r with
        | nil => rfl
        | cons y r => obtain ⟨b, off, h, _⟩ := hr (by simp); cases h
      subst hr0
      refine ⟨v, w, ?_, by simpa [OwnI] using hown, ⟨rfl, rfl, rfl, Nat.le_refl _, fun _ _ _ => rfl⟩, .inl rfl⟩
      rcases hown.2 with ⟨rfl, _⟩ | ⟨g, cap, cur, rfl, _, _, hnc, _⟩
      · simp [Builtin.append_, run_underlying ht, sizeOf, typeInfo, hi0, Builtin.lenOf, Builtin.firstCells]
      · simp [Builtin.append_, run_underlying ht, sizeOf, typeInfo, hi0, Builtin.lenOf, Builtin.firstCells, hnc, storeCells]
    · have hcells : ∀ j u, (r.map (Value.int .i64))[j]? = some u → w.cell? (ad.add j) = some u := by
        intro j u hu
        have hj := (List.getElem?_eq_some_iff.1 hu).1
        obtain ⟨ad', h1, h2⟩ := hr.at_add (by simp at hj; omega)
        injection h1 with h1
        subst h1
        exact h2 j u hu
      obtain ⟨v', w', hrun, h2, h3, _, h5⟩ := run_append_own_at (P := P) w B t o.type T i0 (.int .i64 0) 1 8 ht hi0 hz0 hz1 hz2 rfl (by omega) v l.length _ hown ad r.length c (r.map (Value.int .i64)) (by simp)
        hcells (by simp [Value.oneCell']) (by simp only [maxLen]; omega) (by omega) hbase
      exact ⟨v', w', hrun, h2, h3, h5⟩
  obtain ⟨v', w', hrun, h2, h3, h5⟩ := key
  refine wpList_plain hgd fun _ hK => ?_
  unfold Oper.wp execOp
  simp only [ho, resolve, invoke, builtin, Sem.run_bind, Sem.run_pure, Result.andThen_ok, List.map_toArray, List.map_cons, List.map_nil, hs, hx, hrun]
  refine hK _ _ (h v' w' ?_ (Below.own hb hown h3 hbase) h3 h5)
  show w'.ownsRow B T 1 v' (l ++ r).length ((l ++ r).map (Value.int .i64))
  simpa using h2
/-- an empty row that the call has just made -/
theorem OwnI.made (w : World) (B T : Nat) (hB : B ≤ w.heap.size) : OwnI (w.alloc (.cells #[] T)) B T (.slice (some ⟨w.heap.size, 0, none⟩) 0 0) [] :=
  World.ownsRow_made w #[] 0 hB (by simp [maxLen]) (by simp)
end
end Go.Proofs.Ytogaepijfbgniaa
