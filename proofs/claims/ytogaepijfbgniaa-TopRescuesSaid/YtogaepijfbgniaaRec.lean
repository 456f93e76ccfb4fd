/- Words for memory: slices of structs of k ints; rows of structs of the call's own; append onto them. -/
import Derived.Test.YtogaepijfbgniaaBase
import Derived.Deep.RegionLaw
namespace Go.Proofs.Ytogaepijfbgniaa
open Go.RowKit Go.ChangeShapes Go.WideShapes Go.Deep
set_option linter.unusedVariables false

/-- the address A leads to these rows of k ints -/
def Src (w : World) (A : Option Addr) (k : Nat) (rows : List (List Int)) : Prop :=
  0 < rows.length → ∃ b off, A = some ⟨b, off, none⟩ ∧ ∀ i j r x, rows[i]? = some r → j < k → r[j]? = some x → w.cell? ⟨b, off + (i * k + j), none⟩ = some (.int .i64 x)
theorem Src.below {w w' : World} {A : Option Addr} {k : Nat} {rows : List (List Int)} (h : Src w A k rows) (hb : Below w.heap.size w w') : Src w' A k rows := fun hn => by
  obtain ⟨b, off, rfl, hc⟩ := h hn
  exact ⟨b, off, rfl, fun i j r x h1 h2 h3 => cell_later hb (hc i j r x h1 h2 h3)⟩
theorem Src.grownBy {w w' : World} {A : Option Addr} {k : Nat} {rows : List (List Int)} {row : Option Nat} (h : Src w A k rows) (hg : w.grownBy w' row) (hne : ∀ ad, A = some ad → some ad.block ≠ row) : Src w' A k rows := fun hn => by
  obtain ⟨b, off, rfl, hc⟩ := h hn
  exact ⟨b, off, rfl, fun i j r x h1 h2 h3 => hg.cell (hc i j r x h1 h2 h3) (hne ⟨b, off, none⟩ rfl)⟩
theorem Src.drew {w : World} {A : Option Addr} {k : Nat} {rows : List (List Int)} (h : Src w A k rows) : Src w.drew A k rows := h
theorem Src.alloc {w : World} {A : Option Addr} {k : Nat} {rows : List (List Int)} (h : Src w A k rows) (o : Obj) : Src (w.alloc o) A k rows := h.below ((Below.refl _ _).alloc (Nat.le_refl _) _)
theorem flat_length {k : Nat} {rows : List (List Int)} (h : ∀ r ∈ rows, r.length = k) : rows.flatten.length = rows.length * k := by
  induction rows with
  | nil => simp
  | cons r s ih =>
    rw [List.flatten_cons, List.length_append, h r (by simp), ih fun x hx => h x (by simp [hx]), List.length_cons, Nat.add_mul, Nat.one_mul, Nat.add_comm]
theorem flat_at {k : Nat} {rows : List (List Int)} (h : ∀ r ∈ rows, r.length = k) {i j : Nat} {r : List Int} {x : Int} (hr : rows[i]? = some r) (hj : j < k) (hx : r[j]? = some x) : rows.flatten[i * k + j]? = some x := by
  induction rows generalizing i with
  | nil => simp at hr
  | cons r0 s ih =>
    have hr0 := h r0 (by simp)
    rw [List.flatten_cons]
    cases i with
    | zero =>
      simp at hr
      subst hr
      rw [Nat.zero_mul, Nat.zero_add, List.getElem?_append_left (by omega)]
      exact hx
    | succ i =>
      simp at hr
      rw [Nat.add_mul, Nat.one_mul, List.getElem?_append_right (by omega), hr0, show i * k + k + j - k = i * k + j by omega]
      exact ih (fun y hy => h y (by simp [hy])) hr
theorem flat_of {k : Nat} {rows : List (List Int)} (h : ∀ r ∈ rows, r.length = k) {m : Nat} {x : Int} (hm : rows.flatten[m]? = some x) : ∃ i j r, m = i * k + j ∧ j < k ∧ rows[i]? = some r ∧ r[j]? = some x := by
  induction rows generalizing m with
  | nil => simp at hm
  | cons r0 s ih =>
    have hr0 := h r0 (by simp)
    rw [List.flatten_cons] at hm
    by_cases hlt : m < k
    · rw [List.getElem?_append_left (by omega)] at hm
      exact ⟨0, m, r0, by simp, hlt, by simp, hm⟩
    · rw [List.getElem?_append_right (by omega)] at hm
      obtain ⟨i, j, r, e, hj, h1, h2⟩ := ih (fun y hy => h y (by simp [hy])) hm
      exact ⟨i + 1, j, r, by rw [Nat.add_mul, Nat.one_mul]; omega, hj, by simpa using h1, h2⟩
/-- rows of the call's own (T: the struct's type number, k its cells) -/
structure OwnR (w : World) (B T k : Nat) (v : Value) (rows : List (List Int)) : Prop where
  len : ∀ r ∈ rows, r.length = k
  own : w.ownsRow B T k v rows.length (rows.flatten.map (Value.int .i64))
section
variable {w w' : World} {B T k : Nat} {v : Value} {rows : List (List Int)}
theorem OwnR.nil (w : World) (B T k : Nat) : OwnR w B T k (.slice none 0 0) [] := ⟨fun r h => by simp at h, World.ownsRow_nil w B T k⟩
theorem OwnR.made (w : World) (B T k : Nat) (hB : B ≤ w.heap.size) : OwnR (w.alloc (.cells #[] T)) B T k (.slice (some ⟨w.heap.size, 0, none⟩) 0 0) [] :=
  ⟨fun r h => by simp at h, World.ownsRow_made w #[] 0 hB (by simp [maxLen]) (by simp)⟩
theorem OwnR.alloc (h : OwnR w B T k v rows) (o : Obj) : OwnR (w.alloc o) B T k v rows := ⟨h.len, World.ownsRow.alloc h.own o⟩
theorem OwnR.drew (h : OwnR w B T k v rows) : OwnR w.drew B T k v rows := ⟨h.len, h.own⟩
theorem OwnR.drewN (h : OwnR w B T k v rows) (n : Nat) : OwnR (w.drewN n) B T k v rows := ⟨h.len, h.own⟩
theorem OwnR.lt (h : OwnR w B T k v rows) : ∀ g, v.ownBlock = some g → B ≤ g ∧ g < w.heap.size := World.ownsRow.lt h.own
theorem OwnR.grown (h : OwnR w B T k v rows) (hb : Below w.heap.size w w') : OwnR w' B T k v rows := by
  refine ⟨h.len, h.own.1, ?_⟩
  rcases h.own.2 with hn | ⟨g, cap, cur, rfl, hb', hg, r⟩
  · exact .inl hn
  · exact .inr ⟨g, cap, cur, rfl, hb', by rw [hb.block g (Array.getElem?_eq_some_iff.1 hg).1]; exact hg, r⟩
theorem OwnR.form (h : OwnR w B T k v rows) : ∃ A c, v = .slice A rows.length c ∧ Src w A k rows := by
  rcases h.own.2 with ⟨rfl, h0⟩ | ⟨g, cap, cur, rfl, _, hg, hnc, _⟩
  · exact ⟨none, 0, by rw [h0], fun hn => by omega⟩
  · refine ⟨some ⟨g, 0, none⟩, cap, rfl, fun hn => ⟨g, 0, rfl, fun i j r x hr hj hx => ?_⟩⟩
    have hi : i < rows.length := (List.getElem?_eq_some_iff.1 hr).1
    have hlt : i * k + j < rows.length * k := by
      have : (i + 1) * k ≤ rows.length * k := Nat.mul_le_mul_right k hi
      rw [Nat.add_mul, Nat.one_mul] at this
      omega
    have hc := World.ownsRow.cellAt h.own (i * k + j) hlt
    rw [Nat.zero_add, hc, List.getElem?_map, flat_at h.len hr hj hx]
    rfl
theorem OwnR.src {A : Option Addr} {n c : Nat} (h : OwnR w B T k (.slice A n c) rows) : Src w A k rows := by
  obtain ⟨A', c', e, hs⟩ := h.form
  injection e with e1 e2 e3
  subst e1
  exact hs
end
section
variable {P : Program}
theorem run_append_rows (w : World) (B t ty T : Nat) (z : Value) (k bytes : Nat) (ht : P.underlying t = some (.slice T)) (hi : (P.info? T).map (fun i => (i.zero, i.size, i.bytes)) = some (some z, k, bytes)) (hz : z.cells.size = k) (hk : 0 < k)
    (v : Value) (rows : List (List Int)) (hown : OwnR w B T k v rows) (A : Option Addr) (c m : Nat) (src : List (List Int)) (hm : m = src.length) (hsl : ∀ r ∈ src, r.length = k) (hsrc : Src w A k src)
    (h63 : rows.length + src.length ≤ maxLen) (hbytes : (rows.length + src.length) * bytes ≤ 140737488355328) (hbase : B ≤ w.heap.size) :
    ∃ v' w', (Builtin.append_ #[t, t] ty #[v, .slice A m c]).run P w = .ok v' w' ∧ OwnR w' B T k v' (rows ++ src) ∧ w.grownBy w' v.ownBlock ∧ (v'.ownBlock = v.ownBlock ∨ v'.ownBlock = some w.heap.size) := by
  subst hm
  obtain ⟨i0, hi0, hz0, hz1, hz2⟩ := info_parts hi
  have hall : ∀ r ∈ rows ++ src, r.length = k := fun r hr => by
    rcases List.mem_append.1 hr with h | h
    · exact hown.len r h
    · exact hsl r h
  rcases A with _ | ad
  · have hs0 : src = [] := by
      cases src with
      | nil => rfl
      | cons y r => obtain ⟨b, off, h, _⟩ := hsrc (by simp); cases h
    subst hs0
    refine ⟨v, w, ?_, by simpa using hown, ⟨rfl, rfl, rfl, Nat.le_refl _, fun _ _ _ => rfl⟩, .inl rfl⟩
    rcases hown.own.2 with ⟨rfl, _⟩ | ⟨g, cap, cur, rfl, _, _, hnc, _⟩
    · simp [Builtin.append_, run_underlying ht, sizeOf, typeInfo, hi0, Builtin.lenOf, Builtin.firstCells]
    · simp [Builtin.append_, run_underlying ht, sizeOf, typeInfo, hi0, Builtin.lenOf, Builtin.firstCells, hnc, storeCells]
  · have hcells : ∀ j u, (src.flatten.map (Value.int .i64))[j]? = some u → w.cell? (ad.add j) = some u := by
      intro m u hu
      rw [List.getElem?_map] at hu
      cases hx : src.flatten[m]? with
      | none => rw [hx] at hu; simp at hu
      | some x =>
        rw [hx] at hu
        simp at hu
        subst hu
        obtain ⟨i, j, r, e, hj, h1, h2⟩ := flat_of hsl hx
        have hn : 0 < src.length := by have := (List.getElem?_eq_some_iff.1 h1).1; omega
        obtain ⟨b, off, he, hc⟩ := hsrc hn
        injection he with he
        subst he
        have := hc i j r x h1 hj h2
        rw [← e] at this
        unfold Addr.add
        split
        · rename_i h0; rw [h0] at this; exact this
        · exact this
    have hmap : ∀ u ∈ src.flatten.map (Value.int .i64), u.oneCell' = true := fun u hu => by
      obtain ⟨x, _, rfl⟩ := List.mem_map.1 hu; rfl
    obtain ⟨v', w', hrun, h2, h3, _, h5⟩ := run_append_own_at (P := P) w B t ty T i0 z k bytes ht hi0 hz0 hz1 hz2 hz hk v rows.length _ hown.own ad src.length c (src.flatten.map (Value.int .i64)) (by rw [List.length_map]; exact flat_length hsl)
      hcells hmap h63 hbytes hbase
    refine ⟨v', w', hrun, ⟨hall, ?_⟩, h3, h5⟩
    rw [List.length_append, List.flatten_append, List.map_append]
    exact h2
/-- append onto rows of the call's own, in a region that draws its order -/
theorem step_append_rows {ops : Array Oper} {o : Oper} {a : Act} {K : Act → World → Prop} {Q : Exit → Act → World → Prop} {E : Prop} (w : World) (hgd : o.guard = none) (s x : Operand) (t : TypeId)
    (ho : o.op = .call { callee := .builtin .append, args := #[s, x], argTypes := #[t, t] })
    (B T : Nat) (z : Value) (k bytes : Nat) (ht : P.underlying t = some (.slice T)) (hi : (P.info? T).map (fun i => (i.zero, i.size, i.bytes)) = some (some z, k, bytes)) (hz : z.cells.size = k) (hk : 0 < k)
    (v : Value) (rows : List (List Int)) (hs : a.eval s = v) (hown : OwnR w B T k v rows) (A : Option Addr) (c m : Nat) (src : List (List Int)) (hx : a.eval x = .slice A m c) (hm : m = src.length) (hsl : ∀ r ∈ src, r.length = k) (hsrc : Src w A k src)
    (h63 : rows.length + src.length ≤ maxLen) (hbytes : (rows.length + src.length) * bytes ≤ 140737488355328) (hbase : B ≤ w.heap.size)
    (tot : Nat) (all : List (List Int)) (htot : rows.length + src.length = tot) (hall : rows ++ src = all)
    (h : ∀ A' c' w', OwnR w' B T k (.slice A' tot c') all → w.grownBy w' v.ownBlock → ((Value.slice A' tot c').ownBlock = v.ownBlock ∨ (Value.slice A' tot c').ownBlock = some w.heap.size) → K (a.put o.dst (.slice A' tot c')) w') :
    if Region.wanted o (yielded ops a.tmps) = true then Oper.wp P o a w K Q else E := by
  have hw : Region.wanted o (yielded ops a.tmps) = true := by simp [Region.wanted, hgd]
  rw [if_pos hw]
  obtain ⟨v', w', hrun, h2, h3, h4⟩ := run_append_rows (P := P) w B t o.type T z k bytes ht hi hz hk v rows hown A c m src hm hsl hsrc h63 hbytes hbase
  obtain ⟨A', c', e, _⟩ := h2.form
  rw [List.length_append] at e
  subst e
  subst htot
  subst hall
  unfold Oper.wp execOp
  simp only [ho, resolve, invoke, builtin, Sem.run_bind, Sem.run_pure, Result.andThen_ok, List.map_toArray, List.map_cons, List.map_nil, hs, hx, hrun]
  exact h A' c' w' h2 h3 h4
/-- append onto rows of the call's own, in a plain region -/
theorem wpList_append_rows {ops : Array Oper} {rest : List Oper} {o : Oper} {a : Act} {Q : Exit → Act → World → Prop} (w : World) (hgd : o.guard = none) (s x : Operand) (t : TypeId)
    (ho : o.op = .call { callee := .builtin .append, args := #[s, x], argTypes := #[t, t] })
    (B T : Nat) (z : Value) (k bytes : Nat) (ht : P.underlying t = some (.slice T)) (hi : (P.info? T).map (fun i => (i.zero, i.size, i.bytes)) = some (some z, k, bytes)) (hz : z.cells.size = k) (hk : 0 < k)
    (v : Value) (rows : List (List Int)) (hs : a.eval s = v) (hown : OwnR w B T k v rows) (A : Option Addr) (c m : Nat) (src : List (List Int)) (hx : a.eval x = .slice A m c) (hm : m = src.length) (hsl : ∀ r ∈ src, r.length = k) (hsrc : Src w A k src)
    (h63 : rows.length + src.length ≤ maxLen) (hbytes : (rows.length + src.length) * bytes ≤ 140737488355328) (hbase : B ≤ w.heap.size)
    (tot : Nat) (all : List (List Int)) (htot : rows.length + src.length = tot) (hall : rows ++ src = all)
    (h : ∀ A' c' w', OwnR w' B T k (.slice A' tot c') all → w.grownBy w' v.ownBlock → ((Value.slice A' tot c').ownBlock = v.ownBlock ∨ (Value.slice A' tot c').ownBlock = some w.heap.size) → wpList P ops Q rest (a.put o.dst (.slice A' tot c')) w') :
    wpList P ops Q (o :: rest) a w := by
  obtain ⟨v', w', hrun, h2, h3, h4⟩ := run_append_rows (P := P) w B t o.type T z k bytes ht hi hz hk v rows hown A c m src hm hsl hsrc h63 hbytes hbase
  obtain ⟨A', c', e, _⟩ := h2.form
  rw [List.length_append] at e
  subst e
  subst htot
  subst hall
  refine wpList_plain hgd fun _ hK => ?_
  unfold Oper.wp execOp
  simp only [ho, resolve, invoke, builtin, Sem.run_bind, Sem.run_pure, Result.andThen_ok, List.map_toArray, List.map_cons, List.map_nil, hs, hx, hrun]
  exact hK _ _ (h A' c' w' h2 h3 h4)
end
theorem Below.ownR {B B' T k : Nat} {w0 w w' : World} {v : Value} {rows : List (List Int)} (hb : Below B' w0 w) (h : OwnR w B T k v rows) (hg : w.grownBy w' v.ownBlock) (hB : B' ≤ B) (hw : B' ≤ w.heap.size) : Below B' w0 w' :=
  hb.grown hg hw fun g hk => Nat.le_trans hB (h.lt g hk).1
end Go.Proofs.Ytogaepijfbgniaa
