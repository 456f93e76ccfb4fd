/- The rows of the clashes: slices of bools of the call's own, in a slice of slices. -/
import Derived.Test.YtogaepijfbgniaaR3
import Derived.Deep.RegionLaw
namespace Go.Proofs.Ytogaepijfbgniaa
open Go.RowKit Go.Shelf Go.Deep
set_option linter.unusedVariables false
theorem info4b : (Try.prog.info? 4).map (fun i => (i.zero, i.size, i.bytes)) = some (some (.bool false), 1, 1) := by kernel_rfl
theorem info_parts2 {P : Program} {e : TypeId} {z : Value} {k b : Nat} (h : (P.info? e).map (fun i => (i.zero, i.size, i.bytes)) = some (some z, k, b)) : ∃ i, P.info? e = some i ∧ i.zero = some z ∧ i.size = k ∧ i.bytes = b := by
  obtain ⟨i, hi, hzz⟩ := Option.map_eq_some_iff.1 h
  simp only [Prod.mk.injEq] at hzz
  exact ⟨i, hi, hzz.1, hzz.2.1, hzz.2.2⟩
/-- append one cell onto a row of the call's own, in a region that draws its order -/
theorem step_append_one {P : Program} {ops : Array Oper} {o : Oper} {a : Act} {K : Act → World → Prop} {Q : Exit → Act → World → Prop} {E : Prop} (w : World) (hgd : o.guard = none) (s x : Operand) (t : TypeId)
    (ho : o.op = .call { callee := .builtin .append, args := #[s, x], argTypes := #[t, t] })
    (B T : Nat) (z : Value) (bytes : Nat) (ht : P.underlying t = some (.slice T)) (hi : (P.info? T).map (fun i => (i.zero, i.size, i.bytes)) = some (some z, 1, bytes)) (hz : z.cells.size = 1)
    (v : Value) (n : Nat) (xs : List Value) (hs : a.eval s = v) (hown : w.ownsRow B T 1 v n xs) (ad : Addr) (c : Nat) (u : Value) (hx : a.eval x = .slice (some ad) 1 c) (hu : w.cell? (ad.add 0) = some u) (h1 : u.oneCell' = true)
    (h63 : n + 1 ≤ maxLen) (hbytes : (n + 1) * bytes ≤ 140737488355328) (hbase : B ≤ w.heap.size)
    (h : ∀ v' w', w'.ownsRow B T 1 v' (n + 1) (xs ++ [u]) → w.grownBy w' v.ownBlock → (v'.ownBlock = v.ownBlock ∨ v'.ownBlock = some w.heap.size) → K (a.put o.dst v') w') :
    if Region.wanted o (yielded ops a.tmps) = true then Oper.wp P o a w K Q else E := by
  have hw : Region.wanted o (yielded ops a.tmps) = true := by simp [Region.wanted, hgd]
  rw [if_pos hw]
  obtain ⟨i0, hi0, hz0, hz1, hz2⟩ := info_parts2 hi
  obtain ⟨v', w', hrun, h2, h3, _, h4⟩ := run_append_own_at (P := P) w B t o.type T i0 z 1 bytes ht hi0 hz0 hz1 hz2 hz (by omega) v n xs hown ad 1 c [u] rfl
    (fun j y hy => by
      match j, hy with
      | 0, hy => simp at hy; subst hy; exact hu)
    (fun y hy => by simp at hy; subst hy; exact h1) h63 hbytes hbase
  unfold Oper.wp execOp
  simp only [ho, resolve, invoke, builtin, Sem.run_bind, Sem.run_pure, Result.andThen_ok, List.map_toArray, List.map_cons, List.map_nil, hs, hx, hrun]
  exact h v' w' h2 h3 h4
/-- the rows: v r is the slice at place r, with cnt r bools -/
structure RowsAt (n B K : Nat) (W : World) (cnt : Nat → Nat) (v : Nat → Value) : Prop where
  blk : Blk W K ((List.range n).map v).toArray 42
  own : ∀ r, r < n → W.ownsRow B 4 1 (v r) (cnt r) (List.replicate (cnt r) (.bool false))
  dis : ∀ r q, r < n → q < n → r ≠ q → ∀ g, (v r).ownBlock = some g → (v q).ownBlock ≠ some g
section
variable {n B K : Nat} {W W' : World} {cnt : Nat → Nat} {v : Nat → Value}
theorem own_block {w : World} {B T k n : Nat} {v : Value} {xs : List Value} (h : w.ownsRow B T k v n xs) {g : Nat} (hg : v.ownBlock = some g) : ∃ cs, w.heap[g]? = some (.cells cs T (0, 0)) := by
  rcases h.2 with ⟨rfl, _⟩ | ⟨g', cap, cur, rfl, _, hb, _⟩
  · simp [Value.ownBlock] at hg
  · simp [Value.ownBlock] at hg
    subst hg
    exact ⟨cur, hb⟩
/-- a block of another type is no row -/
theorem own_apart {w : World} {B T k n : Nat} {v : Value} {xs : List Value} (h : w.ownsRow B T k v n xs) {g : Nat} {cs : Array Value} {t : TypeId} (hb : Blk w g cs t) (ht : t ≠ T) : some g ≠ v.ownBlock := fun e => by
  obtain ⟨cs', hc⟩ := own_block h e.symm
  unfold Blk at hb
  rw [hb] at hc
  injection hc with hc
  injection hc with _ h2 _
  exact ht h2
theorem RowsAt.below (h : RowsAt n B K W cnt v) (hb : Below W.heap.size W W') : RowsAt n B K W' cnt v :=
  ⟨h.blk.below hb, fun r hr => (h.own r hr).kept (row := none) ⟨hb.os, hb.tape, hb.output, hb.size, fun k hk _ => hb.block k hk⟩ (by cases (v r).ownBlock <;> simp), h.dis⟩
theorem RowsAt.cell (h : RowsAt n B K W cnt v) {r : Nat} (hr : r < n) : W.cell? ⟨K, r, none⟩ = some (v r) := h.blk.cell r (by simp [hr])
/-- a row has grown: its new value is put to its place -/
theorem RowsAt.grow (h : RowsAt n B K W cnt v) {i : Nat} (hi : i < n) {u : Value} (hg : W.grownBy W' (v i).ownBlock) (ho : W'.ownsRow B 4 1 u (cnt i + 1) (List.replicate (cnt i) (.bool false) ++ [.bool false])) (ha : u.ownBlock = (v i).ownBlock ∨ u.ownBlock = some W.heap.size) :
    RowsAt n B K (W'.setCell ⟨K, i, none⟩ u) (fun r => if r = i then cnt i + 1 else cnt r) (fun r => if r = i then u else v r) := by
  have hK : some K ≠ (v i).ownBlock := own_apart (h.own i hi) h.blk (by decide)
  have hK' : some K ≠ u.ownBlock := own_apart ho (h.blk.kept hg hK) (by decide)
  refine ⟨?_, fun r hr => ?_, fun r q hr hq hne g => ?_⟩
  · have h1 := (h.blk.kept hg hK).set i u
    rw [set_toArray] at h1
    have e : ((List.range n).map v).set i u = (List.range n).map fun r => if r = i then u else v r := by
      apply List.ext_getElem
      · simp
      · intro j h1 h2
        simp only [List.getElem_set, List.getElem_map, List.getElem_range]
        by_cases e : i = j
        · subst e; simp
        · rw [if_neg e, if_neg (fun q => e q.symm)]
    rw [e] at h1
    exact h1
  · by_cases e : r = i
    · subst e
      simp only [if_true]
      rw [List.replicate_succ']
      exact ownsRow_setCell_other ho (fun q => hK' q.symm) u
    · simp only [if_neg e]
      have h1 : (v r).ownBlock = none ∨ (v r).ownBlock ≠ (v i).ownBlock := by
        cases hq : (v r).ownBlock with
        | none => exact .inl rfl
        | some g => exact .inr fun q => h.dis r i hr hi e g hq q.symm
      have h2 := (h.own r hr).kept hg h1
      refine ownsRow_setCell_other h2 (fun q => ?_) u
      exact own_apart h2 (h.blk.kept hg hK) (by decide) q.symm
  · have hlt : ∀ r, r < n → ∀ g, (v r).ownBlock = some g → g < W.heap.size := fun r hr g hg => (World.ownsRow.lt (h.own r hr) g hg).2
    by_cases e1 : r = i
    · subst e1
      simp only [if_true, if_neg (fun q : q = r => hne q.symm)]
      intro h1 h2
      rcases ha with ha | ha
      · rw [ha] at h1
        exact h.dis r q hr hq hne g h1 h2
      · rw [ha] at h1
        injection h1 with h1
        have := hlt q hq g h2
        omega
    · by_cases e2 : q = i
      · subst e2
        simp only [if_neg e1, if_true]
        intro h1 h2
        rcases ha with ha | ha
        · rw [ha] at h2
          exact h.dis r q hr hq hne g h1 h2
        · rw [ha] at h2
          injection h2 with h2
          have := hlt r hr g h1
          omega
      · simp only [if_neg e1, if_neg e2]
        exact h.dis r q hr hq hne g
end
theorem own_below {w w' : World} {B T k n : Nat} {v : Value} {xs : List Value} (h : w.ownsRow B T k v n xs) (hb : Below w.heap.size w w') : w'.ownsRow B T k v n xs := h.kept (row := none) ⟨hb.os, hb.tape, hb.output, hb.size, fun k hk _ => hb.block k hk⟩ (by cases v.ownBlock <;> simp)
theorem own_form {w : World} {B T k n : Nat} {v : Value} {xs : List Value} (h : w.ownsRow B T k v (n + 1) xs) : ∃ g cap, v = .slice (some ⟨g, 0, none⟩) (n + 1) cap := by
  rcases h.2 with ⟨_, h0⟩ | ⟨g, cap, _, rfl, _⟩
  · omega
  · exact ⟨g, cap, rfl⟩
/-- how many bools each row has -/
def fill (n k j : Nat) (r : Nat) : Nat := if r < k then n else if r = k then j else 0
/-- the memory while the rows are filled -/
def Filled (n B K s p b q7 : Nat) (cS cP cO : Array Value) (w1 W : World) (k j : Nat) (v : Nat → Value) : Prop :=
  RowsAt n B K W (fill n k j) v ∧ Blk W s cS 58 ∧ Blk W p cP 72 ∧ Blk W b cP 72 ∧ Blk W q7 cO 38 ∧ Below B w1 W
section
variable {n B K s p b q7 : Nat} {cS cP cO : Array Value} {w1 W W' : World} {k j : Nat} {v : Nat → Value}
theorem Filled.below (h : Filled n B K s p b q7 cS cP cO w1 W k j v) (hB : B ≤ W.heap.size) (hb : Below W.heap.size W W') : Filled n B K s p b q7 cS cP cO w1 W' k j v :=
  ⟨h.1.below hb, h.2.1.below hb, h.2.2.1.below hb, h.2.2.2.1.below hb, h.2.2.2.2.1.below hb, h.2.2.2.2.2.trans (hb.mono hB)⟩
theorem Filled.grow {u : Value} (hk : k < n) (hne : K ≠ s ∧ K ≠ p ∧ K ≠ b) (hBK : B ≤ K) (h : Filled n B K s p b q7 cS cP cO w1 W k j v) (hB : B ≤ W.heap.size)
    (hg : W.grownBy W' (v k).ownBlock) (ho : W'.ownsRow B 4 1 u (j + 1) (List.replicate j (.bool false) ++ [.bool false])) (ha : u.ownBlock = (v k).ownBlock ∨ u.ownBlock = some W.heap.size) :
    Filled n B K s p b q7 cS cP cO w1 (W'.setCell ⟨K, k, none⟩ u) k (j + 1) (fun r => if r = k then u else v r) := by
  obtain ⟨hR, hs, hp, hb, hO, hbl⟩ := h
  have hc : fill n k j k = j := by simp [fill]
  have hown := hR.own k hk
  rw [hc] at hown
  have ho' : W'.ownsRow B 4 1 u (fill n k j k + 1) (List.replicate (fill n k j k) (.bool false) ++ [.bool false]) := by rw [hc]; exact ho
  have h1 := hR.grow hk hg ho' ha
  have hKq : K ≠ q7 := fun e => by
    subst e
    have h2 := hR.blk
    unfold Blk at h2 hO
    rw [h2] at hO
    injection hO with hO
    injection hO with _ hO _
    exact absurd hO (by decide)
  refine ⟨?_, (hs.kept hg (own_apart hown hs (by decide))).far _ _ (fun e => hne.1 e.symm), (hp.kept hg (own_apart hown hp (by decide))).far _ _ (fun e => hne.2.1 e.symm), (hb.kept hg (own_apart hown hb (by decide))).far _ _ (fun e => hne.2.2 e.symm), (hO.kept hg (own_apart hown hO (by decide))).far _ _ (fun e => hKq e.symm), ?_⟩
  · refine ⟨h1.blk, fun r hr => ?_, h1.dis⟩
    have h2 := h1.own r hr
    have e : (if r = k then fill n k j k + 1 else fill n k j r) = fill n k (j + 1) r := by
      unfold fill
      by_cases e : r = k
      · subst e; simp
      · simp [e]
    simp only [e] at h2
    exact h2
  · exact (hbl.grown hg hB (fun g e => (World.ownsRow.lt hown g e).1)).setCell (p := ⟨K, k, none⟩) hBK u
end
end Go.Proofs.Ytogaepijfbgniaa
