/- Contracts: Last (both). -/
import Derived.Test.YtjnokdpliocmmaaW5
namespace Go.Proofs.Ytjnokdpliocmmaa
open Go.RowKit Go.Shelf
set_option linter.unusedVariables false
attribute [local go_sem] Oper.semAt_some
def hitB (s t : Int) (x : Obs) : Bool := decide (x.station = s ∧ x.at_ ≤ t)
def lastVal (o : Option Obs) : Value := .tuple #[(o.getD Obs.zero).val, .bool o.isSome]
theorem last_none {l : List Obs} {s t : Int} (h : ∀ p ∈ revs l l.length, hitB s t p.2 = false) : lastOf l s t = none := by
  unfold lastOf
  rw [List.find?_eq_none]
  intro x hx
  rw [List.mem_reverse] at hx
  obtain ⟨m, hm, rfl⟩ := List.mem_iff_getElem.1 hx
  have := h (m, l[m]) (by
    unfold revs
    rw [List.mem_map]
    refine ⟨l.length - 1 - m, by simp; omega, ?_⟩
    have e : l.length - 1 - (l.length - 1 - m) = m := by omega
    rw [e, List.getElem?_eq_getElem hm]
    rfl)
  simpa [hitB] using this
theorem last_some {l : List Obs} {s t : Int} {k : Nat} (hk : k ≤ l.length) {ini : List (Nat × Obs)} {x : Nat × Obs} (he : revs l k = ini ++ [x]) (h : ∀ p ∈ ini, hitB s t p.2 = false) (hx : hitB s t x.2 = true) : lastOf l s t = some x.2 := by
  obtain ⟨k', rfl⟩ : ∃ k', k = k' + 1 := by
    cases k with
    | zero => simp [revs] at he
    | succ k' => exact ⟨k', rfl⟩
  rw [revs_succ] at he
  obtain ⟨rfl, e5⟩ := List.append_inj' he rfl
  have hlt : l.length - 1 - k' < l.length := by omega
  rw [List.getElem?_eq_getElem hlt] at e5
  simp only [List.cons.injEq, and_true, Option.getD_some] at e5
  subst e5
  unfold lastOf
  rw [List.find?_eq_some_iff_getElem]
  refine ⟨by simpa [hitB] using hx, k', by simp; omega, by simp, fun j hj => ?_⟩
  have := h (l.length - 1 - j, l[l.length - 1 - j]) (by
    unfold revs
    rw [List.mem_map]
    refine ⟨j, by simpa using hj, ?_⟩
    rw [List.getElem?_eq_getElem (by omega)]
    rfl)
  simp only [List.getElem_reverse]
  simp only [hitB, decide_eq_false_iff_not] at this
  simp
  omega
/-- the result's cells -/
def ResIs (B : Nat) (x : Obs) (b : Bool) (W : World) : Prop := W.cell? ⟨B, 0, none⟩ = some (.int .i64 x.station) ∧ W.cell? ⟨B, 1, none⟩ = some (.int .i64 x.at_) ∧ W.cell? ⟨B, 2, none⟩ = some (.int .i64 x.gust) ∧ W.cell? ⟨B, 3, none⟩ = some (.int .i64 x.temp) ∧ W.cell? ⟨B, 4, none⟩ = some (.int .i64 x.hum) ∧ W.cell? ⟨B, 5, none⟩ = some (.int .i64 x.snow) ∧ W.cell? ⟨B + 1, 0, none⟩ = some (.bool b)
theorem resIs_kept {B : Nat} {x : Obs} {b : Bool} {W W' : World} {row : Option Nat} (h : ResIs B x b W) (hg : W.grownBy W' row) (hrow : ∀ r, row = some r → ∃ o : Obj, W.heap[r]? = some o ∧ o.isCells = false) : ResIs B x b W' := by
  obtain ⟨h0, h1, h2, h3, h4, h5, h6⟩ := h
  exact ⟨cell_kept h0 hg hrow, cell_kept h1 hg hrow, cell_kept h2 hg hrow, cell_kept h3 hg hrow, cell_kept h4 hg hrow, cell_kept h5 hg hrow, cell_kept h6 hg hrow⟩
theorem resIs_set {B : Nat} {x : Obs} {b : Bool} {W : World} {cs : Array Value} (hcs : cs.size = 6) {v : Value} (hR : Blk W B cs 30) (hK : Blk W (B + 1) #[v] 4) :
    ResIs B x b ((((((( W.setCell ⟨B, 0, none⟩ (.int .i64 x.station)).setCell ⟨B, 1, none⟩ (.int .i64 x.at_)).setCell ⟨B, 2, none⟩ (.int .i64 x.gust)).setCell ⟨B, 3, none⟩ (.int .i64 x.temp)).setCell ⟨B, 4, none⟩ (.int .i64 x.hum)).setCell ⟨B, 5, none⟩ (.int .i64 x.snow)).setCell ⟨B + 1, 0, none⟩ (.bool b)) := by
  have c0 := hR.cell 0 (v := cs[0]) (by simp [hcs])
  have c1 := hR.cell 1 (v := cs[1]) (by simp [hcs])
  have c2 := hR.cell 2 (v := cs[2]) (by simp [hcs])
  have c3 := hR.cell 3 (v := cs[3]) (by simp [hcs])
  have c4 := hR.cell 4 (v := cs[4]) (by simp [hcs])
  have c5 := hR.cell 5 (v := cs[5]) (by simp [hcs])
  have d0 := hK.cell 0 (v := v) rfl
  unfold ResIs
  refine ⟨?_, ?_, ?_, ?_, ?_, ?_, ?_⟩ <;> go_simp
set_option maxRecDepth 100000 in
set_option maxHeartbeats 4000000 in
theorem Last_any (A : Option Addr) (c : Nat) (l : List Obs) (s t : Int) (w : World) (hm : l.length ≤ 1000000000000000) (h : Obss w A l) :
    Calls Try.prog 14 #[.slice A l.length c, .int .i64 s, .int .i64 t] w fun e w' => e = .returned (lastVal (lastOf l s t)) ∧ Below w.heap.size w w' := by
  refine (callsIn_wide (n := 3)).1 ?_
  refine callsIn_of_wp_marks Try.func14 rfl trivial ?_ rfl
  simp only [Try.ntmps14, List.size_toArray, List.length_cons, List.length_nil, Nat.reduceAdd, Nat.reduceSub, Array.replicate_succ, Array.replicate_zero, List.push_toArray, List.append_toArray, List.nil_append, List.cons_append]
  gi_wp2_with fail
  refine ⟨trivial, ?_⟩
  refine (back_in Fence.wide 2 trivial rfl _ _ _ _).mono ?_
  rintro e w' ⟨rfl, rfl⟩
  have bS := Blk.new w #[.int .i64 s] 3
  have bT := Blk.new (w.alloc (.cells #[.int .i64 s] 3)) #[.int .i64 t] 3
  have bR := Blk.new ((w.alloc (.cells #[.int .i64 s] 3)).alloc (.cells #[.int .i64 t] 3)) #[.int .i64 0, .int .i64 0, .int .i64 0, .int .i64 0, .int .i64 0, .int .i64 0] 30
  have bK := Blk.new (((w.alloc (.cells #[.int .i64 s] 3)).alloc (.cells #[.int .i64 t] 3)).alloc (.cells #[.int .i64 0, .int .i64 0, .int .i64 0, .int .i64 0, .int .i64 0, .int .i64 0] 30)) #[.bool false] 4
  have bN := Blk.new ((((w.alloc (.cells #[.int .i64 s] 3)).alloc (.cells #[.int .i64 t] 3)).alloc (.cells #[.int .i64 0, .int .i64 0, .int .i64 0, .int .i64 0, .int .i64 0, .int .i64 0] 30)).alloc (.cells #[.bool false] 4)) #[.slice A l.length c] 22
  simp only [World.size_alloc] at bT bR bK bN
  replace bS := (((bS.alloc (.cells #[.int .i64 t] 3)).alloc (.cells #[.int .i64 0, .int .i64 0, .int .i64 0, .int .i64 0, .int .i64 0, .int .i64 0] 30)).alloc (.cells #[.bool false] 4)).alloc (.cells #[.slice A l.length c] 22)
  replace bT := ((bT.alloc (.cells #[.int .i64 0, .int .i64 0, .int .i64 0, .int .i64 0, .int .i64 0, .int .i64 0] 30)).alloc (.cells #[.bool false] 4)).alloc (.cells #[.slice A l.length c] 22)
  replace bR := (bR.alloc (.cells #[.bool false] 4)).alloc (.cells #[.slice A l.length c] 22)
  replace bK := bK.alloc (.cells #[.slice A l.length c] 22)
  have hB0 : Below w.heap.size w (((((w.alloc (.cells #[.int .i64 s] 3)).alloc (.cells #[.int .i64 t] 3)).alloc (.cells #[.int .i64 0, .int .i64 0, .int .i64 0, .int .i64 0, .int .i64 0, .int .i64 0] 30)).alloc (.cells #[.bool false] 4)).alloc (.cells #[.slice A l.length c] 22)) :=
    (((((Below.refl _ w).alloc (Nat.le_refl _) _).alloc (by simp) _).alloc (by simp; omega) _).alloc (by simp; omega) _).alloc (by simp; omega) _
  have hsz : (((((w.alloc (.cells #[.int .i64 s] 3)).alloc (.cells #[.int .i64 t] 3)).alloc (.cells #[.int .i64 0, .int .i64 0, .int .i64 0, .int .i64 0, .int .i64 0, .int .i64 0] 30)).alloc (.cells #[.bool false] 4)).alloc (.cells #[.slice A l.length c] 22)).heap.size = w.heap.size + 5 := by simp
  gi_wp2_with fail
  obtain ⟨W0, hW0⟩ : ∃ W0, (((((w.alloc (.cells #[.int .i64 s] 3)).alloc (.cells #[.int .i64 t] 3)).alloc (.cells #[.int .i64 0, .int .i64 0, .int .i64 0, .int .i64 0, .int .i64 0, .int .i64 0] 30)).alloc (.cells #[.bool false] 4)).alloc (.cells #[.slice A l.length c] 22)) = W0 := ⟨_, rfl⟩
  rw [hW0] at bS bT bR bK bN hB0 hsz ⊢
  clear hW0
  refine wpIn_rangeFunc_ownH rfl (by omega) (gf := 34) (lb := #[.pointer (some ⟨w.heap.size + 1 + 1 + 1 + 1, 0, none⟩)]) rfl trivial (enters_of Try.func34 (by kernel_rfl) rfl)
    (back_stops Fence.wide 2 trivial rfl (by omega) (w.heap.size + 1 + 1 + 1 + 1) c A l w W0 hm (by omega) h hB0 (bN.cell 0 rfl)) belowK_t (belowK_b (Nat.le_refl _)) (Below.refl _ _) (fun _ => rfl)
    (fun pre W => (((((∀ p ∈ pre, hitB s t p.2 = false) ∧ Blk W w.heap.size #[.int .i64 s] 3) ∧ Blk W (w.heap.size + 1) #[.int .i64 t] 3) ∧ Blk W (w.heap.size + 1 + 1) #[.int .i64 0, .int .i64 0, .int .i64 0, .int .i64 0, .int .i64 0, .int .i64 0] 30) ∧ Blk W (w.heap.size + 1 + 1 + 1) #[.bool false] 4) ∧ Below w.heap.size W0 W)
    (fun cc pre W => ((cc = .ret ∧ ∃ ini x, pre = ini ++ [x] ∧ (∀ p ∈ ini, hitB s t p.2 = false) ∧ hitB s t x.2 = true ∧ ResIs (w.heap.size + 1 + 1) x.2 true W)) ∧ Below w.heap.size W0 W)
    (OwnFrom.and (OwnFrom.and (OwnFrom.and (OwnFrom.and (OwnFrom.and (ownFrom_pure _ _) (Own.from (blk_own _ _ _) _)) (Own.from (blk_own _ _ _) _)) (Own.from (blk_own _ _ _) _)) (Own.from (blk_own _ _ _) _)) (ownFrom_below (by omega) (by omega)))
    (fun cc => OwnFrom.and (Own.from (fun pre A B row hs hg hr => by obtain ⟨hc, ini, x, e1, e2, e3, e4⟩ := hs; exact ⟨hc, ini, x, e1, e2, e3, resIs_kept e4 hg hr⟩) _) (ownFrom_below (by omega) (by omega)))
    ⟨⟨⟨⟨⟨by simp, bS⟩, bT⟩, bR⟩, bK⟩, Below.refl _ _⟩
    (fun x a' W => ∃ Bx, w.heap.size + 5 ≤ Bx ∧ Blk W Bx #[.int .i64 x.2.station, .int .i64 x.2.at_, .int .i64 x.2.gust, .int .i64 x.2.temp, .int .i64 x.2.hum, .int .i64 x.2.snow] 30 ∧ a' = { tmps := #[.slice A l.length c, .int .i64 s, .int .i64 t, undef, .pointer (some ⟨w.heap.size, 0, none⟩), .pointer (some ⟨w.heap.size + 1, 0, none⟩), .pointer (some ⟨w.heap.size + 1 + 1, 0, none⟩), .pointer (some ⟨w.heap.size + 1 + 1 + 1, 0, none⟩), undef, .pointer (some ⟨Bx, 0, none⟩), .slice A l.length c, .func (.func 34) #[] #[.pointer (some ⟨w.heap.size + 1 + 1 + 1 + 1, 0, none⟩)], .int .i64 (x.1 : Int), .agg #[.int .i64 x.2.station, .int .i64 x.2.at_, .int .i64 x.2.gust, .int .i64 x.2.temp, .int .i64 x.2.hum, .int .i64 x.2.snow], undef, undef, undef, undef, undef, undef, undef, undef, undef, undef, undef, undef], defers := [] })
    (fun x a' _ X Y row hs hg hr => by obtain ⟨Bx, e1, e2, e3⟩ := hs; exact ⟨Bx, e1, blk_own Bx 30 (fun (_ : Unit) => #[.int .i64 x.2.station, .int .i64 x.2.at_, .int .i64 x.2.gust, .int .i64 x.2.temp, .int .i64 x.2.hum, .int .i64 x.2.snow]) () X Y row e2 hg (fun r e => (hr r e).2), e3⟩)
    ?assign ?body ?done ?stop
  case assign =>
    rintro l0 pre x W K ⟨⟨⟨⟨⟨hp, bS1⟩, bT1⟩, bR1⟩, bK1⟩, hB1⟩ hK
    have hlt := bK1.lt
    unfold Obs.val at *
    gi_wp2
    exact hK _ _ ((KeepsOthers.alloc _ _).from _) ((Below.refl _ W).alloc hB1.size _) ⟨⟨⟨⟨⟨hp, bS1.alloc _⟩, bT1.alloc _⟩, bR1.alloc _⟩, bK1.alloc _⟩, hB1.alloc (by have := hB1.size; omega) _⟩ ⟨W.heap.size, by have := hB1.size; omega, Blk.new W _ _, rfl⟩
  case body =>
    rintro l0 pre x a' W hl ⟨r, hr⟩ ⟨⟨⟨⟨⟨hp, bS1⟩, bT1⟩, bR1⟩, bK1⟩, hB1⟩ ⟨Bx, hBx, bX, rfl⟩ hlt
    obtain ⟨i, x⟩ := x
    simp only at bX
    have x0 := bX.cell 0 rfl
    have x1 := bX.cell 1 rfl
    have x2 := bX.cell 2 rfl
    have x3 := bX.cell 3 rfl
    have x4 := bX.cell 4 rfl
    have x5 := bX.cell 5 rfl
    have s0 := bS1.cell 0 rfl
    have t0 := bT1.cell 0 rfl
    have r0 := bR1.cell 0 rfl
    have r1 := bR1.cell 1 rfl
    have r2 := bR1.cell 2 rfl
    have r3 := bR1.cell 3 rfl
    have r4 := bR1.cell 4 rfl
    have r5 := bR1.cell 5 rfl
    have k0 := bK1.cell 0 rfl
    have f0 := bR1.frozen 0
    have f1 := bR1.frozen 1
    have f2 := bR1.frozen 2
    have f3 := bR1.frozen 3
    have f4 := bR1.frozen 4
    have f5 := bR1.frozen 5
    have f6 := bK1.frozen 0
    have ho : x.station ≠ s ∨ x.station = s ∧ (t < x.at_ ∨ x.at_ ≤ t) := by omega
    rcases ho with ho | ⟨ho, h1 | h1⟩
    · have hq : (x.station == s) = false := by simp [ho]
      have hno : hitB s t x = false := by simp [hitB, ho]
      have hno := Lib.hid hno
      clear ho
      gi_wp2
      exact ⟨KeepsFrom.refl _ _, Below.refl _ _, ⟨⟨⟨⟨fun p hp' => (List.mem_append.1 hp').elim (hp p) (fun e => by simp at e; subst e; exact hno.out), bS1⟩, bT1⟩, bR1⟩, bK1⟩, hB1⟩
    · have hq : (x.station == s) = true := by simp [ho]
      have hno : hitB s t x = false := by simp [hitB, ho]; omega
      have hno := Lib.hid hno
      clear ho
      gi_wp2
      exact ⟨KeepsFrom.refl _ _, Below.refl _ _, ⟨⟨⟨⟨fun p hp' => (List.mem_append.1 hp').elim (hp p) (fun e => by simp at e; subst e; exact hno.out), bS1⟩, bT1⟩, bR1⟩, bK1⟩, hB1⟩
    · have hq : (x.station == s) = true := by simp [ho]
      have hyes : hitB s t x = true := by simp [hitB, ho]; omega
      have hyes := Lib.hid hyes
      clear ho
      gi_wp2
      refine ⟨(((((((KeepsOthers.setCell _ _ _).trans (KeepsOthers.setCell _ _ _)).trans (KeepsOthers.setCell _ _ _)).trans (KeepsOthers.setCell _ _ _)).trans (KeepsOthers.setCell _ _ _)).trans (KeepsOthers.setCell _ _ _)).trans (KeepsOthers.setCell _ _ _)).from _, ⟨rfl, pre, (i, x), rfl, hp, hyes.out, resIs_set rfl bR1 bK1⟩, ?_⟩
      exact (((((((hB1.setCell (p := ⟨w.heap.size + 1 + 1, 0, none⟩) (show w.heap.size ≤ w.heap.size + 1 + 1 by omega) _).setCell (p := ⟨w.heap.size + 1 + 1, 1, none⟩) (show w.heap.size ≤ w.heap.size + 1 + 1 by omega) _).setCell (p := ⟨w.heap.size + 1 + 1, 2, none⟩) (show w.heap.size ≤ w.heap.size + 1 + 1 by omega) _).setCell (p := ⟨w.heap.size + 1 + 1, 3, none⟩) (show w.heap.size ≤ w.heap.size + 1 + 1 by omega) _).setCell (p := ⟨w.heap.size + 1 + 1, 4, none⟩) (show w.heap.size ≤ w.heap.size + 1 + 1 by omega) _).setCell (p := ⟨w.heap.size + 1 + 1, 5, none⟩) (show w.heap.size ≤ w.heap.size + 1 + 1 by omega) _).setCell (p := ⟨w.heap.size + 1 + 1 + 1, 0, none⟩) (show w.heap.size ≤ w.heap.size + 1 + 1 + 1 by omega) _)
  case done =>
    rintro D zs W hD rfl ⟨⟨⟨⟨⟨hp, bS1⟩, bT1⟩, bR1⟩, bK1⟩, hB1⟩ hK
    have r0 := bR1.cell 0 rfl
    have r1 := bR1.cell 1 rfl
    have r2 := bR1.cell 2 rfl
    have r3 := bR1.cell 3 rfl
    have r4 := bR1.cell 4 rfl
    have r5 := bR1.cell 5 rfl
    have k0 := bK1.cell 0 rfl
    have f0 := bR1.frozen 0
    have f1 := bR1.frozen 1
    have f2 := bR1.frozen 2
    have f3 := bR1.frozen 3
    have f4 := bR1.frozen 4
    have f5 := bR1.frozen 5
    have f6 := bK1.frozen 0
    gi_wp2
    have hK' := (((((((KeepsOthers.setCell W ⟨w.heap.size + 1 + 1, 0, none⟩ (.int .i64 0)).trans (KeepsOthers.setCell (W.setCell ⟨w.heap.size + 1 + 1, 0, none⟩ (.int .i64 0)) ⟨w.heap.size + 1 + 1, 1, none⟩ (.int .i64 0))).trans (KeepsOthers.setCell ((W.setCell ⟨w.heap.size + 1 + 1, 0, none⟩ (.int .i64 0)).setCell ⟨w.heap.size + 1 + 1, 1, none⟩ (.int .i64 0)) ⟨w.heap.size + 1 + 1, 2, none⟩ (.int .i64 0))).trans (KeepsOthers.setCell (((W.setCell ⟨w.heap.size + 1 + 1, 0, none⟩ (.int .i64 0)).setCell ⟨w.heap.size + 1 + 1, 1, none⟩ (.int .i64 0)).setCell ⟨w.heap.size + 1 + 1, 2, none⟩ (.int .i64 0)) ⟨w.heap.size + 1 + 1, 3, none⟩ (.int .i64 0))).trans (KeepsOthers.setCell ((((W.setCell ⟨w.heap.size + 1 + 1, 0, none⟩ (.int .i64 0)).setCell ⟨w.heap.size + 1 + 1, 1, none⟩ (.int .i64 0)).setCell ⟨w.heap.size + 1 + 1, 2, none⟩ (.int .i64 0)).setCell ⟨w.heap.size + 1 + 1, 3, none⟩ (.int .i64 0)) ⟨w.heap.size + 1 + 1, 4, none⟩ (.int .i64 0))).trans (KeepsOthers.setCell (((((W.setCell ⟨w.heap.size + 1 + 1, 0, none⟩ (.int .i64 0)).setCell ⟨w.heap.size + 1 + 1, 1, none⟩ (.int .i64 0)).setCell ⟨w.heap.size + 1 + 1, 2, none⟩ (.int .i64 0)).setCell ⟨w.heap.size + 1 + 1, 3, none⟩ (.int .i64 0)).setCell ⟨w.heap.size + 1 + 1, 4, none⟩ (.int .i64 0)) ⟨w.heap.size + 1 + 1, 5, none⟩ (.int .i64 0))).trans (KeepsOthers.setCell ((((((W.setCell ⟨w.heap.size + 1 + 1, 0, none⟩ (.int .i64 0)).setCell ⟨w.heap.size + 1 + 1, 1, none⟩ (.int .i64 0)).setCell ⟨w.heap.size + 1 + 1, 2, none⟩ (.int .i64 0)).setCell ⟨w.heap.size + 1 + 1, 3, none⟩ (.int .i64 0)).setCell ⟨w.heap.size + 1 + 1, 4, none⟩ (.int .i64 0)).setCell ⟨w.heap.size + 1 + 1, 5, none⟩ (.int .i64 0)) ⟨w.heap.size + 1 + 1 + 1, 0, none⟩ (.bool false))).same D _ hK rfl
    refine ⟨by simp, .inl ⟨_, _, rfl, run_takeDeferred hK', ?_⟩⟩
    have hres := resIs_kept (resIs_set (x := Obs.zero) (b := false) rfl bR1 bK1) (grownBy_putObj' _ D (.deferred none)) (fun r e => by cases e; exact ⟨_, hK', rfl⟩)
    obtain ⟨c0, c1, c2, c3, c4, c5, c6⟩ := hres
    have hlast := last_none hp
    refine ⟨lastVal none, ?_, by rw [hlast], ?_⟩
    · simp only [Obs.zero] at c0 c1 c2 c3 c4 c5 c6
      simp [results, Try.f14, go_sem, c0, c1, c2, c3, c4, c5, c6, lastVal, Obs.zero, Obs.val]
    · refine hB0.trans (Below.trans ?_ (belowK_b (w := w) (Nat.le_refl _) _ D _ _ (by omega) hK' rfl rfl))
      exact (((((((hB1.setCell (p := ⟨w.heap.size + 1 + 1, 0, none⟩) (show w.heap.size ≤ w.heap.size + 1 + 1 by omega) _).setCell (p := ⟨w.heap.size + 1 + 1, 1, none⟩) (show w.heap.size ≤ w.heap.size + 1 + 1 by omega) _).setCell (p := ⟨w.heap.size + 1 + 1, 2, none⟩) (show w.heap.size ≤ w.heap.size + 1 + 1 by omega) _).setCell (p := ⟨w.heap.size + 1 + 1, 3, none⟩) (show w.heap.size ≤ w.heap.size + 1 + 1 by omega) _).setCell (p := ⟨w.heap.size + 1 + 1, 4, none⟩) (show w.heap.size ≤ w.heap.size + 1 + 1 by omega) _).setCell (p := ⟨w.heap.size + 1 + 1, 5, none⟩) (show w.heap.size ≤ w.heap.size + 1 + 1 by omega) _).setCell (p := ⟨w.heap.size + 1 + 1 + 1, 0, none⟩) (show w.heap.size ≤ w.heap.size + 1 + 1 + 1 by omega) _)
  case stop =>
    rintro D cc pre W hD ⟨k, hk, rfl⟩ ⟨⟨rfl, ini, x, e1, e2, e3, hres⟩, hB1⟩ hK
    gi_wp2
    refine ⟨by simp, .inl ⟨_, _, rfl, run_takeDeferred hK, ?_⟩⟩
    have hres := resIs_kept hres (grownBy_putObj' _ D (.deferred none)) (fun r e => by cases e; exact ⟨_, hK, rfl⟩)
    obtain ⟨c0, c1, c2, c3, c4, c5, c6⟩ := hres
    have hlast := last_some hk e1 e2 e3
    refine ⟨lastVal (some x.2), ?_, by rw [hlast], ?_⟩
    · simp [results, Try.f14, go_sem, c0, c1, c2, c3, c4, c5, c6, lastVal, Obs.val]
    · exact hB0.trans (hB1.trans (belowK_b (w := w) (Nat.le_refl _) W D _ _ (by omega) hK rfl rfl))
end Go.Proofs.Ytjnokdpliocmmaa
