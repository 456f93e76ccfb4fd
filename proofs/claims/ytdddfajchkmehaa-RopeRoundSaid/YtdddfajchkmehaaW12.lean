/- Contracts: Move. -/
import Derived.Test.YtdddfajchkmehaaW11
namespace Go.Proofs.Ytdddfajchkmehaa
open Go.RowKit Go.Deep
set_option linter.unusedVariables false
set_option linter.unusedSimpArgs false
/-- the loads when the first k carriers are done -/
def rowK (x : Line) (d : Int) (k : Nat) : List Int := (List.range x.load.length).map fun i => if i < k then loadM x d i else x.load.getD i 0
theorem rowK_length (x : Line) (d : Int) (k : Nat) : (rowK x d k).length = x.load.length := by simp [rowK]
theorem rowK_zero (x : Line) (d : Int) : rowK x d 0 = x.load := by
  apply List.ext_getElem
  · simp [rowK]
  · intro i h1 h2; simp [rowK, h2]
theorem rowK_at (x : Line) (d : Int) {k : Nat} (hk : k < x.load.length) : (rowK x d k)[k]'(by rw [rowK_length]; exact hk) = x.load[k] := by simp [rowK, hk]
theorem rowK_yes {x : Line} {d : Int} {k : Nat} (hc : cross x d k = true) : (rowK x d k).set k 0 = rowK x d (k + 1) := by
  apply List.ext_getElem
  · simp [rowK]
  · intro i h1 h2
    rw [List.getElem_set]
    simp only [rowK, List.getElem_map, List.getElem_range]
    by_cases e : k = i
    · subst e; simp [loadM, hc]
    · rw [if_neg e]
      by_cases e2 : i < k
      · rw [if_pos e2, if_pos (by omega)]
      · rw [if_neg e2, if_neg (by omega)]
theorem rowK_no {x : Line} {d : Int} {k : Nat} (hc : cross x d k = false) : rowK x d k = rowK x d (k + 1) := by
  apply List.ext_getElem
  · simp [rowK]
  · intro i h1 h2
    simp only [rowK, List.getElem_map, List.getElem_range]
    by_cases e : i = k
    · subst e; simp [loadM, hc]
    · by_cases e2 : i < k
      · rw [if_pos e2, if_pos (by omega)]
      · rw [if_neg e2, if_neg (by omega)]
theorem rowK_end (x : Line) (d : Int) : rowK x d x.load.length = (List.range x.load.length).map (loadM x d) := by
  apply List.ext_getElem
  · simp [rowK]
  · intro i h1 h2
    have : i < x.load.length := by simpa [rowK] using h1
    simp [rowK, this]
theorem left_yes {x : Line} {d : Int} {k : Nat} (hk : k < x.load.length) (hc : cross x d k = true) : leftK x d (k + 1) = leftK x d k + x.load[k] := by
  rw [leftK, if_pos hc, getD_at hk]
theorem left_no {x : Line} {d : Int} {k : Nat} (hc : cross x d k = false) : leftK x d (k + 1) = leftK x d k := by
  rw [leftK, hc]; simp
theorem pass_yes {x : Line} {d : Int} {k : Nat} (h : x.loop ≤ posOf x k + d) : passK x d (k + 1) = k := by rw [passK, if_pos h]
theorem pass_no {x : Line} {d : Int} {k : Nat} (h : posOf x k + d < x.loop) : passK x d (k + 1) = passK x d k := by rw [passK, if_neg (by omega)]
theorem left_bd {x : Line} {M : Int} (hM : 0 ≤ M) (h : fit x.load M) (d : Int) : ∀ k : Nat, 0 ≤ leftK x d k ∧ leftK x d k ≤ M * k
  | 0 => by simp [leftK]
  | k + 1 => by
    have ih := left_bd hM h d k
    have e : M * ((k + 1 : Nat) : Int) = M * k + M := by rw [Int.natCast_add, Int.mul_add]; simp
    have hx : 0 ≤ x.load.getD k 0 ∧ x.load.getD k 0 ≤ M := by
      by_cases hi : k < x.load.length
      · have := h x.load[k] (List.getElem_mem hi)
        simpa [List.getD, hi] using this
      · simp [List.getD, List.getElem?_eq_none (Nat.le_of_not_lt hi)]; exact hM
    rw [leftK, e]
    split <;> omega
theorem OwnI.at2 {w : World} {B g c n : Nat} {l : List Int} (h : OwnI w B 3 (.slice (some ⟨g, 0, none⟩) n c) l) (hl : l.length = n) {i : Nat} (hi : i < n) {y : Int} (hy : l[i]'(by omega) = y) : w.cell? ⟨g, i, none⟩ = some (.int .i64 y) ∧ w.frozen? ⟨g, i, none⟩ = false := by
  subst hl
  subst hy
  exact h.at_ hi
theorem OwnI.put2 {w : World} {B g c n : Nat} {l : List Int} (h : OwnI w B 3 (.slice (some ⟨g, 0, none⟩) n c) l) (i : Nat) (y : Int) :
    OwnI (w.setCell ⟨g, i, none⟩ (.int .i64 y)) B 3 (.slice (some ⟨g, 0, none⟩) n c) (l.set i y) ∧ w.grownBy (w.setCell ⟨g, i, none⟩ (.int .i64 y)) (some g) := by
  obtain ⟨_, rfl⟩ := h.ints
  exact h.put i y
theorem OwnI.base {w : World} {B B' : Nat} {v : Value} {l : List Int} (h : OwnI w B 3 v l) (hB : B' ≤ B) : OwnI w B' 3 v l := by
  refine ⟨h.1, ?_⟩
  rcases h.2 with hn | ⟨g, cap, cur, e, hb, r⟩
  · exact .inl hn
  · exact .inr ⟨g, cap, cur, e, Nat.le_trans hB hb, r⟩
/-- a line and three numbers -/
def MovePost (w : World) (q : Line × Int × Int × Int) (e : Ending) (w' : World) : Prop := ∃ A c, e = .returned (.tuple #[q.1.val A c, .int .i64 q.2.1, .int .i64 q.2.2.1, .int .i64 q.2.2.2]) ∧ Ints w' A q.1.load ∧ Below w.heap.size w w' ∧ Fresh w A
theorem zero_move (w w' : World) (hb : Below w.heap.size w w') : MovePost w (Line.zero, 0, 0, 2) (.returned (.tuple #[.agg #[.int .i64 0, .int .i64 0, .int .i64 0, .slice none 0 0], .int .i64 0, .int .i64 0, .int .i64 2])) w' := ⟨none, 0, rfl, Ints.nil _ _, hb, fun ad h => by cases h⟩
theorem move_no {x : Line} {d : Int} (h : ¬ (0 ≤ d ∧ d ≤ x.spacing)) : moveOf x d = (Line.zero, 0, 0, 2) := by unfold moveOf; rw [if_neg h]
theorem move_yes {x : Line} {d : Int} (h : 0 ≤ d ∧ d ≤ x.spacing) : moveOf x d = (moved x d, passK x d x.load.length, leftK x d x.load.length, 0) := by unfold moveOf; rw [if_pos h]
theorem moved_out {w W : World} {B : Nat} {x : Line} {d : Int} {A : Option Addr} {c : Nat} {p q : Int} (h : Below w.heap.size w W) (hB : w.heap.size ≤ B) (hI : Ints W A ((List.range x.load.length).map (loadM x d))) (hne : ∀ ad, A = some ad → ad.block ≠ B) (hfr : Fresh w A) (u0 u1 u2 u3 : Value) :
    MovePost w (moved x d, p, q, 0) (.returned (.tuple #[.agg #[.int .i64 x.loop, .int .i64 x.spacing, .int .i64 ((x.offset + d) % x.loop), .slice A x.load.length c], .int .i64 p, .int .i64 q, .int .i64 0])) ((((W.setCell ⟨B, 0, none⟩ u0).setCell ⟨B, 1, none⟩ u1).setCell ⟨B, 2, none⟩ u2).setCell ⟨B, 3, none⟩ u3) :=
  ⟨A, c, by simp [moved, Line.val], four_ints hI hne _ _ _ _, four_below h hB _ _ _ _, hfr⟩
set_option maxHeartbeats 8000000 in
theorem Move_any (x : Line) (A : Option Addr) (c : Nat) (d : Int) (hs : x.shape) (hf : fit x.load 1000000) (w : World) (h : Ints w A x.load) : Calls Try.prog 24 #[x.val A c, .int .i64 d] w (MovePost w (moveOf x d)) := by
  have hn : x.load.length ≤ 200 := hs.2.2.2.1
  have hn1 : 1 ≤ x.load.length := hs.2.2.1
  have hHB := Lib.hid ((below_alloc w (.cells #[.int .i64 x.loop, .int .i64 x.spacing, .int .i64 x.offset, .slice A x.load.length c] 27)).alloc (below_alloc w _).size (.cells #[.int .i64 0, .int .i64 0, .int .i64 0, .slice none 0 0] 27))
  have hHI := Lib.hid (h.below hHB.out)
  have hHL := Lib.hid ((Blk.new w #[.int .i64 x.loop, .int .i64 x.spacing, .int .i64 x.offset, .slice A x.load.length c] 27).alloc (.cells #[.int .i64 0, .int .i64 0, .int .i64 0, .slice none 0 0] 27))
  have hR := Blk.new (w.alloc (.cells #[.int .i64 x.loop, .int .i64 x.spacing, .int .i64 x.offset, .slice A x.load.length c] 27)) #[.int .i64 0, .int .i64 0, .int .i64 0, .slice none 0 0] 27
  rw [World.size_alloc] at hR
  have hHR := Lib.hid hR
  have hlb := shape_bd hs
  have hpo : 0 ≤ x.offset ∧ x.offset < x.loop := ⟨hs.2.2.2.2.2.2.1, hs.2.2.2.2.2.2.2⟩
  have hsp : x.spacing ≤ 1000000 := hs.2.1
  have HPB := Lib.hid (fun i => pos_bd hs i)
  have HP := Lib.hid (fun i hi W => position_any x A c i hs hi W)
  have HLB := Lib.hid (fun k => left_bd (x := x) (by omega) hf d k)
  have HF := Lib.hid hf
  clear hR h hs hf
  have ho : d < 0 ∨ 0 ≤ d ∧ (x.spacing < d ∨ d ≤ x.spacing) := by omega
  rcases ho with ho | ⟨q1, ho | q2⟩
  · have HN := Lib.hid (move_no (x := x) (d := d) (by omega))
    unfold Line.val
    clear HPB HP HLB HF
    go_enter Try.func24, Try.ntmps24
    go_wp2
    refine bodyPost_ret (v := .tuple #[.agg #[.int .i64 0, .int .i64 0, .int .i64 0, .slice none 0 0], .int .i64 0, .int .i64 0, .int .i64 2]) ?_ rfl ?_
    · rw [results_cell4 rfl]
      go_simp
    · rw [HN.out]
      exact zero_move _ _ hHB.out
  · have HN := Lib.hid (move_no (x := x) (d := d) (by omega))
    unfold Line.val
    clear HPB HP HLB HF
    go_enter Try.func24, Try.ntmps24
    go_wp2
    refine bodyPost_ret (v := .tuple #[.agg #[.int .i64 0, .int .i64 0, .int .i64 0, .slice none 0 0], .int .i64 0, .int .i64 0, .int .i64 2]) ?_ rfl ?_
    · rw [results_cell4 rfl]
      go_simp
    · rw [HN.out]
      exact zero_move _ _ hHB.out
  · have HN := Lib.hid (move_yes (x := x) (d := d) ⟨q1, q2⟩)
    have hcl := fun W hW => Lib.hid (Clone_any A c x.load W (by omega) hW)
    unfold Line.val at *
    go_enter Try.func24, Try.ntmps24
    go_wp2_with fail
    refine (hcl _ hHI.out).out.mono ?_
    rintro e w3 ⟨v3, rfl, hown, hb3⟩
    obtain ⟨g, cg, rfl, hgB, ho3⟩ := hown.some_ (by omega)
    have hgB2 : w.heap.size + 2 ≤ g := by simp at hgB; omega
    have HB3 := Lib.hid (hHB.out.trans (hb3.mono hHB.out.size))
    have HI3 := Lib.hid (hHI.out.below hb3)
    have HL3 := Lib.hid (hHL.out.below hb3)
    have HR3 := Lib.hid (hHR.out.below hb3)
    have HO3 : Hid (OwnI w3 (w.heap.size + 2) 3 (.slice (some ⟨g, 0, none⟩) x.load.length cg) (rowK x d 0)) := Lib.hid (by rw [rowK_zero]; exact ho3.base (by simp))
    clear hown hb3 ho3 hHB hHI hHL hHR hcl hgB
    go_wp2_with fail
    go_loopw [9, 10, 31] (fun pv lv i wr => ∃ k : Nat, k ≤ x.load.length ∧ i = .int .i64 k ∧ pv = .int .i64 (passK x d k) ∧ lv = .int .i64 (leftK x d k) ∧ Hid (Below w.heap.size w wr) ∧ Hid (LineAt wr w.heap.size x A c) ∧ Hid (Blk wr (w.heap.size + 1) #[.int .i64 0, .int .i64 0, .int .i64 0, .slice none 0 0] 27) ∧ Hid (OwnI wr (w.heap.size + 2) 3 (.slice (some ⟨g, 0, none⟩) x.load.length cg) (rowK x d k))) (fun _ _ i _ => x.load.length - (intOf i).toNat)
    case atStart => exact ⟨0, Nat.zero_le _, rfl, rfl, rfl, HB3, HL3, HR3, HO3⟩
    case round =>
      clear HB3 HI3 HL3 HR3 HO3
      obtain ⟨k, hk, rfl, rfl, rfl, HB, HL, HR, HO⟩ := hrel
      by_cases hlt : k < x.load.length
      · obtain ⟨c0, c1, c2, c3⟩ := LineAt.cells HL.out
        have hcall := Lib.hid (HP.out k (by omega) wr)
        have hpb := HPB.out k
        have hlk := HLB.out k
        have hlk1 := HLB.out (k + 1)
        have hyb := HF.out _ (List.getElem_mem hlt)
        clear HP HPB HLB HF
        go_wp2_with fail
        refine hcall.out.mono ?_
        rintro e w5 ⟨rfl, hb5⟩
        replace HB := Lib.hid (HB.out.trans (hb5.mono HB.out.size))
        replace HL := Lib.hid (HL.out.below hb5)
        replace HR := Lib.hid (HR.out.below hb5)
        replace HO := Lib.hid (HO.out.grown hb5)
        have hrl := rowK_length x d k
        have hat := HO.out.at2 hrl hlt (rowK_at x d hlt)
        obtain ⟨o1, o2⟩ := hat
        clear c0 c1 c2 c3 hb5 hcall hrl
        obtain ⟨c0, c1, c2, c3⟩ := LineAt.cells HL.out
        have hl3 : leftK x d k ≤ 250000000 := by omega
        have hki : (k : Int) < (x.load.length : Int) := by omega
        have hk0 : (0 : Int) ≤ (k : Int) := by omega
        have ho : (x.loop / 2 ≤ posOf x k ∨ posOf x k < x.loop / 2 ∧ (posOf x k + d < x.loop / 2 ∨ x.loop / 2 ≤ posOf x k + d)) := by omega
        have hq2 : posOf x k + d < x.loop ∨ x.loop ≤ posOf x k + d := by omega
        rcases ho with ho | ⟨ho1, ho | ho⟩
        · rcases hq2 with hq | hq
          · have hcr : cross x d k = false := by unfold cross; simp; omega
            have EL := Lib.hid (left_no hcr)
            have ER := Lib.hid (rowK_no hcr)
            have EP := Lib.hid (pass_no (x := x) (d := d) (k := k) hq)
            have hcr2 := hcr
            clear hcr2 hcr
            generalize posOf x k = p at *
            go_wp2
            go_roundw
            case rel => exact ⟨k + 1, by omega, by go_num, by rw [EP.out], by rw [EL.out], HB, HL, HR, Lib.hid (by rw [← ER.out]; exact HO.out)⟩
            case measure => simp [intOf]; omega
          · have hcr : cross x d k = false := by unfold cross; simp; omega
            have EL := Lib.hid (left_no hcr)
            have ER := Lib.hid (rowK_no hcr)
            have EP := Lib.hid (pass_yes (x := x) (d := d) (k := k) hq)
            have hcr2 := hcr
            clear hcr2 hcr
            generalize posOf x k = p at *
            go_wp2
            go_roundw
            case rel => exact ⟨k + 1, by omega, by go_num, by rw [EP.out], by rw [EL.out], HB, HL, HR, Lib.hid (by rw [← ER.out]; exact HO.out)⟩
            case measure => simp [intOf]; omega
        · have hq : posOf x k + d < x.loop := by omega
          have hcr : cross x d k = false := by unfold cross; simp; omega
          have EL := Lib.hid (left_no hcr)
          have ER := Lib.hid (rowK_no hcr)
          have EP := Lib.hid (pass_no (x := x) (d := d) (k := k) hq)
          have hcr2 := hcr
          clear hcr2 hcr
          generalize posOf x k = p at *
          go_wp2
          go_roundw
          case rel => exact ⟨k + 1, by omega, by go_num, by rw [EP.out], by rw [EL.out], HB, HL, HR, Lib.hid (by rw [← ER.out]; exact HO.out)⟩
          case measure => simp [intOf]; omega
        · rcases hq2 with hq | hq
          · have hcr : cross x d k = true := by unfold cross; simp; omega
            have EL := Lib.hid (left_yes hlt hcr)
            have HPUT : Hid (OwnI _ (w.heap.size + 2) 3 (.slice (some ⟨g, 0, none⟩) x.load.length cg) (rowK x d (k + 1))) := Lib.hid (by have h := (HO.out.put2 k 0).1; rw [rowK_yes hcr] at h; exact h)
            have EP := Lib.hid (pass_no (x := x) (d := d) (k := k) hq)
            have hcr2 := hcr
            clear hcr2 hcr
            generalize posOf x k = p at *
            go_wp2
            go_roundw
            case rel => exact ⟨k + 1, by omega, by go_num, by rw [EP.out], by rw [EL.out], Lib.hid (HB.out.setCell (p := ⟨g, k, none⟩) (by simp; omega) _), Lib.hid (HL.out.far ⟨g, k, none⟩ _ (by simp; omega)), Lib.hid (HR.out.far ⟨g, k, none⟩ _ (by simp; omega)), HPUT⟩
            case measure => simp [intOf]; omega
          · have hcr : cross x d k = true := by unfold cross; simp; omega
            have EL := Lib.hid (left_yes hlt hcr)
            have HPUT : Hid (OwnI _ (w.heap.size + 2) 3 (.slice (some ⟨g, 0, none⟩) x.load.length cg) (rowK x d (k + 1))) := Lib.hid (by have h := (HO.out.put2 k 0).1; rw [rowK_yes hcr] at h; exact h)
            have EP := Lib.hid (pass_yes (x := x) (d := d) (k := k) hq)
            have hcr2 := hcr
            clear hcr2 hcr
            generalize posOf x k = p at *
            go_wp2
            go_roundw
            case rel => exact ⟨k + 1, by omega, by go_num, by rw [EP.out], by rw [EL.out], Lib.hid (HB.out.setCell (p := ⟨g, k, none⟩) (by simp; omega) _), Lib.hid (HL.out.far ⟨g, k, none⟩ _ (by simp; omega)), Lib.hid (HR.out.far ⟨g, k, none⟩ _ (by simp; omega)), HPUT⟩
            case measure => simp [intOf]; omega
      · have hke : k = x.load.length := by omega
        subst hke
        have ho := HO.out
        rw [rowK_end] at ho
        obtain ⟨c0, c1, c2, c3⟩ := LineAt.cells HL.out
        have kf2 := Blk.frozen HL.out 2
        have kf3 := Blk.frozen HL.out 3
        have s0 := HR.out.cell 0 (v := .int .i64 0) rfl
        have s1 := HR.out.cell 1 (v := .int .i64 0) rfl
        have s2 := HR.out.cell 2 (v := .int .i64 0) rfl
        have s3 := HR.out.cell 3 (v := .slice none 0 0) rfl
        have t0 := HR.out.frozen 0
        have t1 := HR.out.frozen 1
        have t2 := HR.out.frozen 2
        have t3 := HR.out.frozen 3
        have HI5 := Lib.hid (((ho.ints.1).far ⟨w.heap.size, 2, none⟩ (.int .i64 ((x.offset + d) % x.loop)) (fun ad h => by cases h; simp; omega)).far ⟨w.heap.size, 3, none⟩ (.slice (some ⟨g, 0, none⟩) x.load.length cg) (fun ad h => by cases h; simp; omega))
        have HB5 := Lib.hid ((HB.out.setCell (p := ⟨w.heap.size, 2, none⟩) (Nat.le_refl _) (.int .i64 ((x.offset + d) % x.loop))).setCell (p := ⟨w.heap.size, 3, none⟩) (Nat.le_refl _) (.slice (some ⟨g, 0, none⟩) x.load.length cg))
        have m0 : 1 ≤ x.loop := by omega
        clear ho HB HL HR HO HP HPB HLB HF
        go_wp2
        refine bodyPost_ret (v := .tuple #[.agg #[.int .i64 x.loop, .int .i64 x.spacing, .int .i64 ((x.offset + d) % x.loop), .slice (some ⟨g, 0, none⟩) x.load.length cg], .int .i64 (passK x d x.load.length), .int .i64 (leftK x d x.load.length), .int .i64 0]) ?_ rfl ?_
        · rw [results_cell4 rfl]
          go_simp
        · rw [HN.out]
          exact moved_out HB5.out (by omega) HI5.out (fun ad h => by cases h; simp; omega) (fun ad h => by cases h; simp; omega) _ _ _ _
end Go.Proofs.Ytdddfajchkmehaa
