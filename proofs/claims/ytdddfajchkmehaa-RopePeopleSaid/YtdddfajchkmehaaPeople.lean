/- RopePeople: for every right line and at most 100 operations nobody is lost: who boarded is on the line, has left, or was brought down, and the line remains right; no condition. -/
import Derived.Test.YtdddfajchkmehaaLaw0
import Derived.Test.YtdddfajchkmehaaPlain4
import Derived.Deep.RegionHeld3
import Derived.Laws.Rows
namespace Go.Proofs.Ytdddfajchkmehaa.ropePeople
open Go.RowKit Go.ChangeShapes Go.WideShapes Go.ChangeAt
set_option linter.unusedVariables false
theorem right_fit16 {x : Line} (h : rightB x 16 = true) : fit x.load 16 := by
  intro y hy
  obtain ⟨k, hk, rfl⟩ := List.mem_iff_getElem.1 hy
  have := (right_use h).2 k hk
  omega
theorem blk_four {W : World} {p : Nat} {u0 u1 u2 u3 : Value} {t : TypeId} (h : Blk W p #[u0, u1, u2, u3] t) (a b c d : Value) :
    Blk ((((W.setCell ⟨p, 0, none⟩ a).setCell ⟨p, 1, none⟩ b).setCell ⟨p, 2, none⟩ c).setCell ⟨p, 3, none⟩ d) p #[a, b, c, d] t := by
  have h1 := heap_setCell_same W p 0 _ t a h
  have h2 := heap_setCell_same _ p 1 _ t b h1
  have h3 := heap_setCell_same _ p 2 _ t c h2
  have h4 := heap_setCell_same _ p 3 _ t d h3
  exact h4
/-- what Load and Take leave -/
def CutR (wr wx : World) (q : Line × Int) (s t : Value) : Prop := ∃ g B b, s = .pointer (some ⟨g, 0, none⟩) ∧ t = .int .i64 q.2 ∧ LineAt wx g q.1 B b ∧ Ints wx B q.1.load ∧ Fresh wr B ∧ Below wr.heap.size wr wx
theorem moved_cases {z : Line} (h : rightB z 16 = true) (n : Int) : (moveOf z n).2.2.2 = 0 ∧ (moveOf z n).1 = moved z n ∧ (moveOf z n).2.1 = passK z n z.load.length ∧ (moveOf z n).2.2.1 = leftK z n z.load.length ∧ rightB (moved z n) 16 = true ∧ (0 ≤ n ∧ n ≤ z.spacing) ∨ (moveOf z n).2.2.2 = 2 := by
  by_cases hn : 0 ≤ n ∧ n ≤ z.spacing
  · rw [move_yes hn]
    exact .inl ⟨rfl, rfl, rfl, rfl, moved_right h (by omega) hn, hn⟩
  · rw [move_no hn]
    exact .inr rfl
theorem four_below2 {wr W : World} (h : Below wr.heap.size wr W) (u0 u1 u2 u3 : Value) : Below wr.heap.size wr ((((W.setCell ⟨wr.heap.size, 0, none⟩ u0).setCell ⟨wr.heap.size, 1, none⟩ u1).setCell ⟨wr.heap.size, 2, none⟩ u2).setCell ⟨wr.heap.size, 3, none⟩ u3) := four_below h (Nat.le_refl _) _ _ _ _
theorem ops_len {n : Nat} (h : n * Try.prog.bytesOf 49 ≤ reachBytes) : n ≤ 9000000000000 := by
  rw [show Try.prog.bytesOf 49 = 24 by kernel_rfl] at h
  have : reachBytes < 140737488355328 := by simpa using reachBytes_lt
  omega
set_option maxRecDepth 100000 in
set_option maxHeartbeats 16000000 in
theorem walk (y : LineIn) (C : Option Addr) (d : Nat) (ops : List Op) (w : World) (hy : y.ok w) (_hm : ops.length ≤ d ∧ d ≤ maxLen) (h2 : Ops w C ops ∧ ∀ x ∈ ops, x.I) (hr2 : ops.length * Try.prog.bytesOf 49 ≤ reachBytes) : Calls Try.prog 7 #[y.val, .slice C ops.length d] w fun e w' => e = .returned (.bool true) ∧ Below w.heap.size w w' := by
  obtain ⟨x, A, c⟩ := y
  obtain ⟨hI, hm, _⟩ := hy
  simp only [LineIn.val] at hI hm ⊢
  unfold maxLen at hm
  have q1 := fun W h => Lib.hid (right1_any x A c hm W h)
  have h2 := h2.1
  have hr2 := ops_len hr2
  clear _hm
  have H0 := Lib.hid hI
  have HB := Lib.hid (Below.refl w.heap.size w)
  have JA := Lib.hid hI
  clear hI
  have ka := below_alloc w (.cells #[.int .i64 x.loop, .int .i64 x.spacing, .int .i64 x.offset, .slice A x.load.length c] 27)
  replace JA := Lib.hid (JA.out.below ka)
  replace HB := Lib.hid (HB.out.trans (ka.mono HB.out.size))
  clear ka
  have k := Blk.new w #[.int .i64 x.loop, .int .i64 x.spacing, .int .i64 x.offset, .slice A x.load.length c] 27
  have Kx := Lib.hid k
  clear k
  have H2 := Lib.hid h2
  clear h2
  cases hgb : goodB x with
  | false =>
    rw [hgb] at q1
    clear hgb
    unfold Line.val at *
    go_enter Try.func7, Try.ntmps7
    go_wp2_with fail
    refine (alive_any _).mono ?_
    rintro e v1 ⟨rfl, hb⟩
    replace Kx := Lib.hid (Kx.out.below hb)
    replace JA := Lib.hid (JA.out.below hb)
    replace HB := Lib.hid (HB.out.trans (hb.mono HB.out.size))
    clear hb
    have xxq0 := Kx.out.cell 0 (v := .int .i64 x.loop) rfl
    have xxq1 := Kx.out.cell 1 (v := .int .i64 x.spacing) rfl
    have xxq2 := Kx.out.cell 2 (v := .int .i64 x.offset) rfl
    have xxq3 := Kx.out.cell 3 (v := .slice A x.load.length c) rfl
    go_wp2_with fail
    refine ((q1 _ JA.out).out).mono ?_
    rintro e v2 ⟨rfl, hb⟩
    clear xxq0 xxq1 xxq2 xxq3
    replace Kx := Lib.hid (Kx.out.below hb)
    replace JA := Lib.hid (JA.out.below hb)
    replace HB := Lib.hid (HB.out.trans (hb.mono HB.out.size))
    clear hb
    have HBB := HB.out
    clear HB
    go_wp2
    go_ret
    exact ⟨rfl, HBB⟩
  | true =>
    obtain ⟨hs, hn, hf, hr⟩ := good_use hgb
    rw [hgb] at q1
    clear hgb
    by_cases hlen : 100 < ops.length
    · clear hs hf
      unfold Line.val at *
      go_enter Try.func7, Try.ntmps7
      go_wp2_with fail
      refine (alive_any _).mono ?_
      rintro e v1 ⟨rfl, hb⟩
      replace Kx := Lib.hid (Kx.out.below hb)
      replace JA := Lib.hid (JA.out.below hb)
      replace HB := Lib.hid (HB.out.trans (hb.mono HB.out.size))
      clear hb
      have xxq0 := Kx.out.cell 0 (v := .int .i64 x.loop) rfl
      have xxq1 := Kx.out.cell 1 (v := .int .i64 x.spacing) rfl
      have xxq2 := Kx.out.cell 2 (v := .int .i64 x.offset) rfl
      have xxq3 := Kx.out.cell 3 (v := .slice A x.load.length c) rfl
      go_wp2_with fail
      refine ((q1 _ JA.out).out).mono ?_
      rintro e v2 ⟨rfl, hb⟩
      clear xxq0 xxq1 xxq2 xxq3
      replace Kx := Lib.hid (Kx.out.below hb)
      replace JA := Lib.hid (JA.out.below hb)
      replace HB := Lib.hid (HB.out.trans (hb.mono HB.out.size))
      clear hb
      have HBB := HB.out
      clear HB
      go_wp2
      go_ret
      exact ⟨rfl, HBB⟩
    · have q2 := fun W h => Lib.hid (People_any x A c (by omega) hf W h)
      have FA : Hid (∀ ad, A = some ad → ad.block ≠ w.heap.size) := Lib.hid (fun ad h => by
        obtain ⟨b, off, e, hc⟩ := H0.out (by have := hs.2.2.1; omega)
        have := World.block_lt_of_cell? _ _ (hc 0 (by have := hs.2.2.1; omega))
        rw [e] at h
        cases h
        simp only at this ⊢
        omega)
      clear hs hf
      unfold Line.val at *
      go_enter Try.func7, Try.ntmps7
      go_wp2_with fail
      refine (alive_any _).mono ?_
      rintro e v1 ⟨rfl, hb⟩
      replace Kx := Lib.hid (Kx.out.below hb)
      replace JA := Lib.hid (JA.out.below hb)
      replace HB := Lib.hid (HB.out.trans (hb.mono HB.out.size))
      clear hb
      have xxq0 := Kx.out.cell 0 (v := .int .i64 x.loop) rfl
      have xxq1 := Kx.out.cell 1 (v := .int .i64 x.spacing) rfl
      have xxq2 := Kx.out.cell 2 (v := .int .i64 x.offset) rfl
      have xxq3 := Kx.out.cell 3 (v := .slice A x.load.length c) rfl
      go_wp2_with fail
      refine ((q1 _ JA.out).out).mono ?_
      rintro e v2 ⟨rfl, hb⟩
      clear xxq0 xxq1 xxq2 xxq3
      replace Kx := Lib.hid (Kx.out.below hb)
      replace JA := Lib.hid (JA.out.below hb)
      replace HB := Lib.hid (HB.out.trans (hb.mono HB.out.size))
      clear hb
      have xxq0 := Kx.out.cell 0 (v := .int .i64 x.loop) rfl
      have xxq1 := Kx.out.cell 1 (v := .int .i64 x.spacing) rfl
      have xxq2 := Kx.out.cell 2 (v := .int .i64 x.offset) rfl
      have xxq3 := Kx.out.cell 3 (v := .slice A x.load.length c) rfl
      go_wp2_with fail
      refine ((q2 _ JA.out).out).mono ?_
      rintro e v3 ⟨rfl, hb⟩
      clear xxq0 xxq1 xxq2 xxq3
      replace Kx := Lib.hid (Kx.out.below hb)
      replace JA := Lib.hid (JA.out.below hb)
      replace HB := Lib.hid (HB.out.trans (hb.mono HB.out.size))
      clear hb
      go_wp2_with fail
      clear q1 q2
      have HR0 := Lib.hid hr
      clear hr
      go_loopw [5, 6] (fun av iv wr => ∃ (k : Nat) (z : Line) (A' : Option Addr) (c' : Nat), k ≤ ops.length ∧ iv = .int .i64 k ∧ av = .int .i64 (peopleOf z) ∧ Hid (Below w.heap.size w wr) ∧ Hid (LineAt wr w.heap.size z A' c') ∧ Hid (Ints wr A' z.load) ∧ Hid (∀ ad, A' = some ad → ad.block ≠ w.heap.size) ∧ Hid (rightB z 16 = true)) (fun _ iv _ => ops.length - (intOf iv).toNat)
      case atStart => exact ⟨0, x, A, c, Nat.zero_le _, rfl, rfl, HB, Kx, JA, FA, HR0⟩
      case round =>
        clear HB Kx JA FA HR0
        obtain ⟨k, z, A', c', hk, rfl, rfl, HB, Kx, Jx, FX, HR⟩ := hrel
        by_cases hlt : k < ops.length
        · obtain ⟨bo, oo, rfl, hco⟩ := H2.out (by omega)
          obtain ⟨v0, v1, v2⟩ := hco k hlt
          replace v0 := cell_later HB.out v0
          replace v1 := cell_later HB.out v1
          replace v2 := cell_later HB.out v2
          clear hco
          generalize ops[k] = o at *
          obtain ⟨ok, oi, on⟩ := o
          simp only at v0 v1 v2
          have hzs := (right_use HR.out).1
          have hzf := right_fit (by omega) HR.out
          have hz2 := people_bd (by omega) (right_fit16 HR.out)
          have hzn := hzs.2.2.2.1
          have hki : (k : Int) < (ops.length : Int) := by omega
          have hk0 : (0 : Int) ≤ (k : Int) := by omega
          have hpl : 0 ≤ peopleOf z ∧ peopleOf z ≤ 3200 := by omega
          clear hz2
          by_cases hk1 : ok = 0
          · have hkb : (ok == 0) = true := by simpa using hk1
            have qm := fun W h => Lib.hid (Move_any z A' c' on hzs hzf W h)
            have hmc := moved_cases HR.out on
            have hml := moved_people z on
            unfold MovePost Line.val at qm
            obtain ⟨q, hq⟩ : ∃ q, q = moveOf z on := ⟨_, rfl⟩
            rw [← hq] at qm hmc
            clear hq
            obtain ⟨u, p, lf, er⟩ := q
            simp only at qm hmc
            have HMC := Lib.hid hmc
            have HML := Lib.hid hml
            clear hmc hml
            have x0 := Kx.out.cell 0 (v := .int .i64 z.loop) rfl
            have x1 := Kx.out.cell 1 (v := .int .i64 z.spacing) rfl
            have x2 := Kx.out.cell 2 (v := .int .i64 z.offset) rfl
            have x3 := Kx.out.cell 3 (v := .slice A' z.load.length c') rfl
            go_wp2_with fail
            refine (qm _ Jx.out).out.mono ?_
            rintro e w5 ⟨B, b, rfl, hI, hb, hfr⟩
            have hsz := Blk.lt Kx.out
            have FU : Hid (∀ ad, B = some ad → ad.block ≠ w.heap.size) := Lib.hid (fun ad h => by have := hfr ad h; omega)
            replace Kx := Lib.hid (Kx.out.below hb)
            replace Jx := Lib.hid (Jx.out.below hb)
            replace HB := Lib.hid (HB.out.trans (hb.mono HB.out.size))
            have JU := Lib.hid hI
            clear x0 x1 x2 x3 hb hI hfr hsz v0 v1 v2 qm
            have ka := below_alloc w5 (.cells #[.int .i64 u.loop, .int .i64 u.spacing, .int .i64 u.offset, .slice B u.load.length b] 27)
            replace Kx := Lib.hid (Kx.out.below ka)
            replace Jx := Lib.hid (Jx.out.below ka)
            replace JU := Lib.hid (JU.out.below ka)
            replace HB := Lib.hid (HB.out.trans (ka.mono HB.out.size))
            clear ka
            have KU := Lib.hid (Blk.new w5 #[.int .i64 u.loop, .int .i64 u.spacing, .int .i64 u.offset, .slice B u.load.length b] 27)
            rcases HMC.out with ⟨he, h1, h2, h3, h4, h5⟩ | he
            · subst he
              subst h2
              subst h3
              have HE := Lib.hid (show peopleOf u = peopleOf z - leftK z on z.load.length by rw [h1]; exact HML.out)
              have HR5 : Hid (rightB u 16 = true) := Lib.hid (by rw [h1]; exact h4)
              have hp1 := pass_bd z on z.load.length
              have hl1 := left_bd (by omega) (right_fit16 HR.out) on z.load.length
              have hl2 : leftK z on z.load.length ≤ 3200 := by omega
              have hsp := hzs.2.1
              have hlo := shape_bd hzs
              clear HMC HML h1 h4
              go_upto_region 13 with (fail)
              generalize w5.alloc (.cells #[.int .i64 u.loop, .int .i64 u.spacing, .int .i64 u.offset, .slice B u.load.length b] 27) = W6 at *
              generalize w5.heap.size = gU at *
              by_cases hp0 : 0 ≤ passK z on z.load.length
              · have y0 := fun X => above_cell (w := W6) (Kx.out.cell 0 (v := .int .i64 z.loop) rfl) X
                have y1 := fun X => above_cell (w := W6) (Kx.out.cell 1 (v := .int .i64 z.spacing) rfl) X
                have y2 := fun X => above_cell (w := W6) (Kx.out.cell 2 (v := .int .i64 z.offset) rfl) X
                have y3 := fun X => above_cell (w := W6) (Kx.out.cell 3 (v := .slice A' z.load.length c') rfl) X
                have qa := fun (X : Above W6) => Lib.hid (At_any z A' c' (passK z on z.load.length) hzs X.val)
                have hat : atOf z (passK z on z.load.length) = posOf z (passK z on z.load.length).toNat := by unfold atOf; rw [if_pos ⟨hp0, by omega⟩]
                rw [hat] at qa
                have hpb := pos_bd hzs (passK z on z.load.length).toNat
                have hpa := pass_at z on z.load.length hp0
                unfold Line.val at qa
                clear hat
                generalize posOf z (passK z on z.load.length).toNat = av at *
                generalize passK z on z.load.length = p at *
                generalize leftK z on z.load.length = lf at *
                have hd1 : decide (lf < 0) = false := by simp; omega
                have hd2 : decide (p < -1) = false := by simp; omega
                have hd3 : decide ((z.load.length : Int) ≤ p) = false := by simp; omega
                have hd4 : decide (0 ≤ p) = true := by simpa using hp0
                have hd5 : decide (av + on < z.loop) = false := by simp; omega
                have hwr : IntKind.i64.wrap (av + on) = av + on := IntWalk.i64_in _ (by omega)
                refine wp_region_above (by kernel_rfl) (by kernel_rfl) ?_
                repeat (go_big_quiet_step ((go_at_call 18; exact above_call (qa _).out)))
                refine wpQuiet_nil ?_
                rintro _ ⟨v, rfl⟩
                obtain ⟨W7, hb⟩ := v
                simp only
                clear y0 y1 y2 y3 hd1 hd2 hd3 hd4 hd5 hwr qa
                replace Kx := Lib.hid (Kx.out.below hb)
                replace KU := Lib.hid (KU.out.below hb)
                replace JU := Lib.hid (JU.out.below hb)
                replace HB := Lib.hid (HB.out.trans (hb.mono HB.out.size))
                clear hb
                have y0 := KU.out.cell 0 (v := .int .i64 u.loop) rfl
                have y1 := KU.out.cell 1 (v := .int .i64 u.spacing) rfl
                have y2 := KU.out.cell 2 (v := .int .i64 u.offset) rfl
                have y3 := KU.out.cell 3 (v := .slice B u.load.length b) rfl
                have x0 := Kx.out.cell 0 (v := .int .i64 z.loop) rfl
                have x1 := Kx.out.cell 1 (v := .int .i64 z.spacing) rfl
                have x2 := Kx.out.cell 2 (v := .int .i64 z.offset) rfl
                have x3 := Kx.out.cell 3 (v := .slice A' z.load.length c') rfl
                have f0 := Blk.frozen Kx.out 0
                have f1 := Blk.frozen Kx.out 1
                have f2 := Blk.frozen Kx.out 2
                have f3 := Blk.frozen Kx.out 3
                go_upto_region 23 with (fail)
                clear x0 x1 x2 x3 y0 y1 y2 y3 f0 f1 f2 f3
                have K5 := Lib.hid (blk_four Kx.out (.int .i64 u.loop) (.int .i64 u.spacing) (.int .i64 u.offset) (.slice B u.load.length b))
                have J5 := Lib.hid (four_ints (B := w.heap.size) JU.out FU.out (.int .i64 u.loop) (.int .i64 u.spacing) (.int .i64 u.offset) (.slice B u.load.length b))
                replace HB := Lib.hid (four_below (B := w.heap.size) HB.out (Nat.le_refl _) (.int .i64 u.loop) (.int .i64 u.spacing) (.int .i64 u.offset) (.slice B u.load.length b))
                clear Kx Jx KU JU
                generalize ((((W7.setCell ⟨w.heap.size, 0, none⟩ (.int .i64 u.loop)).setCell ⟨w.heap.size, 1, none⟩ (.int .i64 u.spacing)).setCell ⟨w.heap.size, 2, none⟩ (.int .i64 u.offset)).setCell ⟨w.heap.size, 3, none⟩ (.slice B u.load.length b)) = W5 at *
                have hfz := right_fit (by omega) HR5.out
                have hlz := (right_use HR5.out).1.2.2.2.1
                have qp := fun W h => Lib.hid (People_any u B b (by omega) hfz W h)
                have qr := fun W h => Lib.hid (Right_any u B b 16 (by omega) W h)
                rw [HR5.out] at qr
                rw [HE.out] at qp
                unfold Line.val at qp qr
                clear hfz hlz
                have x0 := K5.out.cell 0 (v := .int .i64 u.loop) rfl
                have x1 := K5.out.cell 1 (v := .int .i64 u.spacing) rfl
                have x2 := K5.out.cell 2 (v := .int .i64 u.offset) rfl
                have x3 := K5.out.cell 3 (v := .slice B u.load.length b) rfl
                go_wp2_with fail
                refine (qp _ J5.out).out.mono ?_
                rintro e w8 ⟨rfl, hb⟩
                clear x0 x1 x2 x3
                replace K5 := Lib.hid (K5.out.below hb)
                replace J5 := Lib.hid (J5.out.below hb)
                replace HB := Lib.hid (HB.out.trans (hb.mono HB.out.size))
                clear hb
                have x0 := K5.out.cell 0 (v := .int .i64 u.loop) rfl
                have x1 := K5.out.cell 1 (v := .int .i64 u.spacing) rfl
                have x2 := K5.out.cell 2 (v := .int .i64 u.offset) rfl
                have x3 := K5.out.cell 3 (v := .slice B u.load.length b) rfl
                go_wp2_with fail
                refine (qr _ J5.out).out.mono ?_
                rintro e w9 ⟨rfl, hb⟩
                clear x0 x1 x2 x3 qp qr
                replace K5 := Lib.hid (K5.out.below hb)
                replace J5 := Lib.hid (J5.out.below hb)
                replace HB := Lib.hid (HB.out.trans (hb.mono HB.out.size))
                clear hb
                go_wp2
                go_roundw
                case rel => exact ⟨k + 1, u, B, b, by omega, by go_num, by rw [HE.out], HB, K5, J5, FU, HR5⟩
                case measure => simp [intOf]; omega
              · have y0 := fun X => above_cell (w := W6) (Kx.out.cell 0 (v := .int .i64 z.loop) rfl) X
                have y1 := fun X => above_cell (w := W6) (Kx.out.cell 1 (v := .int .i64 z.spacing) rfl) X
                have y2 := fun X => above_cell (w := W6) (Kx.out.cell 2 (v := .int .i64 z.offset) rfl) X
                have y3 := fun X => above_cell (w := W6) (Kx.out.cell 3 (v := .slice A' z.load.length c') rfl) X
                generalize passK z on z.load.length = p at *
                generalize leftK z on z.load.length = lf at *
                have hd1 : decide (lf < 0) = false := by simp; omega
                have hd2 : decide (p < -1) = false := by simp; omega
                have hd3 : decide ((z.load.length : Int) ≤ p) = false := by simp; omega
                have hd4 : decide (0 ≤ p) = false := by simpa using hp0
                refine wp_region_above (by kernel_rfl) (by kernel_rfl) ?_
                repeat (go_big_quiet_step (fail))
                refine wpQuiet_nil ?_
                rintro _ ⟨v, rfl⟩
                obtain ⟨W7, hb⟩ := v
                simp only
                clear y0 y1 y2 y3 hd1 hd2 hd3 hd4
                replace Kx := Lib.hid (Kx.out.below hb)
                replace KU := Lib.hid (KU.out.below hb)
                replace JU := Lib.hid (JU.out.below hb)
                replace HB := Lib.hid (HB.out.trans (hb.mono HB.out.size))
                clear hb
                have y0 := KU.out.cell 0 (v := .int .i64 u.loop) rfl
                have y1 := KU.out.cell 1 (v := .int .i64 u.spacing) rfl
                have y2 := KU.out.cell 2 (v := .int .i64 u.offset) rfl
                have y3 := KU.out.cell 3 (v := .slice B u.load.length b) rfl
                have x0 := Kx.out.cell 0 (v := .int .i64 z.loop) rfl
                have x1 := Kx.out.cell 1 (v := .int .i64 z.spacing) rfl
                have x2 := Kx.out.cell 2 (v := .int .i64 z.offset) rfl
                have x3 := Kx.out.cell 3 (v := .slice A' z.load.length c') rfl
                have f0 := Blk.frozen Kx.out 0
                have f1 := Blk.frozen Kx.out 1
                have f2 := Blk.frozen Kx.out 2
                have f3 := Blk.frozen Kx.out 3
                go_upto_region 23 with (fail)
                clear x0 x1 x2 x3 y0 y1 y2 y3 f0 f1 f2 f3
                have K5 := Lib.hid (blk_four Kx.out (.int .i64 u.loop) (.int .i64 u.spacing) (.int .i64 u.offset) (.slice B u.load.length b))
                have J5 := Lib.hid (four_ints (B := w.heap.size) JU.out FU.out (.int .i64 u.loop) (.int .i64 u.spacing) (.int .i64 u.offset) (.slice B u.load.length b))
                replace HB := Lib.hid (four_below (B := w.heap.size) HB.out (Nat.le_refl _) (.int .i64 u.loop) (.int .i64 u.spacing) (.int .i64 u.offset) (.slice B u.load.length b))
                clear Kx Jx KU JU
                generalize ((((W7.setCell ⟨w.heap.size, 0, none⟩ (.int .i64 u.loop)).setCell ⟨w.heap.size, 1, none⟩ (.int .i64 u.spacing)).setCell ⟨w.heap.size, 2, none⟩ (.int .i64 u.offset)).setCell ⟨w.heap.size, 3, none⟩ (.slice B u.load.length b)) = W5 at *
                have hfz := right_fit (by omega) HR5.out
                have hlz := (right_use HR5.out).1.2.2.2.1
                have qp := fun W h => Lib.hid (People_any u B b (by omega) hfz W h)
                have qr := fun W h => Lib.hid (Right_any u B b 16 (by omega) W h)
                rw [HR5.out] at qr
                rw [HE.out] at qp
                unfold Line.val at qp qr
                clear hfz hlz
                have x0 := K5.out.cell 0 (v := .int .i64 u.loop) rfl
                have x1 := K5.out.cell 1 (v := .int .i64 u.spacing) rfl
                have x2 := K5.out.cell 2 (v := .int .i64 u.offset) rfl
                have x3 := K5.out.cell 3 (v := .slice B u.load.length b) rfl
                go_wp2_with fail
                refine (qp _ J5.out).out.mono ?_
                rintro e w8 ⟨rfl, hb⟩
                clear x0 x1 x2 x3
                replace K5 := Lib.hid (K5.out.below hb)
                replace J5 := Lib.hid (J5.out.below hb)
                replace HB := Lib.hid (HB.out.trans (hb.mono HB.out.size))
                clear hb
                have x0 := K5.out.cell 0 (v := .int .i64 u.loop) rfl
                have x1 := K5.out.cell 1 (v := .int .i64 u.spacing) rfl
                have x2 := K5.out.cell 2 (v := .int .i64 u.offset) rfl
                have x3 := K5.out.cell 3 (v := .slice B u.load.length b) rfl
                go_wp2_with fail
                refine (qr _ J5.out).out.mono ?_
                rintro e w9 ⟨rfl, hb⟩
                clear x0 x1 x2 x3 qp qr
                replace K5 := Lib.hid (K5.out.below hb)
                replace J5 := Lib.hid (J5.out.below hb)
                replace HB := Lib.hid (HB.out.trans (hb.mono HB.out.size))
                clear hb
                go_wp2
                go_roundw
                case rel => exact ⟨k + 1, u, B, b, by omega, by go_num, by rw [HE.out], HB, K5, J5, FU, HR5⟩
                case measure => simp [intOf]; omega
            · subst he
              clear HMC HML KU JU hzs hzf
              go_wp2
              go_roundw
              case rel => exact ⟨k + 1, z, A', c', by omega, by go_num, rfl, HB, Kx, Jx, FX, HR⟩
              case measure => simp [intOf]; omega
          · have hkb : (ok == 0) = false := by simpa using hk1
            by_cases hk2 : ok = 1
            · have hkc : (ok == 1) = true := by simpa using hk2
              have hU := fun W h => Lib.hid (Load_any z A' c' oi on 16 hzs hzf W h)
              have hlaw := load_law HR.out oi on
              unfold LinePost Line.val at hU
              generalize loadOf z oi on 16 = q at *
              have HLAW := Lib.hid hlaw
              clear hlaw
              have KX := Kx
              go_upto_region 17 with (fail)
              go_cut [12, 13] (fun bx y wx => CutR wr wx q bx y)
              case first =>
                have bZ := Blk.new wr #[.int .i64 0, .int .i64 0, .int .i64 0, .slice none 0 0] 27
                have s0 := fun (w' : World) (hw : Below wr.heap.size wr w') => cell_later hw (Kx.out.cell 0 (v := .int .i64 z.loop) rfl)
                have s1 := fun (w' : World) (hw : Below wr.heap.size wr w') => cell_later hw (Kx.out.cell 1 (v := .int .i64 z.spacing) rfl)
                have s2 := fun (w' : World) (hw : Below wr.heap.size wr w') => cell_later hw (Kx.out.cell 2 (v := .int .i64 z.offset) rfl)
                have s3 := fun (w' : World) (hw : Below wr.heap.size wr w') => cell_later hw (Kx.out.cell 3 (v := .slice A' z.load.length c') rfl)
                have s4 := fun (w' : World) (hw : Below wr.heap.size wr w') => cell_later hw v0
                have s5 := fun (w' : World) (hw : Below wr.heap.size wr w') => cell_later hw v1
                have s6 := fun (w' : World) (hw : Below wr.heap.size wr w') => cell_later hw v2
                have hb2 := Below.refl wr.heap.size wr
                clear v0 v1 v2
                go_region_held3 (fun w' => Below wr.heap.size wr w')
                  (first | (with_reducible exact hb2) | (with_reducible exact hb2.drew) | (with_reducible exact hb2.alloc hb2.size _) | (with_reducible exact (hb2.alloc hb2.size _).drew) | (exact four_below2 hb2 _ _ _ _))
                  ((first
                    | (go_at_call 26; (with_reducible refine (hU wr.drew (Jx.out.below (Below.refl _ wr).drew)).out.mono ?_); rintro e w2 ⟨B, b, rfl, hIB, hb3, hfr⟩; have hb2 : Below wr.heap.size wr w2 := (Below.refl _ wr).drew.trans hb3)
                    | (go_at_call 26; (with_reducible refine (hU (wr.alloc (.cells #[.int .i64 0, .int .i64 0, .int .i64 0, .slice none 0 0] 27)).drew (Jx.out.below (below_alloc wr (.cells #[.int .i64 0, .int .i64 0, .int .i64 0, .slice none 0 0] 27)).drew)).out.mono ?_); rintro e w2 ⟨B, b, rfl, hIB, hb3, hfr⟩; have hb2 : Below wr.heap.size wr w2 := (below_alloc wr (.cells #[.int .i64 0, .int .i64 0, .int .i64 0, .slice none 0 0] 27)).drew.trans (hb3.mono (by simp)); have zz := bZ.below (((Below.refl _ _).drew).trans hb3); have z0 := zz.cell 0 (v := .int .i64 0) rfl; have z1 := zz.cell 1 (v := .int .i64 0) rfl; have z2 := zz.cell 2 (v := .int .i64 0) rfl; have z3 := zz.cell 3 (v := .slice none 0 0) rfl; have y0 := zz.frozen 0; have y1 := zz.frozen 1; have y2 := zz.frozen 2; have y3 := zz.frozen 3; have zB : Blk w2 wr.heap.size #[.int .i64 0, .int .i64 0, .int .i64 0, .slice none 0 0] 27 := zz; clear hb3)))
                · go_wp2_with fail
                  go_meet
                  exact ⟨_, B, b, rfl, rfl, Blk.new _ _ _, hIB.below (below_alloc _ _), hfr, by first | assumption | exact hb2.alloc hb2.size _⟩
                · go_wp2_with fail
                  go_meet
                  exact ⟨_, B, b, rfl, rfl, blk_four zB _ _ _ _, four_ints hIB (fun ad h => by have := hfr ad h; simp at this; omega) _ _ _ _, (fun ad h => by have := hfr ad h; simp at this; omega), by first | assumption | exact four_below2 hb2 _ _ _ _⟩
              case rest =>
                obtain ⟨g, B, b, rfl, rfl, KU, JU, hfr, hbx⟩ := hcut
                have hsz := Blk.lt Kx.out
                have FU : Hid (∀ ad, B = some ad → ad.block ≠ w.heap.size) := Lib.hid (fun ad h => by have := hfr ad h; omega)
                replace Kx := Lib.hid (Kx.out.below hbx)
                replace Jx := Lib.hid (Jx.out.below hbx)
                replace HB := Lib.hid (HB.out.trans (hbx.mono HB.out.size))
                replace KU := Lib.hid KU
                replace JU := Lib.hid JU
                clear hfr hbx v0 v1 v2 hsz KX hU hzs hzf
                obtain ⟨u, er⟩ := q
                simp only at HLAW KU JU
                rcases HLAW.out with ⟨he, h1, h2, h3⟩ | he
                · (try simp only at he h1 h2 h3)
                  subst he
                  have HR5 := Lib.hid h1
                  have HE := Lib.hid h2
                  clear h1 h2 HLAW
                  have y0 := KU.out.cell 0 (v := .int .i64 u.loop) rfl
                  have y1 := KU.out.cell 1 (v := .int .i64 u.spacing) rfl
                  have y2 := KU.out.cell 2 (v := .int .i64 u.offset) rfl
                  have y3 := KU.out.cell 3 (v := .slice B u.load.length b) rfl
                  have x0 := Kx.out.cell 0 (v := .int .i64 z.loop) rfl
                  have x1 := Kx.out.cell 1 (v := .int .i64 z.spacing) rfl
                  have x2 := Kx.out.cell 2 (v := .int .i64 z.offset) rfl
                  have x3 := Kx.out.cell 3 (v := .slice A' z.load.length c') rfl
                  have f0 := Blk.frozen Kx.out 0
                  have f1 := Blk.frozen Kx.out 1
                  have f2 := Blk.frozen Kx.out 2
                  have f3 := Blk.frozen Kx.out 3
                  go_upto_region 23 with (fail)
                  clear x0 x1 x2 x3 y0 y1 y2 y3 f0 f1 f2 f3
                  have K5 := Lib.hid (blk_four Kx.out (.int .i64 u.loop) (.int .i64 u.spacing) (.int .i64 u.offset) (.slice B u.load.length b))
                  have J5 := Lib.hid (four_ints (B := w.heap.size) JU.out FU.out (.int .i64 u.loop) (.int .i64 u.spacing) (.int .i64 u.offset) (.slice B u.load.length b))
                  replace HB := Lib.hid (four_below (B := w.heap.size) HB.out (Nat.le_refl _) (.int .i64 u.loop) (.int .i64 u.spacing) (.int .i64 u.offset) (.slice B u.load.length b))
                  clear Kx Jx KU JU
                  generalize ((((wc.setCell ⟨w.heap.size, 0, none⟩ (.int .i64 u.loop)).setCell ⟨w.heap.size, 1, none⟩ (.int .i64 u.spacing)).setCell ⟨w.heap.size, 2, none⟩ (.int .i64 u.offset)).setCell ⟨w.heap.size, 3, none⟩ (.slice B u.load.length b)) = W5 at *
                  have hfz := right_fit (by omega) HR5.out
                  have hlz := (right_use HR5.out).1.2.2.2.1
                  have qp := fun W h => Lib.hid (People_any u B b (by omega) hfz W h)
                  have qr := fun W h => Lib.hid (Right_any u B b 16 (by omega) W h)
                  rw [HR5.out] at qr
                  rw [HE.out] at qp
                  unfold Line.val at qp qr
                  clear hfz hlz
                  have x0 := K5.out.cell 0 (v := .int .i64 u.loop) rfl
                  have x1 := K5.out.cell 1 (v := .int .i64 u.spacing) rfl
                  have x2 := K5.out.cell 2 (v := .int .i64 u.offset) rfl
                  have x3 := K5.out.cell 3 (v := .slice B u.load.length b) rfl
                  go_wp2_with fail
                  refine (qp _ J5.out).out.mono ?_
                  rintro e w8 ⟨rfl, hb⟩
                  clear x0 x1 x2 x3
                  replace K5 := Lib.hid (K5.out.below hb)
                  replace J5 := Lib.hid (J5.out.below hb)
                  replace HB := Lib.hid (HB.out.trans (hb.mono HB.out.size))
                  clear hb
                  have x0 := K5.out.cell 0 (v := .int .i64 u.loop) rfl
                  have x1 := K5.out.cell 1 (v := .int .i64 u.spacing) rfl
                  have x2 := K5.out.cell 2 (v := .int .i64 u.offset) rfl
                  have x3 := K5.out.cell 3 (v := .slice B u.load.length b) rfl
                  go_wp2_with fail
                  refine (qr _ J5.out).out.mono ?_
                  rintro e w9 ⟨rfl, hb⟩
                  clear x0 x1 x2 x3 qp qr
                  replace K5 := Lib.hid (K5.out.below hb)
                  replace J5 := Lib.hid (J5.out.below hb)
                  replace HB := Lib.hid (HB.out.trans (hb.mono HB.out.size))
                  clear hb
                  go_wp2
                  go_roundw
                  case rel => exact ⟨k + 1, u, B, b, by omega, by go_num, by rw [HE.out], HB, K5, J5, FU, HR5⟩
                  case measure => simp [intOf]; omega
                · have hne : (er == 0) = false := by simpa using he
                  clear HLAW he
                  go_upto_region 23 with (fail)
                  have hfz := right_fit (by omega) HR.out
                  have hlz := (right_use HR.out).1.2.2.2.1
                  have qp := fun W h => Lib.hid (People_any z A' c' (by omega) hfz W h)
                  have qr := fun W h => Lib.hid (Right_any z A' c' 16 (by omega) W h)
                  rw [HR.out] at qr
                  skip
                  unfold Line.val at qp qr
                  clear hfz hlz
                  have x0 := Kx.out.cell 0 (v := .int .i64 z.loop) rfl
                  have x1 := Kx.out.cell 1 (v := .int .i64 z.spacing) rfl
                  have x2 := Kx.out.cell 2 (v := .int .i64 z.offset) rfl
                  have x3 := Kx.out.cell 3 (v := .slice A' z.load.length c') rfl
                  go_wp2_with fail
                  refine (qp _ Jx.out).out.mono ?_
                  rintro e w8 ⟨rfl, hb⟩
                  clear x0 x1 x2 x3
                  replace Kx := Lib.hid (Kx.out.below hb)
                  replace Jx := Lib.hid (Jx.out.below hb)
                  replace HB := Lib.hid (HB.out.trans (hb.mono HB.out.size))
                  clear hb
                  have x0 := Kx.out.cell 0 (v := .int .i64 z.loop) rfl
                  have x1 := Kx.out.cell 1 (v := .int .i64 z.spacing) rfl
                  have x2 := Kx.out.cell 2 (v := .int .i64 z.offset) rfl
                  have x3 := Kx.out.cell 3 (v := .slice A' z.load.length c') rfl
                  go_wp2_with fail
                  refine (qr _ Jx.out).out.mono ?_
                  rintro e w9 ⟨rfl, hb⟩
                  clear x0 x1 x2 x3 qp qr
                  replace Kx := Lib.hid (Kx.out.below hb)
                  replace Jx := Lib.hid (Jx.out.below hb)
                  replace HB := Lib.hid (HB.out.trans (hb.mono HB.out.size))
                  clear hb
                  go_wp2
                  go_roundw
                  case rel => exact ⟨k + 1, z, A', c', by omega, by go_num, rfl, HB, Kx, Jx, FX, HR⟩
                  case measure => simp [intOf]; omega
            · have hkc : (ok == 1) = false := by simpa using hk2
              have hU := fun W h => Lib.hid (Take_any z A' c' oi on hzs hzf W h)
              have hlaw := take_law HR.out oi on
              unfold LinePost Line.val at hU
              generalize takeOf z oi on = q at *
              have HLAW := Lib.hid hlaw
              clear hlaw
              have KX := Kx
              go_upto_region 20 with (fail)
              go_cut [14, 15] (fun bx y wx => CutR wr wx q bx y)
              case first =>
                have bZ := Blk.new wr #[.int .i64 0, .int .i64 0, .int .i64 0, .slice none 0 0] 27
                have s0 := fun (w' : World) (hw : Below wr.heap.size wr w') => cell_later hw (Kx.out.cell 0 (v := .int .i64 z.loop) rfl)
                have s1 := fun (w' : World) (hw : Below wr.heap.size wr w') => cell_later hw (Kx.out.cell 1 (v := .int .i64 z.spacing) rfl)
                have s2 := fun (w' : World) (hw : Below wr.heap.size wr w') => cell_later hw (Kx.out.cell 2 (v := .int .i64 z.offset) rfl)
                have s3 := fun (w' : World) (hw : Below wr.heap.size wr w') => cell_later hw (Kx.out.cell 3 (v := .slice A' z.load.length c') rfl)
                have s4 := fun (w' : World) (hw : Below wr.heap.size wr w') => cell_later hw v0
                have s5 := fun (w' : World) (hw : Below wr.heap.size wr w') => cell_later hw v1
                have s6 := fun (w' : World) (hw : Below wr.heap.size wr w') => cell_later hw v2
                have hb2 := Below.refl wr.heap.size wr
                clear v0 v1 v2
                go_region_held3 (fun w' => Below wr.heap.size wr w')
                  (first | (with_reducible exact hb2) | (with_reducible exact hb2.drew) | (with_reducible exact hb2.alloc hb2.size _) | (with_reducible exact (hb2.alloc hb2.size _).drew) | (exact four_below2 hb2 _ _ _ _))
                  ((first
                    | (go_at_call 28; (with_reducible refine (hU wr.drew (Jx.out.below (Below.refl _ wr).drew)).out.mono ?_); rintro e w2 ⟨B, b, rfl, hIB, hb3, hfr⟩; have hb2 : Below wr.heap.size wr w2 := (Below.refl _ wr).drew.trans hb3)
                    | (go_at_call 28; (with_reducible refine (hU (wr.alloc (.cells #[.int .i64 0, .int .i64 0, .int .i64 0, .slice none 0 0] 27)).drew (Jx.out.below (below_alloc wr (.cells #[.int .i64 0, .int .i64 0, .int .i64 0, .slice none 0 0] 27)).drew)).out.mono ?_); rintro e w2 ⟨B, b, rfl, hIB, hb3, hfr⟩; have hb2 : Below wr.heap.size wr w2 := (below_alloc wr (.cells #[.int .i64 0, .int .i64 0, .int .i64 0, .slice none 0 0] 27)).drew.trans (hb3.mono (by simp)); have zz := bZ.below (((Below.refl _ _).drew).trans hb3); have z0 := zz.cell 0 (v := .int .i64 0) rfl; have z1 := zz.cell 1 (v := .int .i64 0) rfl; have z2 := zz.cell 2 (v := .int .i64 0) rfl; have z3 := zz.cell 3 (v := .slice none 0 0) rfl; have y0 := zz.frozen 0; have y1 := zz.frozen 1; have y2 := zz.frozen 2; have y3 := zz.frozen 3; have zB : Blk w2 wr.heap.size #[.int .i64 0, .int .i64 0, .int .i64 0, .slice none 0 0] 27 := zz; clear hb3)))
                · go_wp2_with fail
                  go_meet
                  exact ⟨_, B, b, rfl, rfl, Blk.new _ _ _, hIB.below (below_alloc _ _), hfr, by first | assumption | exact hb2.alloc hb2.size _⟩
                · go_wp2_with fail
                  go_meet
                  exact ⟨_, B, b, rfl, rfl, blk_four zB _ _ _ _, four_ints hIB (fun ad h => by have := hfr ad h; simp at this; omega) _ _ _ _, (fun ad h => by have := hfr ad h; simp at this; omega), by first | assumption | exact four_below2 hb2 _ _ _ _⟩
              case rest =>
                obtain ⟨g, B, b, rfl, rfl, KU, JU, hfr, hbx⟩ := hcut
                have hsz := Blk.lt Kx.out
                have FU : Hid (∀ ad, B = some ad → ad.block ≠ w.heap.size) := Lib.hid (fun ad h => by have := hfr ad h; omega)
                replace Kx := Lib.hid (Kx.out.below hbx)
                replace Jx := Lib.hid (Jx.out.below hbx)
                replace HB := Lib.hid (HB.out.trans (hbx.mono HB.out.size))
                replace KU := Lib.hid KU
                replace JU := Lib.hid JU
                clear hfr hbx v0 v1 v2 hsz KX hU hzs hzf
                obtain ⟨u, er⟩ := q
                simp only at HLAW KU JU
                rcases HLAW.out with ⟨he, h1, h2, h3⟩ | he
                · (try simp only at he h1 h2 h3)
                  subst he
                  have HR5 := Lib.hid h1
                  have HE := Lib.hid h2
                  clear h1 h2 HLAW
                  have y0 := KU.out.cell 0 (v := .int .i64 u.loop) rfl
                  have y1 := KU.out.cell 1 (v := .int .i64 u.spacing) rfl
                  have y2 := KU.out.cell 2 (v := .int .i64 u.offset) rfl
                  have y3 := KU.out.cell 3 (v := .slice B u.load.length b) rfl
                  have x0 := Kx.out.cell 0 (v := .int .i64 z.loop) rfl
                  have x1 := Kx.out.cell 1 (v := .int .i64 z.spacing) rfl
                  have x2 := Kx.out.cell 2 (v := .int .i64 z.offset) rfl
                  have x3 := Kx.out.cell 3 (v := .slice A' z.load.length c') rfl
                  have f0 := Blk.frozen Kx.out 0
                  have f1 := Blk.frozen Kx.out 1
                  have f2 := Blk.frozen Kx.out 2
                  have f3 := Blk.frozen Kx.out 3
                  go_upto_region 23 with (fail)
                  clear x0 x1 x2 x3 y0 y1 y2 y3 f0 f1 f2 f3
                  have K5 := Lib.hid (blk_four Kx.out (.int .i64 u.loop) (.int .i64 u.spacing) (.int .i64 u.offset) (.slice B u.load.length b))
                  have J5 := Lib.hid (four_ints (B := w.heap.size) JU.out FU.out (.int .i64 u.loop) (.int .i64 u.spacing) (.int .i64 u.offset) (.slice B u.load.length b))
                  replace HB := Lib.hid (four_below (B := w.heap.size) HB.out (Nat.le_refl _) (.int .i64 u.loop) (.int .i64 u.spacing) (.int .i64 u.offset) (.slice B u.load.length b))
                  clear Kx Jx KU JU
                  generalize ((((wc.setCell ⟨w.heap.size, 0, none⟩ (.int .i64 u.loop)).setCell ⟨w.heap.size, 1, none⟩ (.int .i64 u.spacing)).setCell ⟨w.heap.size, 2, none⟩ (.int .i64 u.offset)).setCell ⟨w.heap.size, 3, none⟩ (.slice B u.load.length b)) = W5 at *
                  have hfz := right_fit (by omega) HR5.out
                  have hlz := (right_use HR5.out).1.2.2.2.1
                  have qp := fun W h => Lib.hid (People_any u B b (by omega) hfz W h)
                  have qr := fun W h => Lib.hid (Right_any u B b 16 (by omega) W h)
                  rw [HR5.out] at qr
                  rw [HE.out] at qp
                  unfold Line.val at qp qr
                  clear hfz hlz
                  have x0 := K5.out.cell 0 (v := .int .i64 u.loop) rfl
                  have x1 := K5.out.cell 1 (v := .int .i64 u.spacing) rfl
                  have x2 := K5.out.cell 2 (v := .int .i64 u.offset) rfl
                  have x3 := K5.out.cell 3 (v := .slice B u.load.length b) rfl
                  go_wp2_with fail
                  refine (qp _ J5.out).out.mono ?_
                  rintro e w8 ⟨rfl, hb⟩
                  clear x0 x1 x2 x3
                  replace K5 := Lib.hid (K5.out.below hb)
                  replace J5 := Lib.hid (J5.out.below hb)
                  replace HB := Lib.hid (HB.out.trans (hb.mono HB.out.size))
                  clear hb
                  have x0 := K5.out.cell 0 (v := .int .i64 u.loop) rfl
                  have x1 := K5.out.cell 1 (v := .int .i64 u.spacing) rfl
                  have x2 := K5.out.cell 2 (v := .int .i64 u.offset) rfl
                  have x3 := K5.out.cell 3 (v := .slice B u.load.length b) rfl
                  go_wp2_with fail
                  refine (qr _ J5.out).out.mono ?_
                  rintro e w9 ⟨rfl, hb⟩
                  clear x0 x1 x2 x3 qp qr
                  replace K5 := Lib.hid (K5.out.below hb)
                  replace J5 := Lib.hid (J5.out.below hb)
                  replace HB := Lib.hid (HB.out.trans (hb.mono HB.out.size))
                  clear hb
                  go_wp2
                  go_roundw
                  case rel => exact ⟨k + 1, u, B, b, by omega, by go_num, by rw [HE.out], HB, K5, J5, FU, HR5⟩
                  case measure => simp [intOf]; omega
                · have hne : (er == 0) = false := by simpa using he
                  clear HLAW he
                  go_upto_region 23 with (fail)
                  have hfz := right_fit (by omega) HR.out
                  have hlz := (right_use HR.out).1.2.2.2.1
                  have qp := fun W h => Lib.hid (People_any z A' c' (by omega) hfz W h)
                  have qr := fun W h => Lib.hid (Right_any z A' c' 16 (by omega) W h)
                  rw [HR.out] at qr
                  skip
                  unfold Line.val at qp qr
                  clear hfz hlz
                  have x0 := Kx.out.cell 0 (v := .int .i64 z.loop) rfl
                  have x1 := Kx.out.cell 1 (v := .int .i64 z.spacing) rfl
                  have x2 := Kx.out.cell 2 (v := .int .i64 z.offset) rfl
                  have x3 := Kx.out.cell 3 (v := .slice A' z.load.length c') rfl
                  go_wp2_with fail
                  refine (qp _ Jx.out).out.mono ?_
                  rintro e w8 ⟨rfl, hb⟩
                  clear x0 x1 x2 x3
                  replace Kx := Lib.hid (Kx.out.below hb)
                  replace Jx := Lib.hid (Jx.out.below hb)
                  replace HB := Lib.hid (HB.out.trans (hb.mono HB.out.size))
                  clear hb
                  have x0 := Kx.out.cell 0 (v := .int .i64 z.loop) rfl
                  have x1 := Kx.out.cell 1 (v := .int .i64 z.spacing) rfl
                  have x2 := Kx.out.cell 2 (v := .int .i64 z.offset) rfl
                  have x3 := Kx.out.cell 3 (v := .slice A' z.load.length c') rfl
                  go_wp2_with fail
                  refine (qr _ Jx.out).out.mono ?_
                  rintro e w9 ⟨rfl, hb⟩
                  clear x0 x1 x2 x3 qp qr
                  replace Kx := Lib.hid (Kx.out.below hb)
                  replace Jx := Lib.hid (Jx.out.below hb)
                  replace HB := Lib.hid (HB.out.trans (hb.mono HB.out.size))
                  clear hb
                  go_wp2
                  go_roundw
                  case rel => exact ⟨k + 1, z, A', c', by omega, by go_num, rfl, HB, Kx, Jx, FX, HR⟩
                  case measure => simp [intOf]; omega
        · have hke : k = ops.length := by omega
          subst hke
          have HBB := HB.out
          go_wp2
          go_ret
          exact ⟨rfl, HBB⟩

set_option maxRecDepth 100000 in
theorem lifted (os : Os) (started : os.Started) (H : Type) (enc : TypeId × Value → H) :
    ReturnsInHanded {} Try.checked os 7 .any (Rows.ropePeopleSpec.pre6 enc Try.prog Try.f7 Rows.ropePeopleRow.domain false) (Rows.ropePeopleSpec.post enc Try.prog Try.f7 false true false false) := by
  refine returnsInHanded_of_change_sized (C := Try.checked) own started (by kernel_rfl) Try.func7
    (ChangeSpec.witness6 (enc := enc) (C := Try.checked) false ⟨#[], #[.agg #[.int .i64 0, .int .i64 0, .int .i64 0, .slice none 0 0], .slice none 0 0], []⟩ 8 (by kernel_rfl) (by kernel_rfl) (by kernel_rfl) (by kernel_rfl)) ?_
  intro W base args ds gs before hval0 hW hcnd hsz0 _
  have hval : ∀ (j : Nat) t v, Try.f7.params[j]? = some t → args[j]? = some v → Value.okWide Try.prog W .any base t v := hval0
  refine law_post laidOut (by kernel_rfl) Try.underlying4 rfl rfl hW (fun hn => ?_) ?_
  · match ds, hn with
    | [_, _], _ => rfl
  obtain ⟨p, q, hA0, hV, rfl, _, _⟩ := hW
  have hA : DataW.TrodAll enc Try.prog W 0 (fun _ => true) true Try.f7.params.toList args.toList ds p := hA0
  obtain ⟨rfl, rfl⟩ := trodVars_none hV
  have hsz : (DataW.weightsEach Try.prog (Try.f7.params.toList ++ []) (ds ++ [])).all (· ≤ reachBytes) = true := hsz0
  rw [Try.params7] at hA hval hsz
  obtain ⟨v0, vs0, d0, ds0, p0, q0, hargs, rfl, rfl, h0, r0⟩ := trodAll_cons hA
  obtain ⟨v1, vs1, d1, ds1, p1, q1, rfl, rfl, rfl, h1, r1⟩ := trodAll_cons r0
  obtain ⟨rfl, rfl, rfl⟩ := trodAll_nil r1
  obtain rfl : args = #[v0, v1] := by cases args; simp_all
  obtain ⟨x0, rfl, w0⟩ := open_line (hval 0 27 v0 rfl rfl) h0
  obtain ⟨A1, c1, l1, rfl, hm1, hi1, hL1⟩ := open_ops (hval 1 47 v1 rfl rfl) h1
  exact walk x0 A1 c1 l1 W w0 hm1 hi1 (hL1.reach hsz (j := 1) rfl rfl Try.underlying47)
theorem over : Rows.ropePeopleRow.holds Try.pinned (OpenSpec.ofChange Rows.ropePeopleSpec) :=
  OpenClaim.holds_of_wide 7 Try.f7 rfl rfl rfl rfl rfl rfl rfl ⟨rfl, rfl, rfl, rfl, rfl⟩ rfl rfl rfl rfl rfl (by kernel_rfl) Try.func7 (by kernel_rfl)
    (of_decide_eq_true (by kernel_rfl)) (by unfold Func.isWrapper; first | (rw [if_pos (by decide +kernel)]; kernel_rfl) | (rw [if_neg (by decide +kernel)]; exact ⟨rfl, rfl⟩))
    (fun os started H enc _ => lifted os started H enc)
theorem proved : Rows.RopePeopleSaid := over
#print axioms proved
end Go.Proofs.Ytdddfajchkmehaa.ropePeople
