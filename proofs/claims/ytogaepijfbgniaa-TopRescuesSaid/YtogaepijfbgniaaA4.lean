/- Contracts of package assign: the closure 'try' of Best, whole. -/
import Derived.Test.YtogaepijfbgniaaA3
import Derived.WalkSmall
import Derived.Test.YtogaepijfbgniaaR5
namespace Go.Proofs.Ytogaepijfbgniaa
open Go.RowKit Go.Shelf Go.Deep
set_option linter.unusedVariables false
theorem own_pop {w : World} {B : Nat} {v : Value} {l : List Int} (h : OwnI w B 3 v l) (hl : 0 < l.length) : ∃ g c, v = .slice (some ⟨g, 0, none⟩) l.length c ∧ l.length ≤ c ∧ OwnI w B 3 (.slice (some ⟨g, 0, none⟩) (l.length - 1) c) (l.take (l.length - 1)) := by
  obtain ⟨n, hn⟩ : ∃ n, l.length = n + 1 := ⟨l.length - 1, by omega⟩
  unfold OwnI at h
  rw [hn] at h
  obtain ⟨g, c, rfl⟩ := own_form h
  refine ⟨g, c, by rw [hn], ?_, ?_⟩
  · rcases h.2 with ⟨h0, _⟩ | ⟨_, _, _, e, _, _, hc, _⟩
    · cases h0
    · injection e with e1 e2 e3
      omega
  · unfold OwnI
    have e : l.map (Value.int .i64) = (l.take n).map (Value.int .i64) ++ (l.drop n).map (Value.int .i64) := by rw [← List.map_append, List.take_append_drop]
    rw [e] at h
    have h2 := ownsRow_pop (xs := (l.take n).map (Value.int .i64)) (by simp [hn]) h
    have hlen : (l.take (l.length - 1)).length = n := by simp [hn]
    rw [hlen, hn]
    exact h2
theorem own_low {w : World} {B T g : Nat} {v : Value} {l : List Int} (h : OwnI w B T v l) (hg : g < B) : some g ≠ v.ownBlock := fun e => by
  have := (World.ownsRow.lt h _ e.symm).1
  omega
set_option maxHeartbeats 8000000 in
set_option maxRecDepth 100000 in
theorem tryA_any (w0 : World) (A : Option Addr) (c : Nat) (M : List (List Int)) (hMat : Mat w0 A M) (h8 : M.length ≤ 8) :
    ∀ (d : Nat) (total : Int) (s y : AS), inB total = true → tryM M d total s = some y → ∀ W, AAt w0 W A M.length c s → Calls Try.prog 23 (aargs w0.heap.size total) W (APost w0 A M.length c y) := by
  intro d
  induction d with
  | zero =>
    intro total s y ht hx W h
    unfold tryM at hx
    by_cases h0 : (s.found && decide (s.least ≤ total)) = true
    · rw [if_pos h0] at hx
      injection hx with hx
      subst hx
      simp at h0
      exact tryA_out w0 A _ c s total h0.1 h0.2 W h
    · rw [if_neg h0] at hx
      by_cases h1 : s.p.length = M.length ∧ 0 < s.p.length
      · rw [if_pos h1] at hx
        injection hx with hx
        subst hx
        exact tryA_end w0 A _ c s total h0 h1.1 h1.2 (by omega) W h
      · rw [if_neg h1] at hx
        cases hx
  | succ d ih =>
    intro total s y ht hx W h
    unfold tryM at hx
    by_cases h0 : (s.found && decide (s.least ≤ total)) = true
    · rw [if_pos h0] at hx
      injection hx with hx
      subst hx
      simp at h0
      exact tryA_out w0 A _ c s total h0.1 h0.2 W h
    · rw [if_neg h0] at hx
      by_cases h1 : s.p.length = M.length
      · rw [if_pos h1] at hx; cases hx
      · rw [if_neg h1] at hx
        cases hrow : M[s.p.length]? with
        | none => rw [hrow] at hx; cases hx
        | some row =>
          rw [hrow] at hx
          by_cases hr8 : row.length ≤ 8
          · simp only [if_pos hr8] at hx
            have hpl : s.p.length < M.length := by
              have := (List.getElem?_eq_some_iff.1 hrow).1
              exact this
            have hre : M[s.p.length] = row := by
              rw [List.getElem?_eq_getElem hpl] at hrow
              injection hrow
            have IH := Lib.hid (fun total s y h1 h2 W h3 => ih total s y h1 h2 W h3)
            have HX := Lib.hid hx
            have HT := Lib.hid ht
            have H := Lib.hid h
            have c4 := h.found.cell 0 (v := .bool s.found) rfl
            have c3 := h.least.cell 0 (v := .int .i64 s.least) rfl
            have c0 := h.cost.cell 0 (v := .slice A M.length c) rfl
            obtain ⟨v, q1, q2⟩ := h.p
            obtain ⟨Ap, cp, rfl, _⟩ := q2.form
            have c2 := q1.cell 0 (v := .slice Ap s.p.length cp) rfl
            obtain ⟨b, off, B, cr, rfl, m1, m2⟩ := hMat.at hpl
            have m1' := cell_later h.below m1
            have HR := Lib.hid (fun W (hW : Below w0.heap.size w0 W) => m2.below hW)
            rw [hre] at m1'
            simp only [hre] at HR
            have hne : ((s.p.length : Int) == (M.length : Int)) = false := by simp; omega
            have hpi : (s.p.length : Int) < (M.length : Int) := by omega
            clear ih hx ht h q1 q2 m1 m2 hre hrow h1
            unfold aargs
            rcases test_two h0 with h0 | ⟨h0, h1⟩
            all_goals
              rw [h0] at c4
              go_enter Try.func23, Try.ntmps23
              go_wp2_with fail
              go_loopw [30] (fun i wr => ∃ (k : Nat) (z : AS), k ≤ row.length ∧ i = .int .i64 k ∧ loopA (stepA row (tryM M d) total) (row.length - k) k z = some y ∧ AAt w0 wr (some ⟨b, off, none⟩) M.length c z) (fun i _ => row.length - (intOf i).toNat)
              case atStart => exact ⟨0, s, Nat.zero_le _, rfl, HX.out, H.out⟩
              case round =>
                clear c4 c3 c0 c2 m1' HX H
                obtain ⟨k, z, hk, rfl, hz, hA⟩ := hrel
                by_cases hlt : k < row.length
                · rw [loopA_step _ hlt] at hz
                  have hst : stepA row (tryM M d) total k z = if 50 ≤ z.p.length then none else if (z.p.any fun y => (k : Int) == y) = true then some z
                      else if inB (total + row[k]) = true then
                        (tryM M d (total + row[k]) ⟨z.p ++ [(k : Int)], z.least, z.found⟩).bind fun s1 => if 0 < s1.p.length ∧ s1.p.length ≤ 50 then some ⟨s1.p.take (s1.p.length - 1), s1.least, s1.found⟩ else none
                      else none := by
                    unfold stepA
                    rw [List.getElem?_eq_getElem hlt]
                  rw [hst] at hz
                  obtain ⟨bb, oo, hBe, hc⟩ := (HR.out wr hA.below) (by omega)
                  have hx := hc k hlt
                  obtain ⟨v, q1, q2⟩ := hA.p
                  obtain ⟨Ap', cp', rfl, hI⟩ := q2.form
                  have d2 := q1.cell 0 (v := .slice Ap' z.p.length cp') rfl
                  have f2 := q1.frozen 0
                  have d5 := hA.try_.cell 0 (v := av w0.heap.size) rfl
                  have hkl : (k : Int) < (row.length : Int) := by omega
                  have HA := Lib.hid (And.intro hA (And.intro q1 q2))
                  have HZ := Lib.hid hz
                  rw [hBe]
                  clear hst hz hA q1 q2 hc
                  generalize row[k] = x at *
                  have hz := HZ.out
                  by_cases h50 : 50 ≤ z.p.length
                  · rw [if_pos h50] at hz; cases hz
                  · rw [if_neg h50] at hz
                    have hq := Contains_any Ap' cp' z.p (k : Int) wr (by omega) hI
                    have Hq := Lib.hid hq
                    clear hq HZ hI
                    cases hany : (z.p.any fun y => (k : Int) == y) with
                    | true =>
                      rw [hany] at Hq
                      rw [hany, if_pos rfl] at hz
                      have HZ2 := Lib.hid hz
                      clear hz hany IH
                      go_wp2_with fail
                      refine Hq.out.mono ?_
                      rintro e w1 ⟨rfl, rfl⟩
                      go_wp2
                      go_roundw
                      case rel => exact ⟨k + 1, z, by omega, by go_num, HZ2.out, HA.out.1⟩
                      case measure => simp [intOf]; omega
                    | false =>
                      rw [hany] at Hq
                      rw [hany, if_neg (by simp)] at hz
                      by_cases hin : inB (total + x) = true
                      · rw [if_pos hin] at hz
                        cases hr : tryM M d (total + x) ⟨z.p ++ [(k : Int)], z.least, z.found⟩ with
                        | none => rw [hr] at hz; cases hz
                        | some z2 =>
                          rw [hr, Option.bind_some] at hz
                          by_cases hz2 : 0 < z2.p.length ∧ z2.p.length ≤ 50
                          · rw [if_pos hz2] at hz
                            have HZ2 := Lib.hid hz
                            have HR2 := Lib.hid hr
                            have hka := below_alloc wr (.cells #[.int .i64 (k : Int)] 3)
                            have hA2 := HA.out.1.later hka
                            have q1a := HA.out.2.1.below hka
                            have q2a := HA.out.2.2.alloc (.cells #[.int .i64 (k : Int)] 3)
                            have d2' := cell_later hka d2
                            have hsz : w0.heap.size + 6 ≤ wr.heap.size := by
                              have := HA.out.1.try_.lt
                              omega
                            have hsz2 : w0.heap.size ≤ (wr.alloc (.cells #[.int .i64 (k : Int)] 3)).heap.size := hA2.below.size
                            have HB2 := Lib.hid (Below.refl (w0.heap.size + 6) wr)
                            have HALL := Lib.hid (And.intro hA2 (And.intro q1a q2a))
                            have hin1 := hin
                            unfold inB at hin1
                            simp only [decide_eq_true_eq] at hin1
                            have hadw : IntKind.i64.wrap (total + x) = total + x := IntWalk.i64_in _ (by omega)
                            have hown := HA.out.2.2
                            clear hz hr hany hA2 q1a q2a hka d5
                            go_wp2_with fail
                            refine Hq.out.mono ?_
                            rintro e w1 ⟨rfl, rfl⟩
                            clear Hq
                            go_upto_region 8 with (at_builtin; refine wpList_push w1 w1 rfl (.tmp 39) (.tmp 41) 36 rfl (w0.heap.size + 6) 3 Try.underlying36 info3 _ z.p rfl (by exact hown) (k : Int) rfl (by exact HB2.out) (by omega) (by exact hsz) ?_; intro g cap w2 own2 hb2 hg2 hat2; have hne2 := own_low hown (show w0.heap.size + 2 < w0.heap.size + 6 by omega); have k2 := HALL.out.2.1.kept hg2 hne2; have c2w := k2.cell 0 (v := .slice Ap' z.p.length cp') rfl; have f2w := k2.frozen 0; clear k2 hne2)
                            have hA3 := HALL.out.1.setP HALL.out.2.1 HALL.out.2.2 hg2 hsz2 own2
                            have t5 := hA3.try_.cell 0 (v := av w0.heap.size) rfl
                            have hq := IH.out (total + x) _ z2 hin HR2.out _ hA3
                            have Hq := Lib.hid hq
                            unfold aargs at Hq
                            unfold av at t5
                            clear HALL hown own2 hb2 hg2 hat2 hA3 hq c2w f2w d2 d2' f2
                            generalize w2.setCell ⟨w0.heap.size + 2, 0, none⟩ (.slice (some ⟨g, 0, none⟩) (z.p.length + 1) cap) = w3 at *
                            go_wp2_with fail
                            refine Hq.out.mono ?_
                            rintro e w4 ⟨rfl, hA4⟩
                            clear Hq t5
                            obtain ⟨v4, p1, p2⟩ := hA4.p
                            obtain ⟨g4, c4', rfl, hc4, p3⟩ := own_pop p2 hz2.1
                            have d4 := p1.cell 0 (v := .slice (some ⟨g4, 0, none⟩) z2.p.length c4') rfl
                            have f4 := p1.frozen 0
                            have hn4 : ((z2.p.length : Nat) : Int) - 1 = ((z2.p.length - 1 : Nat) : Int) := by omega
                            have hsl : ∀ W, (Instr.slice 36 (.slice (some ⟨g4, 0, none⟩) z2.p.length c4') none (some (.int .i64 ((z2.p.length : Int) - 1))) none).run Try.prog W = .ok (.slice (some ⟨g4, 0, none⟩) (z2.p.length - 1) c4') W := fun W => by
                              rw [hn4]
                              exact int_slice_to _ _ _ _ (by omega) W
                            have hA5 := hA4.setP p1 p2 (u := .slice (some ⟨g4, 0, none⟩) (z2.p.length - 1) c4') (W' := w4) ⟨rfl, rfl, rfl, Nat.le_refl _, fun _ _ _ => rfl⟩ hA4.below.size p3
                            have HA5 := Lib.hid hA5
                            have hn1 := hz2.1
                            have hn2 := hz2.2
                            clear hA5 hA4 p1 p2 p3 hn4 hz2 hin hadw
                            go_wp2
                            go_roundw
                            case rel => exact ⟨k + 1, _, by omega, by go_num, HZ2.out, HA5.out⟩
                            case measure => simp [intOf]; omega
                          · rw [if_neg hz2] at hz; cases hz
                      · rw [if_neg hin] at hz; cases hz
                · have hke : k = row.length := by omega
                  subst hke
                  rw [loopA_end] at hz
                  injection hz with hz
                  subst hz
                  go_wp2
                  go_end0
                  exact ⟨rfl, hA⟩
          · simp only [if_neg hr8] at hx; cases hx
end Go.Proofs.Ytogaepijfbgniaa
