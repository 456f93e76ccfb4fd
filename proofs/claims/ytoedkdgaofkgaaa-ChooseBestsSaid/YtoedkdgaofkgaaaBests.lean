/- ChooseBests: for every list of at most 30 items and all limits choose.Best returns the choice and the error of the reference; no condition. -/
import Derived.Test.YtoedkdgaofkgaaaLaw0
import Derived.Test.YtoedkdgaofkgaaaLaw2
namespace Go.Proofs.Ytoedkdgaofkgaaa.chooseBests
open Go.RowKit Go.ChangeShapes Go.WideShapes Go.ChangeAt
set_option linter.unusedVariables false
theorem best_ref (l : List Item) (a b : Int) : bestF l a b = refBestF l a b := by
  unfold bestF refBestF
  by_cases h : rightOf l = 0
  · rw [if_pos h, if_pos h]; exact best_eq_ref h
  · rw [if_neg h, if_neg h]
theorem bestF_length (l : List Item) (a b : Int) : (bestF l a b).length ≤ 12 := by
  rw [best_ref]; unfold refBestF; split
  · exact refF_length _ _ _ _
  · simp
theorem walk (A : Option Addr) (c : Nat) (l : List Item) (a b : Int) (w : World) (_hm : l.length ≤ maxLen) (h : Items w A l) (hr : l.length * Try.prog.bytesOf 42 ≤ reachBytes)
    (_ha : (Lit.int .i64 a).wf = true) (_hb : (Lit.int .i64 b).wf = true) : Calls Try.prog 6 #[.slice A l.length c, .int .i64 a, .int .i64 b] w fun e w' => e = .returned (.bool true) ∧ Below w.heap.size w w' := by
  have hl := len_ok hr
  clear hr _hm _ha _hb
  by_cases h30 : 30 < l.length
  · go_enter Try.func6, Try.ntmps6
    go_wp2_with (go_at_call 11; refine (alive_any _).mono ?_; rintro e w1 ⟨rfl, hb1⟩)
    go_ret
    exact ⟨rfl, hb1⟩
  · have hbl := bestF_length l a b
    go_enter Try.func6, Try.ntmps6
    go_wp2_with fail
    refine (alive_any _).mono ?_
    rintro e w1 ⟨rfl, hb1⟩
    go_wp2_with fail
    refine (Best_any A c l a b w1 (by omega) (h.below hb1)).mono ?_
    rintro e w2 ⟨A2, c2, rfl, hi2, hb2⟩
    have hb := hb1.trans (hb2.mono hb1.size)
    go_wp2_with fail
    refine (refBest_any A c l a b w2 (by omega) (h.below hb)).mono ?_
    rintro e w3 ⟨A3, c3, rfl, hi3, hb3⟩
    rw [← best_ref] at hi3 ⊢
    have hs := sameOf_self (bestF l a b)
    generalize bestF l a b = x at *
    have hsame := Same_any A2 A3 c2 c3 x x w3 (by omega) (by omega) (hi2.below hb3) hi3
    rw [hs] at hsame
    have Hs := Lib.hid hsame
    clear hs hsame
    go_wp2_with fail
    refine Hs.out.mono ?_
    rintro e w4 ⟨rfl, n, rfl⟩
    have hb' := below_dn (hb.trans (hb3.mono hb.size)) n
    clear hb hb1 hb2 hb3
    go_wp2
    go_ret
    exact ⟨by simp, hb'⟩

set_option maxRecDepth 100000 in
theorem lifted (os : Os) (started : os.Started) (H : Type) (enc : TypeId × Value → H) :
    ReturnsInHanded {} Try.checked os 6 .any (Rows.chooseBestsSpec.pre6 enc Try.prog Try.f6 Rows.chooseBestsRow.domain false) (Rows.chooseBestsSpec.post enc Try.prog Try.f6 false true false false) := by
  refine returnsInHanded_of_change_sized (C := Try.checked) own started (by kernel_rfl) Try.func6
    (ChangeSpec.witness6 (enc := enc) (C := Try.checked) false ⟨#[], #[.slice none 0 0, .int .i64 0, .int .i64 0], []⟩ 8 (by kernel_rfl) (by kernel_rfl) (by kernel_rfl) (by kernel_rfl)) ?_
  intro W base args ds gs before hval0 hW hcnd hsz0 _
  have hval : ∀ (j : Nat) t v, Try.f6.params[j]? = some t → args[j]? = some v → Value.okWide Try.prog W .any base t v := hval0
  refine law_post laidOut (by kernel_rfl) Try.underlying4 rfl rfl hW (fun hn => ?_) ?_
  · match ds, hn with
    | [_, _, _], _ => rfl
  obtain ⟨p, q, hA0, hV, rfl, _, _⟩ := hW
  have hA : DataW.TrodAll enc Try.prog W 0 (fun _ => true) true Try.f6.params.toList args.toList ds p := hA0
  obtain ⟨rfl, rfl⟩ := trodVars_none hV
  have hsz : (DataW.weightsEach Try.prog (Try.f6.params.toList ++ []) (ds ++ [])).all (· ≤ reachBytes) = true := hsz0
  rw [Try.params6] at hA hval hsz
  obtain ⟨v0, vs0, d0, ds0, p0, q0, hargs, rfl, rfl, h0, r0⟩ := trodAll_cons hA
  obtain ⟨v1, vs1, d1, ds1, p1, q1, rfl, rfl, rfl, h1, r1⟩ := trodAll_cons r0
  obtain ⟨v2, vs2, d2, ds2, p2, q2, rfl, rfl, rfl, h2, r2⟩ := trodAll_cons r1
  obtain ⟨rfl, rfl, rfl⟩ := trodAll_nil r2
  obtain rfl : args = #[v0, v1, v2] := by cases args; simp_all
  obtain ⟨A0, c0, l0, rfl, hm0, hi0, hL0⟩ := open_items (hval 0 22 v0 rfl rfl) h0
  obtain ⟨x1, rfl, w1⟩ := open_i Try.underlying3 (hval 1 3 v1 rfl rfl) h1
  obtain ⟨x2, rfl, w2⟩ := open_i Try.underlying3 (hval 2 3 v2 rfl rfl) h2
  exact walk A0 c0 l0 x1 x2 W hm0 hi0 (hL0.reach hsz (j := 0) rfl rfl Try.underlying22) w1 w2
theorem over : Rows.chooseBestsRow.holds Try.pinned (OpenSpec.ofChange Rows.chooseBestsSpec) :=
  OpenClaim.holds_of_wide 6 Try.f6 rfl rfl rfl rfl rfl rfl rfl ⟨rfl, rfl, rfl, rfl, rfl⟩ rfl rfl rfl rfl rfl (by kernel_rfl) Try.func6 (by kernel_rfl)
    (of_decide_eq_true (by kernel_rfl)) (by unfold Func.isWrapper; first | (rw [if_pos (by decide +kernel)]; kernel_rfl) | (rw [if_neg (by decide +kernel)]; exact ⟨rfl, rfl⟩))
    (fun os started H enc _ => lifted os started H enc)
theorem proved : Rows.ChooseBestsSaid := over
#print axioms proved
end Go.Proofs.Ytoedkdgaofkgaaa.chooseBests
