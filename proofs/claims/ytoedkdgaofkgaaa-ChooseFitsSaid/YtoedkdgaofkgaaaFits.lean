/- ChooseFits: for every list of right items, every choice of at most 40 indices and all limits choose.Fits returns what the reference returns; no condition. -/
import Derived.Test.YtoedkdgaofkgaaaLaw0
namespace Go.Proofs.Ytoedkdgaofkgaaa.chooseFits
open Go.RowKit Go.ChangeShapes Go.WideShapes Go.ChangeAt
set_option linter.unusedVariables false
theorem walk (A : Option Addr) (c : Nat) (l : List Item) (C : Option Addr) (d : Nat) (ch : List Int) (a b : Int) (w : World) (_hm : l.length ≤ maxLen) (h : Items w A l) (hr : l.length * Try.prog.bytesOf 42 ≤ reachBytes)
    (hmc : ch.length ≤ maxLen) (hi : Ints w C ch) (_hx : ∀ x ∈ ch, I64 x) (_ha : (Lit.int .i64 a).wf = true) (_hb : (Lit.int .i64 b).wf = true) : Calls Try.prog 5 #[.slice A l.length c, .slice C ch.length d, .int .i64 a, .int .i64 b] w fun e w' => e = .returned (.bool true) ∧ Below w.heap.size w w' := by
  have hl := len_ok hr
  unfold maxLen at hmc
  clear hr _hm _hx _ha _hb
  by_cases hr0 : rightOf l = 0
  · obtain ⟨h12, hit⟩ := right_ok hr0
    by_cases h40 : 40 < ch.length
    · go_enter Try.func5, Try.ntmps5
      go_wp2_with fail
      refine (alive_any _).mono ?_
      rintro e w1 ⟨rfl, hb1⟩
      go_wp2_with fail
      refine (refRight_any A c l w1 (by omega) (h.below hb1)).mono ?_
      rintro e w2 ⟨rfl, rfl⟩
      rw [hr0]
      clear hr0
      go_wp2
      go_ret
      exact ⟨rfl, hb1⟩
    · go_enter Try.func5, Try.ntmps5
      go_wp2_with fail
      refine (alive_any _).mono ?_
      rintro e w1 ⟨rfl, hb1⟩
      go_wp2_with fail
      refine (refRight_any A c l w1 (by omega) (h.below hb1)).mono ?_
      rintro e w2 ⟨rfl, rfl⟩
      rw [hr0]
      clear hr0
      go_wp2_with fail
      refine (Fits_any A C c d l ch a b w1 (by omega) hit (by omega) (h.below hb1) (hi.below hb1)).mono ?_
      rintro e w2 ⟨rfl, rfl⟩
      go_wp2_with fail
      refine (refFits_any A C c d l ch a b w1 (by omega) hit (by omega) (h.below hb1) (hi.below hb1)).mono ?_
      rintro e w2 ⟨rfl, n, rfl⟩
      generalize fitsOf l ch a b = q
      go_wp2
      go_ret
      exact ⟨by simp, below_dn hb1 _⟩
  · have hne : (rightOf l != 0) = true := by simpa using hr0
    clear hr0
    go_enter Try.func5, Try.ntmps5
    go_wp2_with fail
    refine (alive_any _).mono ?_
    rintro e w1 ⟨rfl, hb1⟩
    go_wp2_with fail
    refine (refRight_any A c l w1 (by omega) (h.below hb1)).mono ?_
    rintro e w2 ⟨rfl, rfl⟩
    go_wp2
    go_ret
    exact ⟨rfl, hb1⟩

set_option maxRecDepth 100000 in
theorem lifted (os : Os) (started : os.Started) (H : Type) (enc : TypeId × Value → H) :
    ReturnsInHanded {} Try.checked os 5 .any (Rows.chooseFitsSpec.pre6 enc Try.prog Try.f5 Rows.chooseFitsRow.domain false) (Rows.chooseFitsSpec.post enc Try.prog Try.f5 false true false false) := by
  refine returnsInHanded_of_change_sized (C := Try.checked) own started (by kernel_rfl) Try.func5
    (ChangeSpec.witness6 (enc := enc) (C := Try.checked) false ⟨#[], #[.slice none 0 0, .slice none 0 0, .int .i64 0, .int .i64 0], []⟩ 8 (by kernel_rfl) (by kernel_rfl) (by kernel_rfl) (by kernel_rfl)) ?_
  intro W base args ds gs before hval0 hW hcnd hsz0 _
  have hval : ∀ (j : Nat) t v, Try.f5.params[j]? = some t → args[j]? = some v → Value.okWide Try.prog W .any base t v := hval0
  refine law_post laidOut (by kernel_rfl) Try.underlying4 rfl rfl hW (fun hn => ?_) ?_
  · match ds, hn with
    | [_, _, _, _], _ => rfl
  obtain ⟨p, q, hA0, hV, rfl, _, _⟩ := hW
  have hA : DataW.TrodAll enc Try.prog W 0 (fun _ => true) true Try.f5.params.toList args.toList ds p := hA0
  obtain ⟨rfl, rfl⟩ := trodVars_none hV
  have hsz : (DataW.weightsEach Try.prog (Try.f5.params.toList ++ []) (ds ++ [])).all (· ≤ reachBytes) = true := hsz0
  rw [Try.params5] at hA hval hsz
  obtain ⟨v0, vs0, d0, ds0, p0, q0, hargs, rfl, rfl, h0, r0⟩ := trodAll_cons hA
  obtain ⟨v1, vs1, d1, ds1, p1, q1, rfl, rfl, rfl, h1, r1⟩ := trodAll_cons r0
  obtain ⟨v2, vs2, d2, ds2, p2, q2, rfl, rfl, rfl, h2, r2⟩ := trodAll_cons r1
  obtain ⟨v3, vs3, d3, ds3, p3, q3, rfl, rfl, rfl, h3, r3⟩ := trodAll_cons r2
  obtain ⟨rfl, rfl, rfl⟩ := trodAll_nil r3
  obtain rfl : args = #[v0, v1, v2, v3] := by cases args; simp_all
  obtain ⟨A0, c0, l0, rfl, hm0, hi0, hL0⟩ := open_items (hval 0 22 v0 rfl rfl) h0
  obtain ⟨A1, c1, l1, rfl, hm1, hi1, hx1, hL1⟩ := open_intsl Try.underlying27 Try.underlying3 (by kernel_rfl) (hval 1 27 v1 rfl rfl) h1
  obtain ⟨x2, rfl, w2⟩ := open_i Try.underlying3 (hval 2 3 v2 rfl rfl) h2
  obtain ⟨x3, rfl, w3⟩ := open_i Try.underlying3 (hval 3 3 v3 rfl rfl) h3
  exact walk A0 c0 l0 A1 c1 l1 x2 x3 W hm0 hi0 (hL0.reach hsz (j := 0) rfl rfl Try.underlying22) hm1 hi1 hx1 w2 w3
theorem over : Rows.chooseFitsRow.holds Try.pinned (OpenSpec.ofChange Rows.chooseFitsSpec) :=
  OpenClaim.holds_of_wide 5 Try.f5 rfl rfl rfl rfl rfl rfl rfl ⟨rfl, rfl, rfl, rfl, rfl⟩ rfl rfl rfl rfl rfl (by kernel_rfl) Try.func5 (by kernel_rfl)
    (of_decide_eq_true (by kernel_rfl)) (by unfold Func.isWrapper; first | (rw [if_pos (by decide +kernel)]; kernel_rfl) | (rw [if_neg (by decide +kernel)]; exact ⟨rfl, rfl⟩))
    (fun os started H enc _ => lifted os started H enc)
theorem proved : Rows.ChooseFitsSaid := over
#print axioms proved
end Go.Proofs.Ytoedkdgaofkgaaa.chooseFits
