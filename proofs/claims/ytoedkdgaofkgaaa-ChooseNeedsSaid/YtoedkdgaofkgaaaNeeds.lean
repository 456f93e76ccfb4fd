/- ChooseNeeds: for every list of right items and every choice of at most 40 indices choose.Need returns what the reference returns; no condition. -/
import Derived.Test.YtoedkdgaofkgaaaLaw0
namespace Go.Proofs.Ytoedkdgaofkgaaa.chooseNeeds
open Go.RowKit Go.ChangeShapes Go.WideShapes Go.ChangeAt
set_option linter.unusedVariables false
theorem walk (A : Option Addr) (c : Nat) (l : List Item) (C : Option Addr) (d : Nat) (ch : List Int) (w : World) (_hm : l.length ≤ maxLen) (h : Items w A l) (hr : l.length * Try.prog.bytesOf 42 ≤ reachBytes)
    (hmc : ch.length ≤ maxLen) (hi : Ints w C ch) (_hx : ∀ x ∈ ch, I64 x) : Calls Try.prog 4 #[.slice A l.length c, .slice C ch.length d] w fun e w' => e = .returned (.bool true) ∧ Below w.heap.size w w' := by
  have hl := len_ok hr
  unfold maxLen at hmc
  clear hr _hm _hx
  by_cases hr0 : rightOf l = 0
  · obtain ⟨h12, hit⟩ := right_ok hr0
    by_cases h40 : 40 < ch.length
    · go_enter Try.func4, Try.ntmps4
      go_wp2_with fail
      refine (alive_any _).mono ?_
      rintro e w1 ⟨rfl, hb1⟩
      go_wp2_with fail
      refine (refRight_any A c l w1 (by omega) (h.below hb1)).mono ?_
      rintro e w2 ⟨rfl, rfl⟩
      rw [hr0]
      clear hr0
      go_wp2
      go_ret
      exact ⟨rfl, hb1⟩
    · go_enter Try.func4, Try.ntmps4
      go_wp2_with fail
      refine (alive_any _).mono ?_
      rintro e w1 ⟨rfl, hb1⟩
      go_wp2_with fail
      refine (refRight_any A c l w1 (by omega) (h.below hb1)).mono ?_
      rintro e w2 ⟨rfl, rfl⟩
      rw [hr0]
      clear hr0
      go_wp2_with fail
      refine (Need_any A C c d l ch w1 (by omega) hit (by omega) (h.below hb1) (hi.below hb1)).mono ?_
      rintro e w2 ⟨rfl, rfl⟩
      unfold NeedV
      go_wp2_with fail
      refine (refNeed_any A C c d l ch w1 (by omega) hit (by omega) (h.below hb1) (hi.below hb1)).mono ?_
      rintro e w2 ⟨rfl, n, rfl⟩
      unfold NeedV
      generalize needOf l ch = q
      go_wp2
      go_ret
      exact ⟨by simp, below_dn hb1 _⟩
  · have hne : (rightOf l != 0) = true := by simpa using hr0
    clear hr0
    go_enter Try.func4, Try.ntmps4
    go_wp2_with fail
    refine (alive_any _).mono ?_
    rintro e w1 ⟨rfl, hb1⟩
    go_wp2_with fail
    refine (refRight_any A c l w1 (by omega) (h.below hb1)).mono ?_
    rintro e w2 ⟨rfl, rfl⟩
    go_wp2
    go_ret
    exact ⟨rfl, hb1⟩

set_option maxRecDepth 100000 in
theorem lifted (os : Os) (started : os.Started) (H : Type) (enc : TypeId × Value → H) :
    ReturnsInHanded {} Try.checked os 4 .any (Rows.chooseNeedsSpec.pre6 enc Try.prog Try.f4 Rows.chooseNeedsRow.domain false) (Rows.chooseNeedsSpec.post enc Try.prog Try.f4 false true false false) := by
  refine returnsInHanded_of_change_sized (C := Try.checked) own started (by kernel_rfl) Try.func4
    (ChangeSpec.witness6 (enc := enc) (C := Try.checked) false ⟨#[], #[.slice none 0 0, .slice none 0 0], []⟩ 8 (by kernel_rfl) (by kernel_rfl) (by kernel_rfl) (by kernel_rfl)) ?_
  intro W base args ds gs before hval0 hW hcnd hsz0 _
  have hval : ∀ (j : Nat) t v, Try.f4.params[j]? = some t → args[j]? = some v → Value.okWide Try.prog W .any base t v := hval0
  refine law_post laidOut (by kernel_rfl) Try.underlying4 rfl rfl hW (fun hn => ?_) ?_
  · match ds, hn with
    | [_, _], _ => rfl
  obtain ⟨p, q, hA0, hV, rfl, _, _⟩ := hW
  have hA : DataW.TrodAll enc Try.prog W 0 (fun _ => true) true Try.f4.params.toList args.toList ds p := hA0
  obtain ⟨rfl, rfl⟩ := trodVars_none hV
  have hsz : (DataW.weightsEach Try.prog (Try.f4.params.toList ++ []) (ds ++ [])).all (· ≤ reachBytes) = true := hsz0
  rw [Try.params4] at hA hval hsz
  obtain ⟨v0, vs0, d0, ds0, p0, q0, hargs, rfl, rfl, h0, r0⟩ := trodAll_cons hA
  obtain ⟨v1, vs1, d1, ds1, p1, q1, rfl, rfl, rfl, h1, r1⟩ := trodAll_cons r0
  obtain ⟨rfl, rfl, rfl⟩ := trodAll_nil r1
  obtain rfl : args = #[v0, v1] := by cases args; simp_all
  obtain ⟨A0, c0, l0, rfl, hm0, hi0, hL0⟩ := open_items (hval 0 22 v0 rfl rfl) h0
  obtain ⟨A1, c1, l1, rfl, hm1, hi1, hx1, hL1⟩ := open_intsl Try.underlying27 Try.underlying3 (by kernel_rfl) (hval 1 27 v1 rfl rfl) h1
  exact walk A0 c0 l0 A1 c1 l1 W hm0 hi0 (hL0.reach hsz (j := 0) rfl rfl Try.underlying22) hm1 hi1 hx1
theorem over : Rows.chooseNeedsRow.holds Try.pinned (OpenSpec.ofChange Rows.chooseNeedsSpec) :=
  OpenClaim.holds_of_wide 4 Try.f4 rfl rfl rfl rfl rfl rfl rfl ⟨rfl, rfl, rfl, rfl, rfl⟩ rfl rfl rfl rfl rfl (by kernel_rfl) Try.func4 (by kernel_rfl)
    (of_decide_eq_true (by kernel_rfl)) (by unfold Func.isWrapper; first | (rw [if_pos (by decide +kernel)]; kernel_rfl) | (rw [if_neg (by decide +kernel)]; exact ⟨rfl, rfl⟩))
    (fun os started H enc _ => lifted os started H enc)
theorem proved : Rows.ChooseNeedsSaid := over
#print axioms proved
end Go.Proofs.Ytoedkdgaofkgaaa.chooseNeeds
