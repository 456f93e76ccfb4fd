/- BrakeTests: for every list of right brakes and all numbers brake.Test returns the brakes or the error of the reference; no condition. -/
import Derived.Test.YtgmkfjgkpakhfaaLaw0
namespace Go.Proofs.Ytgmkfjgkpakhfaa.brakeTests
open Go.RowKit Go.ChangeShapes Go.WideShapes Go.ChangeAt
set_option linter.unusedVariables false
set_option maxHeartbeats 1000000 in
theorem walk (A : Option Addr) (c : Nat) (l : List Brake) (id m t : Int) (w : World) (_hm : l.length ≤ c ∧ c ≤ maxLen) (h : Brakes w A l ∧ ∀ x ∈ l, x.I) (_hr : l.length * Try.prog.bytesOf 32 ≤ reachBytes) (_h1 : (Lit.int .i64 id).wf = true) (_h2 : (Lit.int .i64 m).wf = true) (_h3 : (Lit.int .i64 t).wf = true) : Calls Try.prog 4 #[.slice A l.length c, .int .i64 id, .int .i64 m, .int .i64 t] w fun e w' => e = .returned (.bool true) ∧ Below w.heap.size w w' := by
  have h := h.1
  clear _h1 _h2 _h3
  by_cases h8 : 8 < l.length
  · go_enter Try.func4, Try.ntmps4
    go_wp2_with (go_at_call 10; refine (alive_any _).mono ?_; rintro e w1 ⟨rfl, hb1⟩)
    go_ret
    exact ⟨rfl, hb1⟩
  · go_enter Try.func4, Try.ntmps4
    go_wp2_with fail
    refine (alive_any _).mono ?_
    rintro e w1 ⟨rfl, hb1⟩
    go_wp2_with fail
    refine (refRight_any A c l w1 (by omega) (h.below hb1)).mono ?_
    rintro e w2 ⟨rfl, hb2⟩
    have hb := hb1.trans (hb2.mono hb1.size)
    clear hb1 hb2
    by_cases hr : rightOf l = 0
    · have hr' : (rightOf l != 0) = false := by simp [hr]
      have hT := fun W (hW : Below w.heap.size w W) => Lib.hid (Test_any A c l id m t W (by omega) (h.below hW))
      have hR := fun W (hW : Below w.heap.size w W) => Lib.hid (refTest_any A c l id m t W (by omega) (h.below hW) hr)
      have hl : (testOf l id m t).1.length ≤ 8 := by
        unfold testOf
        split
        · simp
        · split
          · simp
          · split
            · simp
            · rw [setF_length]; omega
      clear hr
      generalize testOf l id m t = q at *
      go_wp2_with fail
      refine (hT _ hb).out.mono ?_
      rintro e w3 ⟨A1, c1, rfl, hx1, hb3⟩
      have hb4 := hb.trans (hb3.mono hb.size)
      clear hb3 hb hT
      go_wp2_with fail
      refine (hR _ hb4).out.mono ?_
      rintro e w4 ⟨A2, c2, rfl, hx2, hb5⟩
      have hb6 := hb4.trans (hb5.mono hb4.size)
      have hs := fun n => Lib.hid (Same_eq A1 A2 c1 c2 q.1 (w4.drewN n) (by omega) ((hx1.below hb5).below (below_dn (Below.refl _ _) n)) (hx2.below (below_dn (Below.refl _ _) n)))
      clear hb4 hb5 hx1 hx2 hR
      go_wp2_with fail
      refine (hs 0).out.mono ?_
      rintro e w5 ⟨rfl, n, rfl⟩
      go_wp2
      go_ret
      exact ⟨by simp, below_dn hb6 _⟩
    · have hr' : (rightOf l != 0) = true := by simp [hr]
      clear hr
      go_wp2
      go_ret
      exact ⟨rfl, hb⟩

set_option maxRecDepth 100000 in
theorem lifted (os : Os) (started : os.Started) (H : Type) (enc : TypeId × Value → H) :
    ReturnsInHanded {} Try.checked os 4 .any (Rows.brakeTestsSpec.pre6 enc Try.prog Try.f4 Rows.brakeTestsRow.domain false) (Rows.brakeTestsSpec.post enc Try.prog Try.f4 false true false false) := by
  refine returnsInHanded_of_change_sized (C := Try.checked) own started (by kernel_rfl) Try.func4
    (ChangeSpec.witness6 (enc := enc) (C := Try.checked) false ⟨#[], #[.slice none 0 0, .int .i64 0, .int .i64 0, .int .i64 0], []⟩ 8 (by kernel_rfl) (by kernel_rfl) (by kernel_rfl) (by kernel_rfl)) ?_
  intro W base args ds gs before hval0 hW hcnd hsz0 _
  have hval : ∀ (j : Nat) t v, Try.f4.params[j]? = some t → args[j]? = some v → Value.okWide Try.prog W .any base t v := hval0
  refine law_post laidOut (by kernel_rfl) Try.underlying4 rfl rfl hW (fun hn => ?_) ?_
  · match ds, hn with
    | [_, _, _, _], _ => rfl
  obtain ⟨p, q, hA0, hV, rfl, _, _⟩ := hW
  have hA : DataW.TrodAll enc Try.prog W 0 (fun _ => true) true Try.f4.params.toList args.toList ds p := hA0
  obtain ⟨rfl, rfl⟩ := trodVars_none hV
  have hsz : (DataW.weightsEach Try.prog (Try.f4.params.toList ++ []) (ds ++ [])).all (· ≤ reachBytes) = true := hsz0
  rw [Try.params4] at hA hval hsz
  obtain ⟨v0, vs0, d0, ds0, p0, q0, hargs, rfl, rfl, h0, r0⟩ := trodAll_cons hA
  obtain ⟨v1, vs1, d1, ds1, p1, q1, rfl, rfl, rfl, h1, r1⟩ := trodAll_cons r0
  obtain ⟨v2, vs2, d2, ds2, p2, q2, rfl, rfl, rfl, h2, r2⟩ := trodAll_cons r1
  obtain ⟨v3, vs3, d3, ds3, p3, q3, rfl, rfl, rfl, h3, r3⟩ := trodAll_cons r2
  obtain ⟨rfl, rfl, rfl⟩ := trodAll_nil r3
  obtain rfl : args = #[v0, v1, v2, v3] := by cases args; simp_all
  obtain ⟨A0, c0, l0, rfl, hm0, hi0, hL0⟩ := open_brakes (hval 0 22 v0 rfl rfl) h0
  obtain ⟨x1, rfl, w1⟩ := open_i Try.underlying3 (hval 1 3 v1 rfl rfl) h1
  obtain ⟨x2, rfl, w2⟩ := open_i Try.underlying3 (hval 2 3 v2 rfl rfl) h2
  obtain ⟨x3, rfl, w3⟩ := open_i Try.underlying3 (hval 3 3 v3 rfl rfl) h3
  exact walk A0 c0 l0 x1 x2 x3 W hm0 hi0 (hL0.reach hsz (j := 0) rfl rfl Try.underlying22) w1 w2 w3
theorem over : Rows.brakeTestsRow.holds Try.pinned (OpenSpec.ofChange Rows.brakeTestsSpec) :=
  OpenClaim.holds_of_wide 4 Try.f4 rfl rfl rfl rfl rfl rfl rfl ⟨rfl, rfl, rfl, rfl, rfl⟩ rfl rfl rfl rfl rfl (by kernel_rfl) Try.func4 (by kernel_rfl)
    (of_decide_eq_true (by kernel_rfl)) (by unfold Func.isWrapper; first | (rw [if_pos (by decide +kernel)]; kernel_rfl) | (rw [if_neg (by decide +kernel)]; exact ⟨rfl, rfl⟩))
    (fun os started H enc _ => lifted os started H enc)
theorem proved : Rows.BrakeTestsSaid := over
#print axioms proved
end Go.Proofs.Ytgmkfjgkpakhfaa.brakeTests
