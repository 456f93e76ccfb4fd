/- BrakeForces: for every list of right brakes and all numbers Force and Enough return what the reference returns; no condition. -/
import Derived.Test.YtgmkfjgkpakhfaaLaw0
namespace Go.Proofs.Ytgmkfjgkpakhfaa.brakeForces
open Go.RowKit Go.ChangeShapes Go.WideShapes Go.ChangeAt
set_option linter.unusedVariables false
set_option maxHeartbeats 1000000 in
theorem walk (A : Option Addr) (c : Nat) (l : List Brake) (kd ld t : Int) (w : World) (_hm : l.length ≤ c ∧ c ≤ maxLen) (h : Brakes w A l ∧ ∀ x ∈ l, x.I) (_hr : l.length * Try.prog.bytesOf 32 ≤ reachBytes) (_h1 : (Lit.int .i64 kd).wf = true) (_h2 : (Lit.int .i64 ld).wf = true) (ht : (Lit.int .i64 t).wf = true) : Calls Try.prog 6 #[.slice A l.length c, .int .i64 kd, .int .i64 ld, .int .i64 t] w fun e w' => e = .returned (.bool true) ∧ Below w.heap.size w w' := by
  have hI : AllI l := h.2
  have h := h.1
  have ht := i64_of_wf ht
  clear _h1 _h2
  by_cases h8 : 8 < l.length
  · go_enter Try.func6, Try.ntmps6
    go_wp2_with (go_at_call 10; refine (alive_any _).mono ?_; rintro e w1 ⟨rfl, hb1⟩)
    go_ret
    exact ⟨rfl, hb1⟩
  · go_enter Try.func6, Try.ntmps6
    go_wp2_with fail
    refine (alive_any _).mono ?_
    rintro e w1 ⟨rfl, hb1⟩
    go_wp2_with fail
    refine (refRight_any A c l w1 (by omega) (h.below hb1)).mono ?_
    rintro e w2 ⟨rfl, hb2⟩
    have hb := hb1.trans (hb2.mono hb1.size)
    clear hb1 hb2
    by_cases hr : rightOf l = 0
    · have hr' : (rightOf l != 0) = false := by simp [hr]
      have hme := right_meas hr
      have hF := fun W (hW : Below w.heap.size w W) => Lib.hid (Force_any A c l kd t W (by omega) (h.below hW) hI ht hme)
      have hRF := fun W (hW : Below w.heap.size w W) => Lib.hid (refForce_any A c l kd t W (by omega) (h.below hW) hI ht hme)
      have hE := fun W (hW : Below w.heap.size w W) => Lib.hid (Enough_any A c l ld t W (by omega) (h.below hW) hI ht hme)
      have hRE := fun W (hW : Below w.heap.size w W) => Lib.hid (refEnough_any A c l ld t W (by omega) (h.below hW) hI ht hme)
      clear hr hme hI ht
      generalize forceOf l kd t = p at *
      generalize enoughOf l ld t = q at *
      go_wp2_with fail
      refine (hF _ hb).out.mono ?_
      rintro e w3 ⟨rfl, hb3⟩
      have hb4 := hb.trans (hb3.mono hb.size)
      clear hb3 hb hF
      go_wp2_with fail
      refine (hRF _ hb4).out.mono ?_
      rintro e w4 ⟨rfl, hb5⟩
      have hb6 := hb4.trans (hb5.mono hb4.size)
      have hpp : (p == p) = true := by simp
      clear hb5 hb4 hRF
      go_wp2_with fail
      refine (hE _ hb6).out.mono ?_
      rintro e w5 ⟨rfl, hb7⟩
      have hb8 := hb6.trans (hb7.mono hb6.size)
      clear hb7 hb6 hE
      go_wp2_with fail
      refine (hRE _ hb8).out.mono ?_
      rintro e w6 ⟨rfl, hb9⟩
      have hb10 := hb8.trans (hb9.mono hb8.size)
      clear hb9 hb8 hRE
      go_wp2
      go_ret
      exact ⟨by simp, hb10⟩
    · have hr' : (rightOf l != 0) = true := by simp [hr]
      clear hr
      go_wp2
      go_ret
      exact ⟨rfl, hb⟩

set_option maxRecDepth 100000 in
theorem lifted (os : Os) (started : os.Started) (H : Type) (enc : TypeId × Value → H) :
    ReturnsInHanded {} Try.checked os 6 .any (Rows.brakeForcesSpec.pre6 enc Try.prog Try.f6 Rows.brakeForcesRow.domain false) (Rows.brakeForcesSpec.post enc Try.prog Try.f6 false true false false) := by
  refine returnsInHanded_of_change_sized (C := Try.checked) own started (by kernel_rfl) Try.func6
    (ChangeSpec.witness6 (enc := enc) (C := Try.checked) false ⟨#[], #[.slice none 0 0, .int .i64 0, .int .i64 0, .int .i64 0], []⟩ 8 (by kernel_rfl) (by kernel_rfl) (by kernel_rfl) (by kernel_rfl)) ?_
  intro W base args ds gs before hval0 hW hcnd hsz0 _
  have hval : ∀ (j : Nat) t v, Try.f6.params[j]? = some t → args[j]? = some v → Value.okWide Try.prog W .any base t v := hval0
  refine law_post laidOut (by kernel_rfl) Try.underlying4 rfl rfl hW (fun hn => ?_) ?_
  · match ds, hn with
    | [_, _, _, _], _ => rfl
  obtain ⟨p, q, hA0, hV, rfl, _, _⟩ := hW
  have hA : DataW.TrodAll enc Try.prog W 0 (fun _ => true) true Try.f6.params.toList args.toList ds p := hA0
  obtain ⟨rfl, rfl⟩ := trodVars_none hV
  have hsz : (DataW.weightsEach Try.prog (Try.f6.params.toList ++ []) (ds ++ [])).all (· ≤ reachBytes) = true := hsz0
  rw [Try.params6] at hA hval hsz
  obtain ⟨v0, vs0, d0, ds0, p0, q0, hargs, rfl, rfl, h0, r0⟩ := trodAll_cons hA
  obtain ⟨v1, vs1, d1, ds1, p1, q1, rfl, rfl, rfl, h1, r1⟩ := trodAll_cons r0
  obtain ⟨v2, vs2, d2, ds2, p2, q2, rfl, rfl, rfl, h2, r2⟩ := trodAll_cons r1
  obtain ⟨v3, vs3, d3, ds3, p3, q3, rfl, rfl, rfl, h3, r3⟩ := trodAll_cons r2
  obtain ⟨rfl, rfl, rfl⟩ := trodAll_nil r3
  obtain rfl : args = #[v0, v1, v2, v3] := by cases args; simp_all
  obtain ⟨A0, c0, l0, rfl, hm0, hi0, hL0⟩ := open_brakes (hval 0 22 v0 rfl rfl) h0
  obtain ⟨x1, rfl, w1⟩ := open_i Try.underlying3 (hval 1 3 v1 rfl rfl) h1
  obtain ⟨x2, rfl, w2⟩ := open_i Try.underlying3 (hval 2 3 v2 rfl rfl) h2
  obtain ⟨x3, rfl, w3⟩ := open_i Try.underlying3 (hval 3 3 v3 rfl rfl) h3
  exact walk A0 c0 l0 x1 x2 x3 W hm0 hi0 (hL0.reach hsz (j := 0) rfl rfl Try.underlying22) w1 w2 w3
theorem over : Rows.brakeForcesRow.holds Try.pinned (OpenSpec.ofChange Rows.brakeForcesSpec) :=
  OpenClaim.holds_of_wide 6 Try.f6 rfl rfl rfl rfl rfl rfl rfl ⟨rfl, rfl, rfl, rfl, rfl⟩ rfl rfl rfl rfl rfl (by kernel_rfl) Try.func6 (by kernel_rfl)
    (of_decide_eq_true (by kernel_rfl)) (by unfold Func.isWrapper; first | (rw [if_pos (by decide +kernel)]; kernel_rfl) | (rw [if_neg (by decide +kernel)]; exact ⟨rfl, rfl⟩))
    (fun os started H enc _ => lifted os started H enc)
theorem proved : Rows.BrakeForcesSaid := over
#print axioms proved
end Go.Proofs.Ytgmkfjgkpakhfaa.brakeForces
