/- BrakeDue: for every list of right brakes and every time brake.Due returns what the reference returns; no condition. -/
import Derived.Test.YtgmkfjgkpakhfaaLaw0
namespace Go.Proofs.Ytgmkfjgkpakhfaa.brakeDue
open Go.RowKit Go.ChangeShapes Go.WideShapes Go.ChangeAt
set_option linter.unusedVariables false
set_option maxHeartbeats 1000000 in
theorem walk (A : Option Addr) (c : Nat) (l : List Brake) (t : Int) (w : World) (_hm : l.length ≤ c ∧ c ≤ maxLen) (h : Brakes w A l ∧ ∀ x ∈ l, x.I) (_hr : l.length * Try.prog.bytesOf 32 ≤ reachBytes) (ht : (Lit.int .i64 t).wf = true) : Calls Try.prog 7 #[.slice A l.length c, .int .i64 t] w fun e w' => e = .returned (.bool true) ∧ Below w.heap.size w w' := by
  have hI : AllI l := h.2
  have h := h.1
  have ht := i64_of_wf ht
  by_cases h8 : 8 < l.length
  · go_enter Try.func7, Try.ntmps7
    go_wp2_with (go_at_call 10; refine (alive_any _).mono ?_; rintro e w1 ⟨rfl, hb1⟩)
    go_ret
    exact ⟨rfl, hb1⟩
  · go_enter Try.func7, Try.ntmps7
    go_wp2_with fail
    refine (alive_any _).mono ?_
    rintro e w1 ⟨rfl, hb1⟩
    go_wp2_with fail
    refine (refRight_any A c l w1 (by omega) (h.below hb1)).mono ?_
    rintro e w2 ⟨rfl, hb2⟩
    have hb := hb1.trans (hb2.mono hb1.size)
    clear hb1 hb2
    by_cases hr : rightOf l = 0
    · have hr' : (rightOf l != 0) = false := by simp [hr]
      have hD := fun W (hW : Below w.heap.size w W) => Lib.hid (Due_any A c l t W (by omega) (h.below hW) hI ht)
      have hRD := fun W (hW : Below w.heap.size w W) => Lib.hid (refDue_any A c l t W (by omega) (h.below hW) hI ht)
      have hdl : (dueOf l t).length ≤ 8 := Nat.le_trans (dueOf_length l t) (by omega)
      clear hr hI ht
      generalize dueOf l t = q at *
      go_wp2_with fail
      refine (hD _ hb).out.mono ?_
      rintro e w3 ⟨A1, c1, rfl, hx1, hb3⟩
      have hb4 := hb.trans (hb3.mono hb.size)
      clear hb3 hb hD
      go_wp2_with fail
      refine (hRD _ hb4).out.mono ?_
      rintro e w4 ⟨A2, c2, rfl, hx2, hb5⟩
      have hb6 := hb4.trans (hb5.mono hb4.size)
      have hx1' := hx1.below hb5
      clear hb5 hb4 hRD hx1
      go_wp2_with fail
      refine (SameInts_eq A1 A2 c1 c2 q w4 (by omega) hx1' hx2).mono ?_
      rintro e w5 ⟨rfl, n, rfl⟩
      go_wp2
      go_ret
      exact ⟨by simp, below_dn hb6 _⟩
    · have hr' : (rightOf l != 0) = true := by simp [hr]
      clear hr
      go_wp2
      go_ret
      exact ⟨rfl, hb⟩

set_option maxRecDepth 100000 in
theorem lifted (os : Os) (started : os.Started) (H : Type) (enc : TypeId × Value → H) :
    ReturnsInHanded {} Try.checked os 7 .any (Rows.brakeDueSpec.pre6 enc Try.prog Try.f7 Rows.brakeDueRow.domain false) (Rows.brakeDueSpec.post enc Try.prog Try.f7 false true false false) := by
  refine returnsInHanded_of_change_sized (C := Try.checked) own started (by kernel_rfl) Try.func7
    (ChangeSpec.witness6 (enc := enc) (C := Try.checked) false ⟨#[], #[.slice none 0 0, .int .i64 0], []⟩ 8 (by kernel_rfl) (by kernel_rfl) (by kernel_rfl) (by kernel_rfl)) ?_
  intro W base args ds gs before hval0 hW hcnd hsz0 _
  have hval : ∀ (j : Nat) t v, Try.f7.params[j]? = some t → args[j]? = some v → Value.okWide Try.prog W .any base t v := hval0
  refine law_post laidOut (by kernel_rfl) Try.underlying4 rfl rfl hW (fun hn => ?_) ?_
  · match ds, hn with
    | [_, _], _ => rfl
  obtain ⟨p, q, hA0, hV, rfl, _, _⟩ := hW
  have hA : DataW.TrodAll enc Try.prog W 0 (fun _ => true) true Try.f7.params.toList args.toList ds p := hA0
  obtain ⟨rfl, rfl⟩ := trodVars_none hV
  have hsz : (DataW.weightsEach Try.prog (Try.f7.params.toList ++ []) (ds ++ [])).all (· ≤ reachBytes) = true := hsz0
  rw [Try.params7] at hA hval hsz
  obtain ⟨v0, vs0, d0, ds0, p0, q0, hargs, rfl, rfl, h0, r0⟩ := trodAll_cons hA
  obtain ⟨v1, vs1, d1, ds1, p1, q1, rfl, rfl, rfl, h1, r1⟩ := trodAll_cons r0
  obtain ⟨rfl, rfl, rfl⟩ := trodAll_nil r1
  obtain rfl : args = #[v0, v1] := by cases args; simp_all
  obtain ⟨A0, c0, l0, rfl, hm0, hi0, hL0⟩ := open_brakes (hval 0 22 v0 rfl rfl) h0
  obtain ⟨x1, rfl, w1⟩ := open_i Try.underlying3 (hval 1 3 v1 rfl rfl) h1
  exact walk A0 c0 l0 x1 W hm0 hi0 (hL0.reach hsz (j := 0) rfl rfl Try.underlying22) w1
theorem over : Rows.brakeDueRow.holds Try.pinned (OpenSpec.ofChange Rows.brakeDueSpec) :=
  OpenClaim.holds_of_wide 7 Try.f7 rfl rfl rfl rfl rfl rfl rfl ⟨rfl, rfl, rfl, rfl, rfl⟩ rfl rfl rfl rfl rfl (by kernel_rfl) Try.func7 (by kernel_rfl)
    (of_decide_eq_true (by kernel_rfl)) (by unfold Func.isWrapper; first | (rw [if_pos (by decide +kernel)]; kernel_rfl) | (rw [if_neg (by decide +kernel)]; exact ⟨rfl, rfl⟩))
    (fun os started H enc _ => lifted os started H enc)
theorem proved : Rows.BrakeDueSaid := over
#print axioms proved
end Go.Proofs.Ytgmkfjgkpakhfaa.brakeDue
