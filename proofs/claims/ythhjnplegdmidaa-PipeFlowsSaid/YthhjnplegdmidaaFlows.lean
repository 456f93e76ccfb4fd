/- PipeFlows: for accepted pipes and draws Flows returns the flows of the reference; no condition. -/
import Derived.Test.YthhjnplegdmidaaLaw0
namespace Go.Proofs.Ythhjnplegdmidaa.pipeFlows
open Go.RowKit Go.ChangeShapes Go.WideShapes Go.ChangeAt
set_option linter.unusedVariables false
set_option maxHeartbeats 1000000 in
theorem walk (A : Option Addr) (c : Nat) (l : List Pipe) (C : Option Addr) (d : Nat) (ds : List Draw) (w : World) (_hm : l.length ≤ c ∧ c ≤ maxLen) (h : Pipes w A l ∧ ∀ x ∈ l, x.I) (hr : l.length * Try.prog.bytesOf 45 ≤ reachBytes)
    (_hm2 : ds.length ≤ d ∧ d ≤ maxLen) (h2 : Draws w C ds ∧ ∀ x ∈ ds, x.I) (hr2 : ds.length * Try.prog.bytesOf 42 ≤ reachBytes) : Calls Try.prog 4 #[.slice A l.length c, .slice C ds.length d] w fun e w' => e = .returned (.bool true) ∧ Below w.heap.size w w' := by
  have h := h.1
  have h2 := h2.1
  have hr := len_ok hr
  have hr2 := len_ok2 hr2
  clear _hm _hm2
  cases ha : accB l ds 0 with
  | false =>
    have HA := Lib.hid ha
    clear ha
    go_enter Try.func4, Try.ntmps4
    go_wp2_with fail
    refine (alive_any _).mono ?_
    rintro e w1 ⟨rfl, hb1⟩
    go_wp2_with fail
    refine (accepted_any A C c d l ds 0 w1 (by omega) (by omega) (h.below hb1) (h2.below hb1)).mono ?_
    rintro e w2 ⟨rfl, hb2⟩
    rw [HA.out]
    have hb := hb1.trans (hb2.mono hb1.size)
    clear hb1 hb2 HA
    go_wp2
    go_ret
    exact ⟨rfl, hb⟩
  | true =>
    obtain ⟨hg, hl, hd, hp, ht, _, _⟩ := acc_use ha
    have HA := Lib.hid ha
    clear ha
    go_enter Try.func4, Try.ntmps4
    go_wp2_with fail
    refine (alive_any _).mono ?_
    rintro e w1 ⟨rfl, hb1⟩
    go_wp2_with fail
    refine (accepted_any A C c d l ds 0 w1 (by omega) (by omega) (h.below hb1) (h2.below hb1)).mono ?_
    rintro e w2 ⟨rfl, hb2⟩
    rw [HA.out]
    have hb := hb1.trans (hb2.mono hb1.size)
    clear hb1 hb2 HA
    go_wp2_with fail
    refine (Flows_any A C c d l ds w2 hl (by omega) hg (h.below hb) (h2.below hb) hp (by omega)).mono ?_
    rintro e w3 ⟨A3, c3, rfl, hi3, hb3⟩
    have hbb := hb.trans (hb3.mono hb.size)
    clear hb3
    go_wp2_with fail
    refine (refFlows_any A C c d l ds w3 hl (by omega) hg (h.below hbb) (h2.below hbb) hp (by omega)).mono ?_
    rintro e w4 ⟨A4, c4, rfl, hi4, hb4⟩
    have hb5 := hbb.trans (hb4.mono hbb.size)
    have hs := Lib.hid (Same_eq A3 A4 c3 c4 (flowsOf l ds) w4 (by rw [flowsOf_length]; omega) (hi3.below hb4) hi4)
    have hfl := flowsOf_length l ds
    rw [hfl] at hs
    clear hb4 hi3 hi4 hfl hb hbb
    go_wp2_with fail
    refine hs.out.mono ?_
    rintro e w6 ⟨rfl, n, rfl⟩
    clear hs
    go_wp2
    go_ret
    exact ⟨rfl, below_dn hb5 n⟩

set_option maxRecDepth 100000 in
theorem lifted (os : Os) (started : os.Started) (H : Type) (enc : TypeId × Value → H) :
    ReturnsInHanded {} Try.checked os 4 .any (Rows.pipeFlowsSpec.pre6 enc Try.prog Try.f4 Rows.pipeFlowsRow.domain false) (Rows.pipeFlowsSpec.post enc Try.prog Try.f4 false true false false) := by
  refine returnsInHanded_of_change_sized (C := Try.checked) own started (by kernel_rfl) Try.func4
    (ChangeSpec.witness6 (enc := enc) (C := Try.checked) false ⟨#[], #[.slice none 0 0, .slice none 0 0], []⟩ 8 (by kernel_rfl) (by kernel_rfl) (by kernel_rfl) (by kernel_rfl)) ?_
  intro W base args ds gs before hval0 hW hcnd hsz0 _
  have hval : ∀ (j : Nat) t v, Try.f4.params[j]? = some t → args[j]? = some v → Value.okWide Try.prog W .any base t v := hval0
  refine law_post laidOut (by kernel_rfl) Try.underlying4 rfl rfl hW (fun hn => ?_) ?_
  · match ds, hn with
    | [_, _], _ => rfl
  obtain ⟨p, q, hA0, hV, rfl, _, _⟩ := hW
  have hA : DataW.TrodAll enc Try.prog W 0 (fun _ => true) true Try.f4.params.toList args.toList ds p := hA0
  obtain ⟨rfl, rfl⟩ := trodVars_none hV
  have hsz : (DataW.weightsEach Try.prog (Try.f4.params.toList ++ []) (ds ++ [])).all (· ≤ reachBytes) = true := hsz0
  rw [Try.params4] at hA hval hsz
  obtain ⟨v0, vs0, d0, ds0, p0, q0, hargs, rfl, rfl, h0, r0⟩ := trodAll_cons hA
  obtain ⟨v1, vs1, d1, ds1, p1, q1, rfl, rfl, rfl, h1, r1⟩ := trodAll_cons r0
  obtain ⟨rfl, rfl, rfl⟩ := trodAll_nil r1
  obtain rfl : args = #[v0, v1] := by cases args; simp_all
  obtain ⟨A0, c0, l0, rfl, hm0, hi0, hL0⟩ := open_pipes (hval 0 22 v0 rfl rfl) h0
  obtain ⟨A1, c1, l1, rfl, hm1, hi1, hL1⟩ := open_draws (hval 1 27 v1 rfl rfl) h1
  exact walk A0 c0 l0 A1 c1 l1 W hm0 hi0 (hL0.reach hsz (j := 0) rfl rfl Try.underlying22) hm1 hi1 (hL1.reach hsz (j := 1) rfl rfl Try.underlying27)
theorem over : Rows.pipeFlowsRow.holds Try.pinned (OpenSpec.ofChange Rows.pipeFlowsSpec) :=
  OpenClaim.holds_of_wide 4 Try.f4 rfl rfl rfl rfl rfl rfl rfl ⟨rfl, rfl, rfl, rfl, rfl⟩ rfl rfl rfl rfl rfl (by kernel_rfl) Try.func4 (by kernel_rfl)
    (of_decide_eq_true (by kernel_rfl)) (by unfold Func.isWrapper; first | (rw [if_pos (by decide +kernel)]; kernel_rfl) | (rw [if_neg (by decide +kernel)]; exact ⟨rfl, rfl⟩))
    (fun os started H enc _ => lifted os started H enc)
theorem proved : Rows.PipeFlowsSaid := over
#print axioms proved
end Go.Proofs.Ythhjnplegdmidaa.pipeFlows
