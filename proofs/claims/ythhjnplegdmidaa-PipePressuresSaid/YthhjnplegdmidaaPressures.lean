/- PipePressures: for accepted pipes, draws and root Pressure returns at every node what the reference returns; no condition. -/
import Derived.Test.YthhjnplegdmidaaLaw0
namespace Go.Proofs.Ythhjnplegdmidaa.pipePressures
open Go.RowKit Go.ChangeShapes Go.WideShapes Go.ChangeAt
set_option linter.unusedVariables false
set_option maxHeartbeats 1000000 in
theorem walk (A : Option Addr) (c : Nat) (l : List Pipe) (C : Option Addr) (d : Nat) (ds : List Draw) (root node : Int) (w : World) (_hm : l.length ≤ c ∧ c ≤ maxLen) (h : Pipes w A l ∧ ∀ x ∈ l, x.I) (hr : l.length * Try.prog.bytesOf 45 ≤ reachBytes)
    (_hm2 : ds.length ≤ d ∧ d ≤ maxLen) (h2 : Draws w C ds ∧ ∀ x ∈ ds, x.I) (hr2 : ds.length * Try.prog.bytesOf 42 ≤ reachBytes) (_h1 : (Lit.int .i64 root).wf = true) (_h2 : (Lit.int .i64 node).wf = true) : Calls Try.prog 5 #[.slice A l.length c, .slice C ds.length d, .int .i64 root, .int .i64 node] w fun e w' => e = .returned (.bool true) ∧ Below w.heap.size w w' := by
  have h := h.1
  have h2 := h2.1
  have hr := len_ok hr
  have hr2 := len_ok2 hr2
  clear _hm _hm2 _h1 _h2
  cases ha : accB l ds root with
  | false =>
    have HA := Lib.hid ha
    clear ha
    go_enter Try.func5, Try.ntmps5
    go_wp2_with fail
    refine (alive_any _).mono ?_
    rintro e w1 ⟨rfl, hb1⟩
    go_wp2_with fail
    refine (accepted_any A C c d l ds root w1 (by omega) (by omega) (h.below hb1) (h2.below hb1)).mono ?_
    rintro e w2 ⟨rfl, hb2⟩
    rw [HA.out]
    have hb := hb1.trans (hb2.mono hb1.size)
    clear hb1 hb2 HA
    go_wp2
    go_ret
    exact ⟨rfl, hb⟩
  | true =>
    obtain ⟨hg, hl, hd, hp, ht, hro, _⟩ := acc_use ha
    have HA := Lib.hid ha
    clear ha
    go_enter Try.func5, Try.ntmps5
    go_wp2_with fail
    refine (alive_any _).mono ?_
    rintro e w1 ⟨rfl, hb1⟩
    go_wp2_with fail
    refine (accepted_any A C c d l ds root w1 (by omega) (by omega) (h.below hb1) (h2.below hb1)).mono ?_
    rintro e w2 ⟨rfl, hb2⟩
    rw [HA.out]
    have hb := hb1.trans (hb2.mono hb1.size)
    clear hb1 hb2 HA
    go_wp2_with fail
    refine (Pressure_any A C c d l ds root node w2 hl (by omega) hg (h.below hb) (h2.below hb) hp (by omega) (by omega)).mono ?_
    rintro e w3 ⟨rfl, hb3⟩
    have hbb := hb.trans (hb3.mono hb.size)
    clear hb3
    go_wp2_with fail
    refine (refPressure_any A C c d l ds root node w3 hl (by omega) hg (h.below hbb) (h2.below hbb) hp (by omega) (by omega)).mono ?_
    rintro e w4 ⟨rfl, hb4⟩
    have hb5 := hbb.trans (hb4.mono hbb.size)
    clear hb4 hb hbb
    generalize pressOf l (flowsOf l ds) root node = pv at *
    obtain ⟨x, y⟩ := pv
    simp only
    cases y
    all_goals
      go_wp2
      go_ret
      exact ⟨by simp, hb5⟩

set_option maxRecDepth 100000 in
theorem lifted (os : Os) (started : os.Started) (H : Type) (enc : TypeId × Value → H) :
    ReturnsInHanded {} Try.checked os 5 .any (Rows.pipePressuresSpec.pre6 enc Try.prog Try.f5 Rows.pipePressuresRow.domain false) (Rows.pipePressuresSpec.post enc Try.prog Try.f5 false true false false) := by
  refine returnsInHanded_of_change_sized (C := Try.checked) own started (by kernel_rfl) Try.func5
    (ChangeSpec.witness6 (enc := enc) (C := Try.checked) false ⟨#[], #[.slice none 0 0, .slice none 0 0, .int .i64 0, .int .i64 0], []⟩ 8 (by kernel_rfl) (by kernel_rfl) (by kernel_rfl) (by kernel_rfl)) ?_
  intro W base args ds gs before hval0 hW hcnd hsz0 _
  have hval : ∀ (j : Nat) t v, Try.f5.params[j]? = some t → args[j]? = some v → Value.okWide Try.prog W .any base t v := hval0
  refine law_post laidOut (by kernel_rfl) Try.underlying4 rfl rfl hW (fun hn => ?_) ?_
  · match ds, hn with
    | [_, _, _, _], _ => rfl
  obtain ⟨p, q, hA0, hV, rfl, _, _⟩ := hW
  have hA : DataW.TrodAll enc Try.prog W 0 (fun _ => true) true Try.f5.params.toList args.toList ds p := hA0
  obtain ⟨rfl, rfl⟩ := trodVars_none hV
  have hsz : (DataW.weightsEach Try.prog (Try.f5.params.toList ++ []) (ds ++ [])).all (· ≤ reachBytes) = true := hsz0
  rw [Try.params5] at hA hval hsz
  obtain ⟨v0, vs0, d0, ds0, p0, q0, hargs, rfl, rfl, h0, r0⟩ := trodAll_cons hA
  obtain ⟨v1, vs1, d1, ds1, p1, q1, rfl, rfl, rfl, h1, r1⟩ := trodAll_cons r0
  obtain ⟨v2, vs2, d2, ds2, p2, q2, rfl, rfl, rfl, h2, r2⟩ := trodAll_cons r1
  obtain ⟨v3, vs3, d3, ds3, p3, q3, rfl, rfl, rfl, h3, r3⟩ := trodAll_cons r2
  obtain ⟨rfl, rfl, rfl⟩ := trodAll_nil r3
  obtain rfl : args = #[v0, v1, v2, v3] := by cases args; simp_all
  obtain ⟨A0, c0, l0, rfl, hm0, hi0, hL0⟩ := open_pipes (hval 0 22 v0 rfl rfl) h0
  obtain ⟨A1, c1, l1, rfl, hm1, hi1, hL1⟩ := open_draws (hval 1 27 v1 rfl rfl) h1
  obtain ⟨x2, rfl, w2⟩ := open_i Try.underlying3 (hval 2 3 v2 rfl rfl) h2
  obtain ⟨x3, rfl, w3⟩ := open_i Try.underlying3 (hval 3 3 v3 rfl rfl) h3
  exact walk A0 c0 l0 A1 c1 l1 x2 x3 W hm0 hi0 (hL0.reach hsz (j := 0) rfl rfl Try.underlying22) hm1 hi1 (hL1.reach hsz (j := 1) rfl rfl Try.underlying27) w2 w3
theorem over : Rows.pipePressuresRow.holds Try.pinned (OpenSpec.ofChange Rows.pipePressuresSpec) :=
  OpenClaim.holds_of_wide 5 Try.f5 rfl rfl rfl rfl rfl rfl rfl ⟨rfl, rfl, rfl, rfl, rfl⟩ rfl rfl rfl rfl rfl (by kernel_rfl) Try.func5 (by kernel_rfl)
    (of_decide_eq_true (by kernel_rfl)) (by unfold Func.isWrapper; first | (rw [if_pos (by decide +kernel)]; kernel_rfl) | (rw [if_neg (by decide +kernel)]; exact ⟨rfl, rfl⟩))
    (fun os started H enc _ => lifted os started H enc)
theorem proved : Rows.PipePressuresSaid := over
#print axioms proved
end Go.Proofs.Ythhjnplegdmidaa.pipePressures
