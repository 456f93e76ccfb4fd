/- RescueRights: for every list of at most 40 sections rescue.Right returns the error of the reference; no condition. -/
import Derived.Test.YtidlbhheakhkhaaLaw0
namespace Go.Proofs.Ytidlbhheakhkhaa.rescueRights
open Go.RowKit Go.ChangeShapes Go.WideShapes Go.ChangeAt
set_option linter.unusedVariables false
set_option maxRecDepth 100000 in
set_option maxHeartbeats 4000000 in
theorem walk (A : Option Addr) (c : Nat) (l : List Sec) (w : World) (_hm : l.length ≤ c ∧ c ≤ maxLen) (h : Secs w A l ∧ ∀ x ∈ l, x.I) (hr : l.length * Try.prog.bytesOf 39 ≤ reachBytes) : Calls Try.prog 3 #[.slice A l.length c] w fun e w' => e = .returned (.bool true) ∧ Below w.heap.size w w' := by
  have hcap := _hm.1
  have h := h.1
  have hr := len_ok hr
  clear _hm
  have q1 := fun W hS => Lib.hid (Right_any A c l W (by omega) hcap hS)
  have q2 := fun W hS => Lib.hid (refRight_any A c l W (by omega) hS)
  generalize rightOf l = r at *
  by_cases h40 : 40 < l.length
  · clear q1 q2
    go_enter Try.func3, Try.ntmps3
    go_wp2_with fail
    refine (alive_any _).mono ?_
    rintro e w1 ⟨rfl, hb⟩
    replace h := h.below hb
    have hB := hb
    clear hb
    go_wp2
    go_ret
    exact ⟨rfl, hB⟩
  · go_enter Try.func3, Try.ntmps3
    go_wp2_with fail
    refine (alive_any _).mono ?_
    rintro e w1 ⟨rfl, hb⟩
    replace h := h.below hb
    have hB := hb
    clear hb
    go_wp2_with fail
    refine ((q1 _ h).out).mono ?_
    rintro e w2 ⟨rfl, hb⟩
    replace h := h.below hb
    replace hB := hB.trans (hb.mono hB.size)
    clear hb
    go_wp2_with fail
    refine ((q2 _ h).out).mono ?_
    rintro e w3 ⟨rfl, hb⟩
    replace h := h.below hb
    replace hB := hB.trans (hb.mono hB.size)
    clear hb
    clear q1 q2 h
    go_wp2
    go_ret
    exact ⟨rfl, hB⟩

set_option maxRecDepth 100000 in
theorem lifted (os : Os) (started : os.Started) (H : Type) (enc : TypeId × Value → H) :
    ReturnsInHanded {} Try.checked os 3 .any (Rows.rescueRightsSpec.pre6 enc Try.prog Try.f3 Rows.rescueRightsRow.domain false) (Rows.rescueRightsSpec.post enc Try.prog Try.f3 false true false false) := by
  refine returnsInHanded_of_change_sized (C := Try.checked) own started (by kernel_rfl) Try.func3
    (ChangeSpec.witness6 (enc := enc) (C := Try.checked) false ⟨#[], #[.slice none 0 0], []⟩ 8 (by kernel_rfl) (by kernel_rfl) (by kernel_rfl) (by kernel_rfl)) ?_
  intro W base args ds gs before hval0 hW hcnd hsz0 _
  have hval : ∀ (j : Nat) t v, Try.f3.params[j]? = some t → args[j]? = some v → Value.okWide Try.prog W .any base t v := hval0
  refine law_post laidOut (by kernel_rfl) Try.underlying4 rfl rfl hW (fun hn => ?_) ?_
  · match ds, hn with
    | [_], _ => rfl
  obtain ⟨p, q, hA0, hV, rfl, _, _⟩ := hW
  have hA : DataW.TrodAll enc Try.prog W 0 (fun _ => true) true Try.f3.params.toList args.toList ds p := hA0
  obtain ⟨rfl, rfl⟩ := trodVars_none hV
  have hsz : (DataW.weightsEach Try.prog (Try.f3.params.toList ++ []) (ds ++ [])).all (· ≤ reachBytes) = true := hsz0
  rw [Try.params3] at hA hval hsz
  obtain ⟨v0, vs0, d0, ds0, p0, q0, hargs, rfl, rfl, h0, r0⟩ := trodAll_cons hA
  obtain ⟨rfl, rfl, rfl⟩ := trodAll_nil r0
  obtain rfl : args = #[v0] := by cases args; simp_all
  obtain ⟨A0, c0, l0, rfl, hm0, hi0, hL0⟩ := open_secs (hval 0 22 v0 rfl rfl) h0
  exact walk A0 c0 l0 W hm0 hi0 (hL0.reach hsz (j := 0) rfl rfl Try.underlying22)
theorem over : Rows.rescueRightsRow.holds Try.pinned (OpenSpec.ofChange Rows.rescueRightsSpec) :=
  OpenClaim.holds_of_wide 3 Try.f3 rfl rfl rfl rfl rfl rfl rfl ⟨rfl, rfl, rfl, rfl, rfl⟩ rfl rfl rfl rfl rfl (by kernel_rfl) Try.func3 (by kernel_rfl)
    (of_decide_eq_true (by kernel_rfl)) (by unfold Func.isWrapper; first | (rw [if_pos (by decide +kernel)]; kernel_rfl) | (rw [if_neg (by decide +kernel)]; exact ⟨rfl, rfl⟩))
    (fun os started H enc _ => lifted os started H enc)
theorem proved : Rows.RescueRightsSaid := over
#print axioms proved
end Go.Proofs.Ytidlbhheakhkhaa.rescueRights
