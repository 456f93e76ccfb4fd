/- RescueValid: for right sections, any number of teams and at most 40 jobs Valid returns the result of the reference; no condition. -/
import Derived.Test.YtidlbhheakhkhaaLaw0
namespace Go.Proofs.Ytidlbhheakhkhaa.rescueValid
open Go.RowKit Go.ChangeShapes Go.WideShapes Go.ChangeAt
set_option linter.unusedVariables false
set_option maxRecDepth 100000 in
set_option maxHeartbeats 4000000 in
theorem walk (A : Option Addr) (c : Nat) (l : List Sec) (t : Int) (C : Option Addr) (d : Nat) (js : List Job) (w : World) (_hm : l.length ≤ c ∧ c ≤ maxLen) (h : Secs w A l ∧ ∀ x ∈ l, x.I) (hr : l.length * Try.prog.bytesOf 39 ≤ reachBytes) (_ht : (Lit.int .i64 t).wf = true) (_hm2 : js.length ≤ d ∧ d ≤ maxLen) (h2 : Jobs w C js ∧ ∀ x ∈ js, x.I) (hr2 : js.length * Try.prog.bytesOf 43 ≤ reachBytes) : Calls Try.prog 5 #[.slice A l.length c, .int .i64 t, .slice C js.length d] w fun e w' => e = .returned (.bool true) ∧ Below w.heap.size w w' := by
  have hcap := _hm.1
  have h := h.1
  have hr := len_ok hr
  clear _hm
  clear _ht
  have hd := _hm2.1
  have hI := h2.2
  have h2 := h2.1
  have hr2 := len_ok2 hr2
  clear _hm2
  cases hri : decide (rightOf l = 0) with
  | false =>
    have HRI := Lib.hid hri
    clear hri
    go_enter Try.func5, Try.ntmps5
    go_wp2_with fail
    refine (alive_any _).mono ?_
    rintro e w1 ⟨rfl, hb⟩
    replace h := h.below hb
    have hB := hb
    clear hb
    go_wp2_with fail
    refine (right_any A c l _ (by omega) h).mono ?_
    rintro e w2 ⟨rfl, hb⟩
    replace h := h.below hb
    replace hB := hB.trans (hb.mono hB.size)
    clear hb
    rw [HRI.out]
    clear HRI h
    go_wp2
    go_ret
    exact ⟨rfl, hB⟩
  | true =>
    obtain ⟨hl, hs, hpe, hdf⟩ := right_use (of_decide_eq_true hri)
    have HRI := Lib.hid hri
    have HS := Lib.hid hs
    have HP := Lib.hid hpe
    have HD := Lib.hid hdf
    clear hri hs hpe hdf
    by_cases h40 : 40 < js.length
    · clear HS HP HD
      go_enter Try.func5, Try.ntmps5
      go_wp2_with fail
      refine (alive_any _).mono ?_
      rintro e w1 ⟨rfl, hb⟩
      replace h := h.below hb
      have hB := hb
      clear hb
      go_wp2_with fail
      refine (right_any A c l _ (by omega) h).mono ?_
      rintro e w2 ⟨rfl, hb⟩
      replace h := h.below hb
      replace hB := hB.trans (hb.mono hB.size)
      clear hb
      rw [HRI.out]
      clear HRI h
      go_wp2
      go_ret
      exact ⟨rfl, hB⟩
    · have q1 := fun W hS hJ => Lib.hid (Valid_any A C c d l t js hl (by omega) hd hI W hS hJ)
      have q2 := fun W hS hJ => Lib.hid (refValid_any A C c d l t js hl (by omega) hI W hS hJ)
      generalize validOf l t js = v at *
      clear hI HS HP HD
      go_enter Try.func5, Try.ntmps5
      go_wp2_with fail
      refine (alive_any _).mono ?_
      rintro e w1 ⟨rfl, hb⟩
      replace h := h.below hb
      replace h2 := h2.below hb
      have hB := hb
      clear hb
      go_wp2_with fail
      refine (right_any A c l _ (by omega) h).mono ?_
      rintro e w2 ⟨rfl, hb⟩
      replace h := h.below hb
      replace h2 := h2.below hb
      replace hB := hB.trans (hb.mono hB.size)
      clear hb
      rw [HRI.out]
      clear HRI
      go_wp2_with fail
      refine ((q1 _ h h2).out).mono ?_
      rintro e w3 ⟨rfl, hb⟩
      replace h := h.below hb
      replace h2 := h2.below hb
      replace hB := hB.trans (hb.mono hB.size)
      clear hb
      go_wp2_with fail
      refine ((q2 _ h h2).out).mono ?_
      rintro e w4 ⟨rfl, hb⟩
      replace h := h.below hb
      replace h2 := h2.below hb
      replace hB := hB.trans (hb.mono hB.size)
      clear hb
      clear q1 q2 h h2
      cases v
      all_goals
        go_wp2
        go_ret
        exact ⟨rfl, hB⟩

set_option maxRecDepth 100000 in
theorem lifted (os : Os) (started : os.Started) (H : Type) (enc : TypeId × Value → H) :
    ReturnsInHanded {} Try.checked os 5 .any (Rows.rescueValidSpec.pre6 enc Try.prog Try.f5 Rows.rescueValidRow.domain false) (Rows.rescueValidSpec.post enc Try.prog Try.f5 false true false false) := by
  refine returnsInHanded_of_change_sized (C := Try.checked) own started (by kernel_rfl) Try.func5
    (ChangeSpec.witness6 (enc := enc) (C := Try.checked) false ⟨#[], #[.slice none 0 0, .int .i64 0, .slice none 0 0], []⟩ 8 (by kernel_rfl) (by kernel_rfl) (by kernel_rfl) (by kernel_rfl)) ?_
  intro W base args ds gs before hval0 hW hcnd hsz0 _
  have hval : ∀ (j : Nat) t v, Try.f5.params[j]? = some t → args[j]? = some v → Value.okWide Try.prog W .any base t v := hval0
  refine law_post laidOut (by kernel_rfl) Try.underlying4 rfl rfl hW (fun hn => ?_) ?_
  · match ds, hn with
    | [_, _, _], _ => rfl
  obtain ⟨p, q, hA0, hV, rfl, _, _⟩ := hW
  have hA : DataW.TrodAll enc Try.prog W 0 (fun _ => true) true Try.f5.params.toList args.toList ds p := hA0
  obtain ⟨rfl, rfl⟩ := trodVars_none hV
  have hsz : (DataW.weightsEach Try.prog (Try.f5.params.toList ++ []) (ds ++ [])).all (· ≤ reachBytes) = true := hsz0
  rw [Try.params5] at hA hval hsz
  obtain ⟨v0, vs0, d0, ds0, p0, q0, hargs, rfl, rfl, h0, r0⟩ := trodAll_cons hA
  obtain ⟨v1, vs1, d1, ds1, p1, q1, rfl, rfl, rfl, h1, r1⟩ := trodAll_cons r0
  obtain ⟨v2, vs2, d2, ds2, p2, q2, rfl, rfl, rfl, h2, r2⟩ := trodAll_cons r1
  obtain ⟨rfl, rfl, rfl⟩ := trodAll_nil r2
  obtain rfl : args = #[v0, v1, v2] := by cases args; simp_all
  obtain ⟨A0, c0, l0, rfl, hm0, hi0, hL0⟩ := open_secs (hval 0 22 v0 rfl rfl) h0
  obtain ⟨x1, rfl, w1⟩ := open_i Try.underlying3 (hval 1 3 v1 rfl rfl) h1
  obtain ⟨A2, c2, l2, rfl, hm2, hi2, hL2⟩ := open_jobs (hval 2 27 v2 rfl rfl) h2
  exact walk A0 c0 l0 x1 A2 c2 l2 W hm0 hi0 (hL0.reach hsz (j := 0) rfl rfl Try.underlying22) w1 hm2 hi2 (hL2.reach hsz (j := 2) rfl rfl Try.underlying27)
theorem over : Rows.rescueValidRow.holds Try.pinned (OpenSpec.ofChange Rows.rescueValidSpec) :=
  OpenClaim.holds_of_wide 5 Try.f5 rfl rfl rfl rfl rfl rfl rfl ⟨rfl, rfl, rfl, rfl, rfl⟩ rfl rfl rfl rfl rfl (by kernel_rfl) Try.func5 (by kernel_rfl)
    (of_decide_eq_true (by kernel_rfl)) (by unfold Func.isWrapper; first | (rw [if_pos (by decide +kernel)]; kernel_rfl) | (rw [if_neg (by decide +kernel)]; exact ⟨rfl, rfl⟩))
    (fun os started H enc _ => lifted os started H enc)
theorem proved : Rows.RescueValidSaid := over
#print axioms proved
end Go.Proofs.Ytidlbhheakhkhaa.rescueValid
