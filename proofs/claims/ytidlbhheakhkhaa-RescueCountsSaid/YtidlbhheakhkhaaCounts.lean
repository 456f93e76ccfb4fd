/- RescueCounts: for right sections, at most 40 jobs and any number Left and Bound return the numbers of the reference; no condition. -/
import Derived.Test.YtidlbhheakhkhaaLaw0
namespace Go.Proofs.Ytidlbhheakhkhaa.rescueCounts
open Go.RowKit Go.ChangeShapes Go.WideShapes Go.ChangeAt
set_option linter.unusedVariables false
set_option maxRecDepth 100000 in
set_option maxHeartbeats 4000000 in
theorem walk (A : Option Addr) (c : Nat) (l : List Sec) (C : Option Addr) (d : Nat) (js : List Job) (t : Int) (w : World) (_hm : l.length ≤ c ∧ c ≤ maxLen) (h : Secs w A l ∧ ∀ x ∈ l, x.I) (hr : l.length * Try.prog.bytesOf 39 ≤ reachBytes) (_hm2 : js.length ≤ d ∧ d ≤ maxLen) (h2 : Jobs w C js ∧ ∀ x ∈ js, x.I) (hr2 : js.length * Try.prog.bytesOf 43 ≤ reachBytes) (_ht : (Lit.int .i64 t).wf = true) : Calls Try.prog 6 #[.slice A l.length c, .slice C js.length d, .int .i64 t] w fun e w' => e = .returned (.bool true) ∧ Below w.heap.size w w' := by
  have hcap := _hm.1
  have h := h.1
  have hr := len_ok hr
  clear _hm
  have ht := i64_of_wf _ht
  clear _ht
  have hd := _hm2.1
  have hI := h2.2
  have h2 := h2.1
  have hr2 := len_ok2 hr2
  clear _hm2
  cases hri : decide (rightOf l = 0) with
  | false =>
    have HRI := Lib.hid hri
    clear hri
    go_enter Try.func6, Try.ntmps6
    go_wp2_with fail
    refine (alive_any _).mono ?_
    rintro e w1 ⟨rfl, hb⟩
    replace h := h.below hb
    have hB := hb
    clear hb
    go_wp2_with fail
    refine (right_any A c l _ (by omega) h).mono ?_
    rintro e w2 ⟨rfl, hb⟩
    replace h := h.below hb
    replace hB := hB.trans (hb.mono hB.size)
    clear hb
    rw [HRI.out]
    clear HRI h
    go_wp2
    go_ret
    exact ⟨rfl, hB⟩
  | true =>
    obtain ⟨hl, hs, hpe, hdf⟩ := right_use (of_decide_eq_true hri)
    have HRI := Lib.hid hri
    have HS := Lib.hid hs
    have HP := Lib.hid hpe
    have HD := Lib.hid hdf
    clear hri hs hpe hdf
    by_cases h40 : 40 < js.length
    · clear HS HP HD
      go_enter Try.func6, Try.ntmps6
      go_wp2_with fail
      refine (alive_any _).mono ?_
      rintro e w1 ⟨rfl, hb⟩
      replace h := h.below hb
      have hB := hb
      clear hb
      go_wp2_with fail
      refine (right_any A c l _ (by omega) h).mono ?_
      rintro e w2 ⟨rfl, hb⟩
      replace h := h.below hb
      replace hB := hB.trans (hb.mono hB.size)
      clear hb
      rw [HRI.out]
      clear HRI h
      go_wp2
      go_ret
      exact ⟨rfl, hB⟩
    · have q1 := fun W hS hJ => Lib.hid (Left_any A C c d l js t hl (by omega) HP.out W hS hJ)
      have q2 := fun W hS hJ => Lib.hid (refLeft_any A C c d l js t hl (by omega) HP.out W hS hJ)
      obtain ⟨b1, b2⟩ := bound_two l hl HS.out t ht
      have B1 := Lib.hid b1
      have B2 := Lib.hid b2
      generalize leftOf l js t = v at *
      generalize boundOf l t = u at *
      clear hI HS HP HD b1 b2
      go_enter Try.func6, Try.ntmps6
      go_wp2_with fail
      refine (alive_any _).mono ?_
      rintro e w1 ⟨rfl, hb⟩
      replace h := h.below hb
      replace h2 := h2.below hb
      have hB := hb
      clear hb
      go_wp2_with fail
      refine (right_any A c l _ (by omega) h).mono ?_
      rintro e w2 ⟨rfl, hb⟩
      replace h := h.below hb
      replace h2 := h2.below hb
      replace hB := hB.trans (hb.mono hB.size)
      clear hb
      rw [HRI.out]
      clear HRI
      go_wp2_with fail
      refine ((q1 _ h h2).out).mono ?_
      rintro e w3 ⟨rfl, hb⟩
      replace h := h.below hb
      replace h2 := h2.below hb
      replace hB := hB.trans (hb.mono hB.size)
      clear hb
      go_wp2_with fail
      refine ((q2 _ h h2).out).mono ?_
      rintro e w4 ⟨rfl, hb⟩
      replace h := h.below hb
      replace h2 := h2.below hb
      replace hB := hB.trans (hb.mono hB.size)
      clear hb
      clear q1 q2 h2
      go_wp2_with fail
      refine (B1.out A c _ h).mono ?_
      rintro e w5 ⟨rfl, hb⟩
      replace h := h.below hb
      replace hB := hB.trans (hb.mono hB.size)
      clear hb
      go_wp2_with fail
      refine (B2.out A c _ h).mono ?_
      rintro e w6 ⟨rfl, hb⟩
      replace h := h.below hb
      replace hB := hB.trans (hb.mono hB.size)
      clear hb
      clear B1 B2 h
      go_wp2
      go_ret
      exact ⟨rfl, hB⟩

set_option maxRecDepth 100000 in
theorem lifted (os : Os) (started : os.Started) (H : Type) (enc : TypeId × Value → H) :
    ReturnsInHanded {} Try.checked os 6 .any (Rows.rescueCountsSpec.pre6 enc Try.prog Try.f6 Rows.rescueCountsRow.domain false) (Rows.rescueCountsSpec.post enc Try.prog Try.f6 false true false false) := by
  refine returnsInHanded_of_change_sized (C := Try.checked) own started (by kernel_rfl) Try.func6
    (ChangeSpec.witness6 (enc := enc) (C := Try.checked) false ⟨#[], #[.slice none 0 0, .slice none 0 0, .int .i64 0], []⟩ 8 (by kernel_rfl) (by kernel_rfl) (by kernel_rfl) (by kernel_rfl)) ?_
  intro W base args ds gs before hval0 hW hcnd hsz0 _
  have hval : ∀ (j : Nat) t v, Try.f6.params[j]? = some t → args[j]? = some v → Value.okWide Try.prog W .any base t v := hval0
  refine law_post laidOut (by kernel_rfl) Try.underlying4 rfl rfl hW (fun hn => ?_) ?_
  · match ds, hn with
    | [_, _, _], _ => rfl
  obtain ⟨p, q, hA0, hV, rfl, _, _⟩ := hW
  have hA : DataW.TrodAll enc Try.prog W 0 (fun _ => true) true Try.f6.params.toList args.toList ds p := hA0
  obtain ⟨rfl, rfl⟩ := trodVars_none hV
  have hsz : (DataW.weightsEach Try.prog (Try.f6.params.toList ++ []) (ds ++ [])).all (· ≤ reachBytes) = true := hsz0
  rw [Try.params6] at hA hval hsz
  obtain ⟨v0, vs0, d0, ds0, p0, q0, hargs, rfl, rfl, h0, r0⟩ := trodAll_cons hA
  obtain ⟨v1, vs1, d1, ds1, p1, q1, rfl, rfl, rfl, h1, r1⟩ := trodAll_cons r0
  obtain ⟨v2, vs2, d2, ds2, p2, q2, rfl, rfl, rfl, h2, r2⟩ := trodAll_cons r1
  obtain ⟨rfl, rfl, rfl⟩ := trodAll_nil r2
  obtain rfl : args = #[v0, v1, v2] := by cases args; simp_all
  obtain ⟨A0, c0, l0, rfl, hm0, hi0, hL0⟩ := open_secs (hval 0 22 v0 rfl rfl) h0
  obtain ⟨A1, c1, l1, rfl, hm1, hi1, hL1⟩ := open_jobs (hval 1 27 v1 rfl rfl) h1
  obtain ⟨x2, rfl, w2⟩ := open_i Try.underlying3 (hval 2 3 v2 rfl rfl) h2
  exact walk A0 c0 l0 A1 c1 l1 x2 W hm0 hi0 (hL0.reach hsz (j := 0) rfl rfl Try.underlying22) hm1 hi1 (hL1.reach hsz (j := 1) rfl rfl Try.underlying27) w2
theorem over : Rows.rescueCountsRow.holds Try.pinned (OpenSpec.ofChange Rows.rescueCountsSpec) :=
  OpenClaim.holds_of_wide 6 Try.f6 rfl rfl rfl rfl rfl rfl rfl ⟨rfl, rfl, rfl, rfl, rfl⟩ rfl rfl rfl rfl rfl (by kernel_rfl) Try.func6 (by kernel_rfl)
    (of_decide_eq_true (by kernel_rfl)) (by unfold Func.isWrapper; first | (rw [if_pos (by decide +kernel)]; kernel_rfl) | (rw [if_neg (by decide +kernel)]; exact ⟨rfl, rfl⟩))
    (fun os started H enc _ => lifted os started H enc)
theorem proved : Rows.RescueCountsSaid := over
#print axioms proved
end Go.Proofs.Ytidlbhheakhkhaa.rescueCounts
