/- RescueLeast: for right sections: Plan is valid, ends when its last job does, at Bound or later, and no valid jobs, at most 40, end earlier; no condition. -/
import Derived.Test.YtidlbhheakhkhaaLaw0
import Derived.Test.YtidlbhheakhkhaaPlain10
namespace Go.Proofs.Ytidlbhheakhkhaa.rescueLeast
open Go.RowKit Go.ChangeShapes Go.WideShapes Go.ChangeAt
set_option linter.unusedVariables false
theorem plan_I {l : List Sec} {T : Nat} (hd : Diff l) (hs : ∀ x ∈ l, 1 ≤ x.seconds ∧ x.seconds ≤ 86400) (hl : l.length ≤ 8) (hI : ∀ x ∈ l, x.I) (hT : 1 ≤ T ∧ T ≤ 3) : (∀ j ∈ planJobs l T, j.I) ∧ (planJobs l T).length ≤ 8 ∧ 0 ≤ planEnd l T ∧ planEnd l T ≤ 691200 := by
  have hb := assign_is (need_mem hs) hT.1
  have h2 := endOf_ok (need_mem hs) (assignOf (needOf l) T).best
  have hn := need_length l
  have he : planEnd l T = endOf (needOf l) (assignOf (needOf l) T).best := hb.end_
  rw [← he] at h2
  refine ⟨fun j hj => ?_, by rw [plan_len]; omega, h2.1, by omega⟩
  obtain ⟨s, m3, m4, m5, m6, m7⟩ := (plan_jobs hd hs hT).ok _ hj
  have hx := (need_mem hI s m3).1
  have hss := need_mem hs s m3
  have h3 := (last_le (planJobs l T)).2 _ hj
  rw [plan_end hs hT] at h3
  unfold Job.I
  unfold I64 at *
  omega
set_option maxRecDepth 100000 in
set_option maxHeartbeats 4000000 in
theorem walk (A : Option Addr) (c : Nat) (l : List Sec) (t : Int) (C : Option Addr) (d : Nat) (js : List Job) (w : World) (_hm : l.length ≤ c ∧ c ≤ maxLen) (h : Secs w A l ∧ ∀ x ∈ l, x.I) (hr : l.length * Try.prog.bytesOf 39 ≤ reachBytes) (_ht : (Lit.int .i64 t).wf = true) (_hm2 : js.length ≤ d ∧ d ≤ maxLen) (h2 : Jobs w C js ∧ ∀ x ∈ js, x.I) (hr2 : js.length * Try.prog.bytesOf 43 ≤ reachBytes) : Calls Try.prog 7 #[.slice A l.length c, .int .i64 t, .slice C js.length d] w fun e w' => e = .returned (.bool true) ∧ Below w.heap.size w w' := by
  have hLI := h.2
  have hcap := _hm.1
  have h := h.1
  have hr := len_ok hr
  clear _hm
  have ht := i64_of_wf _ht
  clear _ht
  have hd := _hm2.1
  have hI := h2.2
  have h2 := h2.1
  have hr2 := len_ok2 hr2
  clear _hm2
  cases hri : decide (rightOf l = 0) with
  | false =>
    have HRI := Lib.hid hri
    clear hri
    go_enter Try.func7, Try.ntmps7
    go_wp2_with fail
    refine (alive_any _).mono ?_
    rintro e w1 ⟨rfl, hb⟩
    replace h := h.below hb
    have hB := hb
    clear hb
    go_wp2_with fail
    refine (right_any A c l _ (by omega) h).mono ?_
    rintro e w2 ⟨rfl, hb⟩
    replace h := h.below hb
    replace hB := hB.trans (hb.mono hB.size)
    clear hb
    rw [HRI.out]
    clear HRI h
    go_wp2
    go_ret
    exact ⟨rfl, hB⟩
  | true =>
    obtain ⟨hl, hs, hpe, hdf⟩ := right_use (of_decide_eq_true hri)
    have HRI := Lib.hid hri
    have HS := Lib.hid hs
    have HP := Lib.hid hpe
    have HD := Lib.hid hdf
    clear hri hs hpe hdf
    by_cases h40 : 40 < js.length
    · clear HS HP HD
      go_enter Try.func7, Try.ntmps7
      go_wp2_with fail
      refine (alive_any _).mono ?_
      rintro e w1 ⟨rfl, hb⟩
      replace h := h.below hb
      have hB := hb
      clear hb
      go_wp2_with fail
      refine (right_any A c l _ (by omega) h).mono ?_
      rintro e w2 ⟨rfl, hb⟩
      replace h := h.below hb
      replace hB := hB.trans (hb.mono hB.size)
      clear hb
      rw [HRI.out]
      clear HRI h
      go_wp2
      go_ret
      exact ⟨rfl, hB⟩
    · by_cases ht3 : 1 ≤ t ∧ t ≤ 3
      · obtain ⟨T, rfl⟩ := Int.eq_ofNat_of_zero_le (show 0 ≤ t by omega)
        have hT : 1 ≤ T ∧ T ≤ 3 := by omega
        obtain ⟨p1, p2, p3, p4⟩ := plan_I HD.out HS.out hl hLI hT
        have hv := plan_valid HD.out HS.out hT
        have he := plan_end HS.out hT
        have hbd := plan_bound HD.out HS.out hT
        have hle := fun (hv : validOf l (T : Int) js = true) => plan_least HD.out HS.out hT hv
        have q1 := Lib.hid (fun c W hS => Plan_any A c l T hT hl HS.out W hS)
        have q2 := Lib.hid (fun A' (c' : Nat) W hc hS hJ => Valid_any A A' c c' l (T : Int) (planJobs l T) hl (by omega) hc p1 W hS hJ)
        have q3 := Lib.hid (fun A' (c' : Nat) W hJ => last_any A' c' (planJobs l T) W (by omega) hJ)
        have q4 := Lib.hid (fun W hS => (bound_two l hl HS.out (T : Int) ht).1 A c W hS)
        have q5 := Lib.hid (fun W hS hJ => Valid_any A C c d l (T : Int) js hl (by omega) hd hI W hS hJ)
        have q6 := Lib.hid (fun W hJ => last_any C d js W (by omega) hJ)
        rw [hv] at q2
        rw [he] at q3
        have HLE := Lib.hid hle
        clear hle hv he p1 HS HP HD hLI hI
        generalize planJobs l T = ps at *
        generalize planEnd l T = n at *
        generalize boundOf l (T : Int) = bo at *
        have ht1 : ¬ (T : Int) < 1 := by omega
        have ht2 : ¬ 3 < (T : Int) := by omega
        go_enter Try.func7, Try.ntmps7
        go_wp2_with fail
        refine (alive_any _).mono ?_
        rintro e w1 ⟨rfl, hb⟩
        replace h := h.below hb
        replace h2 := h2.below hb
        have hB := hb
        clear hb
        go_wp2_with fail
        refine (right_any A c l _ (by omega) h).mono ?_
        rintro e w2 ⟨rfl, hb⟩
        replace h := h.below hb
        replace h2 := h2.below hb
        replace hB := hB.trans (hb.mono hB.size)
        clear hb
        rw [HRI.out]
        clear HRI
        go_wp2_with fail
        refine (q1.out c _ h).mono ?_
        rintro e w3 ⟨P, cp, rfl, hcp, hj, hb⟩
        replace h := h.below hb
        replace h2 := h2.below hb
        replace hB := hB.trans (hb.mono hB.size)
        clear hb
        go_wp2_with fail
        refine (q2.out P cp _ hcp h hj).mono ?_
        rintro e w4 ⟨rfl, hb⟩
        replace h := h.below hb
        replace h2 := h2.below hb
        replace hj := hj.below hb
        replace hB := hB.trans (hb.mono hB.size)
        clear hb
        go_wp2_with fail
        refine (q3.out P cp _ hj).mono ?_
        rintro e w5 ⟨rfl, rfl⟩
        clear hj
        go_wp2_with fail
        refine (q4.out _ h).mono ?_
        rintro e w6 ⟨rfl, hb⟩
        replace h := h.below hb
        replace h2 := h2.below hb
        replace hB := hB.trans (hb.mono hB.size)
        clear hb
        go_wp2_with fail
        refine (q5.out _ h h2).mono ?_
        rintro e w7 ⟨rfl, hb⟩
        replace h := h.below hb
        replace h2 := h2.below hb
        replace hB := hB.trans (hb.mono hB.size)
        clear hb
        clear q1 q2 q3 q4 q5 h
        cases hvo : validOf l (T : Int) js with
        | false =>
          clear HLE q6 h2
          go_wp2
          go_ret
          exact ⟨rfl, hB⟩
        | true =>
          have hn := HLE.out hvo
          clear hvo HLE
          go_wp2_with fail
          refine (q6.out _ h2).mono ?_
          rintro e w8 ⟨rfl, rfl⟩
          clear q6 h2
          go_wp2
          go_ret
          exact ⟨by simp, hB⟩
      · have q1 := Lib.hid (fun c W => Plan_out A c l.length t (by omega) W)
        have ho : t < 1 ∨ 1 ≤ t ∧ 3 < t := by omega
        clear HS HP HD hI hLI
        go_enter Try.func7, Try.ntmps7
        go_wp2_with fail
        refine (alive_any _).mono ?_
        rintro e w1 ⟨rfl, hb⟩
        replace h := h.below hb
        have hB := hb
        clear hb
        go_wp2_with fail
        refine (right_any A c l _ (by omega) h).mono ?_
        rintro e w2 ⟨rfl, hb⟩
        replace h := h.below hb
        replace hB := hB.trans (hb.mono hB.size)
        clear hb
        rw [HRI.out]
        clear HRI
        go_wp2_with fail
        refine (q1.out c _).mono ?_
        rintro e w3 ⟨P, cp, rfl, hcp, hj, hb⟩
        replace h := h.below hb
        replace hB := hB.trans (hb.mono hB.size)
        clear hb
        clear q1 h hj
        rcases ho with ho | ⟨ho1, ho⟩
        all_goals
          go_wp2
          go_ret
          exact ⟨rfl, hB⟩

set_option maxRecDepth 100000 in
theorem lifted (os : Os) (started : os.Started) (H : Type) (enc : TypeId × Value → H) :
    ReturnsInHanded {} Try.checked os 7 .any (Rows.rescueLeastSpec.pre6 enc Try.prog Try.f7 Rows.rescueLeastRow.domain false) (Rows.rescueLeastSpec.post enc Try.prog Try.f7 false true false false) := by
  refine returnsInHanded_of_change_sized (C := Try.checked) own started (by kernel_rfl) Try.func7
    (ChangeSpec.witness6 (enc := enc) (C := Try.checked) false ⟨#[], #[.slice none 0 0, .int .i64 0, .slice none 0 0], []⟩ 8 (by kernel_rfl) (by kernel_rfl) (by kernel_rfl) (by kernel_rfl)) ?_
  intro W base args ds gs before hval0 hW hcnd hsz0 _
  have hval : ∀ (j : Nat) t v, Try.f7.params[j]? = some t → args[j]? = some v → Value.okWide Try.prog W .any base t v := hval0
  refine law_post laidOut (by kernel_rfl) Try.underlying4 rfl rfl hW (fun hn => ?_) ?_
  · match ds, hn with
    | [_, _, _], _ => rfl
  obtain ⟨p, q, hA0, hV, rfl, _, _⟩ := hW
  have hA : DataW.TrodAll enc Try.prog W 0 (fun _ => true) true Try.f7.params.toList args.toList ds p := hA0
  obtain ⟨rfl, rfl⟩ := trodVars_none hV
  have hsz : (DataW.weightsEach Try.prog (Try.f7.params.toList ++ []) (ds ++ [])).all (· ≤ reachBytes) = true := hsz0
  rw [Try.params7] at hA hval hsz
  obtain ⟨v0, vs0, d0, ds0, p0, q0, hargs, rfl, rfl, h0, r0⟩ := trodAll_cons hA
  obtain ⟨v1, vs1, d1, ds1, p1, q1, rfl, rfl, rfl, h1, r1⟩ := trodAll_cons r0
  obtain ⟨v2, vs2, d2, ds2, p2, q2, rfl, rfl, rfl, h2, r2⟩ := trodAll_cons r1
  obtain ⟨rfl, rfl, rfl⟩ := trodAll_nil r2
  obtain rfl : args = #[v0, v1, v2] := by cases args; simp_all
  obtain ⟨A0, c0, l0, rfl, hm0, hi0, hL0⟩ := open_secs (hval 0 22 v0 rfl rfl) h0
  obtain ⟨x1, rfl, w1⟩ := open_i Try.underlying3 (hval 1 3 v1 rfl rfl) h1
  obtain ⟨A2, c2, l2, rfl, hm2, hi2, hL2⟩ := open_jobs (hval 2 27 v2 rfl rfl) h2
  exact walk A0 c0 l0 x1 A2 c2 l2 W hm0 hi0 (hL0.reach hsz (j := 0) rfl rfl Try.underlying22) w1 hm2 hi2 (hL2.reach hsz (j := 2) rfl rfl Try.underlying27)
theorem over : Rows.rescueLeastRow.holds Try.pinned (OpenSpec.ofChange Rows.rescueLeastSpec) :=
  OpenClaim.holds_of_wide 7 Try.f7 rfl rfl rfl rfl rfl rfl rfl ⟨rfl, rfl, rfl, rfl, rfl⟩ rfl rfl rfl rfl rfl (by kernel_rfl) Try.func7 (by kernel_rfl)
    (of_decide_eq_true (by kernel_rfl)) (by unfold Func.isWrapper; first | (rw [if_pos (by decide +kernel)]; kernel_rfl) | (rw [if_neg (by decide +kernel)]; exact ⟨rfl, rfl⟩))
    (fun os started H enc _ => lifted os started H enc)
theorem proved : Rows.RescueLeastSaid := over
#print axioms proved
end Go.Proofs.Ytidlbhheakhkhaa.rescueLeast
