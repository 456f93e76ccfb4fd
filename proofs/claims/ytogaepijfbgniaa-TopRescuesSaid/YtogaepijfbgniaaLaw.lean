/- TopRescues: for every list of sections, number of teams and at most 20 other jobs the plan of a rescue is valid, no valid plan ends earlier, and nobody is left on the line when it ends; no condition. -/
import Derived.Test.YtogaepijfbgniaaLaw0
namespace Go.Proofs.Ytogaepijfbgniaa.topRescues
open Go.RowKit Go.ChangeShapes Go.WideShapes Go.ChangeAt
set_option linter.unusedVariables false
theorem plan_I {l : List Sec} {T : Nat} (hd : Diff l) (hs : ∀ x ∈ l, 1 ≤ x.seconds ∧ x.seconds ≤ 86400) (hl : l.length ≤ 8) (hI : ∀ x ∈ l, x.I) (hT : 1 ≤ T ∧ T ≤ 3) : (∀ j ∈ planJobs l T, j.I) ∧ (planJobs l T).length ≤ 8 ∧ 0 ≤ planEnd l T ∧ planEnd l T ≤ 691200 := by
  have hb := assign_is (need_mem hs) hT.1
  have h2 := endOf_ok (need_mem hs) (assignOf (needOf l) T).best
  have hn := need_length l
  have he : planEnd l T = endOf (needOf l) (assignOf (needOf l) T).best := hb.end_
  rw [← he] at h2
  refine ⟨fun j hj => ?_, by rw [plan_len]; omega, h2.1, by omega⟩
  obtain ⟨s, m3, m4, m5, m6, m7⟩ := (plan_jobs hd hs hT).ok _ hj
  have hx := (need_mem hI s m3).1
  have hss := need_mem hs s m3
  have h3 := (last_le (planJobs l T)).2 _ hj
  rw [plan_end hs hT] at h3
  unfold Job.I
  unfold I64 at *
  omega
set_option maxRecDepth 100000 in
set_option maxHeartbeats 16000000 in
theorem walk (A : Option Addr) (c : Nat) (l : List Sec) (t : Int) (C : Option Addr) (d : Nat) (js : List Job) (w : World) (_hm : l.length ≤ c ∧ c ≤ maxLen) (h : Secs w A l ∧ ∀ x ∈ l, x.I) (hr : l.length * Try.prog.bytesOf 33 ≤ reachBytes) (_ht : (Lit.int .i64 t).wf = true) (_hm2 : js.length ≤ d ∧ d ≤ maxLen) (h2 : Jobs w C js ∧ ∀ x ∈ js, x.I) (hr2 : js.length * Try.prog.bytesOf 35 ≤ reachBytes) : Calls Try.prog 3 #[.slice A l.length c, .int .i64 t, .slice C js.length d] w fun e w' => e = .returned (.bool true) ∧ Below w.heap.size w w' := by
  have hLI := h.2
  have hcap := _hm.1
  have h := h.1
  have hr := len_ok hr
  clear _hm
  have ht := i64_of_wf _ht
  unfold I64 at ht
  clear _ht
  have hd := _hm2.1
  have hI := h2.2
  have h2 := h2.1
  have hr2 := len_ok2 hr2
  clear _hm2
  by_cases hl8 : 8 < l.length
  · clear h h2 hLI hI
    go_enter Try.func3, Try.ntmps3
    go_wp2_with fail
    refine (alive_any _).mono ?_
    rintro e w1 ⟨rfl, hb⟩
    have hB := hb
    clear hb
    go_wp2
    go_ret
    exact ⟨rfl, hB⟩
  · by_cases hj20 : 20 < js.length
    · clear h h2 hLI hI
      go_enter Try.func3, Try.ntmps3
      go_wp2_with fail
      refine (alive_any _).mono ?_
      rintro e w1 ⟨rfl, hb⟩
      have hB := hb
      clear hb
      go_wp2
      go_ret
      exact ⟨rfl, hB⟩
    · have q0 := fun W hS => Lib.hid (refRight_any A c l W (by omega) hS)
      cases hri : (rightOf l != 0) with
      | true =>
        generalize rightOf l = ri at *
        clear h2 hLI hI
        go_enter Try.func3, Try.ntmps3
        go_wp2_with fail
        refine (alive_any _).mono ?_
        rintro e w1 ⟨rfl, hb⟩
        replace h := h.below hb
        have hB := hb
        clear hb
        go_wp2_with fail
        refine ((q0 _ h).out).mono ?_
        rintro e w2 ⟨rfl, hb⟩
        replace h := h.below hb
        replace hB := hB.trans (hb.mono hB.size)
        clear hb
        clear q0 h
        go_wp2
        go_ret
        exact ⟨rfl, hB⟩
      | false =>
        have hr0 : rightOf l = 0 := by simpa using hri
        obtain ⟨hl, hs, hpe, hdf⟩ := right_use hr0
        rw [hr0] at q0
        clear hri hr0
        by_cases ht3 : 1 ≤ t ∧ t ≤ 3
        · obtain ⟨T, rfl⟩ := Int.eq_ofNat_of_zero_le (show 0 ≤ t by omega)
          have hT : 1 ≤ T ∧ T ≤ 3 := by omega
          obtain ⟨p1, p2, p3, p4⟩ := plan_I hdf hs hl hLI hT
          have hv := plan_valid hdf hs hT
          have hbd := plan_bound hdf hs hT
          have z1 := plan_none hdf hs hT
          have z2 := plan_some hdf hs hpe hT
          have HLE := Lib.hid (fun (hv : validOf l (T : Int) js = true) => plan_least hdf hs hT hv)
          have q1 := Lib.hid (fun W hS => Plan_any A c l T hT hl hs W hS)
          have q2 := Lib.hid (fun A' (c' : Nat) W hc hS hJ => Valid_any A A' c c' l (T : Int) (planJobs l T) hl (by omega) hc p1 W hS hJ)
          have q3 := Lib.hid (fun A' (c' : Nat) n W hS hJ => Left_any A A' c c' l (planJobs l T) n hl (by omega) hpe W hS hJ)
          have q4 := Lib.hid (fun W hS => Bound_pos A c l T hT.1 (by omega) hl hs W hS)
          have q5 := Lib.hid (fun W hS hJ => Valid_any A C c d l (T : Int) js hl (by omega) hd hI W hS hJ)
          have hpp := Lib.hid (fun k hk => people_ok hpe k hk)
          have hps := Lib.hid (fun k (hk : k < l.length) => people_succ hk)
          have hpq := Lib.hid (congrArg peopleS (List.take_length (l := l)))
          have hp0 := Lib.hid (show peopleS (l.take 0) = 0 from rfl)
          have hpm := Lib.hid (fun k (hk : k < l.length) => hpe _ (List.getElem_mem hk))
          have hls := Lib.hid (fun k (hk : k < js.length) => last_succ hk)
          have hlq := Lib.hid (congrArg lastOf (List.take_length (l := js)))
          have hl0 := Lib.hid (show lastOf (js.take 0) = 0 from rfl)
          rw [hv] at q2
          have Z1 := Lib.hid z1
          have Z2 := Lib.hid z2
          clear hs hpe hdf hLI hI p1 hv z1 z2
          generalize planJobs l T = ps at *
          generalize planEnd l T = n at *
          generalize boundOf l (T : Int) = bo at *
          have ht1 : ¬ (T : Int) < 1 := by omega
          have ht2 : ¬ 3 < (T : Int) := by omega
          go_enter Try.func3, Try.ntmps3
          go_wp2_with fail
          refine (alive_any _).mono ?_
          rintro e w1 ⟨rfl, hb⟩
          replace h := h.below hb
          replace h2 := h2.below hb
          have hB := hb
          clear hb
          go_wp2_with fail
          refine ((q0 _ h).out).mono ?_
          rintro e w2 ⟨rfl, hb⟩
          replace h := h.below hb
          replace h2 := h2.below hb
          replace hB := hB.trans (hb.mono hB.size)
          clear hb
          clear q0
          go_wp2_with fail
          refine (q1.out _ h).mono ?_
          rintro e w3 ⟨P, cp, rfl, hcp, hj, hb⟩
          replace h := h.below hb
          replace h2 := h2.below hb
          replace hB := hB.trans (hb.mono hB.size)
          clear hb
          go_wp2_with fail
          refine (q2.out P cp _ hcp h hj).mono ?_
          rintro e w4 ⟨rfl, hb⟩
          replace h := h.below hb
          replace h2 := h2.below hb
          replace hj := hj.below hb
          replace hB := hB.trans (hb.mono hB.size)
          clear hb
          have hn1 := q3.out P cp n
          rw [Z1.out] at hn1
          have HN1 := Lib.hid hn1
          clear hn1
          go_wp2_with fail
          refine (HN1.out _ h hj).mono ?_
          rintro e w5 ⟨rfl, hb⟩
          replace h := h.below hb
          replace h2 := h2.below hb
          replace hj := hj.below hb
          replace hB := hB.trans (hb.mono hB.size)
          clear hb
          go_wp2_with fail
          refine (q4.out _ h).mono ?_
          rintro e w6 ⟨rfl, hb⟩
          replace h := h.below hb
          replace h2 := h2.below hb
          replace hj := hj.below hb
          replace hB := hB.trans (hb.mono hB.size)
          clear hb
          have hadw : IntKind.i64.wrap (n - 1) = n - 1 := IntWalk.i64_in _ (by omega)
          clear q1 q2 q4 HN1 Z1
          go_wp2_with fail
          go_loopw [10, 11] (fun v i wr => ∃ k : Nat, k ≤ l.length ∧ i = .int .i64 k ∧ v = .int .i64 (peopleS (l.take k)) ∧ w6 = wr) (fun _ i _ => l.length - (intOf i).toNat)
          case atStart => exact ⟨0, Nat.zero_le _, rfl, by rw [hp0.out], rfl⟩
          case round =>
            obtain ⟨k, hk, rfl, rfl, rfl⟩ := hrel
            by_cases hlt : k < l.length
            · obtain ⟨bb, off, rfl, g0, g1, g2⟩ := h.at hlt
              have hs := hps.out k hlt
              have hok := hpp.out k hk
              have hx1 := hpm.out k hlt
              have Hs := Lib.hid hs
              clear hs
              generalize l[k] = s at *
              generalize peopleS (l.take k) = m at *
              have hadw2 : IntKind.i64.wrap (m + s.people) = m + s.people := IntWalk.i64_in _ (by omega)
              have hkl : (k : Int) < (l.length : Int) := by omega
              go_wp2
              go_roundw
              case rel => exact ⟨k + 1, by omega, by go_num, by rw [Hs.out], trivial⟩
              case measure => simp [intOf]; omega
            · have hke : k = l.length := by omega
              subst hke
              rw [hpq.out]
              clear hpp hps hpm hp0 hpq
              have H2 := Lib.hid (q3.out P cp (n - 1))
              have Z3 := Z2.out
              clear q3 Z2
              generalize peopleS l = pe at *
              by_cases hpos : 0 < pe
              · have z := Z3 hpos
                have z' : ((leftOf l ps (n - 1)) == 0) = false := by simpa using z
                clear z Z3
                go_wp2_with fail
                refine (H2.out _ h hj).mono ?_
                rintro e w7 ⟨rfl, hb⟩
                replace h := h.below hb
                replace h2 := h2.below hb
                replace hB := hB.trans (hb.mono hB.size)
                clear hb
                clear H2 hj
                go_wp2_with fail
                go_loopw [12, 13] (fun v i wr => ∃ k : Nat, k ≤ js.length ∧ i = .int .i64 k ∧ v = .int .i64 (lastOf (js.take k)) ∧ w7 = wr) (fun _ i _ => js.length - (intOf i).toNat)
                case atStart => exact ⟨0, Nat.zero_le _, rfl, by rw [hl0.out], rfl⟩
                case round =>
                  obtain ⟨k, hk, rfl, rfl, rfl⟩ := hrel
                  by_cases hlt : k < js.length
                  · obtain ⟨bb, off, rfl, g0, g1, g2, g3⟩ := h2.at hlt
                    have Hs := Lib.hid (hls.out k hlt)
                    generalize js[k] = x at *
                    generalize lastOf (js.take k) = m at *
                    have hkl : (k : Int) < (js.length : Int) := by omega
                    by_cases hcmp : m < x.to_
                    · have Hs2 := Lib.hid (Hs.out.trans (if_pos hcmp))
                      clear Hs
                      go_wp2
                      go_roundw
                      case rel => exact ⟨k + 1, by omega, by go_num, by rw [Hs2.out], trivial⟩
                      case measure => simp [intOf]; omega
                    · have Hs2 := Lib.hid (Hs.out.trans (if_neg hcmp))
                      have hcmp2 : x.to_ ≤ m := by omega
                      clear Hs hcmp
                      go_wp2
                      go_roundw
                      case rel => exact ⟨k + 1, by omega, by go_num, by rw [Hs2.out], trivial⟩
                      case measure => simp [intOf]; omega
                  · have hke : k = js.length := by omega
                    subst hke
                    rw [hlq.out]
                    clear hls hlq hl0
                    go_wp2_with fail
                    refine (q5.out _ h h2).mono ?_
                    rintro e w8 ⟨rfl, hb⟩
                    replace h := h.below hb
                    replace hB := hB.trans (hb.mono hB.size)
                    clear hb
                    clear q5 h h2
                    cases hvo : validOf l (T : Int) js with
                    | false =>
                      clear HLE
                      go_wp2
                      go_ret
                      exact ⟨rfl, hB⟩
                    | true =>
                      have hn := HLE.out hvo
                      clear hvo HLE
                      go_wp2
                      go_ret
                      exact ⟨by simp, hB⟩
              · clear H2 hj Z3
                go_wp2_with fail
                go_loopw [12, 13] (fun v i wr => ∃ k : Nat, k ≤ js.length ∧ i = .int .i64 k ∧ v = .int .i64 (lastOf (js.take k)) ∧ w6 = wr) (fun _ i _ => js.length - (intOf i).toNat)
                case atStart => exact ⟨0, Nat.zero_le _, rfl, by rw [hl0.out], rfl⟩
                case round =>
                  obtain ⟨k, hk, rfl, rfl, rfl⟩ := hrel
                  by_cases hlt : k < js.length
                  · obtain ⟨bb, off, rfl, g0, g1, g2, g3⟩ := h2.at hlt
                    have Hs := Lib.hid (hls.out k hlt)
                    generalize js[k] = x at *
                    generalize lastOf (js.take k) = m at *
                    have hkl : (k : Int) < (js.length : Int) := by omega
                    by_cases hcmp : m < x.to_
                    · have Hs2 := Lib.hid (Hs.out.trans (if_pos hcmp))
                      clear Hs
                      go_wp2
                      go_roundw
                      case rel => exact ⟨k + 1, by omega, by go_num, by rw [Hs2.out], trivial⟩
                      case measure => simp [intOf]; omega
                    · have Hs2 := Lib.hid (Hs.out.trans (if_neg hcmp))
                      have hcmp2 : x.to_ ≤ m := by omega
                      clear Hs hcmp
                      go_wp2
                      go_roundw
                      case rel => exact ⟨k + 1, by omega, by go_num, by rw [Hs2.out], trivial⟩
                      case measure => simp [intOf]; omega
                  · have hke : k = js.length := by omega
                    subst hke
                    rw [hlq.out]
                    clear hls hlq hl0
                    go_wp2_with fail
                    refine (q5.out _ h h2).mono ?_
                    rintro e w7 ⟨rfl, hb⟩
                    replace h := h.below hb
                    replace hB := hB.trans (hb.mono hB.size)
                    clear hb
                    clear q5 h h2
                    cases hvo : validOf l (T : Int) js with
                    | false =>
                      clear HLE
                      go_wp2
                      go_ret
                      exact ⟨rfl, hB⟩
                    | true =>
                      have hn := HLE.out hvo
                      clear hvo HLE
                      go_wp2
                      go_ret
                      exact ⟨by simp, hB⟩
        · have ho : t < 1 ∨ 1 ≤ t ∧ 3 < t := by omega
          clear hs hpe hdf hLI hI h2
          go_enter Try.func3, Try.ntmps3
          go_wp2_with fail
          refine (alive_any _).mono ?_
          rintro e w1 ⟨rfl, hb⟩
          replace h := h.below hb
          have hB := hb
          clear hb
          go_wp2_with fail
          refine ((q0 _ h).out).mono ?_
          rintro e w2 ⟨rfl, hb⟩
          replace h := h.below hb
          replace hB := hB.trans (hb.mono hB.size)
          clear hb
          clear q0 h
          rcases ho with ho | ⟨ho1, ho⟩
          all_goals
            go_wp2
            go_ret
            exact ⟨rfl, hB⟩

set_option maxRecDepth 100000 in
theorem lifted (os : Os) (started : os.Started) (H : Type) (enc : TypeId × Value → H) :
    ReturnsInHanded {} Try.checked os 3 .any (Rows.topRescuesSpec.pre6 enc Try.prog Try.f3 Rows.topRescuesRow.domain false) (Rows.topRescuesSpec.post enc Try.prog Try.f3 false true false false) := by
  refine returnsInHanded_of_change_sized (C := Try.checked) own started (by kernel_rfl) Try.func3
    (ChangeSpec.witness6 (enc := enc) (C := Try.checked) false ⟨#[], #[.slice none 0 0, .int .i64 0, .slice none 0 0], []⟩ 8 (by kernel_rfl) (by kernel_rfl) (by kernel_rfl) (by kernel_rfl)) ?_
  intro W base args ds gs before hval0 hW hcnd hsz0 _
  have hval : ∀ (j : Nat) t v, Try.f3.params[j]? = some t → args[j]? = some v → Value.okWide Try.prog W .any base t v := hval0
  refine law_post laidOut (by kernel_rfl) Try.underlying4 rfl rfl hW (fun hn => ?_) ?_
  · match ds, hn with
    | [_, _, _], _ => rfl
  obtain ⟨p, q, hA0, hV, rfl, _, _⟩ := hW
  have hA : DataW.TrodAll enc Try.prog W 0 (fun _ => true) true Try.f3.params.toList args.toList ds p := hA0
  obtain ⟨rfl, rfl⟩ := trodVars_none hV
  have hsz : (DataW.weightsEach Try.prog (Try.f3.params.toList ++ []) (ds ++ [])).all (· ≤ reachBytes) = true := hsz0
  rw [Try.params3] at hA hval hsz
  obtain ⟨v0, vs0, d0, ds0, p0, q0, hargs, rfl, rfl, h0, r0⟩ := trodAll_cons hA
  obtain ⟨v1, vs1, d1, ds1, p1, q1, rfl, rfl, rfl, h1, r1⟩ := trodAll_cons r0
  obtain ⟨v2, vs2, d2, ds2, p2, q2, rfl, rfl, rfl, h2, r2⟩ := trodAll_cons r1
  obtain ⟨rfl, rfl, rfl⟩ := trodAll_nil r2
  obtain rfl : args = #[v0, v1, v2] := by cases args; simp_all
  obtain ⟨A0, c0, l0, rfl, hm0, hi0, hL0⟩ := open_secs (hval 0 22 v0 rfl rfl) h0
  obtain ⟨x1, rfl, w1⟩ := open_i Try.underlying3 (hval 1 3 v1 rfl rfl) h1
  obtain ⟨A2, c2, l2, rfl, hm2, hi2, hL2⟩ := open_jobs (hval 2 23 v2 rfl rfl) h2
  exact walk A0 c0 l0 x1 A2 c2 l2 W hm0 hi0 (hL0.reach hsz (j := 0) rfl rfl Try.underlying22) w1 hm2 hi2 (hL2.reach hsz (j := 2) rfl rfl Try.underlying23)
theorem over : Rows.topRescuesRow.holds Try.pinned (OpenSpec.ofChange Rows.topRescuesSpec) :=
  OpenClaim.holds_of_wide 3 Try.f3 rfl rfl rfl rfl rfl rfl rfl ⟨rfl, rfl, rfl, rfl, rfl⟩ rfl rfl rfl rfl rfl (by kernel_rfl) Try.func3 (by kernel_rfl)
    (of_decide_eq_true (by kernel_rfl)) (by unfold Func.isWrapper; first | (rw [if_pos (by decide +kernel)]; kernel_rfl) | (rw [if_neg (by decide +kernel)]; exact ⟨rfl, rfl⟩))
    (fun os started H enc _ => lifted os started H enc)
theorem proved : Rows.TopRescuesSaid := over
#print axioms proved
end Go.Proofs.Ytogaepijfbgniaa.topRescues
