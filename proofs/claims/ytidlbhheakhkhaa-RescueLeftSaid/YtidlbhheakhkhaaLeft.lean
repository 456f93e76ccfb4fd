/- RescueLeft: for right sections and one to three teams nobody is left at the end of Plan, and one second before somebody is; Left does not increase with the time; no condition. -/
import Derived.Test.YtidlbhheakhkhaaLaw0
import Derived.Test.YtidlbhheakhkhaaPlain10
import Derived.Test.YtidlbhheakhkhaaAbove
namespace Go.Proofs.Ytidlbhheakhkhaa.rescueLeft
open Go.RowKit Go.ChangeShapes Go.WideShapes Go.ChangeAt
set_option linter.unusedVariables false
theorem plan_I {l : List Sec} {T : Nat} (hd : Diff l) (hs : ∀ x ∈ l, 1 ≤ x.seconds ∧ x.seconds ≤ 86400) (hl : l.length ≤ 8) (hI : ∀ x ∈ l, x.I) (hT : 1 ≤ T ∧ T ≤ 3) : (∀ j ∈ planJobs l T, j.I) ∧ (planJobs l T).length ≤ 8 ∧ 0 ≤ planEnd l T ∧ planEnd l T ≤ 691200 := by
  have hb := assign_is (need_mem hs) hT.1
  have h2 := endOf_ok (need_mem hs) (assignOf (needOf l) T).best
  have hn := need_length l
  have he : planEnd l T = endOf (needOf l) (assignOf (needOf l) T).best := hb.end_
  rw [← he] at h2
  refine ⟨fun j hj => ?_, by rw [plan_len]; omega, h2.1, by omega⟩
  obtain ⟨s, m3, m4, m5, m6, m7⟩ := (plan_jobs hd hs hT).ok _ hj
  have hx := (need_mem hI s m3).1
  have hss := need_mem hs s m3
  have h3 := (last_le (planJobs l T)).2 _ hj
  rw [plan_end hs hT] at h3
  unfold Job.I
  unfold I64 at *
  omega
set_option maxRecDepth 100000 in
set_option maxHeartbeats 8000000 in
theorem walk (A : Option Addr) (c : Nat) (l : List Sec) (t x y : Int) (w : World) (_hm : l.length ≤ c ∧ c ≤ maxLen) (h : Secs w A l ∧ ∀ x ∈ l, x.I) (hr : l.length * Try.prog.bytesOf 39 ≤ reachBytes) (_ht : (Lit.int .i64 t).wf = true) (_hx : (Lit.int .i64 x).wf = true) (_hy : (Lit.int .i64 y).wf = true) : Calls Try.prog 8 #[.slice A l.length c, .int .i64 t, .agg #[.int .i64 x, .int .i64 y]] w fun e w' => e = .returned (.bool true) ∧ Below w.heap.size w w' := by
  have hLI := h.2
  have hcap := _hm.1
  have h := h.1
  have hr := len_ok hr
  clear _hm
  have ht := i64_of_wf _ht
  clear _ht _hx _hy
  have hka := below_alloc w (.cells #[.int .i64 x, .int .i64 y] 37)
  have hKX := Blk.new w #[.int .i64 x, .int .i64 y] 37
  have hB := hka
  replace h := h.below hka
  clear hka
  cases hri : decide (rightOf l = 0) with
  | false =>
    have HRI := Lib.hid hri
    clear hri
    go_enter Try.func8, Try.ntmps8
    go_wp2_with fail
    refine (alive_any _).mono ?_
    rintro e w1 ⟨rfl, hb⟩
    replace h := h.below hb
    replace hB := hB.trans (hb.mono hB.size)
    clear hb
    go_wp2_with fail
    refine (right_any A c l _ (by omega) h).mono ?_
    rintro e w2 ⟨rfl, hb⟩
    replace h := h.below hb
    replace hB := hB.trans (hb.mono hB.size)
    clear hb
    rw [HRI.out]
    clear HRI h
    go_wp2
    go_ret
    exact ⟨rfl, hB⟩
  | true =>
    obtain ⟨hl, hs, hpe, hdf⟩ := right_use (of_decide_eq_true hri)
    have HRI := Lib.hid hri
    have HS := Lib.hid hs
    have HP := Lib.hid hpe
    have HD := Lib.hid hdf
    clear hri hs hpe hdf
    by_cases ht3 : 1 ≤ t ∧ t ≤ 3
    · obtain ⟨T, rfl⟩ := Int.eq_ofNat_of_zero_le (show 0 ≤ t by omega)
      have hT : 1 ≤ T ∧ T ≤ 3 := by omega
      obtain ⟨p1, p2, p3, p4⟩ := plan_I HD.out HS.out hl hLI hT
      have z1 := plan_none HD.out HS.out hT
      have z2 := plan_some HD.out HS.out HP.out hT
      have z3 := plan_start HD.out HS.out hT
      have z4 := fun n => left_nil l n
      have z5 := fun a b (hab : a ≤ b) => left_mono l HP.out (planJobs l T) hab
      have q1 := Lib.hid (fun c W hS => Plan_any A c l T hT hl HS.out W hS)
      have q2 := Lib.hid (fun A' (c' : Nat) n W hS hJ => Left_any A A' c c' l (planJobs l T) n hl (by omega) HP.out W hS hJ)
      have q3 := Lib.hid (fun n W hS => Left_any A none c 0 l [] n hl (by simp) HP.out W hS (Jobs.nil _ _))
      have hpp := Lib.hid (fun k hk => people_ok HP.out k hk)
      have hps := Lib.hid (fun k (hk : k < l.length) => people_succ hk)
      have hpe := Lib.hid (congrArg peopleS (List.take_length (l := l)))
      have hp0 := Lib.hid (show peopleS (l.take 0) = 0 from rfl)
      have hpm := Lib.hid (fun k (hk : k < l.length) => HP.out _ (List.getElem_mem hk))
      clear HS HP HD hLI p1
      have ht1 : ¬ (T : Int) < 1 := by omega
      have ht2 : ¬ 3 < (T : Int) := by omega
      have Z := Lib.hid (And.intro z1 (And.intro z2 (And.intro z3 (And.intro z4 z5))))
      clear z1 z2 z3 z4 z5
      generalize planJobs l T = ps at *
      generalize planEnd l T = n at *
      go_enter Try.func8, Try.ntmps8
      go_wp2_with fail
      refine (alive_any _).mono ?_
      rintro e w1 ⟨rfl, hb⟩
      replace h := h.below hb
      replace hKX := hKX.below hb
      replace hB := hB.trans (hb.mono hB.size)
      clear hb
      go_wp2_with fail
      refine (right_any A c l _ (by omega) h).mono ?_
      rintro e w2 ⟨rfl, hb⟩
      replace h := h.below hb
      replace hKX := hKX.below hb
      replace hB := hB.trans (hb.mono hB.size)
      clear hb
      rw [HRI.out]
      clear HRI
      go_wp2_with fail
      refine (q1.out c _ h).mono ?_
      rintro e w3 ⟨P, cp, rfl, hcp, hj, hb⟩
      replace h := h.below hb
      replace hKX := hKX.below hb
      replace hB := hB.trans (hb.mono hB.size)
      clear hb
      clear q1
      go_wp2_with fail
      go_loopw [10, 11] (fun v i wr => ∃ k : Nat, k ≤ l.length ∧ i = .int .i64 k ∧ v = .int .i64 (peopleS (l.take k)) ∧ w3 = wr) (fun _ i _ => l.length - (intOf i).toNat)
      case atStart => exact ⟨0, Nat.zero_le _, rfl, by rw [hp0.out], rfl⟩
      case round =>
        obtain ⟨k, hk, rfl, rfl, rfl⟩ := hrel
        by_cases hlt : k < l.length
        · obtain ⟨bb, off, rfl, g0, g1, g2⟩ := h.at hlt
          have hs := hps.out k hlt
          have hok := hpp.out k hk
          have hx1 := hpm.out k hlt
          have Hs := Lib.hid hs
          clear hs
          generalize l[k] = s at *
          generalize peopleS (l.take k) = m at *
          have hadw : IntKind.i64.wrap (m + s.people) = m + s.people := IntWalk.i64_in _ (by omega)
          have hkl : (k : Int) < (l.length : Int) := by omega
          go_wp2
          go_roundw
          case rel => exact ⟨k + 1, by omega, by go_num, by rw [Hs.out], trivial⟩
          case measure => simp [intOf]; omega
        · have hke : k = l.length := by omega
          subst hke
          rw [hpe.out]
          have hok := hpp.out l.length (Nat.le_refl _)
          rw [hpe.out] at hok
          obtain ⟨z1, z2, z3, z4, z5⟩ := Z.out
          clear Z hpp hps hpm hp0 hpe
          generalize hpe : peopleS l = pe at *
          have Z5 := Lib.hid z5
          have h1 := Lib.hid (q2.out P cp n)
          have h2 := Lib.hid (q2.out P cp (n - 1))
          have h3 := Lib.hid (q2.out P cp 0)
          have h4 := Lib.hid (q3.out n)
          rw [z1] at h1
          rw [z3] at h3
          rw [z4] at h4
          clear z1 z3 z4 z5 q3 hpe
          have hadw : IntKind.i64.wrap (n - 1) = n - 1 := IntWalk.i64_in _ (by omega)
          go_wp2_with fail
          refine (h1.out _ h hj).mono ?_
          rintro e w4 ⟨rfl, hb⟩
          replace h := h.below hb
          replace hKX := hKX.below hb
          replace hj := hj.below hb
          replace hB := hB.trans (hb.mono hB.size)
          clear hb
          by_cases hpos : 0 < pe
          · have z := z2 hpos
            clear z2
            have z' : ((leftOf l ps (n - 1)) == 0) = false := by simpa using z
            clear z
            go_wp2_with fail
            refine (h2.out _ h hj).mono ?_
            rintro e w5 ⟨rfl, hb⟩
            replace h := h.below hb
            replace hKX := hKX.below hb
            replace hj := hj.below hb
            replace hB := hB.trans (hb.mono hB.size)
            clear hb
            go_wp2_with fail
            refine (h4.out _ h).mono ?_
            rintro e w6 ⟨rfl, hb⟩
            replace h := h.below hb
            replace hKX := hKX.below hb
            replace hj := hj.below hb
            replace hB := hB.trans (hb.mono hB.size)
            clear hb
            go_wp2_with fail
            refine (h3.out _ h hj).mono ?_
            rintro e w7 ⟨rfl, hb⟩
            replace h := h.below hb
            replace hKX := hKX.below hb
            replace hj := hj.below hb
            replace hB := hB.trans (hb.mono hB.size)
            clear hb
            clear h1 h2 h3 h4
            have k0 := fun z => above_cell (w := w7) (hKX.cell 0 (v := .int .i64 x) rfl) z
            have k1 := fun z => above_cell (w := w7) (hKX.cell 1 (v := .int .i64 y) rfl) z
            have hv := fun n (z : Above w7) => Lib.hid (q2.out P cp n z.val (h.below z.kept) (hj.below z.kept))
            have HB := Lib.hid hB
            clear h hj q2 hKX hB
            go_wp2_with fail
            rcases (show x ≤ y ∨ y < x by omega) with hxy | hxy
            · have hz := Lib.hid (Z5.out x y hxy)
              clear Z5
              refine wp_region_above (by kernel_rfl) (by kernel_rfl) ?_
              repeat (go_big_quiet_step ((go_at_call 19; exact above_call (hv _ _).out)))
              refine wpQuiet_nil ?_
              rintro _ ⟨z, rfl⟩
              obtain ⟨z, hz2⟩ := z
              go_wp2
              all_goals
                go_ret
                exact ⟨by first | (simp [hz.out]; done) | ((obtain rfl : x = y := by omega); simp), HB.out.trans (hz2.mono HB.out.size)⟩
            · have hz := Lib.hid (Z5.out y x (Int.le_of_lt hxy))
              clear Z5
              refine wp_region_above (by kernel_rfl) (by kernel_rfl) ?_
              repeat (go_big_quiet_step ((go_at_call 19; exact above_call (hv _ _).out)))
              refine wpQuiet_nil ?_
              rintro _ ⟨z, rfl⟩
              obtain ⟨z, hz2⟩ := z
              go_wp2
              all_goals
                go_ret
                exact ⟨by first | (simp [hz.out]; done) | ((obtain rfl : x = y := by omega); simp), HB.out.trans (hz2.mono HB.out.size)⟩
          · clear z2
            go_wp2_with fail
            refine (h4.out _ h).mono ?_
            rintro e w5 ⟨rfl, hb⟩
            replace h := h.below hb
            replace hKX := hKX.below hb
            replace hj := hj.below hb
            replace hB := hB.trans (hb.mono hB.size)
            clear hb
            go_wp2_with fail
            refine (h3.out _ h hj).mono ?_
            rintro e w6 ⟨rfl, hb⟩
            replace h := h.below hb
            replace hKX := hKX.below hb
            replace hj := hj.below hb
            replace hB := hB.trans (hb.mono hB.size)
            clear hb
            clear h1 h2 h3 h4
            have k0 := fun z => above_cell (w := w6) (hKX.cell 0 (v := .int .i64 x) rfl) z
            have k1 := fun z => above_cell (w := w6) (hKX.cell 1 (v := .int .i64 y) rfl) z
            have hv := fun n (z : Above w6) => Lib.hid (q2.out P cp n z.val (h.below z.kept) (hj.below z.kept))
            have HB := Lib.hid hB
            clear h hj q2 hKX hB
            go_wp2_with fail
            rcases (show x ≤ y ∨ y < x by omega) with hxy | hxy
            · have hz := Lib.hid (Z5.out x y hxy)
              clear Z5
              refine wp_region_above (by kernel_rfl) (by kernel_rfl) ?_
              repeat (go_big_quiet_step ((go_at_call 19; exact above_call (hv _ _).out)))
              refine wpQuiet_nil ?_
              rintro _ ⟨z, rfl⟩
              obtain ⟨z, hz2⟩ := z
              go_wp2
              all_goals
                go_ret
                exact ⟨by first | (simp [hz.out]; done) | ((obtain rfl : x = y := by omega); simp), HB.out.trans (hz2.mono HB.out.size)⟩
            · have hz := Lib.hid (Z5.out y x (Int.le_of_lt hxy))
              clear Z5
              refine wp_region_above (by kernel_rfl) (by kernel_rfl) ?_
              repeat (go_big_quiet_step ((go_at_call 19; exact above_call (hv _ _).out)))
              refine wpQuiet_nil ?_
              rintro _ ⟨z, rfl⟩
              obtain ⟨z, hz2⟩ := z
              go_wp2
              all_goals
                go_ret
                exact ⟨by first | (simp [hz.out]; done) | ((obtain rfl : x = y := by omega); simp), HB.out.trans (hz2.mono HB.out.size)⟩
    · have ho : t < 1 ∨ 1 ≤ t ∧ 3 < t := by omega
      clear HS HP HD hLI
      go_enter Try.func8, Try.ntmps8
      go_wp2_with fail
      refine (alive_any _).mono ?_
      rintro e w1 ⟨rfl, hb⟩
      replace h := h.below hb
      replace hB := hB.trans (hb.mono hB.size)
      clear hb
      go_wp2_with fail
      refine (right_any A c l _ (by omega) h).mono ?_
      rintro e w2 ⟨rfl, hb⟩
      replace h := h.below hb
      replace hB := hB.trans (hb.mono hB.size)
      clear hb
      rw [HRI.out]
      clear HRI h
      rcases ho with ho | ⟨ho1, ho⟩
      all_goals
        go_wp2
        go_ret
        exact ⟨rfl, hB⟩

set_option maxRecDepth 100000 in
theorem lifted (os : Os) (started : os.Started) (H : Type) (enc : TypeId × Value → H) :
    ReturnsInHanded {} Try.checked os 8 .any (Rows.rescueLeftSpec.pre6 enc Try.prog Try.f8 Rows.rescueLeftRow.domain false) (Rows.rescueLeftSpec.post enc Try.prog Try.f8 false true false false) := by
  refine returnsInHanded_of_change_sized (C := Try.checked) own started (by kernel_rfl) Try.func8
    (ChangeSpec.witness6 (enc := enc) (C := Try.checked) false ⟨#[], #[.slice none 0 0, .int .i64 0, .agg #[.int .i64 0, .int .i64 0]], []⟩ 8 (by kernel_rfl) (by kernel_rfl) (by kernel_rfl) (by kernel_rfl)) ?_
  intro W base args ds gs before hval0 hW hcnd hsz0 _
  have hval : ∀ (j : Nat) t v, Try.f8.params[j]? = some t → args[j]? = some v → Value.okWide Try.prog W .any base t v := hval0
  refine law_post laidOut (by kernel_rfl) Try.underlying4 rfl rfl hW (fun hn => ?_) ?_
  · match ds, hn with
    | [_, _, _], _ => rfl
  obtain ⟨p, q, hA0, hV, rfl, _, _⟩ := hW
  have hA : DataW.TrodAll enc Try.prog W 0 (fun _ => true) true Try.f8.params.toList args.toList ds p := hA0
  obtain ⟨rfl, rfl⟩ := trodVars_none hV
  have hsz : (DataW.weightsEach Try.prog (Try.f8.params.toList ++ []) (ds ++ [])).all (· ≤ reachBytes) = true := hsz0
  rw [Try.params8] at hA hval hsz
  obtain ⟨v0, vs0, d0, ds0, p0, q0, hargs, rfl, rfl, h0, r0⟩ := trodAll_cons hA
  obtain ⟨v1, vs1, d1, ds1, p1, q1, rfl, rfl, rfl, h1, r1⟩ := trodAll_cons r0
  obtain ⟨v2, vs2, d2, ds2, p2, q2, rfl, rfl, rfl, h2, r2⟩ := trodAll_cons r1
  obtain ⟨rfl, rfl, rfl⟩ := trodAll_nil r2
  obtain rfl : args = #[v0, v1, v2] := by cases args; simp_all
  obtain ⟨A0, c0, l0, rfl, hm0, hi0, hL0⟩ := open_secs (hval 0 22 v0 rfl rfl) h0
  obtain ⟨x1, rfl, w1⟩ := open_i Try.underlying3 (hval 1 3 v1 rfl rfl) h1
  obtain ⟨x2, y2, rfl, w2, z2⟩ := open_arr2 Try.underlying37 Try.underlying3 (by kernel_rfl) (by kernel_rfl) (hval 2 37 v2 rfl rfl) h2
  exact walk A0 c0 l0 x1 x2 y2 W hm0 hi0 (hL0.reach hsz (j := 0) rfl rfl Try.underlying22) w1 w2 z2
theorem over : Rows.rescueLeftRow.holds Try.pinned (OpenSpec.ofChange Rows.rescueLeftSpec) :=
  OpenClaim.holds_of_wide 8 Try.f8 rfl rfl rfl rfl rfl rfl rfl ⟨rfl, rfl, rfl, rfl, rfl⟩ rfl rfl rfl rfl rfl (by kernel_rfl) Try.func8 (by kernel_rfl)
    (of_decide_eq_true (by kernel_rfl)) (by unfold Func.isWrapper; first | (rw [if_pos (by decide +kernel)]; kernel_rfl) | (rw [if_neg (by decide +kernel)]; exact ⟨rfl, rfl⟩))
    (fun os started H enc _ => lifted os started H enc)
theorem proved : Rows.RescueLeftSaid := over
#print axioms proved
end Go.Proofs.Ytidlbhheakhkhaa.rescueLeft
