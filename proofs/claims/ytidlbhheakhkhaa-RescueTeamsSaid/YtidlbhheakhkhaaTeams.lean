/- RescueTeams: for right sections: with more teams the end is not later, one team needs the sum of all seconds, sections without persons do not matter; no condition. -/
import Derived.Test.YtidlbhheakhkhaaLaw0
import Derived.Test.YtidlbhheakhkhaaPlain10
namespace Go.Proofs.Ytidlbhheakhkhaa.rescueTeams
open Go.RowKit Go.ChangeShapes Go.WideShapes Go.ChangeAt
set_option linter.unusedVariables false
theorem plan_I {l : List Sec} {T : Nat} (hd : Diff l) (hs : ∀ x ∈ l, 1 ≤ x.seconds ∧ x.seconds ≤ 86400) (hl : l.length ≤ 8) (hI : ∀ x ∈ l, x.I) (hT : 1 ≤ T ∧ T ≤ 3) : (∀ j ∈ planJobs l T, j.I) ∧ (planJobs l T).length ≤ 8 ∧ 0 ≤ planEnd l T ∧ planEnd l T ≤ 691200 := by
  have hb := assign_is (need_mem hs) hT.1
  have h2 := endOf_ok (need_mem hs) (assignOf (needOf l) T).best
  have hn := need_length l
  have he : planEnd l T = endOf (needOf l) (assignOf (needOf l) T).best := hb.end_
  rw [← he] at h2
  refine ⟨fun j hj => ?_, by rw [plan_len]; omega, h2.1, by omega⟩
  obtain ⟨s, m3, m4, m5, m6, m7⟩ := (plan_jobs hd hs hT).ok _ hj
  have hx := (need_mem hI s m3).1
  have hss := need_mem hs s m3
  have h3 := (last_le (planJobs l T)).2 _ hj
  rw [plan_end hs hT] at h3
  unfold Job.I
  unfold I64 at *
  omega
theorem sum_app (a : List Sec) (x : Sec) : sumS (a ++ [x]) = sumS a + x.seconds := by
  unfold sumS
  rw [List.foldl_append]
  rfl
set_option maxRecDepth 100000 in
set_option maxHeartbeats 8000000 in
theorem walk (A : Option Addr) (c : Nat) (l : List Sec) (w : World) (_hm : l.length ≤ c ∧ c ≤ maxLen) (h : Secs w A l ∧ ∀ x ∈ l, x.I) (hr : l.length * Try.prog.bytesOf 39 ≤ reachBytes) : Calls Try.prog 9 #[.slice A l.length c] w fun e w' => e = .returned (.bool true) ∧ Below w.heap.size w w' := by
  have hLI := h.2
  have hcap := _hm.1
  have h := h.1
  have hr := len_ok hr
  clear _hm
  cases hri : decide (rightOf l = 0) with
  | false =>
    have HRI := Lib.hid hri
    clear hri
    go_enter Try.func9, Try.ntmps9
    go_wp2_with fail
    refine (alive_any _).mono ?_
    rintro e w1 ⟨rfl, hb⟩
    replace h := h.below hb
    have hB := hb
    clear hb
    go_wp2_with fail
    refine (right_any A c l _ (by omega) h).mono ?_
    rintro e w2 ⟨rfl, hb⟩
    replace h := h.below hb
    replace hB := hB.trans (hb.mono hB.size)
    clear hb
    rw [HRI.out]
    clear HRI h
    go_wp2
    go_ret
    exact ⟨rfl, hB⟩
  | true =>
    obtain ⟨hl, hs, hpe, hdf⟩ := right_use (of_decide_eq_true hri)
    have HRI := Lib.hid hri
    have HS := Lib.hid hs
    have HP := Lib.hid hpe
    have HD := Lib.hid hdf
    clear hri hs hpe hdf
    have p1 := plan_len l 1
    have p2 := plan_len l 2
    have p3 := plan_len l 3
    have e1 := plan_one HS.out
    have m2 := plan_more HS.out (T := 1) (U := 2) (by omega) (by omega)
    have m3 := plan_more HS.out (T := 2) (U := 3) (by omega) (by omega)
    have hb1 := bound_one HS.out
    have q1 := Lib.hid (fun c W hS => Plan_any A c l 1 (by omega) hl HS.out W hS)
    have q2 := Lib.hid (fun c W hS => Plan_any A c l 2 (by omega) hl HS.out W hS)
    have q3 := Lib.hid (fun c W hS => Plan_any A c l 3 (by omega) hl HS.out W hS)
    have hnl := need_length l
    have q4 := Lib.hid (fun A' c' W hS => Plan_any A' c' (needOf l) 2 (by omega) (by omega) (need_mem HS.out) W hS)
    rw [plan_need] at q4
    have q5 := Lib.hid (fun W hS => Bound_pos A c l 1 (by omega) (by omega) hl HS.out W hS)
    have e5 : boundOf l ((1 : Nat) : Int) = sumS (needOf l) := hb1
    rw [e5] at q5
    clear hb1 e5
    have hsok := Lib.hid (fun k (hk : k ≤ l.length) => by
      have h1 := sum_ok (need_mem (l := l.take k) (fun x hx => HS.out x (List.mem_of_mem_take hx))) (needOf (l.take k)).length (Nat.le_refl _)
      rw [List.take_length] at h1
      have h2 := need_length (l.take k)
      rw [List.length_take] at h2
      exact (show 0 ≤ sumS (needOf (l.take k)) ∧ sumS (needOf (l.take k)) ≤ 86400 * 8 by omega))
    have hns := Lib.hid (fun k (hk : k < l.length) => need_succ hk)
    have hpm := Lib.hid (fun k (hk : k < l.length) => And.intro (HP.out _ (List.getElem_mem hk)) (HS.out _ (List.getElem_mem hk)))
    have hfin := Lib.hid (List.take_length (l := l))
    have hdl := Lib.hid (fun k => need_length (l.take k))
    clear HS HP HD hLI
    go_enter Try.func9, Try.ntmps9
    go_wp2_with fail
    refine (alive_any _).mono ?_
    rintro e w1 ⟨rfl, hb⟩
    replace h := h.below hb
    have hB := hb
    clear hb
    go_wp2_with fail
    refine (right_any A c l _ (by omega) h).mono ?_
    rintro e w2 ⟨rfl, hb⟩
    replace h := h.below hb
    replace hB := hB.trans (hb.mono hB.size)
    clear hb
    rw [HRI.out]
    clear HRI
    have HBB := Lib.hid hB
    clear hB
    go_wp2_with fail
    go_loopw [3, 4, 5] (fun v s i wr => ∃ (k : Nat), k ≤ l.length ∧ i = .int .i64 k ∧ s = .int .i64 (sumS (needOf (l.take k))) ∧ OwnR wr w2.heap.size 39 3 v ((needOf (l.take k)).map Sec.row) ∧ Below w2.heap.size w2 wr) (fun _ _ i _ => l.length - (intOf i).toNat)
    case atStart => exact ⟨0, Nat.zero_le _, rfl, rfl, OwnR.nil _ _ _ _, Below.refl _ _⟩
    case round =>
      obtain ⟨k, hk, rfl, rfl, hown, hb⟩ := hrel
      by_cases hlt : k < l.length
      · obtain ⟨b, off, rfl, g0, g1, g2⟩ := (h.below hb).at hlt
        have Hat := Lib.hid (fun W (hW : Below w2.heap.size w2 W) => (h.below hW).at hlt)
        have hs := hns.out k hlt
        have hx := hpm.out k hlt
        have hso := hsok.out k hk
        have hdk := hdl.out k
        have Hdl : (needOf (l.take k)).length ≤ 1000000 := Nat.le_trans hdk (by simp; omega)
        have Hs := Lib.hid hs
        have hkl : (k : Int) < (l.length : Int) := by omega
        clear hs hns hpm hsok hfin hdl hdk
        generalize l[k] = x at *
        by_cases hp : x.people = 0
        · rw [if_neg (by simp [hp])] at Hs
          go_wp2
          go_roundw
          case rel => exact ⟨k + 1, by omega, by go_num, by rw [Hs.out], by rw [Hs.out]; exact hown, hb⟩
          case measure => simp [intOf]; omega
        · have hp' : (x.people != 0) = true := by simpa using hp
          have hp0 : 0 < x.people := by omega
          rw [if_pos hp'] at Hs
          clear hp hp'
          have hbw := hb.alloc hb.size (.cells #[.int .i64 x.id, .int .i64 x.people, .int .i64 x.seconds] 39)
          have hown1 := hown.alloc (.cells #[.int .i64 x.id, .int .i64 x.people, .int .i64 x.seconds] 39)
          clear hown hb
          have hsrc := Sec.one_src wr x
          have n1 : ((needOf (l.take k)).map Sec.row).length + 1 ≤ maxLen := by simp [maxLen]; omega
          have n2 : (((needOf (l.take k)).map Sec.row).length + 1) * 24 ≤ 140737488355328 := by simp; omega
          have RL := Lib.hid (Sec.row_len [x])
          have hsa := sum_app (needOf (l.take k)) x
          rw [← Hs.out] at hsa
          have Hsa := Lib.hid hsa
          have hadw : IntKind.i64.wrap (sumS (needOf (l.take k)) + x.seconds) = sumS (needOf (l.take k)) + x.seconds := IntWalk.i64_in _ (by omega)
          clear hsa
          go_upto_region 12 with (at_builtin; refine wpList_append_rows _ rfl (.tmp 35) (.tmp 40) _ rfl w2.heap.size 39 _ 3 24 Try.underlying22 Sec.info rfl (Nat.zero_lt_succ _) _ ((needOf (l.take k)).map Sec.row) rfl (by exact hown1) _ _ 1 [Sec.row x] rfl rfl RL.out (by exact hsrc) n1 n2 (by exact hbw.size) _ _ rfl rfl ?_; intro A1 c1 w1 own1 hg1 hat1)
          have hb1 := Below.ownR hbw hown1 hg1 (Nat.le_refl _) hbw.size
          obtain ⟨_, _, e, f0, f1, f2⟩ := Hat.out w1 hb1
          injection e with e
          injection e with e1 e2
          subst e1 e2
          clear hg1 hat1 hown1 hbw hsrc Hat g0 g1 g2
          go_wp2
          go_roundw
          case rel => exact ⟨k + 1, by omega, by go_num, by rw [Hsa.out], by rw [Hs.out, List.map_append]; rw [List.length_map] at own1; exact own1, hb1⟩
          case measure => simp [intOf]; omega
      · have hke : k = l.length := by omega
        subst hke
        rw [hfin.out] at hown
        rw [hfin.out]
        obtain ⟨A', c', rfl, hi⟩ := hown.form
        have hN := Secs.of_src hi
        simp only [List.length_map]
        replace h := h.below hb
        have hB := HBB.out.trans (hb.mono HBB.out.size)
        clear HBB hown hi hb hns hpm hsok hfin hdl
        generalize planJobs l 1 = j1 at *
        generalize planJobs l 2 = j2 at *
        generalize planJobs l 3 = j3 at *
        generalize planEnd l 1 = n1 at *
        generalize planEnd l 2 = n2 at *
        generalize planEnd l 3 = n3 at *
        generalize planEnd (needOf l) 2 = n4 at *
        generalize sumS (needOf l) = su at *
        subst e1
        have p1' : ((j1.length : Int) == ((needOf l).length : Int)) = true := by simp [p1]
        have p3' : ((j3.length : Int) == ((needOf l).length : Int)) = true := by simp [p3]
        go_wp2_with fail
        refine (q1.out c _ h).mono ?_
        rintro e w4 ⟨P1, c1, rfl, _, hj1, hb⟩
        replace h := h.below hb
        replace hN := hN.below hb
        replace hB := hB.trans (hb.mono hB.size)
        clear hb
        clear hj1
        go_wp2_with fail
        refine (q2.out c _ h).mono ?_
        rintro e w5 ⟨P2, c2, rfl, _, hj2, hb⟩
        replace h := h.below hb
        replace hN := hN.below hb
        replace hB := hB.trans (hb.mono hB.size)
        clear hb
        go_wp2_with fail
        refine (q3.out c _ h).mono ?_
        rintro e w6 ⟨P3, c3, rfl, _, hj3, hb⟩
        replace h := h.below hb
        replace hN := hN.below hb
        replace hj2 := hj2.below hb
        replace hB := hB.trans (hb.mono hB.size)
        clear hb
        clear hj3
        go_wp2_with fail
        refine (q4.out A' c' _ hN).mono ?_
        rintro e w7 ⟨P4, c4, rfl, _, hj4, hb⟩
        replace h := h.below hb
        replace hN := hN.below hb
        replace hj2 := hj2.below hb
        replace hB := hB.trans (hb.mono hB.size)
        clear hb
        clear hN q1 q2 q3 q4
        have hsm0 := fun W h1 h2 => Same_eq P2 P4 c2 c4 j2 W (by omega) h1 h2
        rw [p2] at hsm0
        have hsm := Lib.hid hsm0
        clear hsm0
        go_wp2_with fail
        refine (hsm.out _ hj2 hj4).mono ?_
        rintro e w8 ⟨rfl, n8, rfl⟩
        replace h := h.below (below_dn (Below.refl _ _) n8)
        replace hB := below_dn hB n8
        clear hsm hj2 hj4
        go_wp2_with fail
        refine (q5.out _ h).mono ?_
        rintro e w8 ⟨rfl, hb⟩
        replace h := h.below hb
        replace hB := hB.trans (hb.mono hB.size)
        clear hb
        clear q5 h
        go_wp2
        go_ret
        exact ⟨by simp, hB⟩

set_option maxRecDepth 100000 in
theorem lifted (os : Os) (started : os.Started) (H : Type) (enc : TypeId × Value → H) :
    ReturnsInHanded {} Try.checked os 9 .any (Rows.rescueTeamsSpec.pre6 enc Try.prog Try.f9 Rows.rescueTeamsRow.domain false) (Rows.rescueTeamsSpec.post enc Try.prog Try.f9 false true false false) := by
  refine returnsInHanded_of_change_sized (C := Try.checked) own started (by kernel_rfl) Try.func9
    (ChangeSpec.witness6 (enc := enc) (C := Try.checked) false ⟨#[], #[.slice none 0 0], []⟩ 8 (by kernel_rfl) (by kernel_rfl) (by kernel_rfl) (by kernel_rfl)) ?_
  intro W base args ds gs before hval0 hW hcnd hsz0 _
  have hval : ∀ (j : Nat) t v, Try.f9.params[j]? = some t → args[j]? = some v → Value.okWide Try.prog W .any base t v := hval0
  refine law_post laidOut (by kernel_rfl) Try.underlying4 rfl rfl hW (fun hn => ?_) ?_
  · match ds, hn with
    | [_], _ => rfl
  obtain ⟨p, q, hA0, hV, rfl, _, _⟩ := hW
  have hA : DataW.TrodAll enc Try.prog W 0 (fun _ => true) true Try.f9.params.toList args.toList ds p := hA0
  obtain ⟨rfl, rfl⟩ := trodVars_none hV
  have hsz : (DataW.weightsEach Try.prog (Try.f9.params.toList ++ []) (ds ++ [])).all (· ≤ reachBytes) = true := hsz0
  rw [Try.params9] at hA hval hsz
  obtain ⟨v0, vs0, d0, ds0, p0, q0, hargs, rfl, rfl, h0, r0⟩ := trodAll_cons hA
  obtain ⟨rfl, rfl, rfl⟩ := trodAll_nil r0
  obtain rfl : args = #[v0] := by cases args; simp_all
  obtain ⟨A0, c0, l0, rfl, hm0, hi0, hL0⟩ := open_secs (hval 0 22 v0 rfl rfl) h0
  exact walk A0 c0 l0 W hm0 hi0 (hL0.reach hsz (j := 0) rfl rfl Try.underlying22)
theorem over : Rows.rescueTeamsRow.holds Try.pinned (OpenSpec.ofChange Rows.rescueTeamsSpec) :=
  OpenClaim.holds_of_wide 9 Try.f9 rfl rfl rfl rfl rfl rfl rfl ⟨rfl, rfl, rfl, rfl, rfl⟩ rfl rfl rfl rfl rfl (by kernel_rfl) Try.func9 (by kernel_rfl)
    (of_decide_eq_true (by kernel_rfl)) (by unfold Func.isWrapper; first | (rw [if_pos (by decide +kernel)]; kernel_rfl) | (rw [if_neg (by decide +kernel)]; exact ⟨rfl, rfl⟩))
    (fun os started H enc _ => lifted os started H enc)
theorem proved : Rows.RescueTeamsSaid := over
#print axioms proved
end Go.Proofs.Ytidlbhheakhkhaa.rescueTeams
