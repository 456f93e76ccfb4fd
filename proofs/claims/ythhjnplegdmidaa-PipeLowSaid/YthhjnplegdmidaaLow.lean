/- PipeLow: for accepted pipes, draws and root Low and Path return the lists of the reference; no condition. -/
import Derived.Test.YthhjnplegdmidaaLaw0
namespace Go.Proofs.Ythhjnplegdmidaa.pipeLow
open Go.RowKit Go.ChangeShapes Go.WideShapes Go.ChangeAt
set_option linter.unusedVariables false
set_option maxHeartbeats 2000000 in
theorem walk (A : Option Addr) (c : Nat) (l : List Pipe) (C : Option Addr) (d : Nat) (ds : List Draw) (E : Option Addr) (q : Nat) (need : List Draw) (root node : Int) (w : World) (_hm : l.length ≤ c ∧ c ≤ maxLen) (h : Pipes w A l ∧ ∀ x ∈ l, x.I) (hr : l.length * Try.prog.bytesOf 45 ≤ reachBytes)
    (_hm2 : ds.length ≤ d ∧ d ≤ maxLen) (h2 : Draws w C ds ∧ ∀ x ∈ ds, x.I) (hr2 : ds.length * Try.prog.bytesOf 42 ≤ reachBytes) (_hm3 : need.length ≤ q ∧ q ≤ maxLen) (h3 : Draws w E need ∧ ∀ x ∈ need, x.I) (hr3 : need.length * Try.prog.bytesOf 42 ≤ reachBytes)
    (_h1 : (Lit.int .i64 root).wf = true) (_h2 : (Lit.int .i64 node).wf = true) : Calls Try.prog 6 #[.slice A l.length c, .slice C ds.length d, .slice E need.length q, .int .i64 root, .int .i64 node] w fun e w' => e = .returned (.bool true) ∧ Below w.heap.size w w' := by
  have hcap := Lib.hid _hm.1
  have h := h.1
  have h2 := h2.1
  have h3 := h3.1
  have hr := len_ok hr
  have hr2 := len_ok2 hr2
  have hr3 := len_ok2 hr3
  clear _hm _hm2 _hm3 _h1 _h2
  cases ha : accB l ds root with
  | false =>
    have HA := Lib.hid ha
    clear ha
    go_enter Try.func6, Try.ntmps6
    go_wp2_with fail
    refine (alive_any _).mono ?_
    rintro e w1 ⟨rfl, hb1⟩
    go_wp2_with fail
    refine (accepted_any A C c d l ds root w1 (by omega) (by omega) (h.below hb1) (h2.below hb1)).mono ?_
    rintro e w2 ⟨rfl, hb2⟩
    rw [HA.out]
    have hb := hb1.trans (hb2.mono hb1.size)
    clear hb1 hb2 HA
    go_wp2
    go_ret
    exact ⟨rfl, hb⟩
  | true =>
    obtain ⟨hg, hl, hd, hp, ht, hro, _⟩ := acc_use ha
    have HA := Lib.hid ha
    clear ha
    by_cases hn : 100 < need.length
    · go_enter Try.func6, Try.ntmps6
      go_wp2_with fail
      refine (alive_any _).mono ?_
      rintro e w1 ⟨rfl, hb1⟩
      go_wp2_with fail
      refine (accepted_any A C c d l ds root w1 (by omega) (by omega) (h.below hb1) (h2.below hb1)).mono ?_
      rintro e w2 ⟨rfl, hb2⟩
      rw [HA.out]
      have hb := hb1.trans (hb2.mono hb1.size)
      clear hb1 hb2 HA
      go_wp2
      go_ret
      exact ⟨rfl, hb⟩
    · have hpl : (pathOf l node).length ≤ 64 := by
        unfold pathOf
        split
        · have := wayR_length l.reverse node
          rw [List.length_reverse] at this
          rw [List.length_map]
          unfold wayOf
          simp only
          omega
        · simp
      have hll := lowOf_len l (flowsOf l ds) root need
      have hsame := fun (A C : Option Addr) (c d : Nat) (x : List Int) W hx hA hC => Lib.hid (Same_eq A C c d x W hx hA hC)
      go_enter Try.func6, Try.ntmps6
      go_wp2_with fail
      refine (alive_any _).mono ?_
      rintro e w1 ⟨rfl, hb1⟩
      go_wp2_with fail
      refine (accepted_any A C c d l ds root w1 (by omega) (by omega) (h.below hb1) (h2.below hb1)).mono ?_
      rintro e w2 ⟨rfl, hb2⟩
      rw [HA.out]
      have hb := hb1.trans (hb2.mono hb1.size)
      clear hb1 hb2 HA
      go_wp2_with fail
      refine (Path_any A c l node w2 hl hcap.out hg (h.below hb)).mono ?_
      rintro e w3 ⟨A3, c3, rfl, hi3, hb3⟩
      replace hb := hb.trans (hb3.mono hb.size)
      clear hb3
      go_wp2_with fail
      refine (refPath_any A c l node w3 hl hg (h.below hb)).mono ?_
      rintro e w4 ⟨A4, c4, rfl, hi4, hb4⟩
      replace hb := hb.trans (hb4.mono hb.size)
      replace hi3 := hi3.below hb4
      clear hb4
      generalize known l node = kn at *
      generalize pathOf l node = pa at *
      go_wp2_with fail
      refine (Low_any A C E c d q l ds need root w4 hl (by omega) (by omega) hg (h.below hb) (h2.below hb) (h3.below hb) hp (by omega) (by omega)).mono ?_
      rintro e w5 ⟨A5, c5, rfl, hi5, hb5⟩
      replace hb := hb.trans (hb5.mono hb.size)
      replace hi3 := hi3.below hb5
      replace hi4 := hi4.below hb5
      clear hb5
      go_wp2_with fail
      refine (refLow_any A C E c d q l ds need root w5 hl (by omega) (by omega) hg (h.below hb) (h2.below hb) (h3.below hb) hp (by omega) (by omega)).mono ?_
      rintro e w6 ⟨A6, c6, rfl, hi6, hb6⟩
      replace hb := hb.trans (hb6.mono hb.size)
      replace hi3 := hi3.below hb6
      replace hi4 := hi4.below hb6
      replace hi5 := hi5.below hb6
      clear hb6
      generalize lowOf l (flowsOf l ds) root need = lo at *
      go_wp2_with fail
      refine (hsame A5 A6 c5 c6 lo _ (by omega) hi5 hi6).out.mono ?_
      rintro e w7 ⟨rfl, n, rfl⟩
      have kb := below_dn (Below.refl w6.heap.size w6) n
      replace hb := hb.trans (kb.mono hb.size)
      replace hi3 := hi3.below kb
      replace hi4 := hi4.below kb
      clear kb hi5 hi6
      generalize w6.drewN n = W7 at *
      go_wp2_with fail
      refine (hsame A3 A4 c3 c4 pa _ (by omega) hi3 hi4).out.mono ?_
      rintro e w8 ⟨rfl, m, rfl⟩
      clear hsame hi3 hi4
      cases kn
      all_goals
        go_wp2
        go_ret
        exact ⟨by simp, below_dn hb m⟩

set_option maxRecDepth 100000 in
theorem lifted (os : Os) (started : os.Started) (H : Type) (enc : TypeId × Value → H) :
    ReturnsInHanded {} Try.checked os 6 .any (Rows.pipeLowSpec.pre6 enc Try.prog Try.f6 Rows.pipeLowRow.domain false) (Rows.pipeLowSpec.post enc Try.prog Try.f6 false true false false) := by
  refine returnsInHanded_of_change_sized (C := Try.checked) own started (by kernel_rfl) Try.func6
    (ChangeSpec.witness6 (enc := enc) (C := Try.checked) false ⟨#[], #[.slice none 0 0, .slice none 0 0, .slice none 0 0, .int .i64 0, .int .i64 0], []⟩ 8 (by kernel_rfl) (by kernel_rfl) (by kernel_rfl) (by kernel_rfl)) ?_
  intro W base args ds gs before hval0 hW hcnd hsz0 _
  have hval : ∀ (j : Nat) t v, Try.f6.params[j]? = some t → args[j]? = some v → Value.okWide Try.prog W .any base t v := hval0
  refine law_post laidOut (by kernel_rfl) Try.underlying4 rfl rfl hW (fun hn => ?_) ?_
  · match ds, hn with
    | [_, _, _, _, _], _ => rfl
  obtain ⟨p, q, hA0, hV, rfl, _, _⟩ := hW
  have hA : DataW.TrodAll enc Try.prog W 0 (fun _ => true) true Try.f6.params.toList args.toList ds p := hA0
  obtain ⟨rfl, rfl⟩ := trodVars_none hV
  have hsz : (DataW.weightsEach Try.prog (Try.f6.params.toList ++ []) (ds ++ [])).all (· ≤ reachBytes) = true := hsz0
  rw [Try.params6] at hA hval hsz
  obtain ⟨v0, vs0, d0, ds0, p0, q0, hargs, rfl, rfl, h0, r0⟩ := trodAll_cons hA
  obtain ⟨v1, vs1, d1, ds1, p1, q1, rfl, rfl, rfl, h1, r1⟩ := trodAll_cons r0
  obtain ⟨v2, vs2, d2, ds2, p2, q2, rfl, rfl, rfl, h2, r2⟩ := trodAll_cons r1
  obtain ⟨v3, vs3, d3, ds3, p3, q3, rfl, rfl, rfl, h3, r3⟩ := trodAll_cons r2
  obtain ⟨v4, vs4, d4, ds4, p4, q4, rfl, rfl, rfl, h4, r4⟩ := trodAll_cons r3
  obtain ⟨rfl, rfl, rfl⟩ := trodAll_nil r4
  obtain rfl : args = #[v0, v1, v2, v3, v4] := by cases args; simp_all
  obtain ⟨A0, c0, l0, rfl, hm0, hi0, hL0⟩ := open_pipes (hval 0 22 v0 rfl rfl) h0
  obtain ⟨A1, c1, l1, rfl, hm1, hi1, hL1⟩ := open_draws (hval 1 27 v1 rfl rfl) h1
  obtain ⟨A2, c2, l2, rfl, hm2, hi2, hL2⟩ := open_draws (hval 2 27 v2 rfl rfl) h2
  obtain ⟨x3, rfl, w3⟩ := open_i Try.underlying3 (hval 3 3 v3 rfl rfl) h3
  obtain ⟨x4, rfl, w4⟩ := open_i Try.underlying3 (hval 4 3 v4 rfl rfl) h4
  exact walk A0 c0 l0 A1 c1 l1 A2 c2 l2 x3 x4 W hm0 hi0 (hL0.reach hsz (j := 0) rfl rfl Try.underlying22) hm1 hi1 (hL1.reach hsz (j := 1) rfl rfl Try.underlying27) hm2 hi2 (hL2.reach hsz (j := 2) rfl rfl Try.underlying27) w3 w4
theorem over : Rows.pipeLowRow.holds Try.pinned (OpenSpec.ofChange Rows.pipeLowSpec) :=
  OpenClaim.holds_of_wide 6 Try.f6 rfl rfl rfl rfl rfl rfl rfl ⟨rfl, rfl, rfl, rfl, rfl⟩ rfl rfl rfl rfl rfl (by kernel_rfl) Try.func6 (by kernel_rfl)
    (of_decide_eq_true (by kernel_rfl)) (by unfold Func.isWrapper; first | (rw [if_pos (by decide +kernel)]; kernel_rfl) | (rw [if_neg (by decide +kernel)]; exact ⟨rfl, rfl⟩))
    (fun os started H enc _ => lifted os started H enc)
theorem proved : Rows.PipeLowSaid := over
#print axioms proved
end Go.Proofs.Ythhjnplegdmidaa.pipeLow
