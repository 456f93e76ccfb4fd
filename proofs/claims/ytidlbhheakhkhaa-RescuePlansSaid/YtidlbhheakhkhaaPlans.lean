/- RescuePlans: for right sections and any number of teams Plan returns the jobs and the end, or the error, of the reference; no condition. -/
import Derived.Test.YtidlbhheakhkhaaLaw0
namespace Go.Proofs.Ytidlbhheakhkhaa.rescuePlans
open Go.RowKit Go.ChangeShapes Go.WideShapes Go.ChangeAt
set_option linter.unusedVariables false
set_option maxRecDepth 100000 in
set_option maxHeartbeats 4000000 in
theorem walk (A : Option Addr) (c : Nat) (l : List Sec) (t : Int) (w : World) (_hm : l.length ≤ c ∧ c ≤ maxLen) (h : Secs w A l ∧ ∀ x ∈ l, x.I) (hr : l.length * Try.prog.bytesOf 39 ≤ reachBytes) (_ht : (Lit.int .i64 t).wf = true) : Calls Try.prog 4 #[.slice A l.length c, .int .i64 t] w fun e w' => e = .returned (.bool true) ∧ Below w.heap.size w w' := by
  have hcap := _hm.1
  have h := h.1
  have hr := len_ok hr
  clear _hm
  clear _ht
  cases hri : decide (rightOf l = 0) with
  | false =>
    have HRI := Lib.hid hri
    clear hri
    go_enter Try.func4, Try.ntmps4
    go_wp2_with fail
    refine (alive_any _).mono ?_
    rintro e w1 ⟨rfl, hb⟩
    replace h := h.below hb
    have hB := hb
    clear hb
    go_wp2_with fail
    refine (right_any A c l _ (by omega) h).mono ?_
    rintro e w2 ⟨rfl, hb⟩
    replace h := h.below hb
    replace hB := hB.trans (hb.mono hB.size)
    clear hb
    rw [HRI.out]
    clear HRI h
    go_wp2
    go_ret
    exact ⟨rfl, hB⟩
  | true =>
    obtain ⟨hl, hs, hpe, hdf⟩ := right_use (of_decide_eq_true hri)
    have HRI := Lib.hid hri
    have HS := Lib.hid hs
    have HP := Lib.hid hpe
    have HD := Lib.hid hdf
    clear hri hs hpe hdf
    obtain ⟨js, n, x, hjl, p1, p2⟩ := plan_two l hl HS.out t
    have P1 := Lib.hid p1
    have P2 := Lib.hid p2
    clear p1 p2
    go_enter Try.func4, Try.ntmps4
    go_wp2_with fail
    refine (alive_any _).mono ?_
    rintro e w1 ⟨rfl, hb⟩
    replace h := h.below hb
    have hB := hb
    clear hb
    go_wp2_with fail
    refine (right_any A c l _ (by omega) h).mono ?_
    rintro e w2 ⟨rfl, hb⟩
    replace h := h.below hb
    replace hB := hB.trans (hb.mono hB.size)
    clear hb
    rw [HRI.out]
    go_wp2_with fail
    refine (P1.out A c _ h).mono ?_
    rintro e w3 ⟨P, c1, rfl, _, hj, hb⟩
    replace h := h.below hb
    replace hB := hB.trans (hb.mono hB.size)
    clear hb
    go_wp2_with fail
    refine (P2.out A c _ h).mono ?_
    rintro e w4 ⟨Q, c2, rfl, _, hk, hb⟩
    replace h := h.below hb
    replace hj := hj.below hb
    replace hB := hB.trans (hb.mono hB.size)
    clear hb
    clear P1 P2 HS HP HD HRI h
    have q := Lib.hid ((Same_eq P Q c1 c2 js _ (by omega) hj hk))
    clear hj hk
    go_wp2_with fail
    refine (q.out).mono ?_
    rintro e w5 ⟨rfl, n5, rfl⟩
    replace hB := below_dn hB n5
    clear q
    go_wp2
    go_ret
    exact ⟨rfl, hB⟩

set_option maxRecDepth 100000 in
theorem lifted (os : Os) (started : os.Started) (H : Type) (enc : TypeId × Value → H) :
    ReturnsInHanded {} Try.checked os 4 .any (Rows.rescuePlansSpec.pre6 enc Try.prog Try.f4 Rows.rescuePlansRow.domain false) (Rows.rescuePlansSpec.post enc Try.prog Try.f4 false true false false) := by
  refine returnsInHanded_of_change_sized (C := Try.checked) own started (by kernel_rfl) Try.func4
    (ChangeSpec.witness6 (enc := enc) (C := Try.checked) false ⟨#[], #[.slice none 0 0, .int .i64 0], []⟩ 8 (by kernel_rfl) (by kernel_rfl) (by kernel_rfl) (by kernel_rfl)) ?_
  intro W base args ds gs before hval0 hW hcnd hsz0 _
  have hval : ∀ (j : Nat) t v, Try.f4.params[j]? = some t → args[j]? = some v → Value.okWide Try.prog W .any base t v := hval0
  refine law_post laidOut (by kernel_rfl) Try.underlying4 rfl rfl hW (fun hn => ?_) ?_
  · match ds, hn with
    | [_, _], _ => rfl
  obtain ⟨p, q, hA0, hV, rfl, _, _⟩ := hW
  have hA : DataW.TrodAll enc Try.prog W 0 (fun _ => true) true Try.f4.params.toList args.toList ds p := hA0
  obtain ⟨rfl, rfl⟩ := trodVars_none hV
  have hsz : (DataW.weightsEach Try.prog (Try.f4.params.toList ++ []) (ds ++ [])).all (· ≤ reachBytes) = true := hsz0
  rw [Try.params4] at hA hval hsz
  obtain ⟨v0, vs0, d0, ds0, p0, q0, hargs, rfl, rfl, h0, r0⟩ := trodAll_cons hA
  obtain ⟨v1, vs1, d1, ds1, p1, q1, rfl, rfl, rfl, h1, r1⟩ := trodAll_cons r0
  obtain ⟨rfl, rfl, rfl⟩ := trodAll_nil r1
  obtain rfl : args = #[v0, v1] := by cases args; simp_all
  obtain ⟨A0, c0, l0, rfl, hm0, hi0, hL0⟩ := open_secs (hval 0 22 v0 rfl rfl) h0
  obtain ⟨x1, rfl, w1⟩ := open_i Try.underlying3 (hval 1 3 v1 rfl rfl) h1
  exact walk A0 c0 l0 x1 W hm0 hi0 (hL0.reach hsz (j := 0) rfl rfl Try.underlying22) w1
theorem over : Rows.rescuePlansRow.holds Try.pinned (OpenSpec.ofChange Rows.rescuePlansSpec) :=
  OpenClaim.holds_of_wide 4 Try.f4 rfl rfl rfl rfl rfl rfl rfl ⟨rfl, rfl, rfl, rfl, rfl⟩ rfl rfl rfl rfl rfl (by kernel_rfl) Try.func4 (by kernel_rfl)
    (of_decide_eq_true (by kernel_rfl)) (by unfold Func.isWrapper; first | (rw [if_pos (by decide +kernel)]; kernel_rfl) | (rw [if_neg (by decide +kernel)]; exact ⟨rfl, rfl⟩))
    (fun os started H enc _ => lifted os started H enc)
theorem proved : Rows.RescuePlansSaid := over
#print axioms proved
end Go.Proofs.Ytidlbhheakhkhaa.rescuePlans
