/- WeatherAdds: for every list of at most 200 observations Add returns the observations or the error of the reference; no condition. -/
import Derived.Test.YtjnokdpliocmmaaLaw0
namespace Go.Proofs.Ytjnokdpliocmmaa.weatherAdds
open Go.RowKit Go.ChangeShapes Go.WideShapes Go.ChangeAt
set_option linter.unusedVariables false
set_option maxHeartbeats 2000000 in
theorem walk (A : Option Addr) (c : Nat) (l : List Obs) (o : Obs) (w : World) (_hm : l.length ≤ c ∧ c ≤ maxLen) (h : Obss w A l ∧ ∀ x ∈ l, x.I) (hr : l.length * Try.prog.bytesOf 30 ≤ reachBytes) (_hI : o.I) : Calls Try.prog 10 #[.slice A l.length c, o.val] w fun e w' => e = .returned (.bool true) ∧ Below w.heap.size w w' := by
  have h := h.1
  have hr := len_ok hr
  clear _hm _hI
  have hb0 := below_alloc w (.cells #[.int .i64 o.station, .int .i64 o.at_, .int .i64 o.gust, .int .i64 o.temp, .int .i64 o.hum, .int .i64 o.snow] 30)
  have bO := Blk.new w #[.int .i64 o.station, .int .i64 o.at_, .int .i64 o.gust, .int .i64 o.temp, .int .i64 o.hum, .int .i64 o.snow] 30
  replace h := h.below hb0
  by_cases h2 : 200 < l.length
  · unfold Obs.val
    go_enter Try.func10, Try.ntmps10
    go_wp2_with fail
    refine (alive_any _).mono ?_
    rintro e w1 ⟨rfl, hb1⟩
    have B1 := hb0.trans (hb1.mono hb0.size)
    clear hb1 hb0
    go_wp2
    go_ret
    exact ⟨rfl, B1⟩
  · have q1 := fun W hW => Lib.hid (Add_any A c l o W (by omega) hW)
    have q2 := fun W hW => Lib.hid (refAdd_any A c l o W (by omega) hW)
    unfold Obs.val at *
    have hq : (addOf l o).1.length ≤ 201 := by
      unfold addOf
      split
      · split
        · simp; omega
        · simp
      · simp
    unfold AddPost at q1 q2
    generalize addOf l o = q at *
    obtain ⟨x, y⟩ := q
    simp only at q1 q2 hq
    have hsame := fun A c C d W hA hC => Lib.hid (Same_eq A C c d x W (by omega) hA hC)
    clear hr
    go_enter Try.func10, Try.ntmps10
    go_wp2_with fail
    refine (alive_any _).mono ?_
    rintro e w1 ⟨rfl, hb1⟩
    replace bO := bO.below hb1
    replace h := h.below hb1
    have B1 := hb0.trans (hb1.mono hb0.size)
    clear hb0 hb1
    have a0 := bO.cell 0 (v := .int .i64 o.station) rfl
    have a1 := bO.cell 1 (v := .int .i64 o.at_) rfl
    have a2 := bO.cell 2 (v := .int .i64 o.gust) rfl
    have a3 := bO.cell 3 (v := .int .i64 o.temp) rfl
    have a4 := bO.cell 4 (v := .int .i64 o.hum) rfl
    have a5 := bO.cell 5 (v := .int .i64 o.snow) rfl
    go_wp2_with fail
    refine (q1 _ h).out.mono ?_
    rintro e w2 ⟨A2, c2, rfl, hx2, hb2⟩
    clear a0 a1 a2 a3 a4 a5
    replace bO := bO.below hb2
    replace h := h.below hb2
    have B2 := B1.trans (hb2.mono B1.size)
    clear hb2 B1
    have a0 := bO.cell 0 (v := .int .i64 o.station) rfl
    have a1 := bO.cell 1 (v := .int .i64 o.at_) rfl
    have a2 := bO.cell 2 (v := .int .i64 o.gust) rfl
    have a3 := bO.cell 3 (v := .int .i64 o.temp) rfl
    have a4 := bO.cell 4 (v := .int .i64 o.hum) rfl
    have a5 := bO.cell 5 (v := .int .i64 o.snow) rfl
    go_wp2_with fail
    refine (q2 _ h).out.mono ?_
    rintro e w3 ⟨A3, c3, rfl, hx3, hb3⟩
    clear a0 a1 a2 a3 a4 a5 bO h q1 q2
    replace hx2 := hx2.below hb3
    have B3 := B2.trans (hb3.mono B2.size)
    clear hb3 B2
    go_wp2_with fail
    refine (hsame _ _ _ _ _ hx2 hx3).out.mono ?_
    rintro e w4 ⟨rfl, n, rfl⟩
    clear hsame hx2 hx3
    go_wp2
    go_ret
    exact ⟨by simp, below_dn B3 _⟩

set_option maxRecDepth 100000 in
theorem lifted (os : Os) (started : os.Started) (H : Type) (enc : TypeId × Value → H) :
    ReturnsInHanded {} Try.checked os 10 .any (Rows.weatherAddsSpec.pre6 enc Try.prog Try.f10 Rows.weatherAddsRow.domain false) (Rows.weatherAddsSpec.post enc Try.prog Try.f10 false true false false) := by
  refine returnsInHanded_of_change_sized (C := Try.checked) own started (by kernel_rfl) Try.func10
    (ChangeSpec.witness6 (enc := enc) (C := Try.checked) false ⟨#[], #[.slice none 0 0, Obs.val Obs.zero], []⟩ 8 (by kernel_rfl) (by kernel_rfl) (by kernel_rfl) (by kernel_rfl)) ?_
  intro W base args ds gs before hval0 hW hcnd hsz0 _
  have hval : ∀ (j : Nat) t v, Try.f10.params[j]? = some t → args[j]? = some v → Value.okWide Try.prog W .any base t v := hval0
  refine law_post laidOut (by kernel_rfl) Try.underlying4 rfl rfl hW (fun hn => ?_) ?_
  · match ds, hn with
    | [_, _], _ => rfl
  obtain ⟨p, q, hA0, hV, rfl, _, _⟩ := hW
  have hA : DataW.TrodAll enc Try.prog W 0 (fun _ => true) true Try.f10.params.toList args.toList ds p := hA0
  obtain ⟨rfl, rfl⟩ := trodVars_none hV
  have hsz : (DataW.weightsEach Try.prog (Try.f10.params.toList ++ []) (ds ++ [])).all (· ≤ reachBytes) = true := hsz0
  rw [Try.params10] at hA hval hsz
  obtain ⟨v0, vs0, d0, ds0, p0, q0, hargs, rfl, rfl, h0, r0⟩ := trodAll_cons hA
  obtain ⟨v1, vs1, d1, ds1, p1, q1, rfl, rfl, rfl, h1, r1⟩ := trodAll_cons r0
  obtain ⟨rfl, rfl, rfl⟩ := trodAll_nil r1
  obtain rfl : args = #[v0, v1] := by cases args; simp_all
  obtain ⟨A0, c0, l0, rfl, hm0, hi0, hL0⟩ := open_obss (hval 0 22 v0 rfl rfl) h0
  obtain ⟨x1, rfl, w1⟩ := open_obs (hval 1 30 v1 rfl rfl) h1
  exact walk A0 c0 l0 x1 W hm0 hi0 (hL0.reach hsz (j := 0) rfl rfl Try.underlying22) w1
theorem over : Rows.weatherAddsRow.holds Try.pinned (OpenSpec.ofChange Rows.weatherAddsSpec) :=
  OpenClaim.holds_of_wide 10 Try.f10 rfl rfl rfl rfl rfl rfl rfl ⟨rfl, rfl, rfl, rfl, rfl⟩ rfl rfl rfl rfl rfl (by kernel_rfl) Try.func10 (by kernel_rfl)
    (of_decide_eq_true (by kernel_rfl)) (by unfold Func.isWrapper; first | (rw [if_pos (by decide +kernel)]; kernel_rfl) | (rw [if_neg (by decide +kernel)]; exact ⟨rfl, rfl⟩))
    (fun os started H enc _ => lifted os started H enc)
theorem proved : Rows.WeatherAddsSaid := over
#print axioms proved
end Go.Proofs.Ytjnokdpliocmmaa.weatherAdds
