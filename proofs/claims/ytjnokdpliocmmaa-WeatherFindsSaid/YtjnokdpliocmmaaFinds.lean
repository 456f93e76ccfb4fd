/- WeatherFinds: for every list of at most 200 observations Last and Peak return what the reference returns; no condition. -/
import Derived.Test.YtjnokdpliocmmaaLaw0
import Derived.Test.YtjnokdpliocmmaaAbove
namespace Go.Proofs.Ytjnokdpliocmmaa.weatherFinds
open Go.RowKit Go.ChangeShapes Go.WideShapes Go.ChangeAt
set_option linter.unusedVariables false
set_option maxHeartbeats 4000000 in
theorem walk (A : Option Addr) (c : Nat) (l : List Obs) (s t : Int) (p : Itv) (w : World) (_hm : l.length ≤ c ∧ c ≤ maxLen) (h : Obss w A l ∧ ∀ x ∈ l, x.I) (hr : l.length * Try.prog.bytesOf 30 ≤ reachBytes) (_w0 : (Lit.int .i64 s).wf = true) (_w1 : (Lit.int .i64 t).wf = true) (_hI : p.I) : Calls Try.prog 4 #[.slice A l.length c, .int .i64 s, .int .i64 t, p.val] w fun e w' => e = .returned (.bool true) ∧ Below w.heap.size w w' := by
  have h := h.1
  have hr := len_ok hr
  clear _hm _hI _w0 _w1
  have hb0 := below_alloc w (.cells #[.int .i64 p.from_, .int .i64 p.to_] 28)
  have bP := Blk.new w #[.int .i64 p.from_, .int .i64 p.to_] 28
  replace h := h.below hb0
  by_cases h2 : 200 < l.length
  · unfold Itv.val
    go_enter Try.func4, Try.ntmps4
    go_wp2_with fail
    refine (alive_any _).mono ?_
    rintro e w1 ⟨rfl, hb1⟩
    have B1 := hb0.trans (hb1.mono hb0.size)
    clear hb1 hb0
    go_wp2
    go_ret
    exact ⟨rfl, B1⟩
  · have q1 := fun W hW => Lib.hid (Last_any A c l s t W (by omega) hW)
    have q2 := fun W hW => Lib.hid (refLast_any A c l s t W (by omega) hW)
    have q3 := fun W hW => Lib.hid (Peak_any A c l s p W (by omega) hW)
    have q4 := fun W hW => Lib.hid (refPeak_any A c l s p W (by omega) hW)
    unfold Itv.val at *
    unfold lastVal at q1 q2
    generalize lastOf l s t = q at *
    generalize peakOf l s p = m at *
    obtain ⟨o, ho⟩ : ∃ o, o = q.getD Obs.zero := ⟨_, rfl⟩
    obtain ⟨ok, hok⟩ : ∃ ok, ok = q.isSome := ⟨_, rfl⟩
    rw [← ho, ← hok] at q1 q2
    clear ho hok
    unfold Obs.val at q1 q2
    clear hr
    go_enter Try.func4, Try.ntmps4
    go_wp2_with fail
    refine (alive_any _).mono ?_
    rintro e w1 ⟨rfl, hb1⟩
    replace bP := bP.below hb1
    replace h := h.below hb1
    have B1 := hb0.trans (hb1.mono hb0.size)
    clear hb0 hb1
    go_wp2_with fail
    refine (q1 _ h).out.mono ?_
    rintro e w2 ⟨rfl, hb2⟩
    replace bP := (bP.below hb2).alloc (.cells #[.int .i64 o.station, .int .i64 o.at_, .int .i64 o.gust, .int .i64 o.temp, .int .i64 o.hum, .int .i64 o.snow] 30)
    replace h := (h.below hb2).below (below_alloc _ (.cells #[.int .i64 o.station, .int .i64 o.at_, .int .i64 o.gust, .int .i64 o.temp, .int .i64 o.hum, .int .i64 o.snow] 30))
    have bO := Blk.new w2 #[.int .i64 o.station, .int .i64 o.at_, .int .i64 o.gust, .int .i64 o.temp, .int .i64 o.hum, .int .i64 o.snow] 30
    have B2 := B1.trans (hb2.mono B1.size)
    replace B2 := B2.alloc B2.size (.cells #[.int .i64 o.station, .int .i64 o.at_, .int .i64 o.gust, .int .i64 o.temp, .int .i64 o.hum, .int .i64 o.snow] 30)
    clear hb2 B1
    go_wp2_with fail
    refine (q2 _ h).out.mono ?_
    rintro e w3 ⟨rfl, hb3⟩
    replace bP := (bP.below hb3).alloc (.cells #[.int .i64 o.station, .int .i64 o.at_, .int .i64 o.gust, .int .i64 o.temp, .int .i64 o.hum, .int .i64 o.snow] 30)
    replace bO := (bO.below hb3).alloc (.cells #[.int .i64 o.station, .int .i64 o.at_, .int .i64 o.gust, .int .i64 o.temp, .int .i64 o.hum, .int .i64 o.snow] 30)
    replace h := (h.below hb3).below (below_alloc _ (.cells #[.int .i64 o.station, .int .i64 o.at_, .int .i64 o.gust, .int .i64 o.temp, .int .i64 o.hum, .int .i64 o.snow] 30))
    have bQ := Blk.new w3 #[.int .i64 o.station, .int .i64 o.at_, .int .i64 o.gust, .int .i64 o.temp, .int .i64 o.hum, .int .i64 o.snow] 30
    have B3 := B2.trans (hb3.mono B2.size)
    replace B3 := B3.alloc B3.size (.cells #[.int .i64 o.station, .int .i64 o.at_, .int .i64 o.gust, .int .i64 o.temp, .int .i64 o.hum, .int .i64 o.snow] 30)
    clear hb3 B2 q1 q2
    go_wp2_with fail
    obtain ⟨W, hW⟩ : ∃ W, (w3.alloc (.cells #[.int .i64 o.station, .int .i64 o.at_, .int .i64 o.gust, .int .i64 o.temp, .int .i64 o.hum, .int .i64 o.snow] 30)) = W := ⟨_, rfl⟩
    rw [hW] at bP bO bQ h B3 ⊢
    clear hW
    have a0 := fun y => above_cell (bO.cell 0 (v := .int .i64 o.station) rfl) y
    have a1 := fun y => above_cell (bO.cell 1 (v := .int .i64 o.at_) rfl) y
    have a2 := fun y => above_cell (bO.cell 2 (v := .int .i64 o.gust) rfl) y
    have a3 := fun y => above_cell (bO.cell 3 (v := .int .i64 o.temp) rfl) y
    have a4 := fun y => above_cell (bO.cell 4 (v := .int .i64 o.hum) rfl) y
    have a5 := fun y => above_cell (bO.cell 5 (v := .int .i64 o.snow) rfl) y
    have e0 := fun y => above_cell (bQ.cell 0 (v := .int .i64 o.station) rfl) y
    have e1 := fun y => above_cell (bQ.cell 1 (v := .int .i64 o.at_) rfl) y
    have e2 := fun y => above_cell (bQ.cell 2 (v := .int .i64 o.gust) rfl) y
    have e3 := fun y => above_cell (bQ.cell 3 (v := .int .i64 o.temp) rfl) y
    have e4 := fun y => above_cell (bQ.cell 4 (v := .int .i64 o.hum) rfl) y
    have e5 := fun y => above_cell (bQ.cell 5 (v := .int .i64 o.snow) rfl) y
    have p0 := fun y => above_cell (bP.cell 0 (v := .int .i64 p.from_) rfl) y
    have p1 := fun y => above_cell (bP.cell 1 (v := .int .i64 p.to_) rfl) y
    have heq := fun y : World => Obs.eql_self o y
    have hbb : (ok == ok) = true := by simp
    have hmm : (m == m) = true := by simp
    have hx := fun (y : Above W) => Lib.hid (h.below y.kept)
    clear bP bO bQ h h2
    refine wp_region_above (by kernel_rfl) (by kernel_rfl) ?_
    repeat (go_big_quiet_step ((first | (go_at_call 16; exact above_call (q3 _ (hx _).out).out) | (go_at_call 17; exact above_call (q4 _ (hx _).out).out))))
    refine wpQuiet_nil ?_
    rintro _ ⟨y, rfl⟩
    go_wp2
    go_ret
    exact ⟨by simp, B3.trans (y.kept.mono B3.size)⟩

set_option maxRecDepth 100000 in
theorem lifted (os : Os) (started : os.Started) (H : Type) (enc : TypeId × Value → H) :
    ReturnsInHanded {} Try.checked os 4 .any (Rows.weatherFindsSpec.pre6 enc Try.prog Try.f4 Rows.weatherFindsRow.domain false) (Rows.weatherFindsSpec.post enc Try.prog Try.f4 false true false false) := by
  refine returnsInHanded_of_change_sized (C := Try.checked) own started (by kernel_rfl) Try.func4
    (ChangeSpec.witness6 (enc := enc) (C := Try.checked) false ⟨#[], #[.slice none 0 0, .int .i64 0, .int .i64 0, Itv.val Itv.zero], []⟩ 8 (by kernel_rfl) (by kernel_rfl) (by kernel_rfl) (by kernel_rfl)) ?_
  intro W base args ds gs before hval0 hW hcnd hsz0 _
  have hval : ∀ (j : Nat) t v, Try.f4.params[j]? = some t → args[j]? = some v → Value.okWide Try.prog W .any base t v := hval0
  refine law_post laidOut (by kernel_rfl) Try.underlying4 rfl rfl hW (fun hn => ?_) ?_
  · match ds, hn with
    | [_, _, _, _], _ => rfl
  obtain ⟨p, q, hA0, hV, rfl, _, _⟩ := hW
  have hA : DataW.TrodAll enc Try.prog W 0 (fun _ => true) true Try.f4.params.toList args.toList ds p := hA0
  obtain ⟨rfl, rfl⟩ := trodVars_none hV
  have hsz : (DataW.weightsEach Try.prog (Try.f4.params.toList ++ []) (ds ++ [])).all (· ≤ reachBytes) = true := hsz0
  rw [Try.params4] at hA hval hsz
  obtain ⟨v0, vs0, d0, ds0, p0, q0, hargs, rfl, rfl, h0, r0⟩ := trodAll_cons hA
  obtain ⟨v1, vs1, d1, ds1, p1, q1, rfl, rfl, rfl, h1, r1⟩ := trodAll_cons r0
  obtain ⟨v2, vs2, d2, ds2, p2, q2, rfl, rfl, rfl, h2, r2⟩ := trodAll_cons r1
  obtain ⟨v3, vs3, d3, ds3, p3, q3, rfl, rfl, rfl, h3, r3⟩ := trodAll_cons r2
  obtain ⟨rfl, rfl, rfl⟩ := trodAll_nil r3
  obtain rfl : args = #[v0, v1, v2, v3] := by cases args; simp_all
  obtain ⟨A0, c0, l0, rfl, hm0, hi0, hL0⟩ := open_obss (hval 0 22 v0 rfl rfl) h0
  obtain ⟨x1, rfl, w1⟩ := open_i Try.underlying3 (hval 1 3 v1 rfl rfl) h1
  obtain ⟨x2, rfl, w2⟩ := open_i Try.underlying3 (hval 2 3 v2 rfl rfl) h2
  obtain ⟨x3, rfl, w3⟩ := open_itv (hval 3 28 v3 rfl rfl) h3
  exact walk A0 c0 l0 x1 x2 x3 W hm0 hi0 (hL0.reach hsz (j := 0) rfl rfl Try.underlying22) w1 w2 w3
theorem over : Rows.weatherFindsRow.holds Try.pinned (OpenSpec.ofChange Rows.weatherFindsSpec) :=
  OpenClaim.holds_of_wide 4 Try.f4 rfl rfl rfl rfl rfl rfl rfl ⟨rfl, rfl, rfl, rfl, rfl⟩ rfl rfl rfl rfl rfl (by kernel_rfl) Try.func4 (by kernel_rfl)
    (of_decide_eq_true (by kernel_rfl)) (by unfold Func.isWrapper; first | (rw [if_pos (by decide +kernel)]; kernel_rfl) | (rw [if_neg (by decide +kernel)]; exact ⟨rfl, rfl⟩))
    (fun os started H enc _ => lifted os started H enc)
theorem proved : Rows.WeatherFindsSaid := over
#print axioms proved
end Go.Proofs.Ytjnokdpliocmmaa.weatherFinds
