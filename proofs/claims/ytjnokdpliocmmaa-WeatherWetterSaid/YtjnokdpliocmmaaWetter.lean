/- WeatherWetter: the wet-bulb temperature is at most the temperature, and does not decrease with temperature or humidity; no condition. -/
import Derived.Test.YtjnokdpliocmmaaLaw0
namespace Go.Proofs.Ytjnokdpliocmmaa.weatherWetter
open Go.RowKit Go.ChangeShapes Go.WideShapes Go.ChangeAt
set_option linter.unusedVariables false
theorem wet_div {k m d : Int} (hk0 : 0 ≤ k) (hk : k ≤ 1000) (hm : 0 ≤ m) (hd : 0 ≤ d) : k * (m + d) / 6000 ≤ k * m / 6000 + d := by
  have h1 : k * d ≤ 1000 * d := Int.mul_le_mul_of_nonneg_right hk hd
  have h2 : k * (m + d) = k * m + k * d := Int.mul_add k m d
  have h3 : 0 ≤ k * m := Int.mul_nonneg hk0 hm
  have h4 : 0 ≤ k * d := Int.mul_nonneg hk0 hd
  generalize k * m = a at *
  generalize k * d = b at *
  generalize k * (m + d) = c at *
  omega
theorem wet_div2 {k k' m : Int} (hk : k' ≤ k) (hm : 0 ≤ m) : k' * m / 6000 ≤ k * m / 6000 := by
  have h1 : k' * m ≤ k * m := Int.mul_le_mul_of_nonneg_right hk hm
  generalize k * m = a at *
  generalize k' * m = b at *
  omega
def okW (t h : Int) : Prop := -600 ≤ t ∧ t ≤ 600 ∧ 0 ≤ h ∧ h ≤ 1000
theorem wet_ok {t h : Int} (ho : okW t h) : wetOf t h = (t - (1000 - h) * max 0 (t + 300) / 6000, 0) := by
  unfold wetOf okW at *
  rw [if_pos ho]
theorem wet_no {t h : Int} (ho : ¬ okW t h) : wetOf t h = (0, 2) := by
  unfold wetOf okW at *
  rw [if_neg ho]
theorem max_dis (a : Int) : (a ≤ 0 ∧ max 0 a = 0) ∨ (0 ≤ a ∧ max 0 a = a) := by omega
theorem wet_le {t h : Int} (ho : okW t h) : (wetOf t h).1 ≤ t := by
  rw [wet_ok ho]
  unfold okW at ho
  have h1 : 0 ≤ (1000 - h) * max 0 (t + 300) := Int.mul_nonneg (by omega) (by omega)
  simp only
  generalize (1000 - h) * max 0 (t + 300) = a at *
  omega
theorem wet_full {t : Int} (ho : okW t 1000) : (wetOf t 1000).1 = t := by
  rw [wet_ok ho]
  simp
theorem wet_warm {t h d : Int} (ho : okW t h) (hd : 0 ≤ d) (ho2 : okW (t + d) h) : (wetOf t h).1 ≤ (wetOf (t + d) h).1 := by
  rw [wet_ok ho, wet_ok ho2]
  unfold okW at *
  simp only
  have hk0 : 0 ≤ 1000 - h := by omega
  have hk : 1000 - h ≤ 1000 := by omega
  generalize 1000 - h = k at *
  rcases max_dis (t + 300) with ⟨a, e⟩ | ⟨a, e⟩ <;> rcases max_dis (t + d + 300) with ⟨b, f⟩ | ⟨b, f⟩
  · rw [e, f]; omega
  · rw [e, f]
    have := wet_div hk0 hk (m := 0) (d := t + d + 300) (by omega) (by omega)
    simp only [Int.zero_add, Int.mul_zero] at this ⊢
    generalize k * (t + d + 300) = z at *
    omega
  · obtain rfl : d = 0 := by omega
    simp
  · rw [e, f]
    have := wet_div hk0 hk (m := t + 300) (d := d) (by omega) (by omega)
    rw [show t + 300 + d = t + d + 300 by omega] at this
    generalize k * (t + d + 300) = z at *
    generalize k * (t + 300) = z' at *
    omega
theorem wet_wet {t h d : Int} (ho : okW t h) (hd : 0 ≤ d) (ho2 : okW t (h + d)) : (wetOf t h).1 ≤ (wetOf t (h + d)).1 := by
  rw [wet_ok ho, wet_ok ho2]
  unfold okW at *
  simp only
  have := wet_div2 (k := 1000 - h) (k' := 1000 - (h + d)) (m := max 0 (t + 300)) (by omega) (by omega)
  generalize (1000 - h) * max 0 (t + 300) = z at *
  generalize (1000 - (h + d)) * max 0 (t + 300) = z' at *
  omega
theorem wet_code (t h : Int) : (okW t h ∧ (wetOf t h).2 = 0) ∨ ¬ okW t h ∧ wetOf t h = (0, 2) := by
  by_cases ho : okW t h
  · exact .inl ⟨ho, by rw [wet_ok ho]⟩
  · exact .inr ⟨ho, wet_no ho⟩
set_option maxHeartbeats 4000000 in
theorem walk (t h : Int) (a b : Int) (w : World) (_w0 : (Lit.int .i64 t).wf = true) (_w1 : (Lit.int .i64 h).wf = true) (_w2 : (Lit.int .u8 a).wf = true) (_w3 : (Lit.int .u8 b).wf = true) : Calls Try.prog 9 #[.int .i64 t, .int .i64 h, .int .u8 a, .int .u8 b] w fun e w' => e = .returned (.bool true) ∧ Below w.heap.size w w' := by
  have ha : 0 ≤ a ∧ a ≤ 255 := by simpa [Lit.wf, IntKind.min, IntKind.max, IntKind.signed, IntKind.bits] using _w2
  have hb : 0 ≤ b ∧ b ≤ 255 := by simpa [Lit.wf, IntKind.min, IntKind.max, IntKind.signed, IntKind.bits] using _w3
  clear _w0 _w1 _w2 _w3
  obtain ⟨a0, a1⟩ := ha
  obtain ⟨b0, b1⟩ := hb
  have q1 := fun W => Lib.hid (Wet_any t h W)
  unfold WetPost at q1
  rcases wet_code t h with ⟨ho, hc⟩ | ⟨ho, hc⟩
  · have q2 := fun W => Lib.hid (Wet_any (t + a) h W)
    have q3 := fun W => Lib.hid (Wet_any t (h + b) W)
    unfold WetPost at q2 q3
    have hle := wet_le ho
    have hfull : h = 1000 → (wetOf t h).1 = t := fun e => by subst e; exact wet_full ho
    have hwarm : (wetOf (t + a) h).2 = 0 ∧ (wetOf t h).1 ≤ (wetOf (t + a) h).1 ∨ (wetOf (t + a) h).2 = 2 := by
      rcases wet_code (t + a) h with ⟨ho2, hc2⟩ | ⟨ho2, hc2⟩
      · exact .inl ⟨hc2, wet_warm ho a0 ho2⟩
      · exact .inr (by rw [hc2])
    have hwet : (wetOf t (h + b)).2 = 0 ∧ (wetOf t h).1 ≤ (wetOf t (h + b)).1 ∨ (wetOf t (h + b)).2 = 2 := by
      rcases wet_code t (h + b) with ⟨ho2, hc2⟩ | ⟨ho2, hc2⟩
      · exact .inl ⟨hc2, wet_wet ho b0 ho2⟩
      · exact .inr (by rw [hc2])
    have ho' : -600 ≤ t ∧ t ≤ 600 ∧ 0 ≤ h ∧ h ≤ 1000 := ho
    obtain ⟨r1, r2, r3, r4⟩ := ho'
    clear ho
    rw [hc] at q1
    clear hc
    generalize (wetOf t h).1 = x at *
    generalize wetOf (t + a) h = y at *
    generalize wetOf t (h + b) = z at *
    obtain ⟨y1, y2⟩ := y
    obtain ⟨z1, z2⟩ := z
    simp only at *
    have hcase : h ≠ 1000 ∨ h = 1000 ∧ x = t := by
      by_cases e : h = 1000
      · exact .inr ⟨e, hfull e⟩
      · exact .inl e
    clear hfull
    have Hwarm := Lib.hid hwarm
    have Hwet := Lib.hid hwet
    clear hwarm hwet
    rcases hcase with hh | ⟨hh, hx⟩
    · have hh' : (h == 1000) = false := by simpa using hh
      clear hh
      rcases Hwarm.out with ⟨e2, g2⟩ | e2 <;> rcases Hwet.out with ⟨e3, g3⟩ | e3
      all_goals
        subst e2
        subst e3
        clear Hwarm Hwet
        go_enter Try.func9, Try.ntmps9
        go_wp2_with fail
        refine (alive_any _).mono ?_
        rintro e w1 ⟨rfl, hb1⟩
        go_wp2_with fail
        refine (q1 _).out.mono ?_
        rintro e w' ⟨rfl, rfl⟩
        go_wp2_with fail
        refine (q2 _).out.mono ?_
        rintro e w' ⟨rfl, rfl⟩
        go_wp2_with fail
        refine (q3 _).out.mono ?_
        rintro e w' ⟨rfl, rfl⟩
        clear q1 q2 q3
        go_wp2
        go_ret
        exact ⟨by first | rfl | simp, hb1⟩
    · subst hh
      subst hx
      rcases Hwarm.out with ⟨e2, g2⟩ | e2 <;> rcases Hwet.out with ⟨e3, g3⟩ | e3
      all_goals
        subst e2
        subst e3
        clear Hwarm Hwet
        have hne : (x != x) = false := by simp
        go_enter Try.func9, Try.ntmps9
        go_wp2_with fail
        refine (alive_any _).mono ?_
        rintro e w1 ⟨rfl, hb1⟩
        go_wp2_with fail
        refine (q1 _).out.mono ?_
        rintro e w' ⟨rfl, rfl⟩
        go_wp2_with fail
        refine (q2 _).out.mono ?_
        rintro e w' ⟨rfl, rfl⟩
        go_wp2_with fail
        refine (q3 _).out.mono ?_
        rintro e w' ⟨rfl, rfl⟩
        clear q1 q2 q3
        go_wp2
        go_ret
        exact ⟨by first | rfl | simp, hb1⟩
  · rw [hc] at q1
    clear ho hc
    go_enter Try.func9, Try.ntmps9
    go_wp2_with fail
    refine (alive_any _).mono ?_
    rintro e w1 ⟨rfl, hb1⟩
    go_wp2_with fail
    refine (q1 _).out.mono ?_
    rintro e w' ⟨rfl, rfl⟩
    go_wp2
    go_ret
    exact ⟨by first | rfl | simp, hb1⟩

set_option maxRecDepth 100000 in
theorem lifted (os : Os) (started : os.Started) (H : Type) (enc : TypeId × Value → H) :
    ReturnsInHanded {} Try.checked os 9 .any (Rows.weatherWetterSpec.pre6 enc Try.prog Try.f9 Rows.weatherWetterRow.domain false) (Rows.weatherWetterSpec.post enc Try.prog Try.f9 false true false false) := by
  refine returnsInHanded_of_change_sized (C := Try.checked) own started (by kernel_rfl) Try.func9
    (ChangeSpec.witness6 (enc := enc) (C := Try.checked) false ⟨#[], #[.int .i64 0, .int .i64 0, .int .u8 0, .int .u8 0], []⟩ 8 (by kernel_rfl) (by kernel_rfl) (by kernel_rfl) (by kernel_rfl)) ?_
  intro W base args ds gs before hval0 hW hcnd hsz0 _
  have hval : ∀ (j : Nat) t v, Try.f9.params[j]? = some t → args[j]? = some v → Value.okWide Try.prog W .any base t v := hval0
  refine law_post laidOut (by kernel_rfl) Try.underlying4 rfl rfl hW (fun hn => ?_) ?_
  · match ds, hn with
    | [_, _, _, _], _ => rfl
  obtain ⟨p, q, hA0, hV, rfl, _, _⟩ := hW
  have hA : DataW.TrodAll enc Try.prog W 0 (fun _ => true) true Try.f9.params.toList args.toList ds p := hA0
  obtain ⟨rfl, rfl⟩ := trodVars_none hV
  have hsz : (DataW.weightsEach Try.prog (Try.f9.params.toList ++ []) (ds ++ [])).all (· ≤ reachBytes) = true := hsz0
  rw [Try.params9] at hA hval hsz
  obtain ⟨v0, vs0, d0, ds0, p0, q0, hargs, rfl, rfl, h0, r0⟩ := trodAll_cons hA
  obtain ⟨v1, vs1, d1, ds1, p1, q1, rfl, rfl, rfl, h1, r1⟩ := trodAll_cons r0
  obtain ⟨v2, vs2, d2, ds2, p2, q2, rfl, rfl, rfl, h2, r2⟩ := trodAll_cons r1
  obtain ⟨v3, vs3, d3, ds3, p3, q3, rfl, rfl, rfl, h3, r3⟩ := trodAll_cons r2
  obtain ⟨rfl, rfl, rfl⟩ := trodAll_nil r3
  obtain rfl : args = #[v0, v1, v2, v3] := by cases args; simp_all
  obtain ⟨x0, rfl, w0⟩ := open_i Try.underlying3 (hval 0 3 v0 rfl rfl) h0
  obtain ⟨x1, rfl, w1⟩ := open_i Try.underlying3 (hval 1 3 v1 rfl rfl) h1
  obtain ⟨x2, rfl, w2⟩ := open_i Try.underlying5 (hval 2 5 v2 rfl rfl) h2
  obtain ⟨x3, rfl, w3⟩ := open_i Try.underlying5 (hval 3 5 v3 rfl rfl) h3
  exact walk x0 x1 x2 x3 W w0 w1 w2 w3
theorem over : Rows.weatherWetterRow.holds Try.pinned (OpenSpec.ofChange Rows.weatherWetterSpec) :=
  OpenClaim.holds_of_wide 9 Try.f9 rfl rfl rfl rfl rfl rfl rfl ⟨rfl, rfl, rfl, rfl, rfl⟩ rfl rfl rfl rfl rfl (by kernel_rfl) Try.func9 (by kernel_rfl)
    (of_decide_eq_true (by kernel_rfl)) (by unfold Func.isWrapper; first | (rw [if_pos (by decide +kernel)]; kernel_rfl) | (rw [if_neg (by decide +kernel)]; exact ⟨rfl, rfl⟩))
    (fun os started H enc _ => lifted os started H enc)
theorem proved : Rows.WeatherWetterSaid := over
#print axioms proved
end Go.Proofs.Ytjnokdpliocmmaa.weatherWetter
