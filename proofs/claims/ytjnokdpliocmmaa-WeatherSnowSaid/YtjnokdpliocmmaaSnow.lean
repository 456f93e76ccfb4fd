/- WeatherSnow: for right observations Fresh returns the sum of the reference, and adds up over the parts of an interval; no condition. -/
import Derived.Test.YtjnokdpliocmmaaLaw0
import Derived.Test.YtjnokdpliocmmaaAbove
import Derived.Test.YtjnokdpliocmmaaPlain3
import Derived.Deep.DeepCutAuto
import Derived.Deep.RegionHeld3
namespace Go.Proofs.Ytjnokdpliocmmaa.weatherSnow
open Go.RowKit Go.ChangeShapes Go.WideShapes Go.ChangeAt
set_option linter.unusedVariables false
set_option maxHeartbeats 8000000 in
set_option maxRecDepth 100000 in
theorem walk (A : Option Addr) (c : Nat) (l : List Obs) (s t : Int) (p : Itv) (w : World) (_hm : l.length ≤ c ∧ c ≤ maxLen) (h : Obss w A l ∧ ∀ x ∈ l, x.I) (hr : l.length * Try.prog.bytesOf 30 ≤ reachBytes) (_w0 : (Lit.int .i64 s).wf = true) (_w1 : (Lit.int .i64 t).wf = true) (_hI : p.I) : Calls Try.prog 5 #[.slice A l.length c, .int .i64 s, .int .i64 t, p.val] w fun e w' => e = .returned (.bool true) ∧ Below w.heap.size w w' := by
  have h := h.1
  have hr := len_ok hr
  clear _hm _hI _w0 _w1
  have hb0 := below_alloc w (.cells #[.int .i64 p.from_, .int .i64 p.to_] 28)
  have bP := Blk.new w #[.int .i64 p.from_, .int .i64 p.to_] 28
  replace h := h.below hb0
  by_cases h2 : 200 < l.length
  · unfold Itv.val
    go_enter Try.func5, Try.ntmps5
    go_wp2_with fail
    refine (alive_any _).mono ?_
    rintro e w1 ⟨rfl, hb1⟩
    have B1 := hb0.trans (hb1.mono hb0.size)
    clear hb1 hb0
    go_wp2
    go_ret
    exact ⟨rfl, B1⟩
  by_cases h0 : rightOf l = 0
  · have hne : (rightOf l != 0) = false := by simp [h0]
    have hsn := right_snow h0
    have hgu := right_gust h0
    have q0 := fun W hW => Lib.hid (refRight_any A c l W (by omega) hW)
    have q1 := fun (p : Itv) W hW => Lib.hid (Fresh_any A c l s p W (by omega) hsn hW)
    have q2 := fun (p : Itv) W hW => Lib.hid (refFresh_any A c l s p W (by omega) hsn hW)
    have q3 := fun (p : Itv) W hW => Lib.hid (Peak_any A c l s p W (by omega) hW)
    have hfp := fun (h1 : p.from_ ≤ t) (h2 : t ≤ p.to_) => fresh_parts l s p.from_ t p.to_ h1 h2
    have hpp := fun (h1 : p.from_ ≤ t) (h2 : t ≤ p.to_) => peak_parts l hgu s p.from_ t p.to_ h1 h2
    have hbd := fun p => freshOf_bd hsn s p
    have Hfp := Lib.hid hfp
    have Hpp := Lib.hid hpp
    have Hbd := Lib.hid hbd
    generalize rightOf l = rr at *
    clear h0 hsn hgu hfp hpp hbd
    obtain ⟨f, o⟩ := p
    unfold Itv.val at *
    simp only at bP hb0 Hfp Hpp h ⊢
    have hnn : (freshOf l s ⟨f, o⟩ != freshOf l s ⟨f, o⟩) = false := by simp
    go_enter Try.func5, Try.ntmps5
    go_wp2_with fail
    refine (alive_any _).mono ?_
    rintro e w1 ⟨rfl, hb1⟩
    replace bP := bP.below hb1
    replace h := h.below hb1
    have B1 := hb0.trans (hb1.mono hb0.size)
    clear hb0 hb1
    go_wp2_with fail
    refine (q0 _ h).out.mono ?_
    rintro e w2 ⟨rfl, hb2⟩
    replace bP := bP.below hb2
    replace h := h.below hb2
    have B2 := B1.trans (hb2.mono B1.size)
    clear hb2 B1 q0
    have p0 := bP.cell 0 (v := .int .i64 f) rfl
    have p1 := bP.cell 1 (v := .int .i64 o) rfl
    go_wp2_with fail
    refine (q1 ⟨f, o⟩ _ h).out.mono ?_
    rintro e w3 ⟨rfl, hb3⟩
    clear p0 p1
    replace bP := bP.below hb3
    replace h := h.below hb3
    have B3 := B2.trans (hb3.mono B2.size)
    clear hb3 B2
    have p0 := bP.cell 0 (v := .int .i64 f) rfl
    have p1 := bP.cell 1 (v := .int .i64 o) rfl
    go_wp2_with fail
    refine (q2 ⟨f, o⟩ _ h).out.mono ?_
    rintro e w4 ⟨rfl, hb4⟩
    clear p0 p1
    replace bP := bP.below hb4
    replace h := h.below hb4
    have B4 := B3.trans (hb4.mono B3.size)
    clear hb4 B3 q2
    have p0 := bP.cell 0 (v := .int .i64 f) rfl
    have p1 := bP.cell 1 (v := .int .i64 o) rfl
    have ho : t < f ∨ f ≤ t ∧ (o < t ∨ t ≤ o) := by omega
    rcases ho with ho | ⟨ho, ho2 | ho2⟩
    · go_wp2
      go_ret
      exact ⟨rfl, B4⟩
    · go_wp2
      go_ret
      exact ⟨rfl, B4⟩
    · have hfp := Lib.hid (Hfp.out ho ho2)
      have hpp := Lib.hid (Hpp.out ho ho2)
      clear Hfp Hpp
      go_wp2_with fail
      have wne := World.new_ne w4 ⟨w.heap.size, 0, none⟩ p0
      go_cut [10, 11] (fun x y wx => ∃ g1 g2 : Nat, x = .pointer (some ⟨g1, 0, none⟩) ∧ y = .pointer (some ⟨g2, 0, none⟩) ∧ Blk wx g1 #[.int .i64 f, .int .i64 t] 28 ∧ Blk wx g2 #[.int .i64 t, .int .i64 o] 28 ∧ Below w4.heap.size w4 wx)
      case first =>
        go_region_held3 (fun w' => w'.cell? ⟨w.heap.size, 0, none⟩ = some (.int .i64 f) ∧ w'.cell? ⟨w.heap.size, 1, none⟩ = some (.int .i64 o)) (go_keep) (fail)
        all_goals
          go_wp2_with fail
          go_meet
          refine ⟨_, _, rfl, rfl, ?_, ?_, ?_⟩
          · first
              | exact (Blk.new w4 _ _).alloc _
              | (have hx := Blk.new (w4.alloc (.cells #[.int .i64 t, .int .i64 o] 28)) #[.int .i64 f, .int .i64 t] 28; rw [World.size_alloc] at hx; exact hx)
          · first
              | exact (Blk.new w4 _ _).alloc _
              | (have hx := Blk.new (w4.alloc (.cells #[.int .i64 f, .int .i64 t] 28)) #[.int .i64 t, .int .i64 o] 28; rw [World.size_alloc] at hx; exact hx)
          · exact (((Below.refl _ _).alloc (Nat.le_refl _) _).alloc (by simp) _).drew
      case rest =>
        obtain ⟨g1, g2, rfl, rfl, b1, b2, hbx⟩ := hcut
        replace bP := bP.below hbx
        replace h := h.below hbx
        have B5 := B4.trans (hbx.mono B4.size)
        clear hbx B4 p0 p1 wne hne hnn ho ho2
        have ka := Hbd.out ⟨f, t⟩
        have kb := Hbd.out ⟨t, o⟩
        clear Hbd
        have q1a := q1 ⟨f, t⟩
        have q1b := q1 ⟨t, o⟩
        have q3p := q3 ⟨f, o⟩
        have q3a := q3 ⟨f, t⟩
        have q3b := q3 ⟨t, o⟩
        clear q1 q3
        generalize freshOf l s ⟨f, t⟩ = fa at *
        generalize freshOf l s ⟨t, o⟩ = fb at *
        generalize freshOf l s ⟨f, o⟩ = fp at *
        generalize peakOf l s ⟨f, t⟩ = ma at *
        generalize peakOf l s ⟨t, o⟩ = mb at *
        generalize peakOf l s ⟨f, o⟩ = mp at *
        have e1 : fp = fa + fb := hfp.out
        have e2 : mp = max ma mb := hpp.out
        subst e1
        have hw1 : IntKind.i64.wrap (fa + fb) = fa + fb := IntWalk.i64_in _ (by omega)
        have he1 : (fa + fb == fa + fb) = true := by simp
        have r1 := fun y => above_cell (b1.cell 0 (v := .int .i64 f) rfl) y
        have r2 := fun y => above_cell (b1.cell 1 (v := .int .i64 t) rfl) y
        have r3 := fun y => above_cell (b2.cell 0 (v := .int .i64 t) rfl) y
        have r4 := fun y => above_cell (b2.cell 1 (v := .int .i64 o) rfl) y
        have r5 := fun y => above_cell (bP.cell 0 (v := .int .i64 f) rfl) y
        have r6 := fun y => above_cell (bP.cell 1 (v := .int .i64 o) rfl) y
        have hx := fun (y : Above wc) => Lib.hid (h.below y.kept)
        clear bP b1 b2 h h2 hfp hpp hr
        have hord : (ma < mb ∧ mp = mb) ∨ (ma = mb ∧ mp = mb) ∨ (mb < ma ∧ mp = ma) := by omega
        clear e2
        go_wp2_with fail
        rcases hord with ⟨hlt, rfl⟩ | ⟨rfl, rfl⟩ | ⟨hlt, rfl⟩
        all_goals
          have he2 : (mp == mp) = true := by simp
          refine wp_region_above (by kernel_rfl) (by kernel_rfl) ?_
          repeat (go_big_quiet_step ((first | (go_at_call 18; first | (with_reducible exact above_call (q1a _ (hx _).out).out) | (with_reducible exact above_call (q1b _ (hx _).out).out)) | (go_at_call 16; first | (with_reducible exact above_call (q3p _ (hx _).out).out) | (with_reducible exact above_call (q3a _ (hx _).out).out) | (with_reducible exact above_call (q3b _ (hx _).out).out)))))
          refine wpQuiet_nil ?_
          rintro _ ⟨y, rfl⟩
          go_wp2
          go_ret
          exact ⟨by simp, B5.trans (y.kept.mono B5.size)⟩
  · have hne : (rightOf l != 0) = true := by simp [h0]
    have q0 := fun W hW => Lib.hid (refRight_any A c l W (by omega) hW)
    generalize rightOf l = rr at *
    clear h0
    unfold Itv.val
    go_enter Try.func5, Try.ntmps5
    go_wp2_with fail
    refine (alive_any _).mono ?_
    rintro e w1 ⟨rfl, hb1⟩
    replace h := h.below hb1
    have B1 := hb0.trans (hb1.mono hb0.size)
    clear hb0 hb1
    go_wp2_with fail
    refine (q0 _ h).out.mono ?_
    rintro e w2 ⟨rfl, hb2⟩
    have B2 := B1.trans (hb2.mono B1.size)
    clear hb2 B1 q0
    go_wp2
    go_ret
    exact ⟨rfl, B2⟩

set_option maxRecDepth 100000 in
theorem lifted (os : Os) (started : os.Started) (H : Type) (enc : TypeId × Value → H) :
    ReturnsInHanded {} Try.checked os 5 .any (Rows.weatherSnowSpec.pre6 enc Try.prog Try.f5 Rows.weatherSnowRow.domain false) (Rows.weatherSnowSpec.post enc Try.prog Try.f5 false true false false) := by
  refine returnsInHanded_of_change_sized (C := Try.checked) own started (by kernel_rfl) Try.func5
    (ChangeSpec.witness6 (enc := enc) (C := Try.checked) false ⟨#[], #[.slice none 0 0, .int .i64 0, .int .i64 0, Itv.val Itv.zero], []⟩ 8 (by kernel_rfl) (by kernel_rfl) (by kernel_rfl) (by kernel_rfl)) ?_
  intro W base args ds gs before hval0 hW hcnd hsz0 _
  have hval : ∀ (j : Nat) t v, Try.f5.params[j]? = some t → args[j]? = some v → Value.okWide Try.prog W .any base t v := hval0
  refine law_post laidOut (by kernel_rfl) Try.underlying4 rfl rfl hW (fun hn => ?_) ?_
  · match ds, hn with
    | [_, _, _, _], _ => rfl
  obtain ⟨p, q, hA0, hV, rfl, _, _⟩ := hW
  have hA : DataW.TrodAll enc Try.prog W 0 (fun _ => true) true Try.f5.params.toList args.toList ds p := hA0
  obtain ⟨rfl, rfl⟩ := trodVars_none hV
  have hsz : (DataW.weightsEach Try.prog (Try.f5.params.toList ++ []) (ds ++ [])).all (· ≤ reachBytes) = true := hsz0
  rw [Try.params5] at hA hval hsz
  obtain ⟨v0, vs0, d0, ds0, p0, q0, hargs, rfl, rfl, h0, r0⟩ := trodAll_cons hA
  obtain ⟨v1, vs1, d1, ds1, p1, q1, rfl, rfl, rfl, h1, r1⟩ := trodAll_cons r0
  obtain ⟨v2, vs2, d2, ds2, p2, q2, rfl, rfl, rfl, h2, r2⟩ := trodAll_cons r1
  obtain ⟨v3, vs3, d3, ds3, p3, q3, rfl, rfl, rfl, h3, r3⟩ := trodAll_cons r2
  obtain ⟨rfl, rfl, rfl⟩ := trodAll_nil r3
  obtain rfl : args = #[v0, v1, v2, v3] := by cases args; simp_all
  obtain ⟨A0, c0, l0, rfl, hm0, hi0, hL0⟩ := open_obss (hval 0 22 v0 rfl rfl) h0
  obtain ⟨x1, rfl, w1⟩ := open_i Try.underlying3 (hval 1 3 v1 rfl rfl) h1
  obtain ⟨x2, rfl, w2⟩ := open_i Try.underlying3 (hval 2 3 v2 rfl rfl) h2
  obtain ⟨x3, rfl, w3⟩ := open_itv (hval 3 28 v3 rfl rfl) h3
  exact walk A0 c0 l0 x1 x2 x3 W hm0 hi0 (hL0.reach hsz (j := 0) rfl rfl Try.underlying22) w1 w2 w3
theorem over : Rows.weatherSnowRow.holds Try.pinned (OpenSpec.ofChange Rows.weatherSnowSpec) :=
  OpenClaim.holds_of_wide 5 Try.f5 rfl rfl rfl rfl rfl rfl rfl ⟨rfl, rfl, rfl, rfl, rfl⟩ rfl rfl rfl rfl rfl (by kernel_rfl) Try.func5 (by kernel_rfl)
    (of_decide_eq_true (by kernel_rfl)) (by unfold Func.isWrapper; first | (rw [if_pos (by decide +kernel)]; kernel_rfl) | (rw [if_neg (by decide +kernel)]; exact ⟨rfl, rfl⟩))
    (fun os started H enc _ => lifted os started H enc)
theorem proved : Rows.WeatherSnowSaid := over
#print axioms proved
end Go.Proofs.Ytjnokdpliocmmaa.weatherSnow
