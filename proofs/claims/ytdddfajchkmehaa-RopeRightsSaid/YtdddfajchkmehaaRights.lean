/- RopeRights: for every line of at most 250 carriers Right returns what the reference returns, and for right ones At, People and Between do; no condition. -/
import Derived.Test.YtdddfajchkmehaaLaw0
import Derived.Test.YtdddfajchkmehaaPlain4
namespace Go.Proofs.Ytdddfajchkmehaa.ropeRights
open Go.RowKit Go.ChangeShapes Go.WideShapes Go.ChangeAt
set_option linter.unusedVariables false
set_option maxRecDepth 100000 in
set_option maxHeartbeats 8000000 in
theorem walk (y : LineIn) (seats a0 a1 : Int) (w : World) (hy : y.ok w) (_h1 : (Lit.int .i64 seats).wf = true) (_h2 : (Lit.int .i64 a0).wf = true) (_h3 : (Lit.int .i64 a1).wf = true) : Calls Try.prog 4 #[y.val, .int .i64 seats, .agg #[.int .i64 a0, .int .i64 a1]] w fun e w' => e = .returned (.bool true) ∧ Below w.heap.size w w' := by
  obtain ⟨x, A, c⟩ := y
  obtain ⟨hI, hm, _⟩ := hy
  simp only [LineIn.val] at hI hm ⊢
  unfold maxLen at hm
  have q1 := fun W => Lib.hid (few_any x A c hm W)
  have HB := Lib.hid (Below.refl w.heap.size w)
  have JA := Lib.hid hI
  clear hI
  have ka := below_alloc w (.cells #[.int .i64 x.loop, .int .i64 x.spacing, .int .i64 x.offset, .slice A x.load.length c] 27)
  replace JA := Lib.hid (JA.out.below ka)
  replace HB := Lib.hid (HB.out.trans (ka.mono HB.out.size))
  clear ka
  have k := Blk.new w #[.int .i64 x.loop, .int .i64 x.spacing, .int .i64 x.offset, .slice A x.load.length c] 27
  have Kx := Lib.hid k
  clear k
  have ka := below_alloc (w.alloc (.cells #[.int .i64 x.loop, .int .i64 x.spacing, .int .i64 x.offset, .slice A x.load.length c] 27)) (.cells #[.int .i64 a0, .int .i64 a1] 34)
  replace Kx := Lib.hid (Kx.out.below ka)
  replace JA := Lib.hid (JA.out.below ka)
  replace HB := Lib.hid (HB.out.trans (ka.mono HB.out.size))
  clear ka
  have k := Blk.new (w.alloc (.cells #[.int .i64 x.loop, .int .i64 x.spacing, .int .i64 x.offset, .slice A x.load.length c] 27)) #[.int .i64 a0, .int .i64 a1] 34
  simp only [World.size_alloc] at k
  have Kz := Lib.hid k
  clear k
  by_cases hfw : x.load.length ≤ 250
  · have hd : decide (x.load.length ≤ 250) = true := by simpa using hfw
    rw [hd] at q1
    clear hd
    have hgb : Hid (goodB x = rightB x 16) := Lib.hid (by unfold goodB; rw [show decide (x.load.length ≤ 250) = true by simpa using hfw, Bool.true_and])
    unfold Line.val at *
    go_enter Try.func4, Try.ntmps4
    go_wp2_with fail
    refine (alive_any _).mono ?_
    rintro e v1 ⟨rfl, hb⟩
    replace Kx := Lib.hid (Kx.out.below hb)
    replace Kz := Lib.hid (Kz.out.below hb)
    replace JA := Lib.hid (JA.out.below hb)
    replace HB := Lib.hid (HB.out.trans (hb.mono HB.out.size))
    clear hb
    have xxq0 := Kx.out.cell 0 (v := .int .i64 x.loop) rfl
    have xxq1 := Kx.out.cell 1 (v := .int .i64 x.spacing) rfl
    have xxq2 := Kx.out.cell 2 (v := .int .i64 x.offset) rfl
    have xxq3 := Kx.out.cell 3 (v := .slice A x.load.length c) rfl
    go_wp2_with fail
    refine ((q1 _).out).mono ?_
    rintro e W0 ⟨rfl, hb⟩
    clear xxq0 xxq1 xxq2 xxq3
    replace Kx := Lib.hid (Kx.out.below hb)
    replace Kz := Lib.hid (Kz.out.below hb)
    replace JA := Lib.hid (JA.out.below hb)
    replace HB := Lib.hid (HB.out.trans (hb.mono HB.out.size))
    clear hb
    go_wp2_with fail
    have p1 := fun (X : Above W0) => Lib.hid (Right_any x A c seats (by omega) X.val (JA.out.below X.kept))
    have p2 := fun (X : Above W0) => Lib.hid (refRight_any x A c seats (by omega) X.val (JA.out.below X.kept))
    unfold Line.val at p1 p2
    generalize rightB x seats = rb at *
    have y0 := fun X => above_cell (w := W0) (Kx.out.cell 0 (v := .int .i64 x.loop) rfl) X
    have y1 := fun X => above_cell (w := W0) (Kx.out.cell 1 (v := .int .i64 x.spacing) rfl) X
    have y2 := fun X => above_cell (w := W0) (Kx.out.cell 2 (v := .int .i64 x.offset) rfl) X
    have y3 := fun X => above_cell (w := W0) (Kx.out.cell 3 (v := .slice A x.load.length c) rfl) X
    have hrb : (rb != rb) = false := by simp
    refine wp_region_above (by kernel_rfl) (by kernel_rfl) ?_
    repeat (go_big_quiet_step (first | (go_at_call 14; exact above_call (p1 _).out) | (go_at_call 16; exact above_call (p2 _).out)))
    refine wpQuiet_nil ?_
    rintro _ ⟨v, rfl⟩
    obtain ⟨W1, hb⟩ := v
    simp only
    clear y0 y1 y2 y3 p1 p2 q1
    replace Kx := Lib.hid (Kx.out.below hb)
    replace Kz := Lib.hid (Kz.out.below hb)
    replace JA := Lib.hid (JA.out.below hb)
    replace HB := Lib.hid (HB.out.trans (hb.mono HB.out.size))
    clear hb
    go_wp2_with fail
    have p0 := fun (X : Above W1) => Lib.hid (right1_any x A c (by omega) X.val (JA.out.below X.kept))
    rw [hgb.out] at p0
    unfold Line.val at p0
    have y0 := fun X => above_cell (w := W1) (Kx.out.cell 0 (v := .int .i64 x.loop) rfl) X
    have y1 := fun X => above_cell (w := W1) (Kx.out.cell 1 (v := .int .i64 x.spacing) rfl) X
    have y2 := fun X => above_cell (w := W1) (Kx.out.cell 2 (v := .int .i64 x.offset) rfl) X
    have y3 := fun X => above_cell (w := W1) (Kx.out.cell 3 (v := .slice A x.load.length c) rfl) X
    have z0 := fun X => above_cell (w := W1) (Kz.out.cell 0 (v := .int .i64 a0) rfl) X
    have z1 := fun X => above_cell (w := W1) (Kz.out.cell 1 (v := .int .i64 a1) rfl) X
    cases hr : rightB x 16 with
    | false =>
      rw [hr] at p0
      clear hr
      refine wp_region_above (by kernel_rfl) (by kernel_rfl) ?_
      repeat (go_big_quiet_step (first | (go_at_call 17; exact above_call (p0 _).out)))
      refine wpQuiet_nil ?_
      rintro _ ⟨v, rfl⟩
      obtain ⟨W2, hb⟩ := v
      simp only
      clear y0 y1 y2 y3 z0 z1 p0
      replace Kx := Lib.hid (Kx.out.below hb)
      replace Kz := Lib.hid (Kz.out.below hb)
      replace JA := Lib.hid (JA.out.below hb)
      replace HB := Lib.hid (HB.out.trans (hb.mono HB.out.size))
      clear hb
      have HBB := HB.out
      clear HB
      go_wp2
      go_ret
      exact ⟨rfl, HBB⟩
    | true =>
      rw [hr] at p0
      have hs := (right_use hr).1
      have hf := right_fit (by omega) hr
      have p1 := fun (X : Above W1) => Lib.hid (At_any x A c a0 hs X.val)
      have p2 := fun (X : Above W1) => Lib.hid (refAt_any x A c a0 hs X.val)
      have p3 := fun (X : Above W1) => Lib.hid (People_any x A c hfw hf X.val (JA.out.below X.kept))
      have p4 := fun (X : Above W1) => Lib.hid (refPeople_any x A c hfw hf X.val (JA.out.below X.kept))
      have p5 := fun (X : Above W1) => Lib.hid (Between_any x A c a0 a1 hs hf X.val (JA.out.below X.kept))
      have p6 := fun (X : Above W1) => Lib.hid (refBetween_any x A c a0 a1 hs hf X.val (JA.out.below X.kept))
      unfold Line.val at p1 p2 p3 p4 p5 p6
      generalize atOf x a0 = v1 at *
      generalize peopleOf x = v2 at *
      generalize betK x a0 a1 x.load.length = v3 at *
      have e1 : (v1 == v1) = true := by simp
      have e2 : (v2 == v2) = true := by simp
      have e3 : (v3 == v3) = true := by simp
      clear hr hs hf
      refine wp_region_above (by kernel_rfl) (by kernel_rfl) ?_
      repeat (go_big_quiet_step (first | (go_at_call 17; exact above_call (p0 _).out) | (go_at_call 18; exact above_call (p1 _).out) | (go_at_call 19; exact above_call (p2 _).out) | (go_at_call 20; exact above_call (p3 _).out) | (go_at_call 21; exact above_call (p4 _).out) | (go_at_call 22; exact above_call (p5 _).out) | (go_at_call 23; exact above_call (p6 _).out)))
      refine wpQuiet_nil ?_
      rintro _ ⟨v, rfl⟩
      obtain ⟨W2, hb⟩ := v
      simp only
      clear y0 y1 y2 y3 z0 z1 p0 p1 p2 p3 p4 p5 p6
      replace Kx := Lib.hid (Kx.out.below hb)
      replace Kz := Lib.hid (Kz.out.below hb)
      replace JA := Lib.hid (JA.out.below hb)
      replace HB := Lib.hid (HB.out.trans (hb.mono HB.out.size))
      clear hb
      have HBB := HB.out
      clear HB
      go_wp2
      go_ret
      exact ⟨rfl, HBB⟩
  · have hd : decide (x.load.length ≤ 250) = false := by simpa using hfw
    rw [hd] at q1
    clear hd
    unfold Line.val at *
    go_enter Try.func4, Try.ntmps4
    go_wp2_with fail
    refine (alive_any _).mono ?_
    rintro e v1 ⟨rfl, hb⟩
    replace Kx := Lib.hid (Kx.out.below hb)
    replace Kz := Lib.hid (Kz.out.below hb)
    replace JA := Lib.hid (JA.out.below hb)
    replace HB := Lib.hid (HB.out.trans (hb.mono HB.out.size))
    clear hb
    have xxq0 := Kx.out.cell 0 (v := .int .i64 x.loop) rfl
    have xxq1 := Kx.out.cell 1 (v := .int .i64 x.spacing) rfl
    have xxq2 := Kx.out.cell 2 (v := .int .i64 x.offset) rfl
    have xxq3 := Kx.out.cell 3 (v := .slice A x.load.length c) rfl
    go_wp2_with fail
    refine ((q1 _).out).mono ?_
    rintro e v2 ⟨rfl, hb⟩
    clear xxq0 xxq1 xxq2 xxq3
    replace Kx := Lib.hid (Kx.out.below hb)
    replace Kz := Lib.hid (Kz.out.below hb)
    replace JA := Lib.hid (JA.out.below hb)
    replace HB := Lib.hid (HB.out.trans (hb.mono HB.out.size))
    clear hb
    have HBB := HB.out
    clear HB
    go_wp2
    go_ret
    exact ⟨rfl, HBB⟩

set_option maxRecDepth 100000 in
theorem lifted (os : Os) (started : os.Started) (H : Type) (enc : TypeId × Value → H) :
    ReturnsInHanded {} Try.checked os 4 .any (Rows.ropeRightsSpec.pre6 enc Try.prog Try.f4 Rows.ropeRightsRow.domain false) (Rows.ropeRightsSpec.post enc Try.prog Try.f4 false true false false) := by
  refine returnsInHanded_of_change_sized (C := Try.checked) own started (by kernel_rfl) Try.func4
    (ChangeSpec.witness6 (enc := enc) (C := Try.checked) false ⟨#[], #[.agg #[.int .i64 0, .int .i64 0, .int .i64 0, .slice none 0 0], .int .i64 0, .agg #[.int .i64 0, .int .i64 0]], []⟩ 8 (by kernel_rfl) (by kernel_rfl) (by kernel_rfl) (by kernel_rfl)) ?_
  intro W base args ds gs before hval0 hW hcnd hsz0 _
  have hval : ∀ (j : Nat) t v, Try.f4.params[j]? = some t → args[j]? = some v → Value.okWide Try.prog W .any base t v := hval0
  refine law_post laidOut (by kernel_rfl) Try.underlying4 rfl rfl hW (fun hn => ?_) ?_
  · match ds, hn with
    | [_, _, _], _ => rfl
  obtain ⟨p, q, hA0, hV, rfl, _, _⟩ := hW
  have hA : DataW.TrodAll enc Try.prog W 0 (fun _ => true) true Try.f4.params.toList args.toList ds p := hA0
  obtain ⟨rfl, rfl⟩ := trodVars_none hV
  have hsz : (DataW.weightsEach Try.prog (Try.f4.params.toList ++ []) (ds ++ [])).all (· ≤ reachBytes) = true := hsz0
  rw [Try.params4] at hA hval hsz
  obtain ⟨v0, vs0, d0, ds0, p0, q0, hargs, rfl, rfl, h0, r0⟩ := trodAll_cons hA
  obtain ⟨v1, vs1, d1, ds1, p1, q1, rfl, rfl, rfl, h1, r1⟩ := trodAll_cons r0
  obtain ⟨v2, vs2, d2, ds2, p2, q2, rfl, rfl, rfl, h2, r2⟩ := trodAll_cons r1
  obtain ⟨rfl, rfl, rfl⟩ := trodAll_nil r2
  obtain rfl : args = #[v0, v1, v2] := by cases args; simp_all
  obtain ⟨x0, rfl, w0⟩ := open_line (hval 0 27 v0 rfl rfl) h0
  obtain ⟨x1, rfl, w1⟩ := open_i Try.underlying3 (hval 1 3 v1 rfl rfl) h1
  obtain ⟨x2, y2, rfl, w2, z2⟩ := open_arr2 Try.underlying34 Try.underlying3 (by kernel_rfl) (by kernel_rfl) (hval 2 34 v2 rfl rfl) h2
  exact walk x0 x1 x2 y2 W w0 w1 w2 z2
theorem over : Rows.ropeRightsRow.holds Try.pinned (OpenSpec.ofChange Rows.ropeRightsSpec) :=
  OpenClaim.holds_of_wide 4 Try.f4 rfl rfl rfl rfl rfl rfl rfl ⟨rfl, rfl, rfl, rfl, rfl⟩ rfl rfl rfl rfl rfl (by kernel_rfl) Try.func4 (by kernel_rfl)
    (of_decide_eq_true (by kernel_rfl)) (by unfold Func.isWrapper; first | (rw [if_pos (by decide +kernel)]; kernel_rfl) | (rw [if_neg (by decide +kernel)]; exact ⟨rfl, rfl⟩))
    (fun os started H enc _ => lifted os started H enc)
theorem proved : Rows.RopeRightsSaid := over
#print axioms proved
end Go.Proofs.Ytdddfajchkmehaa.ropeRights
