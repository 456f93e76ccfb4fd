/- RopeParts: for every right line, moving by a and then by b is moving by a + b; no condition. -/
import Derived.Test.YtdddfajchkmehaaLaw0
import Derived.Test.YtdddfajchkmehaaPlain4
namespace Go.Proofs.Ytdddfajchkmehaa.ropeParts
open Go.RowKit Go.ChangeShapes Go.WideShapes Go.ChangeAt
set_option linter.unusedVariables false
set_option maxRecDepth 100000 in
set_option maxHeartbeats 4000000 in
theorem walk (y : LineIn) (a b : Int) (w : World) (hy : y.ok w) (_ha : (Lit.int .i64 a).wf = true) (_hb : (Lit.int .i64 b).wf = true) : Calls Try.prog 8 #[y.val, .int .i64 a, .int .i64 b] w fun e w' => e = .returned (.bool true) ∧ Below w.heap.size w w' := by
  obtain ⟨x, A, c⟩ := y
  obtain ⟨hI, hm, _⟩ := hy
  simp only [LineIn.val] at hI hm ⊢
  unfold maxLen at hm
  have q1 := fun W h => Lib.hid (right1_any x A c hm W h)
  have HB := Lib.hid (Below.refl w.heap.size w)
  have JA := Lib.hid hI
  clear hI
  have ka := below_alloc w (.cells #[.int .i64 x.loop, .int .i64 x.spacing, .int .i64 x.offset, .slice A x.load.length c] 27)
  replace JA := Lib.hid (JA.out.below ka)
  replace HB := Lib.hid (HB.out.trans (ka.mono HB.out.size))
  clear ka
  have k := Blk.new w #[.int .i64 x.loop, .int .i64 x.spacing, .int .i64 x.offset, .slice A x.load.length c] 27
  have Kx := Lib.hid k
  clear k
  cases hgb : goodB x with
  | false =>
    rw [hgb] at q1
    clear hgb
    unfold Line.val at *
    go_enter Try.func8, Try.ntmps8
    go_wp2_with fail
    refine (alive_any _).mono ?_
    rintro e v1 ⟨rfl, hb⟩
    replace Kx := Lib.hid (Kx.out.below hb)
    replace JA := Lib.hid (JA.out.below hb)
    replace HB := Lib.hid (HB.out.trans (hb.mono HB.out.size))
    clear hb
    have xxq0 := Kx.out.cell 0 (v := .int .i64 x.loop) rfl
    have xxq1 := Kx.out.cell 1 (v := .int .i64 x.spacing) rfl
    have xxq2 := Kx.out.cell 2 (v := .int .i64 x.offset) rfl
    have xxq3 := Kx.out.cell 3 (v := .slice A x.load.length c) rfl
    go_wp2_with fail
    refine ((q1 _ JA.out).out).mono ?_
    rintro e v2 ⟨rfl, hb⟩
    clear xxq0 xxq1 xxq2 xxq3
    replace Kx := Lib.hid (Kx.out.below hb)
    replace JA := Lib.hid (JA.out.below hb)
    replace HB := Lib.hid (HB.out.trans (hb.mono HB.out.size))
    clear hb
    have HBB := HB.out
    clear HB
    go_wp2
    go_ret
    exact ⟨rfl, HBB⟩
  | true =>
    obtain ⟨hs, hn, hf, hr⟩ := good_use hgb
    rw [hgb] at q1
    clear hgb
    have hsp := hs.2.1
    have hsp0 := hs.1
    have ho : a < 0 ∨ 0 ≤ a ∧ (b < 0 ∨ 0 ≤ b ∧ (x.spacing < a ∨ a ≤ x.spacing ∧ (x.spacing - a < b ∨ b ≤ x.spacing - a))) := by omega
    rcases ho with ho | ⟨a0, ho | ⟨b0, ho | ⟨a1, ho | b1⟩⟩⟩
    · clear hs hf hr
      unfold Line.val at *
      go_enter Try.func8, Try.ntmps8
      go_wp2_with fail
      refine (alive_any _).mono ?_
      rintro e v1 ⟨rfl, hb⟩
      replace Kx := Lib.hid (Kx.out.below hb)
      replace JA := Lib.hid (JA.out.below hb)
      replace HB := Lib.hid (HB.out.trans (hb.mono HB.out.size))
      clear hb
      have xxq0 := Kx.out.cell 0 (v := .int .i64 x.loop) rfl
      have xxq1 := Kx.out.cell 1 (v := .int .i64 x.spacing) rfl
      have xxq2 := Kx.out.cell 2 (v := .int .i64 x.offset) rfl
      have xxq3 := Kx.out.cell 3 (v := .slice A x.load.length c) rfl
      go_wp2_with fail
      refine ((q1 _ JA.out).out).mono ?_
      rintro e v2 ⟨rfl, hb⟩
      clear xxq0 xxq1 xxq2 xxq3
      replace Kx := Lib.hid (Kx.out.below hb)
      replace JA := Lib.hid (JA.out.below hb)
      replace HB := Lib.hid (HB.out.trans (hb.mono HB.out.size))
      clear hb
      have xxq0 := Kx.out.cell 0 (v := .int .i64 x.loop) rfl
      have xxq1 := Kx.out.cell 1 (v := .int .i64 x.spacing) rfl
      have xxq2 := Kx.out.cell 2 (v := .int .i64 x.offset) rfl
      have xxq3 := Kx.out.cell 3 (v := .slice A x.load.length c) rfl
      have HBB := HB.out
      clear HB
      go_wp2
      go_ret
      exact ⟨rfl, HBB⟩
    · clear hs hf hr
      unfold Line.val at *
      go_enter Try.func8, Try.ntmps8
      go_wp2_with fail
      refine (alive_any _).mono ?_
      rintro e v1 ⟨rfl, hb⟩
      replace Kx := Lib.hid (Kx.out.below hb)
      replace JA := Lib.hid (JA.out.below hb)
      replace HB := Lib.hid (HB.out.trans (hb.mono HB.out.size))
      clear hb
      have xxq0 := Kx.out.cell 0 (v := .int .i64 x.loop) rfl
      have xxq1 := Kx.out.cell 1 (v := .int .i64 x.spacing) rfl
      have xxq2 := Kx.out.cell 2 (v := .int .i64 x.offset) rfl
      have xxq3 := Kx.out.cell 3 (v := .slice A x.load.length c) rfl
      go_wp2_with fail
      refine ((q1 _ JA.out).out).mono ?_
      rintro e v2 ⟨rfl, hb⟩
      clear xxq0 xxq1 xxq2 xxq3
      replace Kx := Lib.hid (Kx.out.below hb)
      replace JA := Lib.hid (JA.out.below hb)
      replace HB := Lib.hid (HB.out.trans (hb.mono HB.out.size))
      clear hb
      have xxq0 := Kx.out.cell 0 (v := .int .i64 x.loop) rfl
      have xxq1 := Kx.out.cell 1 (v := .int .i64 x.spacing) rfl
      have xxq2 := Kx.out.cell 2 (v := .int .i64 x.offset) rfl
      have xxq3 := Kx.out.cell 3 (v := .slice A x.load.length c) rfl
      have HBB := HB.out
      clear HB
      go_wp2
      go_ret
      exact ⟨rfl, HBB⟩
    · clear hs hf hr
      unfold Line.val at *
      go_enter Try.func8, Try.ntmps8
      go_wp2_with fail
      refine (alive_any _).mono ?_
      rintro e v1 ⟨rfl, hb⟩
      replace Kx := Lib.hid (Kx.out.below hb)
      replace JA := Lib.hid (JA.out.below hb)
      replace HB := Lib.hid (HB.out.trans (hb.mono HB.out.size))
      clear hb
      have xxq0 := Kx.out.cell 0 (v := .int .i64 x.loop) rfl
      have xxq1 := Kx.out.cell 1 (v := .int .i64 x.spacing) rfl
      have xxq2 := Kx.out.cell 2 (v := .int .i64 x.offset) rfl
      have xxq3 := Kx.out.cell 3 (v := .slice A x.load.length c) rfl
      go_wp2_with fail
      refine ((q1 _ JA.out).out).mono ?_
      rintro e v2 ⟨rfl, hb⟩
      clear xxq0 xxq1 xxq2 xxq3
      replace Kx := Lib.hid (Kx.out.below hb)
      replace JA := Lib.hid (JA.out.below hb)
      replace HB := Lib.hid (HB.out.trans (hb.mono HB.out.size))
      clear hb
      have xxq0 := Kx.out.cell 0 (v := .int .i64 x.loop) rfl
      have xxq1 := Kx.out.cell 1 (v := .int .i64 x.spacing) rfl
      have xxq2 := Kx.out.cell 2 (v := .int .i64 x.offset) rfl
      have xxq3 := Kx.out.cell 3 (v := .slice A x.load.length c) rfl
      have HBB := HB.out
      clear HB
      go_wp2
      go_ret
      exact ⟨rfl, HBB⟩
    · clear hs hf hr
      unfold Line.val at *
      go_enter Try.func8, Try.ntmps8
      go_wp2_with fail
      refine (alive_any _).mono ?_
      rintro e v1 ⟨rfl, hb⟩
      replace Kx := Lib.hid (Kx.out.below hb)
      replace JA := Lib.hid (JA.out.below hb)
      replace HB := Lib.hid (HB.out.trans (hb.mono HB.out.size))
      clear hb
      have xxq0 := Kx.out.cell 0 (v := .int .i64 x.loop) rfl
      have xxq1 := Kx.out.cell 1 (v := .int .i64 x.spacing) rfl
      have xxq2 := Kx.out.cell 2 (v := .int .i64 x.offset) rfl
      have xxq3 := Kx.out.cell 3 (v := .slice A x.load.length c) rfl
      go_wp2_with fail
      refine ((q1 _ JA.out).out).mono ?_
      rintro e v2 ⟨rfl, hb⟩
      clear xxq0 xxq1 xxq2 xxq3
      replace Kx := Lib.hid (Kx.out.below hb)
      replace JA := Lib.hid (JA.out.below hb)
      replace HB := Lib.hid (HB.out.trans (hb.mono HB.out.size))
      clear hb
      have xxq0 := Kx.out.cell 0 (v := .int .i64 x.loop) rfl
      have xxq1 := Kx.out.cell 1 (v := .int .i64 x.spacing) rfl
      have xxq2 := Kx.out.cell 2 (v := .int .i64 x.offset) rfl
      have xxq3 := Kx.out.cell 3 (v := .slice A x.load.length c) rfl
      have HBB := HB.out
      clear HB
      go_wp2
      go_ret
      exact ⟨rfl, HBB⟩
    · have hy := moved_right hr (by omega) (d := a) ⟨a0, a1⟩
      have hys := (right_use hy).1
      have hyf := right_fit (by omega) hy
      have hyl := moved_length x a
      have hys2 : (moved x a).spacing = x.spacing := rfl
      have q2 := fun W h => Lib.hid (Move_any x A c a hs hf W h)
      have q3 := fun B b' W h => Lib.hid (Move_any (moved x a) B b' b hys hyf W h)
      have q4 := fun W h => Lib.hid (Move_any x A c (a + b) hs hf W h)
      rw [move_yes ⟨a0, a1⟩] at q2
      rw [move_yes ⟨b0, by rw [hys2]; omega⟩, hyl, parts_line hr a0 b0 (by omega)] at q3
      rw [move_yes ⟨by omega, by omega⟩, ← parts_left hr a0 b0 (by omega) _ (Nat.le_refl _), parts_pass hs a0 b0 (by omega)] at q4
      have l1 := left_bd (by omega) hf a x.load.length
      have l2 := left_bd (by omega) hyf b x.load.length
      have zl := moved_length x (a + b)
      unfold MovePost Line.val at q2 q3 q4
      simp only at q2 q3 q4
      have HX := Lib.hid hyl
      rw [hyl] at q3
      clear hyl hys hyf hy hs hf hr hys2
      generalize leftK x a x.load.length = n1 at *
      generalize leftK (moved x a) b x.load.length = m1 at *
      generalize passK x a x.load.length = p1 at *
      generalize passK (moved x a) b x.load.length = p2 at *
      generalize moved x (a + b) = z at *
      generalize moved x a = y at *
      rw [HX.out] at q2
      have l3 : n1 + m1 ≤ 1000000000 := by omega
      have zl2 : z.load.length ≤ 1000000 := by omega
      clear zl
      obtain ⟨p3, hp3⟩ : ∃ p3, p3 = max p1 p2 := ⟨_, rfl⟩
      rw [← hp3] at q4
      have hmx : p1 < p2 ∧ p3 = p2 ∨ p2 ≤ p1 ∧ p3 = p1 := by omega
      clear hp3
      have HMX := Lib.hid hmx
      clear hmx
      unfold Line.val at *
      go_enter Try.func8, Try.ntmps8
      go_wp2_with fail
      refine (alive_any _).mono ?_
      rintro e v1 ⟨rfl, hb⟩
      replace Kx := Lib.hid (Kx.out.below hb)
      replace JA := Lib.hid (JA.out.below hb)
      replace HB := Lib.hid (HB.out.trans (hb.mono HB.out.size))
      clear hb
      have xxq0 := Kx.out.cell 0 (v := .int .i64 x.loop) rfl
      have xxq1 := Kx.out.cell 1 (v := .int .i64 x.spacing) rfl
      have xxq2 := Kx.out.cell 2 (v := .int .i64 x.offset) rfl
      have xxq3 := Kx.out.cell 3 (v := .slice A x.load.length c) rfl
      go_wp2_with fail
      refine ((q1 _ JA.out).out).mono ?_
      rintro e v2 ⟨rfl, hb⟩
      clear xxq0 xxq1 xxq2 xxq3
      replace Kx := Lib.hid (Kx.out.below hb)
      replace JA := Lib.hid (JA.out.below hb)
      replace HB := Lib.hid (HB.out.trans (hb.mono HB.out.size))
      clear hb
      have xxq0 := Kx.out.cell 0 (v := .int .i64 x.loop) rfl
      have xxq1 := Kx.out.cell 1 (v := .int .i64 x.spacing) rfl
      have xxq2 := Kx.out.cell 2 (v := .int .i64 x.offset) rfl
      have xxq3 := Kx.out.cell 3 (v := .slice A x.load.length c) rfl
      go_wp2_with fail
      refine ((q2 _ JA.out).out).mono ?_
      rintro e v3 ⟨B, b', rfl, hI, hb, _⟩
      replace Kx := Lib.hid (Kx.out.below hb)
      replace JA := Lib.hid (JA.out.below hb)
      replace HB := Lib.hid (HB.out.trans (hb.mono HB.out.size))
      clear hb
      clear xxq0 xxq1 xxq2 xxq3
      have JB := Lib.hid hI
      clear hI
      have ka := below_alloc v3 (.cells #[.int .i64 y.loop, .int .i64 y.spacing, .int .i64 y.offset, .slice B x.load.length b'] 27)
      replace Kx := Lib.hid (Kx.out.below ka)
      replace JA := Lib.hid (JA.out.below ka)
      replace JB := Lib.hid (JB.out.below ka)
      replace HB := Lib.hid (HB.out.trans (ka.mono HB.out.size))
      clear ka
      have Ky := Lib.hid (Blk.new v3 #[.int .i64 y.loop, .int .i64 y.spacing, .int .i64 y.offset, .slice B x.load.length b'] 27)
      have xyq0 := Ky.out.cell 0 (v := .int .i64 y.loop) rfl
      have xyq1 := Ky.out.cell 1 (v := .int .i64 y.spacing) rfl
      have xyq2 := Ky.out.cell 2 (v := .int .i64 y.offset) rfl
      have xyq3 := Ky.out.cell 3 (v := .slice B x.load.length b') rfl
      go_wp2_with fail
      refine ((q3 B b' _ JB.out).out).mono ?_
      rintro e v4 ⟨C, c', rfl, hI, hb, _⟩
      clear xyq0 xyq1 xyq2 xyq3
      replace Kx := Lib.hid (Kx.out.below hb)
      replace Ky := Lib.hid (Ky.out.below hb)
      replace JA := Lib.hid (JA.out.below hb)
      replace JB := Lib.hid (JB.out.below hb)
      replace HB := Lib.hid (HB.out.trans (hb.mono HB.out.size))
      clear hb
      have JC := Lib.hid hI
      clear hI
      have ka := below_alloc v4 (.cells #[.int .i64 z.loop, .int .i64 z.spacing, .int .i64 z.offset, .slice C z.load.length c'] 27)
      replace Kx := Lib.hid (Kx.out.below ka)
      replace Ky := Lib.hid (Ky.out.below ka)
      replace JA := Lib.hid (JA.out.below ka)
      replace JB := Lib.hid (JB.out.below ka)
      replace JC := Lib.hid (JC.out.below ka)
      replace HB := Lib.hid (HB.out.trans (ka.mono HB.out.size))
      clear ka
      have Kz1 := Lib.hid (Blk.new v4 #[.int .i64 z.loop, .int .i64 z.spacing, .int .i64 z.offset, .slice C z.load.length c'] 27)
      have xxq0 := Kx.out.cell 0 (v := .int .i64 x.loop) rfl
      have xxq1 := Kx.out.cell 1 (v := .int .i64 x.spacing) rfl
      have xxq2 := Kx.out.cell 2 (v := .int .i64 x.offset) rfl
      have xxq3 := Kx.out.cell 3 (v := .slice A x.load.length c) rfl
      go_wp2_with fail
      refine ((q4 _ JA.out).out).mono ?_
      rintro e v5 ⟨D, d', rfl, hI, hb, _⟩
      clear xxq0 xxq1 xxq2 xxq3
      replace Kx := Lib.hid (Kx.out.below hb)
      replace Ky := Lib.hid (Ky.out.below hb)
      replace Kz1 := Lib.hid (Kz1.out.below hb)
      replace JA := Lib.hid (JA.out.below hb)
      replace JB := Lib.hid (JB.out.below hb)
      replace JC := Lib.hid (JC.out.below hb)
      replace HB := Lib.hid (HB.out.trans (hb.mono HB.out.size))
      clear hb
      have JD := Lib.hid hI
      clear hI
      have ka := below_alloc v5 (.cells #[.int .i64 z.loop, .int .i64 z.spacing, .int .i64 z.offset, .slice D z.load.length d'] 27)
      replace Kx := Lib.hid (Kx.out.below ka)
      replace Ky := Lib.hid (Ky.out.below ka)
      replace Kz1 := Lib.hid (Kz1.out.below ka)
      replace JA := Lib.hid (JA.out.below ka)
      replace JB := Lib.hid (JB.out.below ka)
      replace JC := Lib.hid (JC.out.below ka)
      replace JD := Lib.hid (JD.out.below ka)
      replace HB := Lib.hid (HB.out.trans (ka.mono HB.out.size))
      clear ka
      have Kz2 := Lib.hid (Blk.new v5 #[.int .i64 z.loop, .int .i64 z.spacing, .int .i64 z.offset, .slice D z.load.length d'] 27)
      have hsm := fun W hA hC => Lib.hid (Same_eq z C D c' d' W (by omega) hA hC)
      unfold Line.val at hsm
      clear q1 q2 q3 q4
      have xz1q0 := Kz1.out.cell 0 (v := .int .i64 z.loop) rfl
      have xz1q1 := Kz1.out.cell 1 (v := .int .i64 z.spacing) rfl
      have xz1q2 := Kz1.out.cell 2 (v := .int .i64 z.offset) rfl
      have xz1q3 := Kz1.out.cell 3 (v := .slice C z.load.length c') rfl
      have xz2q0 := Kz2.out.cell 0 (v := .int .i64 z.loop) rfl
      have xz2q1 := Kz2.out.cell 1 (v := .int .i64 z.spacing) rfl
      have xz2q2 := Kz2.out.cell 2 (v := .int .i64 z.offset) rfl
      have xz2q3 := Kz2.out.cell 3 (v := .slice D z.load.length d') rfl
      go_wp2_with fail
      refine ((hsm _ JC.out JD.out).out).mono ?_
      rintro e v6 ⟨rfl, hb⟩
      clear xz1q0 xz1q1 xz1q2 xz1q3
      clear xz2q0 xz2q1 xz2q2 xz2q3
      replace Kx := Lib.hid (Kx.out.below hb)
      replace Ky := Lib.hid (Ky.out.below hb)
      replace Kz1 := Lib.hid (Kz1.out.below hb)
      replace Kz2 := Lib.hid (Kz2.out.below hb)
      replace JA := Lib.hid (JA.out.below hb)
      replace JB := Lib.hid (JB.out.below hb)
      replace JC := Lib.hid (JC.out.below hb)
      replace JD := Lib.hid (JD.out.below hb)
      replace HB := Lib.hid (HB.out.trans (hb.mono HB.out.size))
      clear hb
      clear hsm
      rcases HMX.out with ⟨m1', m2⟩ | ⟨m1', m2⟩
      · subst m2
        clear HMX
        have HBB := HB.out
        clear HB
        go_wp2
        go_ret
        exact ⟨rfl, HBB⟩
      · subst m2
        clear HMX
        have HBB := HB.out
        clear HB
        go_wp2
        go_ret
        exact ⟨rfl, HBB⟩

set_option maxRecDepth 100000 in
theorem lifted (os : Os) (started : os.Started) (H : Type) (enc : TypeId × Value → H) :
    ReturnsInHanded {} Try.checked os 8 .any (Rows.ropePartsSpec.pre6 enc Try.prog Try.f8 Rows.ropePartsRow.domain false) (Rows.ropePartsSpec.post enc Try.prog Try.f8 false true false false) := by
  refine returnsInHanded_of_change_sized (C := Try.checked) own started (by kernel_rfl) Try.func8
    (ChangeSpec.witness6 (enc := enc) (C := Try.checked) false ⟨#[], #[.agg #[.int .i64 0, .int .i64 0, .int .i64 0, .slice none 0 0], .int .i64 0, .int .i64 0], []⟩ 8 (by kernel_rfl) (by kernel_rfl) (by kernel_rfl) (by kernel_rfl)) ?_
  intro W base args ds gs before hval0 hW hcnd hsz0 _
  have hval : ∀ (j : Nat) t v, Try.f8.params[j]? = some t → args[j]? = some v → Value.okWide Try.prog W .any base t v := hval0
  refine law_post laidOut (by kernel_rfl) Try.underlying4 rfl rfl hW (fun hn => ?_) ?_
  · match ds, hn with
    | [_, _, _], _ => rfl
  obtain ⟨p, q, hA0, hV, rfl, _, _⟩ := hW
  have hA : DataW.TrodAll enc Try.prog W 0 (fun _ => true) true Try.f8.params.toList args.toList ds p := hA0
  obtain ⟨rfl, rfl⟩ := trodVars_none hV
  have hsz : (DataW.weightsEach Try.prog (Try.f8.params.toList ++ []) (ds ++ [])).all (· ≤ reachBytes) = true := hsz0
  rw [Try.params8] at hA hval hsz
  obtain ⟨v0, vs0, d0, ds0, p0, q0, hargs, rfl, rfl, h0, r0⟩ := trodAll_cons hA
  obtain ⟨v1, vs1, d1, ds1, p1, q1, rfl, rfl, rfl, h1, r1⟩ := trodAll_cons r0
  obtain ⟨v2, vs2, d2, ds2, p2, q2, rfl, rfl, rfl, h2, r2⟩ := trodAll_cons r1
  obtain ⟨rfl, rfl, rfl⟩ := trodAll_nil r2
  obtain rfl : args = #[v0, v1, v2] := by cases args; simp_all
  obtain ⟨x0, rfl, w0⟩ := open_line (hval 0 27 v0 rfl rfl) h0
  obtain ⟨x1, rfl, w1⟩ := open_i Try.underlying3 (hval 1 3 v1 rfl rfl) h1
  obtain ⟨x2, rfl, w2⟩ := open_i Try.underlying3 (hval 2 3 v2 rfl rfl) h2
  exact walk x0 x1 x2 W w0 w1 w2
theorem over : Rows.ropePartsRow.holds Try.pinned (OpenSpec.ofChange Rows.ropePartsSpec) :=
  OpenClaim.holds_of_wide 8 Try.f8 rfl rfl rfl rfl rfl rfl rfl ⟨rfl, rfl, rfl, rfl, rfl⟩ rfl rfl rfl rfl rfl (by kernel_rfl) Try.func8 (by kernel_rfl)
    (of_decide_eq_true (by kernel_rfl)) (by unfold Func.isWrapper; first | (rw [if_pos (by decide +kernel)]; kernel_rfl) | (rw [if_neg (by decide +kernel)]; exact ⟨rfl, rfl⟩))
    (fun os started H enc _ => lifted os started H enc)
theorem proved : Rows.RopePartsSaid := over
#print axioms proved
end Go.Proofs.Ytdddfajchkmehaa.ropeParts
