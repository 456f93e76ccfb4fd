/- RopeMoves: for every right line and every distance Move returns the line and the numbers, or the error, of the reference; no condition. -/
import Derived.Test.YtdddfajchkmehaaLaw0
import Derived.Test.YtdddfajchkmehaaPlain2
namespace Go.Proofs.Ytdddfajchkmehaa.ropeMoves
open Go.RowKit Go.ChangeShapes Go.WideShapes Go.ChangeAt
set_option linter.unusedVariables false
set_option maxRecDepth 100000 in
set_option maxHeartbeats 4000000 in
theorem walk (y : LineIn) (d : Int) (w : World) (hy : y.ok w) (_hd : (Lit.int .i64 d).wf = true) : Calls Try.prog 5 #[y.val, .int .i64 d] w fun e w' => e = .returned (.bool true) ∧ Below w.heap.size w w' := by
  obtain ⟨x, A, c⟩ := y
  obtain ⟨hI, hm, _⟩ := hy
  simp only [LineIn.val] at hI hm ⊢
  unfold maxLen at hm
  have q1 := fun W h => Lib.hid (right1_any x A c hm W h)
  have HB := Lib.hid (Below.refl w.heap.size w)
  have JA := Lib.hid hI
  clear hI
  have ka := below_alloc w (.cells #[.int .i64 x.loop, .int .i64 x.spacing, .int .i64 x.offset, .slice A x.load.length c] 27)
  replace JA := Lib.hid (JA.out.below ka)
  replace HB := Lib.hid (HB.out.trans (ka.mono HB.out.size))
  clear ka
  have k := Blk.new w #[.int .i64 x.loop, .int .i64 x.spacing, .int .i64 x.offset, .slice A x.load.length c] 27
  have Kx := Lib.hid k
  clear k
  cases hgb : goodB x with
  | false =>
    rw [hgb] at q1
    clear hgb
    unfold Line.val at *
    go_enter Try.func5, Try.ntmps5
    go_wp2_with fail
    refine (alive_any _).mono ?_
    rintro e v1 ⟨rfl, hb⟩
    replace Kx := Lib.hid (Kx.out.below hb)
    replace JA := Lib.hid (JA.out.below hb)
    replace HB := Lib.hid (HB.out.trans (hb.mono HB.out.size))
    clear hb
    have xxq0 := Kx.out.cell 0 (v := .int .i64 x.loop) rfl
    have xxq1 := Kx.out.cell 1 (v := .int .i64 x.spacing) rfl
    have xxq2 := Kx.out.cell 2 (v := .int .i64 x.offset) rfl
    have xxq3 := Kx.out.cell 3 (v := .slice A x.load.length c) rfl
    go_wp2_with fail
    refine ((q1 _ JA.out).out).mono ?_
    rintro e v2 ⟨rfl, hb⟩
    clear xxq0 xxq1 xxq2 xxq3
    replace Kx := Lib.hid (Kx.out.below hb)
    replace JA := Lib.hid (JA.out.below hb)
    replace HB := Lib.hid (HB.out.trans (hb.mono HB.out.size))
    clear hb
    have HBB := HB.out
    clear HB
    go_wp2
    go_ret
    exact ⟨rfl, HBB⟩
  | true =>
    obtain ⟨hs, hn, hf, hr⟩ := good_use hgb
    rw [hgb] at q1
    clear hgb
    have hl2 := moved_len x d
    have q2 := fun W h => Lib.hid (Move_any x A c d hs hf W h)
    have q3 := fun W h => Lib.hid (refMove_any x A c d hs hf W h)
    unfold MovePost Line.val at q2 q3
    generalize moveOf x d = q at *
    obtain ⟨z, p, n, er⟩ := q
    simp only at hl2 q2 q3
    clear hs hf hr
    unfold Line.val at *
    go_enter Try.func5, Try.ntmps5
    go_wp2_with fail
    refine (alive_any _).mono ?_
    rintro e v1 ⟨rfl, hb⟩
    replace Kx := Lib.hid (Kx.out.below hb)
    replace JA := Lib.hid (JA.out.below hb)
    replace HB := Lib.hid (HB.out.trans (hb.mono HB.out.size))
    clear hb
    have xxq0 := Kx.out.cell 0 (v := .int .i64 x.loop) rfl
    have xxq1 := Kx.out.cell 1 (v := .int .i64 x.spacing) rfl
    have xxq2 := Kx.out.cell 2 (v := .int .i64 x.offset) rfl
    have xxq3 := Kx.out.cell 3 (v := .slice A x.load.length c) rfl
    go_wp2_with fail
    refine ((q1 _ JA.out).out).mono ?_
    rintro e v2 ⟨rfl, hb⟩
    clear xxq0 xxq1 xxq2 xxq3
    replace Kx := Lib.hid (Kx.out.below hb)
    replace JA := Lib.hid (JA.out.below hb)
    replace HB := Lib.hid (HB.out.trans (hb.mono HB.out.size))
    clear hb
    have xxq0 := Kx.out.cell 0 (v := .int .i64 x.loop) rfl
    have xxq1 := Kx.out.cell 1 (v := .int .i64 x.spacing) rfl
    have xxq2 := Kx.out.cell 2 (v := .int .i64 x.offset) rfl
    have xxq3 := Kx.out.cell 3 (v := .slice A x.load.length c) rfl
    go_wp2_with fail
    refine ((q2 _ JA.out).out).mono ?_
    rintro e v3 ⟨B, b, rfl, hI, hb, _⟩
    clear xxq0 xxq1 xxq2 xxq3
    replace Kx := Lib.hid (Kx.out.below hb)
    replace JA := Lib.hid (JA.out.below hb)
    replace HB := Lib.hid (HB.out.trans (hb.mono HB.out.size))
    clear hb
    have JB := Lib.hid hI
    clear hI
    have ka := below_alloc v3 (.cells #[.int .i64 z.loop, .int .i64 z.spacing, .int .i64 z.offset, .slice B z.load.length b] 27)
    replace Kx := Lib.hid (Kx.out.below ka)
    replace JA := Lib.hid (JA.out.below ka)
    replace JB := Lib.hid (JB.out.below ka)
    replace HB := Lib.hid (HB.out.trans (ka.mono HB.out.size))
    clear ka
    have Ku := Lib.hid (Blk.new v3 #[.int .i64 z.loop, .int .i64 z.spacing, .int .i64 z.offset, .slice B z.load.length b] 27)
    have xxq0 := Kx.out.cell 0 (v := .int .i64 x.loop) rfl
    have xxq1 := Kx.out.cell 1 (v := .int .i64 x.spacing) rfl
    have xxq2 := Kx.out.cell 2 (v := .int .i64 x.offset) rfl
    have xxq3 := Kx.out.cell 3 (v := .slice A x.load.length c) rfl
    go_wp2_with fail
    refine ((q3 _ JA.out).out).mono ?_
    rintro e v4 ⟨C, a, rfl, hI, hb, _⟩
    clear xxq0 xxq1 xxq2 xxq3
    replace Kx := Lib.hid (Kx.out.below hb)
    replace Ku := Lib.hid (Ku.out.below hb)
    replace JA := Lib.hid (JA.out.below hb)
    replace JB := Lib.hid (JB.out.below hb)
    replace HB := Lib.hid (HB.out.trans (hb.mono HB.out.size))
    clear hb
    have JC := Lib.hid hI
    clear hI
    have ka := below_alloc v4 (.cells #[.int .i64 z.loop, .int .i64 z.spacing, .int .i64 z.offset, .slice C z.load.length a] 27)
    replace Kx := Lib.hid (Kx.out.below ka)
    replace Ku := Lib.hid (Ku.out.below ka)
    replace JA := Lib.hid (JA.out.below ka)
    replace JB := Lib.hid (JB.out.below ka)
    replace JC := Lib.hid (JC.out.below ka)
    replace HB := Lib.hid (HB.out.trans (ka.mono HB.out.size))
    clear ka
    have Kv := Lib.hid (Blk.new v4 #[.int .i64 z.loop, .int .i64 z.spacing, .int .i64 z.offset, .slice C z.load.length a] 27)
    have hsm := fun W hA hC => Lib.hid (Same_eq z B C b a W (by omega) hA hC)
    unfold Line.val at hsm
    clear q1 q2 q3
    have xuq0 := Ku.out.cell 0 (v := .int .i64 z.loop) rfl
    have xuq1 := Ku.out.cell 1 (v := .int .i64 z.spacing) rfl
    have xuq2 := Ku.out.cell 2 (v := .int .i64 z.offset) rfl
    have xuq3 := Ku.out.cell 3 (v := .slice B z.load.length b) rfl
    have xvq0 := Kv.out.cell 0 (v := .int .i64 z.loop) rfl
    have xvq1 := Kv.out.cell 1 (v := .int .i64 z.spacing) rfl
    have xvq2 := Kv.out.cell 2 (v := .int .i64 z.offset) rfl
    have xvq3 := Kv.out.cell 3 (v := .slice C z.load.length a) rfl
    go_wp2_with fail
    refine ((hsm _ JB.out JC.out).out).mono ?_
    rintro e v5 ⟨rfl, hb⟩
    clear xuq0 xuq1 xuq2 xuq3
    clear xvq0 xvq1 xvq2 xvq3
    replace Kx := Lib.hid (Kx.out.below hb)
    replace Ku := Lib.hid (Ku.out.below hb)
    replace Kv := Lib.hid (Kv.out.below hb)
    replace JA := Lib.hid (JA.out.below hb)
    replace JB := Lib.hid (JB.out.below hb)
    replace JC := Lib.hid (JC.out.below hb)
    replace HB := Lib.hid (HB.out.trans (hb.mono HB.out.size))
    clear hb
    have HBB := HB.out
    clear HB
    go_wp2
    go_ret
    exact ⟨rfl, HBB⟩

set_option maxRecDepth 100000 in
theorem lifted (os : Os) (started : os.Started) (H : Type) (enc : TypeId × Value → H) :
    ReturnsInHanded {} Try.checked os 5 .any (Rows.ropeMovesSpec.pre6 enc Try.prog Try.f5 Rows.ropeMovesRow.domain false) (Rows.ropeMovesSpec.post enc Try.prog Try.f5 false true false false) := by
  refine returnsInHanded_of_change_sized (C := Try.checked) own started (by kernel_rfl) Try.func5
    (ChangeSpec.witness6 (enc := enc) (C := Try.checked) false ⟨#[], #[.agg #[.int .i64 0, .int .i64 0, .int .i64 0, .slice none 0 0], .int .i64 0], []⟩ 8 (by kernel_rfl) (by kernel_rfl) (by kernel_rfl) (by kernel_rfl)) ?_
  intro W base args ds gs before hval0 hW hcnd hsz0 _
  have hval : ∀ (j : Nat) t v, Try.f5.params[j]? = some t → args[j]? = some v → Value.okWide Try.prog W .any base t v := hval0
  refine law_post laidOut (by kernel_rfl) Try.underlying4 rfl rfl hW (fun hn => ?_) ?_
  · match ds, hn with
    | [_, _], _ => rfl
  obtain ⟨p, q, hA0, hV, rfl, _, _⟩ := hW
  have hA : DataW.TrodAll enc Try.prog W 0 (fun _ => true) true Try.f5.params.toList args.toList ds p := hA0
  obtain ⟨rfl, rfl⟩ := trodVars_none hV
  have hsz : (DataW.weightsEach Try.prog (Try.f5.params.toList ++ []) (ds ++ [])).all (· ≤ reachBytes) = true := hsz0
  rw [Try.params5] at hA hval hsz
  obtain ⟨v0, vs0, d0, ds0, p0, q0, hargs, rfl, rfl, h0, r0⟩ := trodAll_cons hA
  obtain ⟨v1, vs1, d1, ds1, p1, q1, rfl, rfl, rfl, h1, r1⟩ := trodAll_cons r0
  obtain ⟨rfl, rfl, rfl⟩ := trodAll_nil r1
  obtain rfl : args = #[v0, v1] := by cases args; simp_all
  obtain ⟨x0, rfl, w0⟩ := open_line (hval 0 27 v0 rfl rfl) h0
  obtain ⟨x1, rfl, w1⟩ := open_i Try.underlying3 (hval 1 3 v1 rfl rfl) h1
  exact walk x0 x1 W w0 w1
theorem over : Rows.ropeMovesRow.holds Try.pinned (OpenSpec.ofChange Rows.ropeMovesSpec) :=
  OpenClaim.holds_of_wide 5 Try.f5 rfl rfl rfl rfl rfl rfl rfl ⟨rfl, rfl, rfl, rfl, rfl⟩ rfl rfl rfl rfl rfl (by kernel_rfl) Try.func5 (by kernel_rfl)
    (of_decide_eq_true (by kernel_rfl)) (by unfold Func.isWrapper; first | (rw [if_pos (by decide +kernel)]; kernel_rfl) | (rw [if_neg (by decide +kernel)]; exact ⟨rfl, rfl⟩))
    (fun os started H enc _ => lifted os started H enc)
theorem proved : Rows.RopeMovesSaid := over
#print axioms proved
end Go.Proofs.Ytdddfajchkmehaa.ropeMoves
