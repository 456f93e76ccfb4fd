/- RopeNews: for every lift New returns the line or the error of the reference, and the line is right; no condition. -/
import Derived.Test.YtdddfajchkmehaaLaw0
namespace Go.Proofs.Ytdddfajchkmehaa.ropeNews
open Go.RowKit Go.ChangeShapes Go.WideShapes Go.ChangeAt
set_option linter.unusedVariables false
set_option maxHeartbeats 4000000 in
theorem walk (l : Lift) (w : World) (_hI : l.I) : Calls Try.prog 3 #[l.val] w fun e w' => e = .returned (.bool true) ∧ Below w.heap.size w w' := by
  clear _hI
  have hc := Lib.hid (new_cases l)
  have hf := new_fit l
  have q1 := fun W => Lib.hid (New_any l W)
  have q2 := fun W => Lib.hid (refNew_any l W)
  unfold LinePost Line.val at q1 q2
  generalize newOf l = q at *
  obtain ⟨x, er⟩ := q
  simp only at hf hc q1 q2
  have HF := Lib.hid hf.1
  have hl := hf.2
  clear hf
  unfold Lift.val at *
  have HB := Lib.hid (below_alloc w (.cells #[.int .i64 l.id, .int .i64 l.operator, .int .i64 l.from_, .int .i64 l.to_, .int .i64 l.length, .int .i64 l.speed, .int .i64 l.seats, .int .i64 l.spacing] 23))
  have KL := Lib.hid (Blk.new w #[.int .i64 l.id, .int .i64 l.operator, .int .i64 l.from_, .int .i64 l.to_, .int .i64 l.length, .int .i64 l.speed, .int .i64 l.seats, .int .i64 l.spacing] 23)
  go_enter Try.func3, Try.ntmps3
  go_wp2_with fail
  refine (alive_any _).mono ?_
  rintro e v1 ⟨rfl, hb⟩
  replace KL := Lib.hid (KL.out.below hb)
  replace HB := Lib.hid (HB.out.trans (hb.mono HB.out.size))
  clear hb
  have xLq0 := KL.out.cell 0 (v := .int .i64 l.id) rfl
  have xLq1 := KL.out.cell 1 (v := .int .i64 l.operator) rfl
  have xLq2 := KL.out.cell 2 (v := .int .i64 l.from_) rfl
  have xLq3 := KL.out.cell 3 (v := .int .i64 l.to_) rfl
  have xLq4 := KL.out.cell 4 (v := .int .i64 l.length) rfl
  have xLq5 := KL.out.cell 5 (v := .int .i64 l.speed) rfl
  have xLq6 := KL.out.cell 6 (v := .int .i64 l.seats) rfl
  have xLq7 := KL.out.cell 7 (v := .int .i64 l.spacing) rfl
  go_wp2_with fail
  refine ((q1 _).out).mono ?_
  rintro e v2 ⟨A, c, rfl, hI, hb, _⟩
  clear xLq0 xLq1 xLq2 xLq3 xLq4 xLq5 xLq6 xLq7
  replace KL := Lib.hid (KL.out.below hb)
  replace HB := Lib.hid (HB.out.trans (hb.mono HB.out.size))
  clear hb
  have JA := Lib.hid hI
  clear hI
  have ka := below_alloc v2 (.cells #[.int .i64 x.loop, .int .i64 x.spacing, .int .i64 x.offset, .slice A x.load.length c] 27)
  replace KL := Lib.hid (KL.out.below ka)
  replace JA := Lib.hid (JA.out.below ka)
  replace HB := Lib.hid (HB.out.trans (ka.mono HB.out.size))
  clear ka
  have Kx := Lib.hid (Blk.new v2 #[.int .i64 x.loop, .int .i64 x.spacing, .int .i64 x.offset, .slice A x.load.length c] 27)
  have xLq0 := KL.out.cell 0 (v := .int .i64 l.id) rfl
  have xLq1 := KL.out.cell 1 (v := .int .i64 l.operator) rfl
  have xLq2 := KL.out.cell 2 (v := .int .i64 l.from_) rfl
  have xLq3 := KL.out.cell 3 (v := .int .i64 l.to_) rfl
  have xLq4 := KL.out.cell 4 (v := .int .i64 l.length) rfl
  have xLq5 := KL.out.cell 5 (v := .int .i64 l.speed) rfl
  have xLq6 := KL.out.cell 6 (v := .int .i64 l.seats) rfl
  have xLq7 := KL.out.cell 7 (v := .int .i64 l.spacing) rfl
  go_wp2_with fail
  refine ((q2 _).out).mono ?_
  rintro e v3 ⟨C, d, rfl, hI, hb, _⟩
  clear xLq0 xLq1 xLq2 xLq3 xLq4 xLq5 xLq6 xLq7
  replace KL := Lib.hid (KL.out.below hb)
  replace Kx := Lib.hid (Kx.out.below hb)
  replace JA := Lib.hid (JA.out.below hb)
  replace HB := Lib.hid (HB.out.trans (hb.mono HB.out.size))
  clear hb
  have JC := Lib.hid hI
  clear hI
  have ka := below_alloc v3 (.cells #[.int .i64 x.loop, .int .i64 x.spacing, .int .i64 x.offset, .slice C x.load.length d] 27)
  replace KL := Lib.hid (KL.out.below ka)
  replace Kx := Lib.hid (Kx.out.below ka)
  replace JA := Lib.hid (JA.out.below ka)
  replace JC := Lib.hid (JC.out.below ka)
  replace HB := Lib.hid (HB.out.trans (ka.mono HB.out.size))
  clear ka
  have Ky := Lib.hid (Blk.new v3 #[.int .i64 x.loop, .int .i64 x.spacing, .int .i64 x.offset, .slice C x.load.length d] 27)
  have hs := fun W hA hC => Lib.hid (Same_eq x A C c d W (by omega) hA hC)
  unfold Line.val at hs
  have xxq0 := Kx.out.cell 0 (v := .int .i64 x.loop) rfl
  have xxq1 := Kx.out.cell 1 (v := .int .i64 x.spacing) rfl
  have xxq2 := Kx.out.cell 2 (v := .int .i64 x.offset) rfl
  have xxq3 := Kx.out.cell 3 (v := .slice A x.load.length c) rfl
  have xyq0 := Ky.out.cell 0 (v := .int .i64 x.loop) rfl
  have xyq1 := Ky.out.cell 1 (v := .int .i64 x.spacing) rfl
  have xyq2 := Ky.out.cell 2 (v := .int .i64 x.offset) rfl
  have xyq3 := Ky.out.cell 3 (v := .slice C x.load.length d) rfl
  go_wp2_with fail
  refine ((hs _ JA.out JC.out).out).mono ?_
  rintro e v4 ⟨rfl, hb⟩
  clear xxq0 xxq1 xxq2 xxq3
  clear xyq0 xyq1 xyq2 xyq3
  replace KL := Lib.hid (KL.out.below hb)
  replace Kx := Lib.hid (Kx.out.below hb)
  replace Ky := Lib.hid (Ky.out.below hb)
  replace JA := Lib.hid (JA.out.below hb)
  replace JC := Lib.hid (JC.out.below hb)
  replace HB := Lib.hid (HB.out.trans (hb.mono HB.out.size))
  clear hb
  rcases hc.out with ⟨h0, hr⟩ | h1
  · subst h0
    have hr2 := fun W h => Lib.hid (Right_any x A c 0 (by omega) W h)
    rw [hr] at hr2
    unfold Line.val at hr2
    clear hr hc hs q1 q2
    have xxq0 := Kx.out.cell 0 (v := .int .i64 x.loop) rfl
    have xxq1 := Kx.out.cell 1 (v := .int .i64 x.spacing) rfl
    have xxq2 := Kx.out.cell 2 (v := .int .i64 x.offset) rfl
    have xxq3 := Kx.out.cell 3 (v := .slice A x.load.length c) rfl
    go_wp2_with fail
    refine ((hr2 _ JA.out).out).mono ?_
    rintro e v1 ⟨rfl, hb⟩
    clear xxq0 xxq1 xxq2 xxq3
    replace KL := Lib.hid (KL.out.below hb)
    replace Kx := Lib.hid (Kx.out.below hb)
    replace Ky := Lib.hid (Ky.out.below hb)
    replace JA := Lib.hid (JA.out.below hb)
    replace JC := Lib.hid (JC.out.below hb)
    replace HB := Lib.hid (HB.out.trans (hb.mono HB.out.size))
    clear hb
    have HBB := HB.out
    clear HB
    go_wp2
    go_ret
    exact ⟨rfl, HBB⟩
  · subst h1
    clear hc hs q1 q2
    have HBB := HB.out
    clear HB
    go_wp2
    go_ret
    exact ⟨rfl, HBB⟩

set_option maxRecDepth 100000 in
theorem lifted (os : Os) (started : os.Started) (H : Type) (enc : TypeId × Value → H) :
    ReturnsInHanded {} Try.checked os 3 .any (Rows.ropeNewsSpec.pre6 enc Try.prog Try.f3 Rows.ropeNewsRow.domain false) (Rows.ropeNewsSpec.post enc Try.prog Try.f3 false true false false) := by
  refine returnsInHanded_of_change_sized (C := Try.checked) own started (by kernel_rfl) Try.func3
    (ChangeSpec.witness6 (enc := enc) (C := Try.checked) false ⟨#[], #[Lift.val ⟨0, 0, 0, 0, 0, 0, 0, 0⟩], []⟩ 8 (by kernel_rfl) (by kernel_rfl) (by kernel_rfl) (by kernel_rfl)) ?_
  intro W base args ds gs before hval0 hW hcnd hsz0 _
  have hval : ∀ (j : Nat) t v, Try.f3.params[j]? = some t → args[j]? = some v → Value.okWide Try.prog W .any base t v := hval0
  refine law_post laidOut (by kernel_rfl) Try.underlying4 rfl rfl hW (fun hn => ?_) ?_
  · match ds, hn with
    | [_], _ => rfl
  obtain ⟨p, q, hA0, hV, rfl, _, _⟩ := hW
  have hA : DataW.TrodAll enc Try.prog W 0 (fun _ => true) true Try.f3.params.toList args.toList ds p := hA0
  obtain ⟨rfl, rfl⟩ := trodVars_none hV
  have hsz : (DataW.weightsEach Try.prog (Try.f3.params.toList ++ []) (ds ++ [])).all (· ≤ reachBytes) = true := hsz0
  rw [Try.params3] at hA hval hsz
  obtain ⟨v0, vs0, d0, ds0, p0, q0, hargs, rfl, rfl, h0, r0⟩ := trodAll_cons hA
  obtain ⟨rfl, rfl, rfl⟩ := trodAll_nil r0
  obtain rfl : args = #[v0] := by cases args; simp_all
  obtain ⟨x0, rfl, w0⟩ := open_lift (hval 0 23 v0 rfl rfl) h0
  exact walk x0 W w0
theorem over : Rows.ropeNewsRow.holds Try.pinned (OpenSpec.ofChange Rows.ropeNewsSpec) :=
  OpenClaim.holds_of_wide 3 Try.f3 rfl rfl rfl rfl rfl rfl rfl ⟨rfl, rfl, rfl, rfl, rfl⟩ rfl rfl rfl rfl rfl (by kernel_rfl) Try.func3 (by kernel_rfl)
    (of_decide_eq_true (by kernel_rfl)) (by unfold Func.isWrapper; first | (rw [if_pos (by decide +kernel)]; kernel_rfl) | (rw [if_neg (by decide +kernel)]; exact ⟨rfl, rfl⟩))
    (fun os started H enc _ => lifted os started H enc)
theorem proved : Rows.RopeNewsSaid := over
#print axioms proved
end Go.Proofs.Ytdddfajchkmehaa.ropeNews
