/- RopeLoads: for every right line and all numbers Load and Take return the lines, or the errors, of the reference; no condition. -/
import Derived.Test.YtdddfajchkmehaaLaw0
import Derived.Test.YtdddfajchkmehaaPlain2
namespace Go.Proofs.Ytdddfajchkmehaa.ropeLoads
open Go.RowKit Go.ChangeShapes Go.WideShapes Go.ChangeAt
set_option linter.unusedVariables false
set_option maxRecDepth 100000 in
set_option maxHeartbeats 4000000 in
theorem walk (y : LineIn) (z : Board) (w : World) (hy : y.ok w) (_hz : z.I) : Calls Try.prog 6 #[y.val, z.val] w fun e w' => e = .returned (.bool true) ∧ Below w.heap.size w w' := by
  obtain ⟨x, A, c⟩ := y
  obtain ⟨hI, hm, _⟩ := hy
  simp only [LineIn.val] at hI hm ⊢
  unfold maxLen at hm
  have q1 := fun W h => Lib.hid (right1_any x A c hm W h)
  have HB := Lib.hid (Below.refl w.heap.size w)
  have JA := Lib.hid hI
  clear hI
  have ka := below_alloc w (.cells #[.int .i64 x.loop, .int .i64 x.spacing, .int .i64 x.offset, .slice A x.load.length c] 27)
  replace JA := Lib.hid (JA.out.below ka)
  replace HB := Lib.hid (HB.out.trans (ka.mono HB.out.size))
  clear ka
  have k := Blk.new w #[.int .i64 x.loop, .int .i64 x.spacing, .int .i64 x.offset, .slice A x.load.length c] 27
  have Kx := Lib.hid k
  clear k
  have ka := below_alloc (w.alloc (.cells #[.int .i64 x.loop, .int .i64 x.spacing, .int .i64 x.offset, .slice A x.load.length c] 27)) (.cells #[.int .i64 z.carrier, .int .i64 z.n, .int .i64 z.seats] 43)
  replace Kx := Lib.hid (Kx.out.below ka)
  replace JA := Lib.hid (JA.out.below ka)
  replace HB := Lib.hid (HB.out.trans (ka.mono HB.out.size))
  clear ka
  have k := Blk.new (w.alloc (.cells #[.int .i64 x.loop, .int .i64 x.spacing, .int .i64 x.offset, .slice A x.load.length c] 27)) #[.int .i64 z.carrier, .int .i64 z.n, .int .i64 z.seats] 43
  simp only [World.size_alloc] at k
  have Kz := Lib.hid k
  clear k
  cases hgb : goodB x with
  | false =>
    rw [hgb] at q1
    clear hgb
    unfold Board.val Line.val at *
    go_enter Try.func6, Try.ntmps6
    go_wp2_with fail
    refine (alive_any _).mono ?_
    rintro e v1 ⟨rfl, hb⟩
    replace Kx := Lib.hid (Kx.out.below hb)
    replace Kz := Lib.hid (Kz.out.below hb)
    replace JA := Lib.hid (JA.out.below hb)
    replace HB := Lib.hid (HB.out.trans (hb.mono HB.out.size))
    clear hb
    have xxq0 := Kx.out.cell 0 (v := .int .i64 x.loop) rfl
    have xxq1 := Kx.out.cell 1 (v := .int .i64 x.spacing) rfl
    have xxq2 := Kx.out.cell 2 (v := .int .i64 x.offset) rfl
    have xxq3 := Kx.out.cell 3 (v := .slice A x.load.length c) rfl
    go_wp2_with fail
    refine ((q1 _ JA.out).out).mono ?_
    rintro e v2 ⟨rfl, hb⟩
    clear xxq0 xxq1 xxq2 xxq3
    replace Kx := Lib.hid (Kx.out.below hb)
    replace Kz := Lib.hid (Kz.out.below hb)
    replace JA := Lib.hid (JA.out.below hb)
    replace HB := Lib.hid (HB.out.trans (hb.mono HB.out.size))
    clear hb
    have HBB := HB.out
    clear HB
    go_wp2
    go_ret
    exact ⟨rfl, HBB⟩
  | true =>
    obtain ⟨hs, hn, hf, hr⟩ := good_use hgb
    rw [hgb] at q1
    clear hgb
    have hl2 := load_len x z.carrier z.n z.seats
    have hl3 := take_len x z.carrier z.n
    have q2 := fun W h => Lib.hid (Load_any x A c z.carrier z.n z.seats hs hf W h)
    have q3 := fun W h => Lib.hid (refLoad_any x A c z.carrier z.n z.seats hs hf W h)
    have q4 := fun W h => Lib.hid (Take_any x A c z.carrier z.n hs hf W h)
    have q5 := fun W h => Lib.hid (refTake_any x A c z.carrier z.n hs hf W h)
    unfold LinePost Line.val at q2 q3 q4 q5
    generalize loadOf x z.carrier z.n z.seats = q at *
    obtain ⟨u, er⟩ := q
    generalize takeOf x z.carrier z.n = q at *
    obtain ⟨v, es⟩ := q
    simp only at hl2 hl3 q2 q3 q4 q5
    clear hs hf hr
    unfold Board.val Line.val at *
    go_enter Try.func6, Try.ntmps6
    go_wp2_with fail
    refine (alive_any _).mono ?_
    rintro e v1 ⟨rfl, hb⟩
    replace Kx := Lib.hid (Kx.out.below hb)
    replace Kz := Lib.hid (Kz.out.below hb)
    replace JA := Lib.hid (JA.out.below hb)
    replace HB := Lib.hid (HB.out.trans (hb.mono HB.out.size))
    clear hb
    have xxq0 := Kx.out.cell 0 (v := .int .i64 x.loop) rfl
    have xxq1 := Kx.out.cell 1 (v := .int .i64 x.spacing) rfl
    have xxq2 := Kx.out.cell 2 (v := .int .i64 x.offset) rfl
    have xxq3 := Kx.out.cell 3 (v := .slice A x.load.length c) rfl
    go_wp2_with fail
    refine ((q1 _ JA.out).out).mono ?_
    rintro e v2 ⟨rfl, hb⟩
    clear xxq0 xxq1 xxq2 xxq3
    replace Kx := Lib.hid (Kx.out.below hb)
    replace Kz := Lib.hid (Kz.out.below hb)
    replace JA := Lib.hid (JA.out.below hb)
    replace HB := Lib.hid (HB.out.trans (hb.mono HB.out.size))
    clear hb
    have xxq0 := Kx.out.cell 0 (v := .int .i64 x.loop) rfl
    have xxq1 := Kx.out.cell 1 (v := .int .i64 x.spacing) rfl
    have xxq2 := Kx.out.cell 2 (v := .int .i64 x.offset) rfl
    have xxq3 := Kx.out.cell 3 (v := .slice A x.load.length c) rfl
    have xzq0 := Kz.out.cell 0 (v := .int .i64 z.carrier) rfl
    have xzq1 := Kz.out.cell 1 (v := .int .i64 z.n) rfl
    have xzq2 := Kz.out.cell 2 (v := .int .i64 z.seats) rfl
    go_wp2_with fail
    refine ((q2 _ JA.out).out).mono ?_
    rintro e v3 ⟨B, b1, rfl, hI, hb, _⟩
    clear xxq0 xxq1 xxq2 xxq3
    clear xzq0 xzq1 xzq2
    replace Kx := Lib.hid (Kx.out.below hb)
    replace Kz := Lib.hid (Kz.out.below hb)
    replace JA := Lib.hid (JA.out.below hb)
    replace HB := Lib.hid (HB.out.trans (hb.mono HB.out.size))
    clear hb
    have JB := Lib.hid hI
    clear hI
    have ka := below_alloc v3 (.cells #[.int .i64 u.loop, .int .i64 u.spacing, .int .i64 u.offset, .slice B u.load.length b1] 27)
    replace Kx := Lib.hid (Kx.out.below ka)
    replace Kz := Lib.hid (Kz.out.below ka)
    replace JA := Lib.hid (JA.out.below ka)
    replace JB := Lib.hid (JB.out.below ka)
    replace HB := Lib.hid (HB.out.trans (ka.mono HB.out.size))
    clear ka
    have Ku1 := Lib.hid (Blk.new v3 #[.int .i64 u.loop, .int .i64 u.spacing, .int .i64 u.offset, .slice B u.load.length b1] 27)
    have xxq0 := Kx.out.cell 0 (v := .int .i64 x.loop) rfl
    have xxq1 := Kx.out.cell 1 (v := .int .i64 x.spacing) rfl
    have xxq2 := Kx.out.cell 2 (v := .int .i64 x.offset) rfl
    have xxq3 := Kx.out.cell 3 (v := .slice A x.load.length c) rfl
    have xzq0 := Kz.out.cell 0 (v := .int .i64 z.carrier) rfl
    have xzq1 := Kz.out.cell 1 (v := .int .i64 z.n) rfl
    have xzq2 := Kz.out.cell 2 (v := .int .i64 z.seats) rfl
    go_wp2_with fail
    refine ((q3 _ JA.out).out).mono ?_
    rintro e v4 ⟨C, c1, rfl, hI, hb, _⟩
    clear xxq0 xxq1 xxq2 xxq3
    clear xzq0 xzq1 xzq2
    replace Kx := Lib.hid (Kx.out.below hb)
    replace Kz := Lib.hid (Kz.out.below hb)
    replace Ku1 := Lib.hid (Ku1.out.below hb)
    replace JA := Lib.hid (JA.out.below hb)
    replace JB := Lib.hid (JB.out.below hb)
    replace HB := Lib.hid (HB.out.trans (hb.mono HB.out.size))
    clear hb
    have JC := Lib.hid hI
    clear hI
    have ka := below_alloc v4 (.cells #[.int .i64 u.loop, .int .i64 u.spacing, .int .i64 u.offset, .slice C u.load.length c1] 27)
    replace Kx := Lib.hid (Kx.out.below ka)
    replace Kz := Lib.hid (Kz.out.below ka)
    replace Ku1 := Lib.hid (Ku1.out.below ka)
    replace JA := Lib.hid (JA.out.below ka)
    replace JB := Lib.hid (JB.out.below ka)
    replace JC := Lib.hid (JC.out.below ka)
    replace HB := Lib.hid (HB.out.trans (ka.mono HB.out.size))
    clear ka
    have Ku2 := Lib.hid (Blk.new v4 #[.int .i64 u.loop, .int .i64 u.spacing, .int .i64 u.offset, .slice C u.load.length c1] 27)
    have xxq0 := Kx.out.cell 0 (v := .int .i64 x.loop) rfl
    have xxq1 := Kx.out.cell 1 (v := .int .i64 x.spacing) rfl
    have xxq2 := Kx.out.cell 2 (v := .int .i64 x.offset) rfl
    have xxq3 := Kx.out.cell 3 (v := .slice A x.load.length c) rfl
    have xzq0 := Kz.out.cell 0 (v := .int .i64 z.carrier) rfl
    have xzq1 := Kz.out.cell 1 (v := .int .i64 z.n) rfl
    have xzq2 := Kz.out.cell 2 (v := .int .i64 z.seats) rfl
    go_wp2_with fail
    refine ((q4 _ JA.out).out).mono ?_
    rintro e v5 ⟨D, d1, rfl, hI, hb, _⟩
    clear xxq0 xxq1 xxq2 xxq3
    clear xzq0 xzq1 xzq2
    replace Kx := Lib.hid (Kx.out.below hb)
    replace Kz := Lib.hid (Kz.out.below hb)
    replace Ku1 := Lib.hid (Ku1.out.below hb)
    replace Ku2 := Lib.hid (Ku2.out.below hb)
    replace JA := Lib.hid (JA.out.below hb)
    replace JB := Lib.hid (JB.out.below hb)
    replace JC := Lib.hid (JC.out.below hb)
    replace HB := Lib.hid (HB.out.trans (hb.mono HB.out.size))
    clear hb
    have JD := Lib.hid hI
    clear hI
    have ka := below_alloc v5 (.cells #[.int .i64 v.loop, .int .i64 v.spacing, .int .i64 v.offset, .slice D v.load.length d1] 27)
    replace Kx := Lib.hid (Kx.out.below ka)
    replace Kz := Lib.hid (Kz.out.below ka)
    replace Ku1 := Lib.hid (Ku1.out.below ka)
    replace Ku2 := Lib.hid (Ku2.out.below ka)
    replace JA := Lib.hid (JA.out.below ka)
    replace JB := Lib.hid (JB.out.below ka)
    replace JC := Lib.hid (JC.out.below ka)
    replace JD := Lib.hid (JD.out.below ka)
    replace HB := Lib.hid (HB.out.trans (ka.mono HB.out.size))
    clear ka
    have Kv1 := Lib.hid (Blk.new v5 #[.int .i64 v.loop, .int .i64 v.spacing, .int .i64 v.offset, .slice D v.load.length d1] 27)
    have xxq0 := Kx.out.cell 0 (v := .int .i64 x.loop) rfl
    have xxq1 := Kx.out.cell 1 (v := .int .i64 x.spacing) rfl
    have xxq2 := Kx.out.cell 2 (v := .int .i64 x.offset) rfl
    have xxq3 := Kx.out.cell 3 (v := .slice A x.load.length c) rfl
    have xzq0 := Kz.out.cell 0 (v := .int .i64 z.carrier) rfl
    have xzq1 := Kz.out.cell 1 (v := .int .i64 z.n) rfl
    have xzq2 := Kz.out.cell 2 (v := .int .i64 z.seats) rfl
    go_wp2_with fail
    refine ((q5 _ JA.out).out).mono ?_
    rintro e v6 ⟨E, e1, rfl, hI, hb, _⟩
    clear xxq0 xxq1 xxq2 xxq3
    clear xzq0 xzq1 xzq2
    replace Kx := Lib.hid (Kx.out.below hb)
    replace Kz := Lib.hid (Kz.out.below hb)
    replace Ku1 := Lib.hid (Ku1.out.below hb)
    replace Ku2 := Lib.hid (Ku2.out.below hb)
    replace Kv1 := Lib.hid (Kv1.out.below hb)
    replace JA := Lib.hid (JA.out.below hb)
    replace JB := Lib.hid (JB.out.below hb)
    replace JC := Lib.hid (JC.out.below hb)
    replace JD := Lib.hid (JD.out.below hb)
    replace HB := Lib.hid (HB.out.trans (hb.mono HB.out.size))
    clear hb
    have JE := Lib.hid hI
    clear hI
    have ka := below_alloc v6 (.cells #[.int .i64 v.loop, .int .i64 v.spacing, .int .i64 v.offset, .slice E v.load.length e1] 27)
    replace Kx := Lib.hid (Kx.out.below ka)
    replace Kz := Lib.hid (Kz.out.below ka)
    replace Ku1 := Lib.hid (Ku1.out.below ka)
    replace Ku2 := Lib.hid (Ku2.out.below ka)
    replace Kv1 := Lib.hid (Kv1.out.below ka)
    replace JA := Lib.hid (JA.out.below ka)
    replace JB := Lib.hid (JB.out.below ka)
    replace JC := Lib.hid (JC.out.below ka)
    replace JD := Lib.hid (JD.out.below ka)
    replace JE := Lib.hid (JE.out.below ka)
    replace HB := Lib.hid (HB.out.trans (ka.mono HB.out.size))
    clear ka
    have Kv2 := Lib.hid (Blk.new v6 #[.int .i64 v.loop, .int .i64 v.spacing, .int .i64 v.offset, .slice E v.load.length e1] 27)
    have hsm := fun (z : Line) hz B C b c W hA hC => Lib.hid (Same_eq z B C b c W hz hA hC)
    unfold Line.val at hsm
    clear q1 q2 q3 q4 q5
    have xu1q0 := Ku1.out.cell 0 (v := .int .i64 u.loop) rfl
    have xu1q1 := Ku1.out.cell 1 (v := .int .i64 u.spacing) rfl
    have xu1q2 := Ku1.out.cell 2 (v := .int .i64 u.offset) rfl
    have xu1q3 := Ku1.out.cell 3 (v := .slice B u.load.length b1) rfl
    have xu2q0 := Ku2.out.cell 0 (v := .int .i64 u.loop) rfl
    have xu2q1 := Ku2.out.cell 1 (v := .int .i64 u.spacing) rfl
    have xu2q2 := Ku2.out.cell 2 (v := .int .i64 u.offset) rfl
    have xu2q3 := Ku2.out.cell 3 (v := .slice C u.load.length c1) rfl
    go_wp2_with fail
    refine ((hsm u (by omega) _ _ _ _ _ JB.out JC.out).out).mono ?_
    rintro e v7 ⟨rfl, hb⟩
    clear xu1q0 xu1q1 xu1q2 xu1q3
    clear xu2q0 xu2q1 xu2q2 xu2q3
    replace Kx := Lib.hid (Kx.out.below hb)
    replace Kz := Lib.hid (Kz.out.below hb)
    replace Ku1 := Lib.hid (Ku1.out.below hb)
    replace Ku2 := Lib.hid (Ku2.out.below hb)
    replace Kv1 := Lib.hid (Kv1.out.below hb)
    replace Kv2 := Lib.hid (Kv2.out.below hb)
    replace JA := Lib.hid (JA.out.below hb)
    replace JB := Lib.hid (JB.out.below hb)
    replace JC := Lib.hid (JC.out.below hb)
    replace JD := Lib.hid (JD.out.below hb)
    replace JE := Lib.hid (JE.out.below hb)
    replace HB := Lib.hid (HB.out.trans (hb.mono HB.out.size))
    clear hb
    have xv1q0 := Kv1.out.cell 0 (v := .int .i64 v.loop) rfl
    have xv1q1 := Kv1.out.cell 1 (v := .int .i64 v.spacing) rfl
    have xv1q2 := Kv1.out.cell 2 (v := .int .i64 v.offset) rfl
    have xv1q3 := Kv1.out.cell 3 (v := .slice D v.load.length d1) rfl
    have xv2q0 := Kv2.out.cell 0 (v := .int .i64 v.loop) rfl
    have xv2q1 := Kv2.out.cell 1 (v := .int .i64 v.spacing) rfl
    have xv2q2 := Kv2.out.cell 2 (v := .int .i64 v.offset) rfl
    have xv2q3 := Kv2.out.cell 3 (v := .slice E v.load.length e1) rfl
    go_wp2_with fail
    refine ((hsm v (by omega) _ _ _ _ _ JD.out JE.out).out).mono ?_
    rintro e v8 ⟨rfl, hb⟩
    clear xv1q0 xv1q1 xv1q2 xv1q3
    clear xv2q0 xv2q1 xv2q2 xv2q3
    replace Kx := Lib.hid (Kx.out.below hb)
    replace Kz := Lib.hid (Kz.out.below hb)
    replace Ku1 := Lib.hid (Ku1.out.below hb)
    replace Ku2 := Lib.hid (Ku2.out.below hb)
    replace Kv1 := Lib.hid (Kv1.out.below hb)
    replace Kv2 := Lib.hid (Kv2.out.below hb)
    replace JA := Lib.hid (JA.out.below hb)
    replace JB := Lib.hid (JB.out.below hb)
    replace JC := Lib.hid (JC.out.below hb)
    replace JD := Lib.hid (JD.out.below hb)
    replace JE := Lib.hid (JE.out.below hb)
    replace HB := Lib.hid (HB.out.trans (hb.mono HB.out.size))
    clear hb
    have HBB := HB.out
    clear HB
    go_wp2
    go_ret
    exact ⟨rfl, HBB⟩

set_option maxRecDepth 100000 in
theorem lifted (os : Os) (started : os.Started) (H : Type) (enc : TypeId × Value → H) :
    ReturnsInHanded {} Try.checked os 6 .any (Rows.ropeLoadsSpec.pre6 enc Try.prog Try.f6 Rows.ropeLoadsRow.domain false) (Rows.ropeLoadsSpec.post enc Try.prog Try.f6 false true false false) := by
  refine returnsInHanded_of_change_sized (C := Try.checked) own started (by kernel_rfl) Try.func6
    (ChangeSpec.witness6 (enc := enc) (C := Try.checked) false ⟨#[], #[.agg #[.int .i64 0, .int .i64 0, .int .i64 0, .slice none 0 0], Board.val ⟨0, 0, 0⟩], []⟩ 8 (by kernel_rfl) (by kernel_rfl) (by kernel_rfl) (by kernel_rfl)) ?_
  intro W base args ds gs before hval0 hW hcnd hsz0 _
  have hval : ∀ (j : Nat) t v, Try.f6.params[j]? = some t → args[j]? = some v → Value.okWide Try.prog W .any base t v := hval0
  refine law_post laidOut (by kernel_rfl) Try.underlying4 rfl rfl hW (fun hn => ?_) ?_
  · match ds, hn with
    | [_, _], _ => rfl
  obtain ⟨p, q, hA0, hV, rfl, _, _⟩ := hW
  have hA : DataW.TrodAll enc Try.prog W 0 (fun _ => true) true Try.f6.params.toList args.toList ds p := hA0
  obtain ⟨rfl, rfl⟩ := trodVars_none hV
  have hsz : (DataW.weightsEach Try.prog (Try.f6.params.toList ++ []) (ds ++ [])).all (· ≤ reachBytes) = true := hsz0
  rw [Try.params6] at hA hval hsz
  obtain ⟨v0, vs0, d0, ds0, p0, q0, hargs, rfl, rfl, h0, r0⟩ := trodAll_cons hA
  obtain ⟨v1, vs1, d1, ds1, p1, q1, rfl, rfl, rfl, h1, r1⟩ := trodAll_cons r0
  obtain ⟨rfl, rfl, rfl⟩ := trodAll_nil r1
  obtain rfl : args = #[v0, v1] := by cases args; simp_all
  obtain ⟨x0, rfl, w0⟩ := open_line (hval 0 27 v0 rfl rfl) h0
  obtain ⟨x1, rfl, w1⟩ := open_board (hval 1 43 v1 rfl rfl) h1
  exact walk x0 x1 W w0 w1
theorem over : Rows.ropeLoadsRow.holds Try.pinned (OpenSpec.ofChange Rows.ropeLoadsSpec) :=
  OpenClaim.holds_of_wide 6 Try.f6 rfl rfl rfl rfl rfl rfl rfl ⟨rfl, rfl, rfl, rfl, rfl⟩ rfl rfl rfl rfl rfl (by kernel_rfl) Try.func6 (by kernel_rfl)
    (of_decide_eq_true (by kernel_rfl)) (by unfold Func.isWrapper; first | (rw [if_pos (by decide +kernel)]; kernel_rfl) | (rw [if_neg (by decide +kernel)]; exact ⟨rfl, rfl⟩))
    (fun os started H enc _ => lifted os started H enc)
theorem proved : Rows.RopeLoadsSaid := over
#print axioms proved
end Go.Proofs.Ytdddfajchkmehaa.ropeLoads
