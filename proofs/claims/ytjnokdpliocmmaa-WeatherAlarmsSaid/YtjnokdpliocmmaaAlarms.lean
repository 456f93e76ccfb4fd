/- WeatherAlarms: for every alarm and all numbers Update returns the alarm and the error of the reference; no condition. -/
import Derived.Test.YtjnokdpliocmmaaLaw0
namespace Go.Proofs.Ytjnokdpliocmmaa.weatherAlarms
open Go.RowKit Go.ChangeShapes Go.WideShapes Go.ChangeAt
set_option linter.unusedVariables false
theorem alarm_eq (x : Alarm) (w : World) : (binOp .eql 39 (.agg #[.int .i64 x.on, .int .i64 x.off, .int .i64 x.hold, .bool x.active, .int .i64 x.low]) (.agg #[.int .i64 x.on, .int .i64 x.off, .int .i64 x.hold, .bool x.active, .int .i64 x.low])).run Try.prog w = .ok (.bool true) w := by
  go_simp
set_option maxHeartbeats 2000000 in
theorem walk (a : Alarm) (v t : Int) (w : World) (_h : I64 a.on ∧ I64 a.off ∧ I64 a.hold ∧ I64 a.low) (_w0 : (Lit.int .i64 v).wf = true) (_w1 : (Lit.int .i64 t).wf = true) : Calls Try.prog 7 #[a.val, .int .i64 v, .int .i64 t] w fun e w' => e = .returned (.bool true) ∧ Below w.heap.size w w' := by
  have q1 := fun W => Lib.hid (Update_any a v t W)
  have q2 := fun W => Lib.hid (refUpdate_any a v t W)
  unfold UpdPost at q1 q2
  generalize updOf a v t = q at *
  obtain ⟨b, y⟩ := q
  clear _w0 _w1 _h
  simp only at q1 q2
  unfold Alarm.val at *
  have hb0 := below_alloc w (.cells #[.int .i64 a.on, .int .i64 a.off, .int .i64 a.hold, .bool a.active, .int .i64 a.low] 39)
  have bA := Blk.new w #[.int .i64 a.on, .int .i64 a.off, .int .i64 a.hold, .bool a.active, .int .i64 a.low] 39
  go_enter Try.func7, Try.ntmps7
  go_wp2_with fail
  refine (alive_any _).mono ?_
  rintro e w1 ⟨rfl, hb1⟩
  replace bA := bA.below hb1
  have B1 := hb0.trans (hb1.mono hb0.size)
  clear hb0 hb1
  have a0 := bA.cell 0 (v := .int .i64 a.on) rfl
  have a1 := bA.cell 1 (v := .int .i64 a.off) rfl
  have a2 := bA.cell 2 (v := .int .i64 a.hold) rfl
  have a3 := bA.cell 3 (v := .bool a.active) rfl
  have a4 := bA.cell 4 (v := .int .i64 a.low) rfl
  go_wp2_with fail
  refine (q1 _).out.mono ?_
  rintro e w2 ⟨rfl, hb2⟩
  clear a0 a1 a2 a3 a4
  replace bA := bA.below hb2
  have B2 := B1.trans (hb2.mono B1.size)
  clear hb2 B1
  replace bA := bA.alloc (.cells #[.int .i64 b.on, .int .i64 b.off, .int .i64 b.hold, .bool b.active, .int .i64 b.low] 39)
  have bB := Blk.new w2 #[.int .i64 b.on, .int .i64 b.off, .int .i64 b.hold, .bool b.active, .int .i64 b.low] 39
  have B3 := B2.alloc B2.size (.cells #[.int .i64 b.on, .int .i64 b.off, .int .i64 b.hold, .bool b.active, .int .i64 b.low] 39)
  have a0 := bA.cell 0 (v := .int .i64 a.on) rfl
  have a1 := bA.cell 1 (v := .int .i64 a.off) rfl
  have a2 := bA.cell 2 (v := .int .i64 a.hold) rfl
  have a3 := bA.cell 3 (v := .bool a.active) rfl
  have a4 := bA.cell 4 (v := .int .i64 a.low) rfl
  go_wp2_with fail
  refine (q2 _).out.mono ?_
  rintro e w3 ⟨rfl, hb3⟩
  clear a0 a1 a2 a3 a4 bA q1 q2
  replace bB := (bB.below hb3).alloc (.cells #[.int .i64 b.on, .int .i64 b.off, .int .i64 b.hold, .bool b.active, .int .i64 b.low] 39)
  have B4 := B3.trans (hb3.mono B3.size)
  have B5 := B4.alloc B4.size (.cells #[.int .i64 b.on, .int .i64 b.off, .int .i64 b.hold, .bool b.active, .int .i64 b.low] 39)
  clear hb3 B2 B3 B4
  have a0 := bB.cell 0 (v := .int .i64 b.on) rfl
  have a1 := bB.cell 1 (v := .int .i64 b.off) rfl
  have a2 := bB.cell 2 (v := .int .i64 b.hold) rfl
  have a3 := bB.cell 3 (v := .bool b.active) rfl
  have a4 := bB.cell 4 (v := .int .i64 b.low) rfl
  have heq := alarm_eq b
  go_wp2
  go_ret
  exact ⟨by simp, B5⟩

set_option maxRecDepth 100000 in
theorem lifted (os : Os) (started : os.Started) (H : Type) (enc : TypeId × Value → H) :
    ReturnsInHanded {} Try.checked os 7 .any (Rows.weatherAlarmsSpec.pre6 enc Try.prog Try.f7 Rows.weatherAlarmsRow.domain false) (Rows.weatherAlarmsSpec.post enc Try.prog Try.f7 false true false false) := by
  refine returnsInHanded_of_change_sized (C := Try.checked) own started (by kernel_rfl) Try.func7
    (ChangeSpec.witness6 (enc := enc) (C := Try.checked) false ⟨#[], #[Alarm.val ⟨0, 0, 0, false, 0⟩, .int .i64 0, .int .i64 0], []⟩ 8 (by kernel_rfl) (by kernel_rfl) (by kernel_rfl) (by kernel_rfl)) ?_
  intro W base args ds gs before hval0 hW hcnd hsz0 _
  have hval : ∀ (j : Nat) t v, Try.f7.params[j]? = some t → args[j]? = some v → Value.okWide Try.prog W .any base t v := hval0
  refine law_post laidOut (by kernel_rfl) Try.underlying4 rfl rfl hW (fun hn => ?_) ?_
  · match ds, hn with
    | [_, _, _], _ => rfl
  obtain ⟨p, q, hA0, hV, rfl, _, _⟩ := hW
  have hA : DataW.TrodAll enc Try.prog W 0 (fun _ => true) true Try.f7.params.toList args.toList ds p := hA0
  obtain ⟨rfl, rfl⟩ := trodVars_none hV
  have hsz : (DataW.weightsEach Try.prog (Try.f7.params.toList ++ []) (ds ++ [])).all (· ≤ reachBytes) = true := hsz0
  rw [Try.params7] at hA hval hsz
  obtain ⟨v0, vs0, d0, ds0, p0, q0, hargs, rfl, rfl, h0, r0⟩ := trodAll_cons hA
  obtain ⟨v1, vs1, d1, ds1, p1, q1, rfl, rfl, rfl, h1, r1⟩ := trodAll_cons r0
  obtain ⟨v2, vs2, d2, ds2, p2, q2, rfl, rfl, rfl, h2, r2⟩ := trodAll_cons r1
  obtain ⟨rfl, rfl, rfl⟩ := trodAll_nil r2
  obtain rfl : args = #[v0, v1, v2] := by cases args; simp_all
  obtain ⟨x0, rfl, w0⟩ := open_alarm (hval 0 39 v0 rfl rfl) h0
  obtain ⟨x1, rfl, w1⟩ := open_i Try.underlying3 (hval 1 3 v1 rfl rfl) h1
  obtain ⟨x2, rfl, w2⟩ := open_i Try.underlying3 (hval 2 3 v2 rfl rfl) h2
  exact walk x0 x1 x2 W w0 w1 w2
theorem over : Rows.weatherAlarmsRow.holds Try.pinned (OpenSpec.ofChange Rows.weatherAlarmsSpec) :=
  OpenClaim.holds_of_wide 7 Try.f7 rfl rfl rfl rfl rfl rfl rfl ⟨rfl, rfl, rfl, rfl, rfl⟩ rfl rfl rfl rfl rfl (by kernel_rfl) Try.func7 (by kernel_rfl)
    (of_decide_eq_true (by kernel_rfl)) (by unfold Func.isWrapper; first | (rw [if_pos (by decide +kernel)]; kernel_rfl) | (rw [if_neg (by decide +kernel)]; exact ⟨rfl, rfl⟩))
    (fun os started H enc _ => lifted os started H enc)
theorem proved : Rows.WeatherAlarmsSaid := over
#print axioms proved
end Go.Proofs.Ytjnokdpliocmmaa.weatherAlarms
