/- BrakeValid: for every brake and every time Valid returns what the reference returns; no condition. -/
import Derived.Test.YtgmkfjgkpakhfaaLaw0
import Derived.Deep.RegionHeld3
namespace Go.Proofs.Ytgmkfjgkpakhfaa.brakeValid
open Go.RowKit Go.ChangeShapes Go.WideShapes Go.ChangeAt
set_option linter.unusedVariables false
set_option maxHeartbeats 1000000 in
theorem walk (x : Brake) (t : Int) (w : World) (hx : x.I) (ht : (Lit.int .i64 t).wf = true) : Calls Try.prog 5 #[x.val, .int .i64 t] w fun e w' => e = .returned (.bool true) ∧ Below w.heap.size w w' := by
  have ht := i64_of_wf ht
  have hv1 := fun W => Lib.hid (Valid_any x t W hx ht)
  have hv2 := fun W => Lib.hid (refValid_any x t W hx ht)
  have HB := below_alloc w (.cells #[.int .i64 x.id, .int .i64 x.kind, .int .i64 x.force, .int .i64 x.tested, .int .i64 x.measured] 32)
  have k0 : (w.alloc (.cells #[.int .i64 x.id, .int .i64 x.kind, .int .i64 x.force, .int .i64 x.tested, .int .i64 x.measured] 32)).cell? ⟨w.heap.size, 0, none⟩ = some (.int .i64 x.id) := by go_simp
  have k1 : (w.alloc (.cells #[.int .i64 x.id, .int .i64 x.kind, .int .i64 x.force, .int .i64 x.tested, .int .i64 x.measured] 32)).cell? ⟨w.heap.size, 1, none⟩ = some (.int .i64 x.kind) := by go_simp
  have k2 : (w.alloc (.cells #[.int .i64 x.id, .int .i64 x.kind, .int .i64 x.force, .int .i64 x.tested, .int .i64 x.measured] 32)).cell? ⟨w.heap.size, 2, none⟩ = some (.int .i64 x.force) := by go_simp
  have k3 : (w.alloc (.cells #[.int .i64 x.id, .int .i64 x.kind, .int .i64 x.force, .int .i64 x.tested, .int .i64 x.measured] 32)).cell? ⟨w.heap.size, 3, none⟩ = some (.int .i64 x.tested) := by go_simp
  have k4 : (w.alloc (.cells #[.int .i64 x.id, .int .i64 x.kind, .int .i64 x.force, .int .i64 x.tested, .int .i64 x.measured] 32)).cell? ⟨w.heap.size, 4, none⟩ = some (.int .i64 x.measured) := by go_simp
  clear hx ht
  unfold Brake.val at *
  go_enter Try.func5, Try.ntmps5
  go_wp2_with fail
  refine (alive_any _).mono ?_
  rintro e w1 ⟨rfl, hb1⟩
  have hb := HB.trans (hb1.mono HB.size)
  have g0 := cell_later hb1 k0
  have g1 := cell_later hb1 k1
  have g2 := cell_later hb1 k2
  have g3 := cell_later hb1 k3
  have g4 := cell_later hb1 k4
  clear k0 k1 k2 k3 k4 HB hb1
  go_wp2_with fail
  go_region_held3 (fun w' => w'.cell? ⟨w.heap.size, 0, none⟩ = some (.int .i64 x.id) ∧ w'.cell? ⟨w.heap.size, 1, none⟩ = some (.int .i64 x.kind) ∧ w'.cell? ⟨w.heap.size, 2, none⟩ = some (.int .i64 x.force) ∧ w'.cell? ⟨w.heap.size, 3, none⟩ = some (.int .i64 x.tested) ∧ w'.cell? ⟨w.heap.size, 4, none⟩ = some (.int .i64 x.measured))
    (first | exact ⟨cell_later hb3 (cell_later hb2 g0), cell_later hb3 (cell_later hb2 g1), cell_later hb3 (cell_later hb2 g2), cell_later hb3 (cell_later hb2 g3), cell_later hb3 (cell_later hb2 g4)⟩ | exact ⟨cell_later hb2 g0, cell_later hb2 g1, cell_later hb2 g2, cell_later hb2 g3, cell_later hb2 g4⟩ | exact ⟨cell_later hb5 (cell_later hb4 g0), cell_later hb5 (cell_later hb4 g1), cell_later hb5 (cell_later hb4 g2), cell_later hb5 (cell_later hb4 g3), cell_later hb5 (cell_later hb4 g4)⟩ | exact ⟨cell_later hb4 g0, cell_later hb4 g1, cell_later hb4 g2, cell_later hb4 g3, cell_later hb4 g4⟩ | go_keep)
    ((first
      | (go_at_call 16; refine (hv1 w1.drew).out.mono ?_; rintro e w2 ⟨rfl, hb2⟩)
      | (go_at_call 17; refine (hv2 w2).out.mono ?_; rintro e w3 ⟨rfl, hb3⟩)
      | (go_at_call 17; refine (hv2 w1.drew).out.mono ?_; rintro e w4 ⟨rfl, hb4⟩)
      | (go_at_call 16; refine (hv1 w4).out.mono ?_; rintro e w5 ⟨rfl, hb5⟩)))
  all_goals
    go_wp2
    go_ret
    first
      | exact ⟨by simp, hb.drew.trans ((hb2.trans (hb3.mono hb2.size)).mono hb.drew.size)⟩
      | exact ⟨by simp, hb.drew.trans ((hb4.trans (hb5.mono hb4.size)).mono hb.drew.size)⟩

set_option maxRecDepth 100000 in
theorem lifted (os : Os) (started : os.Started) (H : Type) (enc : TypeId × Value → H) :
    ReturnsInHanded {} Try.checked os 5 .any (Rows.brakeValidSpec.pre6 enc Try.prog Try.f5 Rows.brakeValidRow.domain false) (Rows.brakeValidSpec.post enc Try.prog Try.f5 false true false false) := by
  refine returnsInHanded_of_change_sized (C := Try.checked) own started (by kernel_rfl) Try.func5
    (ChangeSpec.witness6 (enc := enc) (C := Try.checked) false ⟨#[], #[Brake.val Brake.zero, .int .i64 0], []⟩ 8 (by kernel_rfl) (by kernel_rfl) (by kernel_rfl) (by kernel_rfl)) ?_
  intro W base args ds gs before hval0 hW hcnd hsz0 _
  have hval : ∀ (j : Nat) t v, Try.f5.params[j]? = some t → args[j]? = some v → Value.okWide Try.prog W .any base t v := hval0
  refine law_post laidOut (by kernel_rfl) Try.underlying4 rfl rfl hW (fun hn => ?_) ?_
  · match ds, hn with
    | [_, _], _ => rfl
  obtain ⟨p, q, hA0, hV, rfl, _, _⟩ := hW
  have hA : DataW.TrodAll enc Try.prog W 0 (fun _ => true) true Try.f5.params.toList args.toList ds p := hA0
  obtain ⟨rfl, rfl⟩ := trodVars_none hV
  have hsz : (DataW.weightsEach Try.prog (Try.f5.params.toList ++ []) (ds ++ [])).all (· ≤ reachBytes) = true := hsz0
  rw [Try.params5] at hA hval hsz
  obtain ⟨v0, vs0, d0, ds0, p0, q0, hargs, rfl, rfl, h0, r0⟩ := trodAll_cons hA
  obtain ⟨v1, vs1, d1, ds1, p1, q1, rfl, rfl, rfl, h1, r1⟩ := trodAll_cons r0
  obtain ⟨rfl, rfl, rfl⟩ := trodAll_nil r1
  obtain rfl : args = #[v0, v1] := by cases args; simp_all
  obtain ⟨x0, rfl, w0⟩ := open_brake (hval 0 32 v0 rfl rfl) h0
  obtain ⟨x1, rfl, w1⟩ := open_i Try.underlying3 (hval 1 3 v1 rfl rfl) h1
  exact walk x0 x1 W w0 w1
theorem over : Rows.brakeValidRow.holds Try.pinned (OpenSpec.ofChange Rows.brakeValidSpec) :=
  OpenClaim.holds_of_wide 5 Try.f5 rfl rfl rfl rfl rfl rfl rfl ⟨rfl, rfl, rfl, rfl, rfl⟩ rfl rfl rfl rfl rfl (by kernel_rfl) Try.func5 (by kernel_rfl)
    (of_decide_eq_true (by kernel_rfl)) (by unfold Func.isWrapper; first | (rw [if_pos (by decide +kernel)]; kernel_rfl) | (rw [if_neg (by decide +kernel)]; exact ⟨rfl, rfl⟩))
    (fun os started H enc _ => lifted os started H enc)
theorem proved : Rows.BrakeValidSaid := over
#print axioms proved
end Go.Proofs.Ytgmkfjgkpakhfaa.brakeValid
