/- The examples of the chapter hold. -/
import Derived.Test.YtogaepijfbgniaaR6
namespace Go.Proofs.Ytogaepijfbgniaa
open Go.RowKit Go.Shelf Go.Deep
set_option linter.unusedVariables false
def tks : List Tk := [⟨1, 10⟩, ⟨2, 20⟩]
def scs : List Sec := [⟨1, 3, 10⟩, ⟨2, 1, 15⟩]
def mat : List (List Int) := [[5, 1], [1, 5]]
theorem tasks_lit (w : World) : Tasks (w.alloc (.cells #[.int .i64 1, .int .i64 10, .bool false, .slice none 0 0, .int .i64 2, .int .i64 20, .bool false, .slice none 0 0] 38)) (some ⟨w.heap.size, 0, none⟩) tks := fun _ => by
  refine ⟨_, _, rfl, fun i hi => ?_⟩
  match i, hi with
  | 0, _ => simp only [tks, List.getElem_cons_zero]; refine ⟨?_, ?_, ?_, ?_⟩ <;> go_simp
  | 1, _ => simp only [tks, List.getElem_cons_succ, List.getElem_cons_zero]; refine ⟨?_, ?_, ?_, ?_⟩ <;> go_simp
theorem secs_lit (w : World) : Secs (w.alloc (.cells #[.int .i64 1, .int .i64 3, .int .i64 10, .int .i64 2, .int .i64 1, .int .i64 15] 33)) (some ⟨w.heap.size, 0, none⟩) scs := fun _ => by
  refine ⟨_, _, rfl, fun i hi => ?_⟩
  match i, hi with
  | 0, _ => simp only [scs, List.getElem_cons_zero]; refine ⟨?_, ?_, ?_⟩ <;> go_simp
  | 1, _ => simp only [scs, List.getElem_cons_succ, List.getElem_cons_zero]; refine ⟨?_, ?_, ?_⟩ <;> go_simp
theorem winch_lit (w : World) : ∃ b off, (some ⟨w.heap.size, 0, none⟩ : Option Addr) = some ⟨b, off, none⟩ ∧ ∀ i, i < 2 → (w.alloc (.cells #[.bool false, .bool false] 4)).cell? ⟨b, off + i, none⟩ = some (.bool false) := by
  refine ⟨_, _, rfl, fun i hi => ?_⟩
  match i, hi with
  | 0, _ => go_simp
  | 1, _ => go_simp
theorem ok_tks : OkTasks tks := by
  refine ⟨by decide, fun x hx => ?_, fun k hk => ?_⟩
  · simp only [tks, List.mem_cons, List.not_mem_nil, or_false] at hx
    rcases hx with rfl | rfl <;> decide
  · match k, hk with
    | 0, _ => rfl
    | 1, _ => rfl
theorem place_lit : placeM tks 2 tks.length 0 0 ⟨List.replicate (tks.length * 4) 0, List.replicate (tks.length * 4) 0, 1 + sumT tks⟩ = some ⟨[0, 0, 0, 0, 0, 0, 0, 0], [1, 1, 0, 10, 2, 2, 0, 20], 20⟩ := by kernel_rfl
theorem Best_lit (A C : Option Addr) (w : World) (h : Tasks w A tks) (hw : ∃ b off, C = some ⟨b, off, none⟩ ∧ ∀ i, i < 2 → w.cell? ⟨b, off + i, none⟩ = some (.bool false)) :
    Calls Try.prog 10 #[.slice A 2 2, .slice C 2 2] w fun e w' => ∃ b, e = .returned (.slice (some ⟨b, 0, none⟩) 2 2) ∧ Below w.heap.size w w' :=
  (Best_any A C 2 2 2 tks ok_tks (by decide) (by decide) (by decide) w h hw _ place_lit).mono fun _ _ ⟨b, h1, _, _, h4⟩ => ⟨b, h1, h4⟩
theorem Least_lit (A C : Option Addr) (w : World) (h : Tasks w A tks) (hw : ∃ b off, C = some ⟨b, off, none⟩ ∧ ∀ i, i < 2 → w.cell? ⟨b, off + i, none⟩ = some (.bool false)) :
    Calls Try.prog 12 #[.slice A 2 2, .slice C 2 2] w fun e w' => e = .returned (.int .i64 20) ∧ Below w.heap.size w w' := by
  have := Least_any A C 2 2 2 tks ok_tks (by decide) (by decide) (by decide) w h hw _ place_lit
  rw [show endM [1, 1, 0, 10, 2, 2, 0, 20] tks.length = 20 by decide] at this
  exact this
theorem Plan_lit (A : Option Addr) (w : World) (h : Secs w A scs) : Calls Try.prog 6 #[.slice A 2 2, .int .i64 2] w fun e w' => ∃ A' c, e = .returned (.tuple #[.slice A' 2 c, .int .i64 15, .int .i64 0]) ∧ Below w.heap.size w w' := by
  have := Plan_any A 2 scs 2 (by decide) (by decide) (fun x hx => by
    simp only [scs, List.mem_cons, List.not_mem_nil, or_false] at hx
    rcases hx with rfl | rfl <;> decide) w h
  rw [show planJobs scs 2 = [⟨1, 1, 0, 10⟩, ⟨2, 2, 0, 15⟩] by kernel_rfl, show planEnd scs 2 = 15 by kernel_rfl] at this
  exact this.mono fun _ _ ⟨A', c, h1, _, _, h3⟩ => ⟨A', c, h1, h3⟩
theorem ok_mat : OkMat mat := by
  refine ⟨by decide, fun r hr => ?_⟩
  simp only [mat, List.mem_cons, List.not_mem_nil, or_false] at hr
  rcases hr with rfl | rfl <;> decide
theorem try_lit : tryM mat mat.length 0 ⟨[], 0, false⟩ = some ⟨[], 2, true⟩ := by kernel_rfl
theorem mat_lit (w : World) : Mat (((w.alloc (.cells #[.int .i64 5, .int .i64 1] 3)).alloc (.cells #[.int .i64 1, .int .i64 5] 3)).alloc (.cells #[.slice (some ⟨w.heap.size, 0, none⟩) 2 2, .slice (some ⟨w.heap.size + 1, 0, none⟩) 2 2] 36)) (some ⟨w.heap.size + 1 + 1, 0, none⟩) mat := fun _ => by
  refine ⟨_, _, rfl, fun i hi => ?_⟩
  match i, hi with
  | 0, _ =>
    simp only [mat, List.getElem_cons_zero]
    refine ⟨some ⟨w.heap.size, 0, none⟩, 2, by go_simp, fun _ => ⟨_, _, rfl, fun j hj => ?_⟩⟩
    match j, hj with
    | 0, _ => go_simp
    | 1, _ => go_simp
  | 1, _ =>
    simp only [mat, List.getElem_cons_succ, List.getElem_cons_zero]
    refine ⟨some ⟨w.heap.size + 1, 0, none⟩, 2, by go_simp, fun _ => ⟨_, _, rfl, fun j hj => ?_⟩⟩
    match j, hj with
    | 0, _ => go_simp
    | 1, _ => go_simp
theorem aBest_lit (A : Option Addr) (w : World) (h : Mat w A mat) : Calls Try.prog 11 #[.slice A 2 2] w fun e w' => ∃ v, e = .returned (.tuple #[v, .int .i64 2, .int .i64 0]) ∧ Below w.heap.size w w' :=
  aBest_any A 2 mat ok_mat _ try_lit w h
set_option maxRecDepth 100000 in
set_option maxHeartbeats 8000000 in
theorem alive_any (w : World) : Calls Try.prog 4 #[] w fun e w' => e = .returned (.bool true) ∧ Below w.heap.size w w' := by
  go_enter Try.func4, Try.ntmps4
  have hB := below_alloc w (.cells #[.int .i64 1, .int .i64 10, .bool false, .slice none 0 0, .int .i64 2, .int .i64 20, .bool false, .slice none 0 0] 38)
  have hT := tasks_lit w
  have HB := Lib.hid hB
  clear hB
  go_upto_region 2 with (fail)
  generalize w.alloc (.cells #[.int .i64 1, .int .i64 10, .bool false, .slice none 0 0, .int .i64 2, .int .i64 20, .bool false, .slice none 0 0] 38) = wa at *
  have hB := HB.out
  clear HB
  generalize hs0 : w.heap.size = s0 at *
  have hka := below_alloc wa (.cells #[.bool false, .bool false] 4)
  have hw1 := winch_lit wa
  replace hT := hT.below hka
  have hq := Lib.hid (Best_lit _ _ _ hT hw1)
  replace hB := hB.trans (hka.mono (hs0 ▸ hB.size))
  clear hw1 hka
  go_wp2_with fail
  refine hq.out.mono ?_
  rintro e w1 ⟨b1, rfl, hb⟩
  replace hT := hT.below hb
  replace hB := hB.trans (hb.mono (hs0 ▸ hB.size))
  clear hb hq
  have hka := below_alloc w1 (.cells #[.int .i64 1, .int .i64 3, .int .i64 10, .int .i64 2, .int .i64 1, .int .i64 15] 33)
  have hq := Lib.hid (Plan_lit _ _ (secs_lit w1))
  replace hT := hT.below hka
  replace hB := hB.trans (hka.mono (hs0 ▸ hB.size))
  clear hka
  go_wp2_with fail
  refine hq.out.mono ?_
  rintro e w2 ⟨A2, c2, rfl, hb⟩
  replace hT := hT.below hb
  replace hB := hB.trans (hb.mono (hs0 ▸ hB.size))
  clear hb hq
  have hka : Below w2.heap.size w2 (((w2.alloc (.cells #[.int .i64 5, .int .i64 1] 3)).alloc (.cells #[.int .i64 1, .int .i64 5] 3)).alloc (.cells #[.slice (some ⟨w2.heap.size, 0, none⟩) 2 2, .slice (some ⟨w2.heap.size + 1, 0, none⟩) 2 2] 36)) := allocs_below [_, _, _] w2 w2 (Below.refl _ _)
  have hq := Lib.hid (aBest_lit _ _ (mat_lit w2))
  replace hT := hT.below hka
  replace hB := hB.trans (hka.mono (hs0 ▸ hB.size))
  clear hka
  go_wp2_with fail
  refine hq.out.mono ?_
  rintro e w3 ⟨v3, rfl, hb⟩
  replace hT := hT.below hb
  replace hB := hB.trans (hb.mono (hs0 ▸ hB.size))
  clear hb hq
  have hka := below_alloc w3 (.cells #[.bool false, .bool false] 4)
  have hw1 := winch_lit w3
  replace hT := hT.below hka
  have hq := Lib.hid (Least_lit _ _ _ hT hw1)
  replace hB := hB.trans (hka.mono (hs0 ▸ hB.size))
  clear hw1 hka hT
  go_wp2_with fail
  refine hq.out.mono ?_
  rintro e w4 ⟨rfl, hb⟩
  replace hB := hB.trans (hb.mono (hs0 ▸ hB.size))
  clear hb hq
  go_wp2
  go_ret
  exact ⟨rfl, hs0 ▸ hB⟩
end Go.Proofs.Ytogaepijfbgniaa
