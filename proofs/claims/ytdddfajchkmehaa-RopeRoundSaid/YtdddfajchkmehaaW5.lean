/- Contracts: New (both). -/
import Derived.Test.YtdddfajchkmehaaW4
import Derived.RegionTactic
import Derived.StillTailTactics
import Derived.Deep.OwnRows
import Derived.Laws.ResultCell
namespace Go.Proofs.Ytdddfajchkmehaa
open Go.RowKit Go.Deep
set_option linter.unusedVariables false
set_option linter.unusedSimpArgs false
theorem info3 : (Try.prog.info? 3).map (fun i => (i.zero, i.size, i.bytes)) = some (some (.int .i64 0), 1, 8) := by kernel_rfl
/-- an address in a block that the call made -/
def Fresh (w : World) (A : Option Addr) : Prop := ∀ ad, A = some ad → w.heap.size ≤ ad.block
/-- a line and an error -/
def LinePost (w : World) (q : Line × Int) (e : Ending) (w' : World) : Prop := ∃ A c, e = .returned (.tuple #[q.1.val A c, .int .i64 q.2]) ∧ Ints w' A q.1.load ∧ Below w.heap.size w w' ∧ Fresh w A
theorem made_ints (W : World) (n : Nat) : Ints (W.alloc (.cells (madeCells #[Value.int .i64 0] n) 3)) (some ⟨W.heap.size, 0, none⟩) (List.replicate n 0) := fun _ => by
  refine ⟨_, _, rfl, fun i hi => ?_⟩
  rw [Nat.zero_add, cell_of_row _ _ _ _ _ _ (heap_alloc_new W _)]
  simp at hi
  simp [madeCells, hi, Nat.mod_one]
theorem two_div {L S : Int} (h1 : 10 ≤ L ∧ L ≤ 6000) (h2 : 5 ≤ S ∧ S ≤ 1000) : 0 ≤ 2 * L / S ∧ 2 * L / S ≤ 2400 ∧ 0 ≤ 2 * L / S * S ∧ 2 * L / S * S ≤ 2 * L ∧ (2 * L / S * S = 2 * L ↔ 2 * L % S = 0) := by
  have e := Int.mul_ediv_add_emod (2 * L) S
  have m0 := Int.emod_nonneg (2 * L) (show S ≠ 0 by omega)
  have d0 : 0 ≤ 2 * L / S := Int.ediv_nonneg (by omega) (by omega)
  have d1 : 2 * L / S * 5 ≤ 2 * L / S * S := Int.mul_le_mul_of_nonneg_left (by omega) d0
  rw [Int.mul_comm] at e
  have n0 : 0 ≤ 2 * L / S * S := Int.mul_nonneg d0 (by omega)
  refine ⟨d0, by omega, n0, by omega, by omega⟩
theorem zero_post (w w' : World) (e : Int) (hb : Below w.heap.size w w') : LinePost w (Line.zero, e) (.returned (.tuple #[.agg #[.int .i64 0, .int .i64 0, .int .i64 0, .slice none 0 0], .int .i64 e])) w' := ⟨none, 0, rfl, Ints.nil _ _, hb, fun ad h => by cases h⟩
theorem new_post (w : World) (cs : Array Value) (T : TypeId) (x y : Int) (n : Nat) : LinePost w (⟨x, y, 0, List.replicate n 0⟩, 0) (.returned (.tuple #[.agg #[.int .i64 x, .int .i64 y, .int .i64 0, .slice (some ⟨w.heap.size + 1 + 1, 0, none⟩) n n], .int .i64 0]))
    (((w.alloc (.cells cs T)).alloc (.cells #[.int .i64 x, .int .i64 y, .int .i64 0, .slice (some ⟨w.heap.size + 1 + 1, 0, none⟩) n n] 27)).alloc (.cells (madeCells #[Value.int .i64 0] n) 3)).drew := by
  refine ⟨some ⟨w.heap.size + 1 + 1, 0, none⟩, n, by simp [Line.val], ?_, ?_, fun ad h => by cases h; simp; omega⟩
  · have := made_ints ((w.alloc (.cells cs T)).alloc (.cells #[.int .i64 x, .int .i64 y, .int .i64 0, .slice (some ⟨w.heap.size + 1 + 1, 0, none⟩) n n] 27)) n
    rw [World.size_alloc, World.size_alloc] at this
    exact this
  · exact (((below_alloc w (.cells cs T)).alloc (below_alloc w _).size _).alloc (by simp; omega) _).drew
set_option maxHeartbeats 4000000 in
theorem New_any (l : Lift) (w : World) : Calls Try.prog 11 #[l.val] w (LinePost w (newOf l)) := by
  unfold Lift.val
  have hbb := Lib.hid ((below_alloc w (.cells #[.int .i64 l.id, .int .i64 l.operator, .int .i64 l.from_, .int .i64 l.to_, .int .i64 l.length, .int .i64 l.speed, .int .i64 l.seats, .int .i64 l.spacing] 23)).alloc (below_alloc w _).size (.cells #[.int .i64 0, .int .i64 0, .int .i64 0, .slice none 0 0] 27))
  have nov := Lib.hid (fun (h : ¬ (10 ≤ l.length ∧ l.length ≤ 6000 ∧ 5 ≤ l.spacing ∧ l.spacing ≤ 1000 ∧ 2 * l.length % l.spacing = 0 ∧ 2 * l.length / l.spacing ≤ 200)) => show newOf l = (Line.zero, 1) by unfold newOf; rw [if_neg h])
  have yes := Lib.hid (fun (h : 10 ≤ l.length ∧ l.length ≤ 6000 ∧ 5 ≤ l.spacing ∧ l.spacing ≤ 1000 ∧ 2 * l.length % l.spacing = 0 ∧ 2 * l.length / l.spacing ≤ 200) => show newOf l = (⟨2000 * l.length, 1000 * l.spacing, 0, List.replicate (2 * l.length / l.spacing).toNat 0⟩, 0) by unfold newOf; rw [if_pos h])
  have ho : l.length < 10 ∨ 10 ≤ l.length ∧ (6000 < l.length ∨ l.length ≤ 6000 ∧ (l.spacing < 5 ∨ 5 ≤ l.spacing ∧ (1000 < l.spacing ∨ l.spacing ≤ 1000))) := by omega
  rcases ho with q | ⟨p1, q | ⟨p2, q | ⟨p3, q | p4⟩⟩⟩
  · have HN := Lib.hid (nov.out (by omega))
    clear nov yes
    go_enter Try.func11, Try.ntmps11
    go_wp2
    refine bodyPost_ret (v := .tuple #[.agg #[.int .i64 0, .int .i64 0, .int .i64 0, .slice none 0 0], .int .i64 1]) ?_ rfl ?_
    · rw [results_cell_tmp rfl]
      go_simp
    · rw [HN.out]
      exact zero_post _ _ _ hbb.out
  · have HN := Lib.hid (nov.out (by omega))
    clear nov yes
    go_enter Try.func11, Try.ntmps11
    go_wp2
    refine bodyPost_ret (v := .tuple #[.agg #[.int .i64 0, .int .i64 0, .int .i64 0, .slice none 0 0], .int .i64 1]) ?_ rfl ?_
    · rw [results_cell_tmp rfl]
      go_simp
    · rw [HN.out]
      exact zero_post _ _ _ hbb.out
  · have HN := Lib.hid (nov.out (by omega))
    clear nov yes
    go_enter Try.func11, Try.ntmps11
    go_wp2
    refine bodyPost_ret (v := .tuple #[.agg #[.int .i64 0, .int .i64 0, .int .i64 0, .slice none 0 0], .int .i64 1]) ?_ rfl ?_
    · rw [results_cell_tmp rfl]
      go_simp
    · rw [HN.out]
      exact zero_post _ _ _ hbb.out
  · have HN := Lib.hid (nov.out (by omega))
    clear nov yes
    go_enter Try.func11, Try.ntmps11
    go_wp2
    refine bodyPost_ret (v := .tuple #[.agg #[.int .i64 0, .int .i64 0, .int .i64 0, .slice none 0 0], .int .i64 1]) ?_ rfl ?_
    · rw [results_cell_tmp rfl]
      go_simp
    · rw [HN.out]
      exact zero_post _ _ _ hbb.out
  · obtain ⟨d0, d1, m0, m1, hiff⟩ := two_div ⟨p1, p2⟩ ⟨p3, p4⟩
    by_cases hm : 2 * l.length % l.spacing = 0
    · have e1 := hiff.2 hm
      by_cases hn : 2 * l.length / l.spacing ≤ 200
      · have hN := yes.out ⟨p1, p2, p3, p4, hm, hn⟩
        obtain ⟨n, hn2⟩ : ∃ n : Nat, 2 * l.length / l.spacing = n := ⟨(2 * l.length / l.spacing).toNat, by omega⟩
        rw [hn2] at hN d0 d1 hn e1 m0 m1
        rw [Int.toNat_natCast] at hN
        have HN := Lib.hid hN
        have hnb : ((n : Int) * l.spacing != 2 * l.length) = false := by simpa using e1
        have hmb : (2 * l.length % l.spacing != 0) = false := by simpa using hm
        have hmk := fun W => run_make_row' (P := Try.prog) 25 3 (.int .i64 0) 8 Try.underlying25 info3 rfl .i64 .i64 n (by omega) (by omega) W
        have hb1 := hbb.out
        clear nov yes hiff e1 hm hbb hN
        go_enter Try.func11, Try.ntmps11
        go_wp2_with fail
        go_region
        go_wp2
        refine bodyPost_ret (v := .tuple #[.agg #[.int .i64 (2000 * l.length), .int .i64 (1000 * l.spacing), .int .i64 0, .slice (some ⟨w.heap.size + 1 + 1, 0, none⟩) n n], .int .i64 0]) ?_ rfl ?_
        · rw [results_cell_tmp rfl]
          go_simp
        · rw [HN.out]
          exact new_post _ _ _ _ _ _
      · have HN := Lib.hid (nov.out (by omega))
        have hnb : (2 * l.length / l.spacing * l.spacing != 2 * l.length) = false := by simpa using e1
        have hmb : (2 * l.length % l.spacing != 0) = false := by simpa using hm
        clear nov yes hiff e1 hm
        go_enter Try.func11, Try.ntmps11
        go_wp2
        refine bodyPost_ret (v := .tuple #[.agg #[.int .i64 0, .int .i64 0, .int .i64 0, .slice none 0 0], .int .i64 1]) ?_ rfl ?_
        · rw [results_cell_tmp rfl]
          go_simp
        · rw [HN.out]
          exact zero_post _ _ _ hbb.out
    · have HN := Lib.hid (nov.out (by omega))
      have e1 : 2 * l.length / l.spacing * l.spacing ≠ 2 * l.length := fun h => hm (hiff.1 h)
      have hnb : (2 * l.length / l.spacing * l.spacing != 2 * l.length) = true := by simpa using e1
      have hmb : (2 * l.length % l.spacing != 0) = true := by simpa using hm
      clear nov yes hiff e1 hm
      go_enter Try.func11, Try.ntmps11
      go_wp2
      refine bodyPost_ret (v := .tuple #[.agg #[.int .i64 0, .int .i64 0, .int .i64 0, .slice none 0 0], .int .i64 1]) ?_ rfl ?_
      · rw [results_cell_tmp rfl]
        go_simp
      · rw [HN.out]
        exact zero_post _ _ _ hbb.out
set_option maxHeartbeats 4000000 in
theorem refNew_any (l : Lift) (w : World) : Calls Try.prog 12 #[l.val] w (LinePost w (newOf l)) := by
  unfold Lift.val
  have hbb := Lib.hid ((below_alloc w (.cells #[.int .i64 l.id, .int .i64 l.operator, .int .i64 l.from_, .int .i64 l.to_, .int .i64 l.length, .int .i64 l.speed, .int .i64 l.seats, .int .i64 l.spacing] 23)).alloc (below_alloc w _).size (.cells #[.int .i64 0, .int .i64 0, .int .i64 0, .slice none 0 0] 27))
  have nov := Lib.hid (fun (h : ¬ (10 ≤ l.length ∧ l.length ≤ 6000 ∧ 5 ≤ l.spacing ∧ l.spacing ≤ 1000 ∧ 2 * l.length % l.spacing = 0 ∧ 2 * l.length / l.spacing ≤ 200)) => show newOf l = (Line.zero, 1) by unfold newOf; rw [if_neg h])
  have yes := Lib.hid (fun (h : 10 ≤ l.length ∧ l.length ≤ 6000 ∧ 5 ≤ l.spacing ∧ l.spacing ≤ 1000 ∧ 2 * l.length % l.spacing = 0 ∧ 2 * l.length / l.spacing ≤ 200) => show newOf l = (⟨2000 * l.length, 1000 * l.spacing, 0, List.replicate (2 * l.length / l.spacing).toNat 0⟩, 0) by unfold newOf; rw [if_pos h])
  have ho : l.length < 10 ∨ 10 ≤ l.length ∧ (6000 < l.length ∨ l.length ≤ 6000 ∧ (l.spacing < 5 ∨ 5 ≤ l.spacing ∧ (1000 < l.spacing ∨ l.spacing ≤ 1000))) := by omega
  rcases ho with q | ⟨p1, q | ⟨p2, q | ⟨p3, q | p4⟩⟩⟩
  · have HN := Lib.hid (nov.out (by omega))
    clear nov yes
    go_enter Try.func12, Try.ntmps12
    go_wp2
    refine bodyPost_ret (v := .tuple #[.agg #[.int .i64 0, .int .i64 0, .int .i64 0, .slice none 0 0], .int .i64 1]) ?_ rfl ?_
    · rw [results_cell_tmp rfl]
      go_simp
    · rw [HN.out]
      exact zero_post _ _ _ hbb.out
  · have HN := Lib.hid (nov.out (by omega))
    clear nov yes
    go_enter Try.func12, Try.ntmps12
    go_wp2
    refine bodyPost_ret (v := .tuple #[.agg #[.int .i64 0, .int .i64 0, .int .i64 0, .slice none 0 0], .int .i64 1]) ?_ rfl ?_
    · rw [results_cell_tmp rfl]
      go_simp
    · rw [HN.out]
      exact zero_post _ _ _ hbb.out
  · have HN := Lib.hid (nov.out (by omega))
    clear nov yes
    go_enter Try.func12, Try.ntmps12
    go_wp2
    refine bodyPost_ret (v := .tuple #[.agg #[.int .i64 0, .int .i64 0, .int .i64 0, .slice none 0 0], .int .i64 1]) ?_ rfl ?_
    · rw [results_cell_tmp rfl]
      go_simp
    · rw [HN.out]
      exact zero_post _ _ _ hbb.out
  · have HN := Lib.hid (nov.out (by omega))
    clear nov yes
    go_enter Try.func12, Try.ntmps12
    go_wp2
    refine bodyPost_ret (v := .tuple #[.agg #[.int .i64 0, .int .i64 0, .int .i64 0, .slice none 0 0], .int .i64 1]) ?_ rfl ?_
    · rw [results_cell_tmp rfl]
      go_simp
    · rw [HN.out]
      exact zero_post _ _ _ hbb.out
  · obtain ⟨d0, d1, m0, m1, hiff⟩ := two_div ⟨p1, p2⟩ ⟨p3, p4⟩
    by_cases hm : 2 * l.length % l.spacing = 0
    · have e1 := hiff.2 hm
      by_cases hn : 2 * l.length / l.spacing ≤ 200
      · have hN := yes.out ⟨p1, p2, p3, p4, hm, hn⟩
        obtain ⟨n, hn2⟩ : ∃ n : Nat, 2 * l.length / l.spacing = n := ⟨(2 * l.length / l.spacing).toNat, by omega⟩
        rw [hn2] at hN d0 d1 hn e1 m0 m1
        rw [Int.toNat_natCast] at hN
        have HN := Lib.hid hN
        have hnb : ((n : Int) * l.spacing != 2 * l.length) = false := by simpa using e1
        have hmb : (2 * l.length % l.spacing != 0) = false := by simpa using hm
        have hmk := fun W => run_make_row' (P := Try.prog) 25 3 (.int .i64 0) 8 Try.underlying25 info3 rfl .i64 .i64 n (by omega) (by omega) W
        have hb1 := hbb.out
        clear nov yes hiff e1 hm hbb hN
        go_enter Try.func12, Try.ntmps12
        go_wp2_with fail
        go_region
        go_wp2
        refine bodyPost_ret (v := .tuple #[.agg #[.int .i64 (2000 * l.length), .int .i64 (1000 * l.spacing), .int .i64 0, .slice (some ⟨w.heap.size + 1 + 1, 0, none⟩) n n], .int .i64 0]) ?_ rfl ?_
        · rw [results_cell_tmp rfl]
          go_simp
        · rw [HN.out]
          exact new_post _ _ _ _ _ _
      · have HN := Lib.hid (nov.out (by omega))
        have hnb : (2 * l.length / l.spacing * l.spacing != 2 * l.length) = false := by simpa using e1
        have hmb : (2 * l.length % l.spacing != 0) = false := by simpa using hm
        clear nov yes hiff e1 hm
        go_enter Try.func12, Try.ntmps12
        go_wp2
        refine bodyPost_ret (v := .tuple #[.agg #[.int .i64 0, .int .i64 0, .int .i64 0, .slice none 0 0], .int .i64 1]) ?_ rfl ?_
        · rw [results_cell_tmp rfl]
          go_simp
        · rw [HN.out]
          exact zero_post _ _ _ hbb.out
    · have HN := Lib.hid (nov.out (by omega))
      have e1 : 2 * l.length / l.spacing * l.spacing ≠ 2 * l.length := fun h => hm (hiff.1 h)
      have hnb : (2 * l.length / l.spacing * l.spacing != 2 * l.length) = true := by simpa using e1
      have hmb : (2 * l.length % l.spacing != 0) = true := by simpa using hm
      clear nov yes hiff e1 hm
      go_enter Try.func12, Try.ntmps12
      go_wp2
      refine bodyPost_ret (v := .tuple #[.agg #[.int .i64 0, .int .i64 0, .int .i64 0, .slice none 0 0], .int .i64 1]) ?_ rfl ?_
      · rw [results_cell_tmp rfl]
        go_simp
      · rw [HN.out]
        exact zero_post _ _ _ hbb.out
end Go.Proofs.Ytdddfajchkmehaa
