/- Contracts: Due (both), SameInts, Same, Clone. -/
import Derived.Test.YtgmkfjgkpakhfaaW4
namespace Go.Proofs.Ytgmkfjgkpakhfaa
open Go.RowKit
set_option linter.unusedVariables false
theorem info3 : (Try.prog.info? 3).map (fun i => (i.zero, i.size, i.bytes)) = some (some (.int .i64 0), 1, 8) := by kernel_rfl
def SliceN (w : World) (l : List Int) (e : Ending) (w' : World) : Prop := ∃ A c, e = .returned (.slice A l.length c) ∧ Ints w' A l ∧ Below w.heap.size w w'
set_option maxHeartbeats 1000000 in
theorem Due_any (A : Option Addr) (c : Nat) (l : List Brake) (t : Int) (w : World) (hm : l.length ≤ 8) (h : Brakes w A l) (hI : AllI l) (ht : I64 t) :
    Calls Try.prog 23 #[.slice A l.length c, .int .i64 t] w (SliceN w (dueOf l t)) := by
  go_enter Try.func23, Try.ntmps23
  go_wp2
  go_loopw [5, 10] (fun v i wr => ∃ (k : Nat), k ≤ l.length ∧ i = .int .i64 k ∧ OwnI wr w.heap.size 3 v (dueOf (l.take k) t) ∧ Below w.heap.size w wr) (fun _ i _ => l.length - (intOf i).toNat)
  case atStart => exact ⟨0, Nat.zero_le _, rfl, OwnI.nil _ _ _, Below.refl _ _⟩
  case round =>
    obtain ⟨k, hk, rfl, hown, hb⟩ := hrel
    by_cases hlt : k < l.length
    · obtain ⟨b, off, rfl, hc⟩ := h (by omega)
      obtain ⟨h0, h1, h2, h3, h4⟩ := hc k hlt
      have h0' := cell_later hb h0
      have h1' := cell_later hb h1
      have h2' := cell_later hb h2
      have h3' := cell_later hb h3
      have h4' := cell_later hb h4
      clear h0 h1 h2 h3 h4 hc
      have hv := fun W => Lib.hid (Valid_any l[k] t W (hI _ (List.getElem_mem hlt)) ht)
      have hs := dueOf_succ hlt t
      have hdl := dueOf_length (l.take k) t
      have Hdl : (dueOf (l.take k) t).length ≤ 8 := Nat.le_trans hdl (by simp; omega)
      have Hs := Lib.hid hs
      clear hs hdl
      have hbw := hb.alloc hb.size (.cells #[.int .i64 l[k].id, .int .i64 l[k].kind, .int .i64 l[k].force, .int .i64 l[k].tested, .int .i64 l[k].measured] 32)
      have hown1 := hown.alloc (.cells #[.int .i64 l[k].id, .int .i64 l[k].kind, .int .i64 l[k].force, .int .i64 l[k].tested, .int .i64 l[k].measured] 32)
      generalize l[k] = x at *
      unfold Brake.val at hv
      go_wp2_with fail
      refine (hv _).out.mono ?_
      rintro e w1 ⟨rfl, hb1⟩
      have h0w : w1.cell? ⟨wr.heap.size, 0, none⟩ = some (.int .i64 x.id) := by
        refine cell_later hb1 ?_
        go_simp
      have hbb := hbw.trans (hb1.mono hbw.size)
      have hown2 := hown1.grown hb1
      clear hbw hb1 h0' h1' h2' h3' h4' hown hown1
      cases hvb : validB x t
      · rw [hvb] at Hs
        clear hvb
        go_wp2_with (at_builtin; refine wpList_push w w1 rfl (.tmp 18) (.tmp 21) _ rfl w.heap.size 3 Try.underlying37 info3 _ (dueOf (l.take k) t) rfl (by exact hown2) x.id rfl (by exact hbb) (by omega) hbb.size ?_; intro g1 cap1 w3 hown3 hbw3 hg1 hat1)
        clear hg1 hat1 hown2
        go_wp2
        go_roundw
        case rel => exact ⟨k + 1, by omega, by go_num, by rw [Hs.out]; exact hown3, hbw3⟩
        case measure => simp [intOf]; omega
      · rw [hvb] at Hs
        clear hvb
        go_wp2
        go_roundw
        case rel => exact ⟨k + 1, by omega, by go_num, by rw [Hs.out]; exact hown2, hbb⟩
        case measure => simp [intOf]; omega
    · have hke : k = l.length := by omega
      subst hke
      rw [List.take_length] at hown
      obtain ⟨A', c', rfl, hi⟩ := hown.form
      go_wp2
      go_ret
      exact ⟨A', c', rfl, hi, hb⟩
set_option maxHeartbeats 1000000 in
theorem refDue_any (A : Option Addr) (c : Nat) (l : List Brake) (t : Int) (w : World) (hm : l.length ≤ 8) (h : Brakes w A l) (hI : AllI l) (ht : I64 t) :
    Calls Try.prog 24 #[.slice A l.length c, .int .i64 t] w (SliceN w (dueOf l t)) := by
  go_enter Try.func24, Try.ntmps24
  go_wp2
  go_loopw [5, 6] (fun v i wr => ∃ (k : Nat), k ≤ l.length ∧ i = .int .i64 k ∧ OwnI wr w.heap.size 3 v (dueOf (l.take k) t) ∧ Below w.heap.size w wr) (fun _ i _ => l.length - (intOf i).toNat)
  case atStart => exact ⟨0, Nat.zero_le _, rfl, OwnI.nil _ _ _, Below.refl _ _⟩
  case round =>
    obtain ⟨k, hk, rfl, hown, hb⟩ := hrel
    by_cases hlt : k < l.length
    · obtain ⟨b, off, rfl, hc⟩ := h (by omega)
      obtain ⟨h0, h1, h2, h3, h4⟩ := hc k hlt
      have h0' := cell_later hb h0
      have h1' := cell_later hb h1
      have h2' := cell_later hb h2
      have h3' := cell_later hb h3
      have h4' := cell_later hb h4
      clear h0 h1 h2 h3 h4 hc
      have hv := fun W => Lib.hid (refValid_any l[k] t W (hI _ (List.getElem_mem hlt)) ht)
      have hs := dueOf_succ hlt t
      have hdl := dueOf_length (l.take k) t
      have Hdl : (dueOf (l.take k) t).length ≤ 8 := Nat.le_trans hdl (by simp; omega)
      have Hs := Lib.hid hs
      clear hs hdl
      have hbw := hb
      have hown1 := hown
      generalize l[k] = x at *
      unfold Brake.val at hv
      go_wp2_with fail
      refine (hv _).out.mono ?_
      rintro e w1 ⟨rfl, hb1⟩
      have h0w := cell_later hb1 h0'
      have hbb := hbw.trans (hb1.mono hbw.size)
      have hown2 := hown1.grown hb1
      clear hbw hb1 h0' h1' h2' h3' h4' hown hown1
      cases hvb : validB x t
      · rw [hvb] at Hs
        clear hvb
        go_wp2_with (at_builtin; refine wpList_push w w1 rfl (.tmp 20) (.tmp 26) _ rfl w.heap.size 3 Try.underlying37 info3 _ (dueOf (l.take k) t) rfl (by exact hown2) x.id rfl (by exact hbb) (by omega) hbb.size ?_; intro g1 cap1 w3 hown3 hbw3 hg1 hat1)
        clear hg1 hat1 hown2
        go_wp2
        go_roundw
        case rel => exact ⟨k + 1, by omega, by go_num, by rw [Hs.out]; exact hown3, hbw3⟩
        case measure => simp [intOf]; omega
      · rw [hvb] at Hs
        clear hvb
        go_wp2
        go_roundw
        case rel => exact ⟨k + 1, by omega, by go_num, by rw [Hs.out]; exact hown2, hbb⟩
        case measure => simp [intOf]; omega
    · have hke : k = l.length := by omega
      subst hke
      rw [List.take_length] at hown
      obtain ⟨A', c', rfl, hi⟩ := hown.form
      go_wp2
      go_ret
      exact ⟨A', c', rfl, hi, hb⟩

set_option maxHeartbeats 1000000 in
theorem SameInts_eq (A C : Option Addr) (c d : Nat) (l : List Int) (w : World) (hm : l.length ≤ 1000000000000000) (hA : Ints w A l) (hC : Ints w C l) :
    Calls Try.prog 22 #[.slice A l.length c, .slice C l.length d] w fun e w' => e = .returned (.bool true) ∧ ∃ n, w' = w.drewN n := by
  go_enter Try.func22, Try.ntmps22
  go_wp2
  go_loopw [5] (fun i wr => ∃ (k n : Nat), k ≤ l.length ∧ i = .int .i64 k ∧ wr = w.drewN n) (fun i _ => l.length - (intOf i).toNat)
  case atStart => exact ⟨0, 0, Nat.zero_le _, rfl, rfl⟩
  case round =>
    obtain ⟨k, n, hk, rfl, rfl⟩ := hrel
    by_cases hlt : k < l.length
    · obtain ⟨b, o, rfl, hcA⟩ := hA (by omega)
      obtain ⟨b', o', rfl, hcC⟩ := hC (by omega)
      have ha := hcA k hlt
      have hc := hcC k hlt
      clear hcA hcC
      generalize l[k] = p at *
      have hne : (p != p) = false := by simp
      go_wp2_with fail
      go_quiet (fail)
      go_wp2
      go_roundw
      case rel => exact ⟨k + 1, _, by omega, by go_num, rfl⟩
      case measure => simp [intOf]; omega
    · go_wp2
      go_ret
      exact ⟨rfl, _, rfl⟩
set_option maxHeartbeats 1000000 in
theorem Same_eq (A C : Option Addr) (c d : Nat) (l : List Brake) (w : World) (hm : l.length ≤ 1000000000000000) (hA : Brakes w A l) (hC : Brakes w C l) :
    Calls Try.prog 15 #[.slice A l.length c, .slice C l.length d] w fun e w' => e = .returned (.bool true) ∧ ∃ n, w' = w.drewN n := by
  go_enter Try.func15, Try.ntmps15
  go_wp2
  go_loopw [5] (fun i wr => ∃ (k n : Nat), k ≤ l.length ∧ i = .int .i64 k ∧ wr = w.drewN n) (fun i _ => l.length - (intOf i).toNat)
  case atStart => exact ⟨0, 0, Nat.zero_le _, rfl, rfl⟩
  case round =>
    obtain ⟨k, n, hk, rfl, rfl⟩ := hrel
    by_cases hlt : k < l.length
    · obtain ⟨b, o, rfl, hcA⟩ := hA (by omega)
      obtain ⟨b', o', rfl, hcC⟩ := hC (by omega)
      obtain ⟨a0, a1, a2, a3, a4⟩ := hcA k hlt
      obtain ⟨e0, e1, e2, e3, e4⟩ := hcC k hlt
      clear hcA hcC
      generalize l[k] = x at *
      have hne := x.neq_self
      go_wp2_with fail
      go_quiet (fail)
      go_wp2
      go_roundw
      case rel => exact ⟨k + 1, _, by omega, by go_num, rfl⟩
      case measure => simp [intOf]; omega
    · go_wp2
      go_ret
      exact ⟨rfl, _, rfl⟩
def CloneB (w : World) (l : List Brake) (e : Ending) (w' : World) : Prop := ∃ A c, e = .returned (.slice A l.length c) ∧ OwnR w' w.heap.size 32 5 (.slice A l.length c) (l.map Brake.row) ∧ Below w.heap.size w w'
set_option maxHeartbeats 400000 in
theorem Clone_any (A : Option Addr) (c : Nat) (l : List Brake) (w : World) (hn : l.length ≤ 8) (h : Brakes w A l) : Calls Try.prog 29 #[.slice A l.length c] w (CloneB w l) := by
  rcases A with _ | ad
  · have hl : l = [] := by
      cases l with
      | nil => rfl
      | cons y r => obtain ⟨b, off, h, _⟩ := h (by simp); cases h
    subst hl
    go_enter Try.func29, Try.ntmps29
    have q1 := fun (w : World) => Lib.run_eql_slice_nil (P := Try.prog) w 22 32 none 0 c 0 0 Try.underlying22
    go_wp2
    go_ret
    exact ⟨_, _, rfl, OwnR.nil _ _ _ _, Below.refl _ _⟩
  · have q1 := fun (w : World) => Lib.run_eql_slice_nil (P := Try.prog) w 22 32 (some ad) l.length c 0 0 Try.underlying22
    have n1 : ([] : List (List Int)).length + (l.map Brake.row).length ≤ maxLen := by simp [maxLen]; omega
    have n2 : (([] : List (List Int)).length + (l.map Brake.row).length) * 40 ≤ 140737488355328 := by simp; omega
    have m1 := Lib.hid (show l.length = (l.map Brake.row).length by simp)
    have t1 := Lib.hid (show ([] : List (List Int)).length + (l.map Brake.row).length = l.length by simp)
    have RL := Lib.hid (Brake.row_len l)
    have hs := h.src.below (below_alloc w (.cells #[] 32))
    go_enter Try.func29, Try.ntmps29
    go_wp2_with (at_builtin; refine wpList_append_rows _ rfl (.tmp 5) (.tmp 6) _ rfl w.heap.size 32 _ 5 40 Try.underlying22 Brake.info rfl (Nat.zero_lt_succ _) _ [] rfl (OwnR.made w w.heap.size 32 5 (Nat.le_refl _)) _ _ l.length (l.map Brake.row) rfl m1.out RL.out hs n1 n2 (by simp) l.length (l.map Brake.row) t1.out rfl ?_; intro A1 c1 w1 own1 hg1 hat1)
    have hb1 := Below.ownR (below_alloc w (.cells #[] 32)) (OwnR.made w w.heap.size 32 5 (Nat.le_refl _)) hg1 (Nat.le_refl _) (by simp)
    go_ret
    exact ⟨A1, c1, rfl, own1, hb1⟩
end Go.Proofs.Ytgmkfjgkpakhfaa
