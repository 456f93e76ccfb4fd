/- Contracts: helpless, need, Same, last, sample. -/
import Derived.Test.YtidlbhheakhkhaaW2
namespace Go.Proofs.Ytidlbhheakhkhaa
open Go.RowKit
set_option linter.unusedVariables false
theorem info3 : (Try.prog.info? 3).map (fun i => (i.zero, i.size, i.bytes)) = some (some (.int .i64 0), 1, 8) := by kernel_rfl
/-- a call gives a list of sections -/
def SecsN (w : World) (l : List Sec) (e : Ending) (w' : World) : Prop := ∃ A c, e = .returned (.slice A l.length c) ∧ l.length ≤ c ∧ Secs w' A l ∧ Below w.heap.size w w'
theorem need_succ {l : List Sec} {k : Nat} (hk : k < l.length) : needOf (l.take (k + 1)) = if l[k].people != 0 then needOf (l.take k) ++ [l[k]] else needOf (l.take k) := by
  unfold needOf
  rw [List.take_succ_eq_append_getElem hk, List.filter_append]
  by_cases h : l[k].people != 0
  · rw [if_pos h]; simp [h]
  · rw [if_neg h]; simp [h]
theorem need_length (l : List Sec) : (needOf l).length ≤ l.length := List.length_filter_le _ _
theorem OwnR.cap {w : World} {B T k : Nat} {A : Option Addr} {n c : Nat} {rows : List (List Int)} (h : OwnR w B T k (.slice A n c) rows) : n = rows.length ∧ n ≤ c := by
  rcases h.own.2 with ⟨e, h0⟩ | ⟨g, cap, cur, e, _, hg, hnc, _⟩
  · injection e with e1 e2 e3
    omega
  · injection e with e1 e2 e3
    omega
set_option maxHeartbeats 1000000 in
theorem helpless_any (A : Option Addr) (c : Nat) (l : List Sec) (w : World) (hm : l.length ≤ 1000000) (h : Secs w A l) :
    Calls Try.prog 27 #[.slice A l.length c] w (SecsN w (needOf l)) := by
  go_enter Try.func27, Try.ntmps27
  go_wp2
  go_loopw [3, 8] (fun v i wr => ∃ (k : Nat), k ≤ l.length ∧ i = .int .i64 k ∧ OwnR wr w.heap.size 39 3 v ((needOf (l.take k)).map Sec.row) ∧ Below w.heap.size w wr) (fun _ i _ => l.length - (intOf i).toNat)
  case atStart => exact ⟨0, Nat.zero_le _, rfl, OwnR.nil _ _ _ _, Below.refl _ _⟩
  case round =>
    obtain ⟨k, hk, rfl, hown, hb⟩ := hrel
    by_cases hlt : k < l.length
    · obtain ⟨b, off, rfl, hc⟩ := h (by omega)
      obtain ⟨h0, h1, h2⟩ := hc k hlt
      have h0' := cell_later hb h0
      have h1' := cell_later hb h1
      have h2' := cell_later hb h2
      clear h0 h1 h2 hc
      have hs := need_succ hlt
      have hdl := need_length (l.take k)
      have Hdl : (needOf (l.take k)).length ≤ 1000000 := Nat.le_trans hdl (by simp; omega)
      have Hs := Lib.hid hs
      clear hs hdl
      generalize l[k] = x at *
      by_cases hp : x.people = 0
      · have hp' : (x.people != 0) = false := by simp [hp]
        rw [if_neg (by simp [hp])] at Hs
        clear hp
        have hbw := hb.alloc hb.size (.cells #[.int .i64 x.id, .int .i64 x.people, .int .i64 x.seconds] 39)
        have hown1 := hown.alloc (.cells #[.int .i64 x.id, .int .i64 x.people, .int .i64 x.seconds] 39)
        clear hown hb
        go_wp2
        go_roundw
        case rel => exact ⟨k + 1, by omega, by go_num, by rw [Hs.out]; exact hown1, hbw⟩
        case measure => simp [intOf]; omega
      · have hp' : (x.people != 0) = true := by simpa using hp
        rw [if_pos hp'] at Hs
        clear hp
        have hbw := hb.alloc hb.size (.cells #[.int .i64 x.id, .int .i64 x.people, .int .i64 x.seconds] 39)
        have hown1 := hown.alloc (.cells #[.int .i64 x.id, .int .i64 x.people, .int .i64 x.seconds] 39)
        clear hown hb
        have hbw2 := hbw.alloc hbw.size (.cells #[.int .i64 x.id, .int .i64 x.people, .int .i64 x.seconds] 39)
        have hown2 := hown1.alloc (.cells #[.int .i64 x.id, .int .i64 x.people, .int .i64 x.seconds] 39)
        have hsrc := Sec.one_src (wr.alloc (.cells #[.int .i64 x.id, .int .i64 x.people, .int .i64 x.seconds] 39)) x
        have hsz : (wr.alloc (.cells #[.int .i64 x.id, .int .i64 x.people, .int .i64 x.seconds] 39)).heap.size = wr.heap.size + 1 := by simp
        rw [hsz] at hsrc
        clear hown1 hbw hsz
        have n1 : ((needOf (l.take k)).map Sec.row).length + 1 ≤ maxLen := by simp [maxLen]; omega
        have n2 : (((needOf (l.take k)).map Sec.row).length + 1) * 24 ≤ 140737488355328 := by simp; omega
        have RL := Lib.hid (Sec.row_len [x])
        go_wp2_with (at_builtin; refine wpList_append_rows _ rfl (.tmp 15) (.tmp 17) _ rfl w.heap.size 39 _ 3 24 Try.underlying22 Sec.info rfl (Nat.zero_lt_succ _) _ ((needOf (l.take k)).map Sec.row) rfl (by exact hown2) _ _ 1 [Sec.row x] rfl rfl RL.out (by exact hsrc) n1 n2 (by exact hbw2.size) _ _ rfl rfl ?_; intro A1 c1 w1 own1 hg1 hat1)
        have hb1 := Below.ownR hbw2 hown2 hg1 (Nat.le_refl _) hbw2.size
        clear hg1 hat1 hown2 hbw2 hsrc
        go_wp2
        go_roundw
        case rel => exact ⟨k + 1, by omega, by go_num, by rw [Hs.out, List.map_append]; rw [List.length_map] at own1; exact own1, hb1⟩
        case measure => simp [intOf]; omega
    · have hke : k = l.length := by omega
      subst hke
      rw [List.take_length] at hown
      obtain ⟨A', c', rfl, hi⟩ := hown.form
      have hcp := hown.cap
      clear hown
      simp only [List.length_map] at hcp
      go_wp2
      go_ret
      refine ⟨A', c', by simp, by omega, Secs.of_src hi, hb⟩
set_option maxHeartbeats 1000000 in
theorem need_any (A : Option Addr) (c : Nat) (l : List Sec) (w : World) (hm : l.length ≤ 1000000) (h : Secs w A l) :
    Calls Try.prog 29 #[.slice A l.length c] w (SecsN w (needOf l)) := by
  go_enter Try.func29, Try.ntmps29
  go_wp2
  go_loopw [3, 4] (fun v i wr => ∃ (k : Nat), k ≤ l.length ∧ i = .int .i64 k ∧ OwnR wr w.heap.size 39 3 v ((needOf (l.take k)).map Sec.row) ∧ Below w.heap.size w wr) (fun _ i _ => l.length - (intOf i).toNat)
  case atStart => exact ⟨0, Nat.zero_le _, rfl, OwnR.nil _ _ _ _, Below.refl _ _⟩
  case round =>
    obtain ⟨k, hk, rfl, hown, hb⟩ := hrel
    by_cases hlt : k < l.length
    · obtain ⟨b, off, rfl, hc⟩ := h (by omega)
      obtain ⟨h0, h1, h2⟩ := hc k hlt
      have h0' := cell_later hb h0
      have h1' := cell_later hb h1
      have h2' := cell_later hb h2
      clear h0 h1 h2 hc
      have hs := need_succ hlt
      have hdl := need_length (l.take k)
      have Hdl : (needOf (l.take k)).length ≤ 1000000 := Nat.le_trans hdl (by simp; omega)
      have Hs := Lib.hid hs
      clear hs hdl
      generalize l[k] = x at *
      by_cases hp : x.people = 0
      · have hp' : (x.people != 0) = false := by simp [hp]
        rw [if_neg (by simp [hp])] at Hs
        clear hp
        go_wp2
        go_roundw
        case rel => exact ⟨k + 1, by omega, by go_num, by rw [Hs.out]; exact hown, hb⟩
        case measure => simp [intOf]; omega
      · have hp' : (x.people != 0) = true := by simpa using hp
        rw [if_pos hp'] at Hs
        clear hp
        have hbw := hb.alloc hb.size (.cells #[.int .i64 x.id, .int .i64 x.people, .int .i64 x.seconds] 39)
        have hown1 := hown.alloc (.cells #[.int .i64 x.id, .int .i64 x.people, .int .i64 x.seconds] 39)
        clear hown hb
        have hsrc := Sec.one_src wr x
        have n1 : ((needOf (l.take k)).map Sec.row).length + 1 ≤ maxLen := by simp [maxLen]; omega
        have n2 : (((needOf (l.take k)).map Sec.row).length + 1) * 24 ≤ 140737488355328 := by simp; omega
        have RL := Lib.hid (Sec.row_len [x])
        go_wp2_with (at_builtin; refine wpList_append_rows _ rfl (.tmp 17) (.tmp 22) _ rfl w.heap.size 39 _ 3 24 Try.underlying22 Sec.info rfl (Nat.zero_lt_succ _) _ ((needOf (l.take k)).map Sec.row) rfl (by exact hown1) _ _ 1 [Sec.row x] rfl rfl RL.out (by exact hsrc) n1 n2 (by exact hbw.size) _ _ rfl rfl ?_; intro A1 c1 w1 own1 hg1 hat1)
        have hb1 := Below.ownR hbw hown1 hg1 (Nat.le_refl _) hbw.size
        clear hg1 hat1 hown1 hbw hsrc
        go_wp2
        go_roundw
        case rel => exact ⟨k + 1, by omega, by go_num, by rw [Hs.out, List.map_append]; rw [List.length_map] at own1; exact own1, hb1⟩
        case measure => simp [intOf]; omega
    · have hke : k = l.length := by omega
      subst hke
      rw [List.take_length] at hown
      obtain ⟨A', c', rfl, hi⟩ := hown.form
      have hcp := hown.cap
      clear hown
      simp only [List.length_map] at hcp
      go_wp2
      go_ret
      refine ⟨A', c', by simp, by omega, Secs.of_src hi, hb⟩
theorem Same_eq (A C : Option Addr) (c d : Nat) (l : List Job) (w : World) (hm : l.length ≤ 1000000000000000) (hA : Jobs w A l) (hC : Jobs w C l) :
    Calls Try.prog 16 #[.slice A l.length c, .slice C l.length d] w fun e w' => e = .returned (.bool true) ∧ ∃ n, w' = w.drewN n := by
  go_enter Try.func16, Try.ntmps16
  go_wp2
  go_loopw [5] (fun i wr => ∃ (k n : Nat), k ≤ l.length ∧ i = .int .i64 k ∧ wr = w.drewN n) (fun i _ => l.length - (intOf i).toNat)
  case atStart => exact ⟨0, 0, Nat.zero_le _, rfl, rfl⟩
  case round =>
    obtain ⟨k, n, hk, rfl, rfl⟩ := hrel
    by_cases hlt : k < l.length
    · obtain ⟨b, o, rfl, hcA⟩ := hA (by omega)
      obtain ⟨b', o', rfl, hcC⟩ := hC (by omega)
      obtain ⟨a0, a1, a2, a3⟩ := hcA k hlt
      obtain ⟨e0, e1, e2, e3⟩ := hcC k hlt
      clear hcA hcC
      generalize l[k] = x at *
      have hne := x.neq_self
      go_wp2_with fail
      go_quiet (fail)
      go_wp2
      go_roundw
      case rel => exact ⟨k + 1, _, by omega, by go_num, rfl⟩
      case measure => simp [intOf]; omega
    · go_wp2
      go_ret
      exact ⟨rfl, _, rfl⟩
/-- when the last one of jobs ends -/
def lastOf (l : List Job) : Int := l.foldl (fun n j => if n < j.to_ then j.to_ else n) 0
theorem last_succ {l : List Job} {k : Nat} (hk : k < l.length) : lastOf (l.take (k + 1)) = if lastOf (l.take k) < l[k].to_ then l[k].to_ else lastOf (l.take k) := by
  unfold lastOf
  rw [List.take_succ_eq_append_getElem hk, List.foldl_append]
  rfl
theorem last_any (A : Option Addr) (c : Nat) (l : List Job) (w : World) (hm : l.length ≤ 1000000000000000) (h : Jobs w A l) :
    Calls Try.prog 23 #[.slice A l.length c] w fun e w' => e = .returned (.int .i64 (lastOf l)) ∧ w' = w := by
  go_enter Try.func23, Try.ntmps23
  go_wp2
  go_loopw [3, 4] (fun v i wr => ∃ (k : Nat), k ≤ l.length ∧ v = .int .i64 (lastOf (l.take k)) ∧ i = .int .i64 k ∧ wr = w) (fun _ i _ => l.length - (intOf i).toNat)
  case atStart => exact ⟨0, Nat.zero_le _, rfl, rfl, rfl⟩
  case round =>
    obtain ⟨k, hk, rfl, rfl, rfl⟩ := hrel
    by_cases hlt : k < l.length
    · obtain ⟨b, o, rfl, hcA⟩ := h (by omega)
      obtain ⟨a0, a1, a2, a3⟩ := hcA k hlt
      clear hcA
      have Hs := Lib.hid (last_succ hlt)
      generalize lastOf (l.take k) = m at *
      generalize l[k].to_ = x at *
      go_wp2
      go_roundw
      case rel => exact ⟨k + 1, by omega, by rw [Hs.out], by go_num, trivial⟩
      case measure => simp [intOf]; omega
    · have hke : k = l.length := by omega
      subst hke
      rw [List.take_length]
      go_wp2
      go_ret
      exact ⟨rfl, rfl⟩
def sampleL : List Sec := [⟨1, 20, 300⟩, ⟨2, 0, 500⟩, ⟨3, 10, 200⟩, ⟨4, 15, 400⟩, ⟨5, 5, 100⟩]
theorem sample_any (w : World) : Calls Try.prog 24 #[] w fun e w' => ∃ A, e = .returned (.slice A 5 5) ∧ Secs w' A sampleL ∧ Below w.heap.size w w' := by
  go_enter Try.func24, Try.ntmps24
  go_wp2
  go_ret
  refine ⟨_, rfl, fun _ => ⟨_, _, rfl, fun i hi => ?_⟩, below_alloc _ _⟩
  match i, hi with
  | 0, _ => simp only [sampleL, List.getElem_cons_zero]; refine ⟨?_, ?_, ?_⟩ <;> go_simp
  | 1, _ => simp only [sampleL, List.getElem_cons_succ, List.getElem_cons_zero]; refine ⟨?_, ?_, ?_⟩ <;> go_simp
  | 2, _ => simp only [sampleL, List.getElem_cons_succ, List.getElem_cons_zero]; refine ⟨?_, ?_, ?_⟩ <;> go_simp
  | 3, _ => simp only [sampleL, List.getElem_cons_succ, List.getElem_cons_zero]; refine ⟨?_, ?_, ?_⟩ <;> go_simp
  | 4, _ => simp only [sampleL, List.getElem_cons_succ, List.getElem_cons_zero]; refine ⟨?_, ?_, ?_⟩ <;> go_simp
end Go.Proofs.Ytidlbhheakhkhaa
