/- Contracts: helpless, need, Same, last, sample. -/
import Derived.Test.YtogaepijfbgniaaW2
namespace Go.Proofs.Ytogaepijfbgniaa
open Go.RowKit
set_option linter.unusedVariables false
theorem info3 : (Try.prog.info? 3).map (fun i => (i.zero, i.size, i.bytes)) = some (some (.int .i64 0), 1, 8) := by kernel_rfl
/-- a call gives a list of sections -/
def SecsN (w : World) (l : List Sec) (e : Ending) (w' : World) : Prop := ∃ A c, e = .returned (.slice A l.length c) ∧ l.length ≤ c ∧ Secs w' A l ∧ Below w.heap.size w w'
theorem need_succ {l : List Sec} {k : Nat} (hk : k < l.length) : needOf (l.take (k + 1)) = if l[k].people != 0 then needOf (l.take k) ++ [l[k]] else needOf (l.take k) := by
  unfold needOf
  rw [List.take_succ_eq_append_getElem hk, List.filter_append]
  by_cases h : l[k].people != 0
  · rw [if_pos h]; simp [h]
  · rw [if_neg h]; simp [h]
theorem need_length (l : List Sec) : (needOf l).length ≤ l.length := List.length_filter_le _ _
theorem OwnR.cap {w : World} {B T k : Nat} {A : Option Addr} {n c : Nat} {rows : List (List Int)} (h : OwnR w B T k (.slice A n c) rows) : n = rows.length ∧ n ≤ c := by
  rcases h.own.2 with ⟨e, h0⟩ | ⟨g, cap, cur, e, _, hg, hnc, _⟩
  · injection e with e1 e2 e3
    omega
  · injection e with e1 e2 e3
    omega
set_option maxHeartbeats 1000000 in
theorem helpless_any (A : Option Addr) (c : Nat) (l : List Sec) (w : World) (hm : l.length ≤ 1000000) (h : Secs w A l) :
    Calls Try.prog 13 #[.slice A l.length c] w (SecsN w (needOf l)) := by
  go_enter Try.func13, Try.ntmps13
  go_wp2
  go_loopw [3, 8] (fun v i wr => ∃ (k : Nat), k ≤ l.length ∧ i = .int .i64 k ∧ OwnR wr w.heap.size 33 3 v ((needOf (l.take k)).map Sec.row) ∧ Below w.heap.size w wr) (fun _ i _ => l.length - (intOf i).toNat)
  case atStart => exact ⟨0, Nat.zero_le _, rfl, OwnR.nil _ _ _ _, Below.refl _ _⟩
  case round =>
    obtain ⟨k, hk, rfl, hown, hb⟩ := hrel
    by_cases hlt : k < l.length
    · obtain ⟨b, off, rfl, hc⟩ := h (by omega)
      obtain ⟨h0, h1, h2⟩ := hc k hlt
      have h0' := cell_later hb h0
      have h1' := cell_later hb h1
      have h2' := cell_later hb h2
      clear h0 h1 h2 hc
      have hs := need_succ hlt
      have hdl := need_length (l.take k)
      have Hdl : (needOf (l.take k)).length ≤ 1000000 := Nat.le_trans hdl (by simp; omega)
      have Hs := Lib.hid hs
      clear hs hdl
      generalize l[k] = x at *
      by_cases hp : x.people = 0
      · have hp' : (x.people != 0) = false := by simp [hp]
        rw [if_neg (by simp [hp])] at Hs
        clear hp
        have hbw := hb.alloc hb.size (.cells #[.int .i64 x.id, .int .i64 x.people, .int .i64 x.seconds] 33)
        have hown1 := hown.alloc (.cells #[.int .i64 x.id, .int .i64 x.people, .int .i64 x.seconds] 33)
        clear hown hb
        go_wp2
        go_roundw
        case rel => exact ⟨k + 1, by omega, by go_num, by rw [Hs.out]; exact hown1, hbw⟩
        case measure => simp [intOf]; omega
      · have hp' : (x.people != 0) = true := by simpa using hp
        rw [if_pos hp'] at Hs
        clear hp
        have hbw := hb.alloc hb.size (.cells #[.int .i64 x.id, .int .i64 x.people, .int .i64 x.seconds] 33)
        have hown1 := hown.alloc (.cells #[.int .i64 x.id, .int .i64 x.people, .int .i64 x.seconds] 33)
        clear hown hb
        have hbw2 := hbw.alloc hbw.size (.cells #[.int .i64 x.id, .int .i64 x.people, .int .i64 x.seconds] 33)
        have hown2 := hown1.alloc (.cells #[.int .i64 x.id, .int .i64 x.people, .int .i64 x.seconds] 33)
        have hsrc := Sec.one_src (wr.alloc (.cells #[.int .i64 x.id, .int .i64 x.people, .int .i64 x.seconds] 33)) x
        have hsz : (wr.alloc (.cells #[.int .i64 x.id, .int .i64 x.people, .int .i64 x.seconds] 33)).heap.size = wr.heap.size + 1 := by simp
        rw [hsz] at hsrc
        clear hown1 hbw hsz
        have n1 : ((needOf (l.take k)).map Sec.row).length + 1 ≤ maxLen := by simp [maxLen]; omega
        have n2 : (((needOf (l.take k)).map Sec.row).length + 1) * 24 ≤ 140737488355328 := by simp; omega
        have RL := Lib.hid (Sec.row_len [x])
        go_wp2_with (at_builtin; refine wpList_append_rows _ rfl (.tmp 15) (.tmp 17) _ rfl w.heap.size 33 _ 3 24 Try.underlying22 Sec.info rfl (Nat.zero_lt_succ _) _ ((needOf (l.take k)).map Sec.row) rfl (by exact hown2) _ _ 1 [Sec.row x] rfl rfl RL.out (by exact hsrc) n1 n2 (by exact hbw2.size) _ _ rfl rfl ?_; intro A1 c1 w1 own1 hg1 hat1)
        have hb1 := Below.ownR hbw2 hown2 hg1 (Nat.le_refl _) hbw2.size
        clear hg1 hat1 hown2 hbw2 hsrc
        go_wp2
        go_roundw
        case rel => exact ⟨k + 1, by omega, by go_num, by rw [Hs.out, List.map_append]; rw [List.length_map] at own1; exact own1, hb1⟩
        case measure => simp [intOf]; omega
    · have hke : k = l.length := by omega
      subst hke
      rw [List.take_length] at hown
      obtain ⟨A', c', rfl, hi⟩ := hown.form
      have hcp := hown.cap
      clear hown
      simp only [List.length_map] at hcp
      go_wp2
      go_ret
      refine ⟨A', c', by simp, by omega, Secs.of_src hi, hb⟩
/-- when the last one of jobs ends -/
def lastOf (l : List Job) : Int := l.foldl (fun n j => if n < j.to_ then j.to_ else n) 0
theorem last_succ {l : List Job} {k : Nat} (hk : k < l.length) : lastOf (l.take (k + 1)) = if lastOf (l.take k) < l[k].to_ then l[k].to_ else lastOf (l.take k) := by
  unfold lastOf
  rw [List.take_succ_eq_append_getElem hk, List.foldl_append]
  rfl
end Go.Proofs.Ytogaepijfbgniaa
