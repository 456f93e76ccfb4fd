/- Contracts: Clone, Add (both), Same, the law's examples. -/
import Derived.Test.YtjnokdpliocmmaaW3
import Derived.Test.YtjnokdpliocmmaaW4
import Derived.Deep.RegionHeld3
import Derived.WalkSpells
namespace Go.Proofs.Ytjnokdpliocmmaa
open Go.RowKit
set_option linter.unusedVariables false
theorem rows_len (l : List Obs) : (l.map Obs.row).length = l.length := by simp
theorem Clone_any (A : Option Addr) (c : Nat) (l : List Obs) (w : World) (B : Nat) (hB : B ≤ w.heap.size) (hm : l.length ≤ 1000000) (h : Obss w A l) :
    Calls Try.prog 33 #[.slice A l.length c] w fun e w' => ∃ A' c', e = .returned (.slice A' l.length c') ∧ OwnR w' B 30 6 (.slice A' l.length c') (l.map Obs.row) ∧ Below w.heap.size w w' := by
  cases A with
  | none =>
    obtain rfl : l = [] := by
      cases l with
      | nil => rfl
      | cons x r => obtain ⟨b, off, hh, _⟩ := h (by simp); cases hh
    have hn := Lib.run_eql_slice_nil (P := Try.prog)
    simp only [List.length_nil, List.map_nil]
    go_enter Try.func33, Try.ntmps33
    go_wp2
    go_ret
    exact ⟨none, 0, rfl, OwnR.nil _ _ _ _, Below.refl _ _⟩
  | some ad =>
    have n1 : (List.map Obs.row l).length ≤ maxLen := by rw [rows_len]; unfold maxLen; omega
    have n2 : (0 + (List.map Obs.row l).length) * 48 ≤ 140737488355328 := by rw [rows_len]; omega
    have N1 := Lib.hid n1
    have N2 := Lib.hid n2
    have hs := h.src.alloc (.cells #[] 30)
    have RL := Lib.hid (Obs.row_len l)
    have LL := Lib.hid (rows_len l)
    clear n1 n2
    have hn := Lib.run_eql_slice_nil (P := Try.prog)
    go_enter Try.func33, Try.ntmps33
    go_wp2_with (at_builtin; refine wpList_append_rows _ (by rfl) (.tmp 5) (.tmp 6) 22 (by rfl) B 30 (.agg #[.int .i64 0, .int .i64 0, .int .i64 0, .int .i64 0, .int .i64 0, .int .i64 0]) 6 48 Try.underlying22 Obs.info rfl (Nat.zero_lt_succ _) (.slice (some ⟨w.heap.size, 0, none⟩) 0 0) [] (by rfl) (OwnR.made w B 30 6 hB) (some ad) c l.length (l.map Obs.row) (by rfl) LL.out.symm RL.out hs (by rw [List.length_nil, Nat.zero_add]; exact N1.out) N2.out (by simp; omega) l.length (l.map Obs.row) (by rw [List.length_nil, Nat.zero_add]; exact LL.out) rfl ?_)
    intro A' c' w1 own1 hg1 _
    have hb1 : Below w.heap.size w w1 := Below.grown (below_alloc w (.cells #[] 30)) hg1 (by simp) (fun j hj => by simp [Value.ownBlock] at hj; omega)
    clear hg1 hs
    go_wp2
    go_ret
    exact ⟨A', c', rfl, own1, hb1⟩
def addOf (l : List Obs) (o : Obs) : List Obs × Int := if rightOf l = 0 then (if rightOf (l ++ [o]) = 0 then (l ++ [o], 0) else ([], rightOf (l ++ [o]))) else ([], rightOf l)
def AddPost (w : World) (q : List Obs × Int) (e : Ending) (w' : World) : Prop := ∃ A c, e = .returned (.tuple #[.slice A q.1.length c, .int .i64 q.2]) ∧ Obss w' A q.1 ∧ Below w.heap.size w w'
set_option maxHeartbeats 4000000 in
theorem Add_any (A : Option Addr) (c : Nat) (l : List Obs) (o : Obs) (w : World) (hm : l.length ≤ 100000) (h : Obss w A l) :
    Calls Try.prog 24 #[.slice A l.length c, o.val] w (AddPost w (addOf l o)) := by
  have hb0 := below_alloc w (.cells #[.int .i64 o.station, .int .i64 o.at_, .int .i64 o.gust, .int .i64 o.temp, .int .i64 o.hum, .int .i64 o.snow] 30)
  have hr := h.below hb0
  have o0 : (w.alloc (.cells #[.int .i64 o.station, .int .i64 o.at_, .int .i64 o.gust, .int .i64 o.temp, .int .i64 o.hum, .int .i64 o.snow] 30)).cell? ⟨w.heap.size, 0, none⟩ = some (.int .i64 o.station) := by go_simp
  have o1 : (w.alloc (.cells #[.int .i64 o.station, .int .i64 o.at_, .int .i64 o.gust, .int .i64 o.temp, .int .i64 o.hum, .int .i64 o.snow] 30)).cell? ⟨w.heap.size, 1, none⟩ = some (.int .i64 o.at_) := by go_simp
  have o2 : (w.alloc (.cells #[.int .i64 o.station, .int .i64 o.at_, .int .i64 o.gust, .int .i64 o.temp, .int .i64 o.hum, .int .i64 o.snow] 30)).cell? ⟨w.heap.size, 2, none⟩ = some (.int .i64 o.gust) := by go_simp
  have o3 : (w.alloc (.cells #[.int .i64 o.station, .int .i64 o.at_, .int .i64 o.gust, .int .i64 o.temp, .int .i64 o.hum, .int .i64 o.snow] 30)).cell? ⟨w.heap.size, 3, none⟩ = some (.int .i64 o.temp) := by go_simp
  have o4 : (w.alloc (.cells #[.int .i64 o.station, .int .i64 o.at_, .int .i64 o.gust, .int .i64 o.temp, .int .i64 o.hum, .int .i64 o.snow] 30)).cell? ⟨w.heap.size, 4, none⟩ = some (.int .i64 o.hum) := by go_simp
  have o5 : (w.alloc (.cells #[.int .i64 o.station, .int .i64 o.at_, .int .i64 o.gust, .int .i64 o.temp, .int .i64 o.hum, .int .i64 o.snow] 30)).cell? ⟨w.heap.size, 5, none⟩ = some (.int .i64 o.snow) := by go_simp
  unfold Obs.val
  go_enter Try.func24, Try.ntmps24
  go_wp2_with fail
  refine (Right_any A c l _ (by omega) hr).mono ?_
  rintro e w1 ⟨rfl, hb1⟩
  have hb := hb0.trans (hb1.mono hb0.size)
  replace o0 := cell_later hb1 o0
  replace o1 := cell_later hb1 o1
  replace o2 := cell_later hb1 o2
  replace o3 := cell_later hb1 o3
  replace o4 := cell_later hb1 o4
  replace o5 := cell_later hb1 o5
  replace h := h.below hb
  have hlt := hb1.size
  simp only [World.size_alloc] at hlt
  clear hb0 hb1 hr
  by_cases he : rightOf l = 0
  · have haq : addOf l o = if rightOf (l ++ [o]) = 0 then (l ++ [o], 0) else ([], rightOf (l ++ [o])) := by unfold addOf; rw [if_pos he]
    have Haq := Lib.hid haq
    have he' : (rightOf l != 0) = false := by simp [he]
    clear haq he
    generalize rightOf l = e1 at *
    go_wp2_with fail
    have n3 : (l.map Obs.row).length + [Obs.row o].length ≤ maxLen := by rw [rows_len]; unfold maxLen; simp; omega
    have n4 : ((l.map Obs.row).length + [Obs.row o].length) * 48 ≤ 140737488355328 := by rw [rows_len]; simp; omega
    have t2 := Lib.hid (show (l.map Obs.row).length + [Obs.row o].length = l.length + 1 by simp)
    have RL1 := Lib.hid (Obs.row_len [o])
    have RL := Lib.hid (Obs.row_len l)
    replace n3 := Lib.hid n3
    replace n4 := Lib.hid n4
    have sx : Src (w1.alloc (.cells #[.int .i64 o.station, .int .i64 o.at_, .int .i64 o.gust, .int .i64 o.temp, .int .i64 o.hum, .int .i64 o.snow] 30)).drew (some ⟨w1.heap.size, 0, none⟩) 6 [Obs.row o] := (Obs.one_src w1 o).drew
    have h1 : Obss w1.drew A l := h.below (Below.refl _ _).drew
    have h2 : Obss (w1.alloc (.cells #[.int .i64 o.station, .int .i64 o.at_, .int .i64 o.gust, .int .i64 o.temp, .int .i64 o.hum, .int .i64 o.snow] 30)).drew A l := h.below (below_alloc w1 (.cells #[.int .i64 o.station, .int .i64 o.at_, .int .i64 o.gust, .int .i64 o.temp, .int .i64 o.hum, .int .i64 o.snow] 30)).drew
    have s2 : w1.heap.size ≤ (w1.alloc (.cells #[.int .i64 o.station, .int .i64 o.at_, .int .i64 o.gust, .int .i64 o.temp, .int .i64 o.hum, .int .i64 o.snow] 30)).drew.heap.size := by simp
    go_region_held3 (fun w' => w'.cell? ⟨w.heap.size, 0, none⟩ = some (.int .i64 o.station) ∧ w'.cell? ⟨w.heap.size, 1, none⟩ = some (.int .i64 o.at_) ∧ w'.cell? ⟨w.heap.size, 2, none⟩ = some (.int .i64 o.gust) ∧ w'.cell? ⟨w.heap.size, 3, none⟩ = some (.int .i64 o.temp) ∧ w'.cell? ⟨w.heap.size, 4, none⟩ = some (.int .i64 o.hum) ∧ w'.cell? ⟨w.heap.size, 5, none⟩ = some (.int .i64 o.snow))
      (first | exact ⟨cell_later hbw2 o0, cell_later hbw2 o1, cell_later hbw2 o2, cell_later hbw2 o3, cell_later hbw2 o4, cell_later hbw2 o5⟩ | exact ⟨cell_later hbw3 o0, cell_later hbw3 o1, cell_later hbw3 o2, cell_later hbw3 o3, cell_later hbw3 o4, cell_later hbw3 o5⟩ | go_keep)
      ((first
        | (go_at_call 33; refine (Clone_any A c l w1.drew w1.heap.size (Nat.le_refl _) (by omega) h1).mono ?_; rintro e w2 ⟨A2, c2, rfl, own2, hb2⟩; have hbw2 : Below w1.heap.size w1 w2 := (Below.refl _ w1).drew.trans hb2)
        | (go_at_call 33; refine (Clone_any A c l (w1.alloc (.cells #[.int .i64 o.station, .int .i64 o.at_, .int .i64 o.gust, .int .i64 o.temp, .int .i64 o.hum, .int .i64 o.snow] 30)).drew w1.heap.size s2 (by omega) h2).mono ?_; rintro e w2 ⟨A2, c2, rfl, own2, hb2⟩; have hbw2 : Below w1.heap.size w1 w2 := (below_alloc w1 (.cells #[.int .i64 o.station, .int .i64 o.at_, .int .i64 o.gust, .int .i64 o.temp, .int .i64 o.hum, .int .i64 o.snow] 30)).drew.trans (hb2.mono s2); have hs2 : Src w2 (some ⟨w1.heap.size, 0, none⟩) 6 [Obs.row o] := sx.below hb2)
        | (refine step_append_rows _ (by rfl) (.tmp 15) (.tmp 17) 22 (by rfl) w1.heap.size 30 (.agg #[.int .i64 0, .int .i64 0, .int .i64 0, .int .i64 0, .int .i64 0, .int .i64 0]) 6 48 Try.underlying22 Obs.info rfl (Nat.zero_lt_succ _) (.slice A2 l.length c2) (l.map Obs.row) (by rfl) (own2.alloc _) (some ⟨w2.heap.size, 0, none⟩) 1 1 [Obs.row o] (by rfl) rfl RL1.out (Obs.one_src w2 o) n3.out n4.out (hbw2.alloc hbw2.size _).size (l.length + 1) (l.map Obs.row ++ [Obs.row o]) t2.out rfl ?_
           intro A3 c3 w3 own3 hg3 hat3
           have hbw3 : Below w1.heap.size w1 w3 := Below.ownR (hbw2.alloc hbw2.size _) (own2.alloc _) hg3 (Nat.le_refl _) (hbw2.alloc hbw2.size _).size)
        | (refine step_append_rows _ (by rfl) (.tmp 15) (.tmp 17) 22 (by rfl) w1.heap.size 30 (.agg #[.int .i64 0, .int .i64 0, .int .i64 0, .int .i64 0, .int .i64 0, .int .i64 0]) 6 48 Try.underlying22 Obs.info rfl (Nat.zero_lt_succ _) (.slice A2 l.length c2) (l.map Obs.row) (by rfl) own2 (some ⟨w1.heap.size, 0, none⟩) 1 1 [Obs.row o] (by rfl) rfl RL1.out hs2 n3.out n4.out hbw2.size (l.length + 1) (l.map Obs.row ++ [Obs.row o]) t2.out rfl ?_
           intro A3 c3 w3 own3 hg3 hat3
           have hbw3 : Below w1.heap.size w1 w3 := Below.ownR hbw2 own2 hg3 (Nat.le_refl _) hbw2.size)))
    all_goals
      have hx3 : Obss w3 A3 (l ++ [o]) := Obss.of_src (by rw [List.map_append]; exact own3.src)
      have hb5 := hb.trans (hbw3.mono hb.size)
      have hl3 : (l ++ [o]).length = l.length + 1 := by simp
      have hright := fun W hx => Lib.hid (Right_any A3 c3 (l ++ [o]) W (by simp; omega) hx)
      rw [hl3] at hright
      clear hl3 own3 hg3 hat3 own2 hb2 hbw2 hbw3 hb n3 n4 t2 RL RL1 sx h1 h2 s2 h
      go_wp2_with fail
      refine ((hright _ hx3).out).mono ?_
      rintro e w4 ⟨rfl, hb4⟩
      have hx4 := hx3.below hb4
      have hb6 := hb5.trans (hb4.mono hb5.size)
      clear hright hb4 hb5 hx3
      by_cases hf : rightOf (l ++ [o]) = 0
      · have hf' : (rightOf (l ++ [o]) != 0) = false := by simp [hf]
        have haq := Haq.out
        rw [if_pos hf] at haq
        have Ha := Lib.hid haq
        clear haq Haq hf
        generalize rightOf (l ++ [o]) = e2 at *
        go_wp2
        go_ret2
        rw [Ha.out]
        exact ⟨A3, c3, by simp, hx4, hb6⟩
      · have hf' : (rightOf (l ++ [o]) != 0) = true := by simp [hf]
        have haq := Haq.out
        rw [if_neg hf] at haq
        have Ha := Lib.hid haq
        clear haq Haq hf
        generalize rightOf (l ++ [o]) = e2 at *
        go_wp2
        go_ret2
        rw [Ha.out]
        exact ⟨none, 0, rfl, Obss.nil _ _, hb6⟩
  · have haq : addOf l o = ([], rightOf l) := by unfold addOf; rw [if_neg he]
    have Haq := Lib.hid haq
    have he' : (rightOf l != 0) = true := by simp [he]
    clear haq he
    generalize rightOf l = e1 at *
    go_wp2
    go_ret2
    rw [Haq.out]
    exact ⟨none, 0, rfl, Obss.nil _ _, hb⟩
set_option maxHeartbeats 4000000 in
theorem refAdd_any (A : Option Addr) (c : Nat) (l : List Obs) (o : Obs) (w : World) (hm : l.length ≤ 100000) (h : Obss w A l) :
    Calls Try.prog 25 #[.slice A l.length c, o.val] w (AddPost w (addOf l o)) := by
  have hb0 := below_alloc w (.cells #[.int .i64 o.station, .int .i64 o.at_, .int .i64 o.gust, .int .i64 o.temp, .int .i64 o.hum, .int .i64 o.snow] 30)
  have hr := h.below hb0
  have o0 : (w.alloc (.cells #[.int .i64 o.station, .int .i64 o.at_, .int .i64 o.gust, .int .i64 o.temp, .int .i64 o.hum, .int .i64 o.snow] 30)).cell? ⟨w.heap.size, 0, none⟩ = some (.int .i64 o.station) := by go_simp
  have o1 : (w.alloc (.cells #[.int .i64 o.station, .int .i64 o.at_, .int .i64 o.gust, .int .i64 o.temp, .int .i64 o.hum, .int .i64 o.snow] 30)).cell? ⟨w.heap.size, 1, none⟩ = some (.int .i64 o.at_) := by go_simp
  have o2 : (w.alloc (.cells #[.int .i64 o.station, .int .i64 o.at_, .int .i64 o.gust, .int .i64 o.temp, .int .i64 o.hum, .int .i64 o.snow] 30)).cell? ⟨w.heap.size, 2, none⟩ = some (.int .i64 o.gust) := by go_simp
  have o3 : (w.alloc (.cells #[.int .i64 o.station, .int .i64 o.at_, .int .i64 o.gust, .int .i64 o.temp, .int .i64 o.hum, .int .i64 o.snow] 30)).cell? ⟨w.heap.size, 3, none⟩ = some (.int .i64 o.temp) := by go_simp
  have o4 : (w.alloc (.cells #[.int .i64 o.station, .int .i64 o.at_, .int .i64 o.gust, .int .i64 o.temp, .int .i64 o.hum, .int .i64 o.snow] 30)).cell? ⟨w.heap.size, 4, none⟩ = some (.int .i64 o.hum) := by go_simp
  have o5 : (w.alloc (.cells #[.int .i64 o.station, .int .i64 o.at_, .int .i64 o.gust, .int .i64 o.temp, .int .i64 o.hum, .int .i64 o.snow] 30)).cell? ⟨w.heap.size, 5, none⟩ = some (.int .i64 o.snow) := by go_simp
  unfold Obs.val
  go_enter Try.func25, Try.ntmps25
  go_wp2_with fail
  refine (refRight_any A c l _ (by omega) hr).mono ?_
  rintro e w1 ⟨rfl, hb1⟩
  have hb := hb0.trans (hb1.mono hb0.size)
  replace o0 := cell_later hb1 o0
  replace o1 := cell_later hb1 o1
  replace o2 := cell_later hb1 o2
  replace o3 := cell_later hb1 o3
  replace o4 := cell_later hb1 o4
  replace o5 := cell_later hb1 o5
  replace h := h.below hb
  have hlt := hb1.size
  simp only [World.size_alloc] at hlt
  clear hb0 hb1 hr
  by_cases he : rightOf l = 0
  · have haq : addOf l o = if rightOf (l ++ [o]) = 0 then (l ++ [o], 0) else ([], rightOf (l ++ [o])) := by unfold addOf; rw [if_pos he]
    have Haq := Lib.hid haq
    have he' : (rightOf l != 0) = false := by simp [he]
    clear haq he
    generalize rightOf l = e1 at *
    go_wp2_with fail
    have n3 : (l.map Obs.row).length + [Obs.row o].length ≤ maxLen := by rw [rows_len]; unfold maxLen; simp; omega
    have n4 : ((l.map Obs.row).length + [Obs.row o].length) * 48 ≤ 140737488355328 := by rw [rows_len]; simp; omega
    have t2 := Lib.hid (show (l.map Obs.row).length + [Obs.row o].length = l.length + 1 by simp)
    have RL1 := Lib.hid (Obs.row_len [o])
    have RL := Lib.hid (Obs.row_len l)
    replace n3 := Lib.hid n3
    replace n4 := Lib.hid n4
    have sx : Src (w1.alloc (.cells #[.int .i64 o.station, .int .i64 o.at_, .int .i64 o.gust, .int .i64 o.temp, .int .i64 o.hum, .int .i64 o.snow] 30)).drew (some ⟨w1.heap.size, 0, none⟩) 6 [Obs.row o] := (Obs.one_src w1 o).drew
    have n1 := Lib.hid (show ([] : List (List Int)).length + (l.map Obs.row).length ≤ maxLen by rw [rows_len]; unfold maxLen; simp; omega)
    have n2 := Lib.hid (show (([] : List (List Int)).length + (l.map Obs.row).length) * 48 ≤ 140737488355328 by rw [rows_len]; simp; omega)
    have t1 := Lib.hid (show ([] : List (List Int)).length + (l.map Obs.row).length = l.length by simp)
    have LL := Lib.hid (rows_len l).symm
    have hs1 : Src w1.drew A 6 (l.map Obs.row) := h.src.drew
    have hs2 : Src (w1.alloc (.cells #[.int .i64 o.station, .int .i64 o.at_, .int .i64 o.gust, .int .i64 o.temp, .int .i64 o.hum, .int .i64 o.snow] 30)).drew A 6 (l.map Obs.row) := (h.src.alloc _).drew
    have s2 : w1.heap.size ≤ (w1.alloc (.cells #[.int .i64 o.station, .int .i64 o.at_, .int .i64 o.gust, .int .i64 o.temp, .int .i64 o.hum, .int .i64 o.snow] 30)).drew.heap.size := by simp
    have s1 : w1.heap.size ≤ w1.drew.heap.size := Nat.le_refl _
    go_region_held3 (fun w' => w'.cell? ⟨w.heap.size, 0, none⟩ = some (.int .i64 o.station) ∧ w'.cell? ⟨w.heap.size, 1, none⟩ = some (.int .i64 o.at_) ∧ w'.cell? ⟨w.heap.size, 2, none⟩ = some (.int .i64 o.gust) ∧ w'.cell? ⟨w.heap.size, 3, none⟩ = some (.int .i64 o.temp) ∧ w'.cell? ⟨w.heap.size, 4, none⟩ = some (.int .i64 o.hum) ∧ w'.cell? ⟨w.heap.size, 5, none⟩ = some (.int .i64 o.snow))
      (first | exact ⟨cell_later hbw2 o0, cell_later hbw2 o1, cell_later hbw2 o2, cell_later hbw2 o3, cell_later hbw2 o4, cell_later hbw2 o5⟩ | exact ⟨cell_later hbw3 o0, cell_later hbw3 o1, cell_later hbw3 o2, cell_later hbw3 o3, cell_later hbw3 o4, cell_later hbw3 o5⟩ | go_keep)
      ((first
        | (refine step_append_rows _ (by rfl) (.const (.slice none 0 0)) (.tmp 14) 22 (by rfl) w1.heap.size 30 (.agg #[.int .i64 0, .int .i64 0, .int .i64 0, .int .i64 0, .int .i64 0, .int .i64 0]) 6 48 Try.underlying22 Obs.info rfl (Nat.zero_lt_succ _) (.slice none 0 0) [] (by rfl) (OwnR.nil w1.drew _ _ _) A c l.length (l.map Obs.row) (by rfl) LL.out RL.out hs1 n1.out n2.out s1 l.length (l.map Obs.row) t1.out rfl ?_
           intro A2 c2 w2 own2 hg2 hat2
           have hbw2 : Below w1.heap.size w1 w2 := Below.ownR (Below.refl _ w1).drew (OwnR.nil w1.drew w1.heap.size 30 6) hg2 (Nat.le_refl _) s1)
        | (refine step_append_rows _ (by rfl) (.const (.slice none 0 0)) (.tmp 14) 22 (by rfl) w1.heap.size 30 (.agg #[.int .i64 0, .int .i64 0, .int .i64 0, .int .i64 0, .int .i64 0, .int .i64 0]) 6 48 Try.underlying22 Obs.info rfl (Nat.zero_lt_succ _) (.slice none 0 0) [] (by rfl) (OwnR.nil (w1.alloc (.cells #[.int .i64 o.station, .int .i64 o.at_, .int .i64 o.gust, .int .i64 o.temp, .int .i64 o.hum, .int .i64 o.snow] 30)).drew _ _ _) A c l.length (l.map Obs.row) (by rfl) LL.out RL.out hs2 n1.out n2.out s2 l.length (l.map Obs.row) t1.out rfl ?_
           intro A2 c2 w2 own2 hg2 hat2
           have hsx2 : Src w2 (some ⟨w1.heap.size, 0, none⟩) 6 [Obs.row o] := sx.grownBy hg2 (by rintro _ ⟨⟩; simp [Value.ownBlock])
           have hbw2 : Below w1.heap.size w1 w2 := Below.ownR (below_alloc w1 (.cells #[.int .i64 o.station, .int .i64 o.at_, .int .i64 o.gust, .int .i64 o.temp, .int .i64 o.hum, .int .i64 o.snow] 30)).drew (OwnR.nil (w1.alloc (.cells #[.int .i64 o.station, .int .i64 o.at_, .int .i64 o.gust, .int .i64 o.temp, .int .i64 o.hum, .int .i64 o.snow] 30)).drew w1.heap.size 30 6) hg2 (Nat.le_refl _) s2)
        | (refine step_append_rows _ (by rfl) (.tmp 15) (.tmp 17) 22 (by rfl) w1.heap.size 30 (.agg #[.int .i64 0, .int .i64 0, .int .i64 0, .int .i64 0, .int .i64 0, .int .i64 0]) 6 48 Try.underlying22 Obs.info rfl (Nat.zero_lt_succ _) (.slice A2 l.length c2) (l.map Obs.row) (by rfl) (own2.alloc _) (some ⟨w2.heap.size, 0, none⟩) 1 1 [Obs.row o] (by rfl) rfl RL1.out (Obs.one_src w2 o) n3.out n4.out (hbw2.alloc hbw2.size _).size (l.length + 1) (l.map Obs.row ++ [Obs.row o]) t2.out rfl ?_
           intro A3 c3 w3 own3 hg3 hat3
           have hbw3 : Below w1.heap.size w1 w3 := Below.ownR (hbw2.alloc hbw2.size _) (own2.alloc _) hg3 (Nat.le_refl _) (hbw2.alloc hbw2.size _).size)
        | (refine step_append_rows _ (by rfl) (.tmp 15) (.tmp 17) 22 (by rfl) w1.heap.size 30 (.agg #[.int .i64 0, .int .i64 0, .int .i64 0, .int .i64 0, .int .i64 0, .int .i64 0]) 6 48 Try.underlying22 Obs.info rfl (Nat.zero_lt_succ _) (.slice A2 l.length c2) (l.map Obs.row) (by rfl) own2 (some ⟨w1.heap.size, 0, none⟩) 1 1 [Obs.row o] (by rfl) rfl RL1.out hsx2 n3.out n4.out hbw2.size (l.length + 1) (l.map Obs.row ++ [Obs.row o]) t2.out rfl ?_
           intro A3 c3 w3 own3 hg3 hat3
           have hbw3 : Below w1.heap.size w1 w3 := Below.ownR hbw2 own2 hg3 (Nat.le_refl _) hbw2.size)))
    all_goals
      have hx3 : Obss w3 A3 (l ++ [o]) := Obss.of_src (by rw [List.map_append]; exact own3.src)
      have hb5 := hb.trans (hbw3.mono hb.size)
      have hl3 : (l ++ [o]).length = l.length + 1 := by simp
      have hright := fun W hx => Lib.hid (refRight_any A3 c3 (l ++ [o]) W (by simp; omega) hx)
      rw [hl3] at hright
      clear hl3 own3 hg3 hat3 own2 hg2 hat2 hbw2 hbw3 hb n3 n4 t2 RL RL1 sx h s1 s2 n1 n2 t1 LL hs1 hs2
      go_wp2_with fail
      refine ((hright _ hx3).out).mono ?_
      rintro e w4 ⟨rfl, hb4⟩
      have hx4 := hx3.below hb4
      have hb6 := hb5.trans (hb4.mono hb5.size)
      clear hright hb4 hb5 hx3
      by_cases hf : rightOf (l ++ [o]) = 0
      · have hf' : (rightOf (l ++ [o]) != 0) = false := by simp [hf]
        have haq := Haq.out
        rw [if_pos hf] at haq
        have Ha := Lib.hid haq
        clear haq Haq hf
        generalize rightOf (l ++ [o]) = e2 at *
        go_wp2
        go_ret2
        rw [Ha.out]
        exact ⟨A3, c3, by simp, hx4, hb6⟩
      · have hf' : (rightOf (l ++ [o]) != 0) = true := by simp [hf]
        have haq := Haq.out
        rw [if_neg hf] at haq
        have Ha := Lib.hid haq
        clear haq Haq hf
        generalize rightOf (l ++ [o]) = e2 at *
        go_wp2
        go_ret2
        rw [Ha.out]
        exact ⟨none, 0, rfl, Obss.nil _ _, hb6⟩
  · have haq : addOf l o = ([], rightOf l) := by unfold addOf; rw [if_neg he]
    have Haq := Lib.hid haq
    have he' : (rightOf l != 0) = true := by simp [he]
    clear haq he
    generalize rightOf l = e1 at *
    go_wp2
    go_ret2
    rw [Haq.out]
    exact ⟨none, 0, rfl, Obss.nil _ _, hb⟩
end Go.Proofs.Ytjnokdpliocmmaa
