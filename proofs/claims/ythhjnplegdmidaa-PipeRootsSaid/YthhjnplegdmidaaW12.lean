/- Contracts: Low, and the reference's Low. -/
import Derived.Test.YthhjnplegdmidaaW11
namespace Go.Proofs.Ythhjnplegdmidaa
open Go.RowKit
set_option linter.unusedVariables false
set_option linter.unusedSimpArgs false
def SliceN (w : World) (l : List Int) (e : Ending) (w' : World) : Prop := ∃ A c, e = .returned (.slice A l.length c) ∧ Ints w' A l ∧ Below w.heap.size w w'
/-- the pressure at a node is too low, or there is no such node -/
def lowAt (l : List Pipe) (fs : List Int) (root : Int) (d : Draw) : Bool := !(pressOf l fs root d.node).2 || decide ((pressOf l fs root d.node).1 < d.flow)
def lowOf (l : List Pipe) (fs : List Int) (root : Int) (need : List Draw) : List Int := (need.filter (lowAt l fs root)).map Draw.node
theorem lowOf_succ (l : List Pipe) (fs : List Int) (root : Int) {need : List Draw} {k : Nat} (hk : k < need.length) : lowOf l fs root (need.take (k + 1)) = lowOf l fs root (need.take k) ++ if lowAt l fs root need[k] = true then [need[k].node] else [] := by
  unfold lowOf
  rw [List.take_succ_eq_append_getElem hk, List.filter_append, List.map_append]
  by_cases h : lowAt l fs root need[k] = true <;> simp [h]
theorem lowOf_len (l : List Pipe) (fs : List Int) (root : Int) (need : List Draw) : (lowOf l fs root need).length ≤ need.length := by
  unfold lowOf
  rw [List.length_map]
  exact List.length_filter_le _ _
set_option maxHeartbeats 4000000 in
theorem Low_any (A C E : Option Addr) (c d q : Nat) (l : List Pipe) (ds need : List Draw) (root : Int) (w : World) (hm : l.length ≤ 64) (hd : ds.length ≤ 1000000) (hn : need.length ≤ 1000000) (hg : Good l) (h : Pipes w A l) (hds : Draws w C ds) (hne : Draws w E need) (hpos : posD ds) (htot : tot ds ≤ 1000000000000) (hrt : -1000000000000 ≤ root ∧ root ≤ 1000000000000) :
    Calls Try.prog 21 #[.slice A l.length c, .slice C ds.length d, .int .i64 root, .slice E need.length q] w (SliceN w (lowOf l (flowsOf l ds) root need)) := by
  have hp := Lib.hid (pressures_any A C c d l ds root w hm hd hg h hds hpos htot hrt)
  have hall := Lib.hid (fun n => pressAt_all hg (flowsOf l ds) root n)
  go_enter Try.func21, Try.ntmps21
  go_wp2_with fail
  refine hp.out.mono ?_
  rintro e w2 ⟨pr, pl, pp, g, rfl, q1, q2, q3, hrow, hb⟩
  have hc : Hid (∀ (W : World) (n : Int), Below w2.heap.size w2 W → Calls Try.prog 36 #[.int .i64 n, .pointer (some ⟨pr, 0, none⟩), .pointer (some ⟨pl, 0, none⟩), .pointer (some ⟨pp, 0, none⟩)] W fun e w' => e = .returned (.tuple #[.int .i64 (pressOf l (flowsOf l ds) root n).1, .bool (pressOf l (flowsOf l ds) root n).2]) ∧ Below W.heap.size W w') := Lib.hid (by
    intro W n hW
    have := press_any A c l pr pl pp g w.heap.size _ root n W (by omega) (cell_later hW q1) (cell_later hW q2) (h.below (hb.trans (hW.mono hb.size))) (cell_later hW q3) (hrow.kept (grown_of_below hW) (by simp))
    rw [hall.out] at this
    exact this)
  have HN := Lib.hid (hne.below hb)
  clear q1 q2 q3 hrow hp hall
  go_wp2_with fail
  go_loopw [10, 21] (fun v i wr => ∃ k : Nat, k ≤ need.length ∧ i = .int .i64 k ∧ OwnI wr w2.heap.size 3 v (lowOf l (flowsOf l ds) root (need.take k)) ∧ Below w2.heap.size w2 wr) (fun _ i _ => need.length - (intOf i).toNat)
  case atStart => exact ⟨0, Nat.zero_le _, rfl, OwnI.nil _ _ _, Below.refl _ _⟩
  case round =>
    obtain ⟨k, hk, rfl, hown, hbr⟩ := hrel
    by_cases hlt : k < need.length
    · obtain ⟨b, off, rfl, hcc⟩ := HN.out (by omega)
      obtain ⟨g0, g1⟩ := hcc k hlt
      replace g0 := cell_later hbr g0
      replace g1 := cell_later hbr g1
      clear hcc
      have hs := lowOf_succ l (flowsOf l ds) root hlt
      have hdl := lowOf_len l (flowsOf l ds) root (need.take k)
      have Hdl : (lowOf l (flowsOf l ds) root (need.take k)).length ≤ 1000000 := Nat.le_trans hdl (by simp; omega)
      unfold lowAt at hs
      generalize need[k] = x at *
      obtain ⟨nd, fl⟩ := x
      simp only at g0 g1 hs
      have hbk := hbr.alloc hbr.size (.cells #[.int .i64 nd, .int .i64 fl] 42)
      have hcl := Lib.hid (hc.out _ nd hbk)
      generalize pressOf l (flowsOf l ds) root nd = pv at *
      obtain ⟨pn, ok⟩ := pv
      simp only at hs hcl
      have Hs := Lib.hid hs
      have hown1 := hown.alloc (.cells #[.int .i64 nd, .int .i64 fl] 42)
      have e0 : (wr.alloc (.cells #[.int .i64 nd, .int .i64 fl] 42)).cell? ⟨wr.heap.size, 0, none⟩ = some (.int .i64 nd) := by go_simp
      have e1 : (wr.alloc (.cells #[.int .i64 nd, .int .i64 fl] 42)).cell? ⟨wr.heap.size, 1, none⟩ = some (.int .i64 fl) := by go_simp
      have E0 := Lib.hid e0
      have E1 := Lib.hid e1
      have HOW := Lib.hid hown1
      clear hs hdl e0 e1 hown hown1 hc HN
      go_wp2_with fail
      refine hcl.out.mono ?_
      rintro e w5 ⟨rfl, hb5⟩
      have f0 := cell_later hb5 E0.out
      have f1 := cell_later hb5 E1.out
      have hbb := hbk.trans (hb5.mono hbk.size)
      have hown2 := HOW.out.grown hb5
      clear hbk hb5 g0 g1 hcl E0 E1 HOW hbr
      cases ok
      · have Hs2 := Lib.hid (Hs.out.trans (by simp : _ = lowOf l (flowsOf l ds) root (need.take k) ++ [nd]))
        clear Hs
        go_wp2_with (at_builtin; refine wpList_push w2 w5 rfl (.tmp 40) (.tmp 43) _ rfl w2.heap.size 3 Try.underlying30 info3 _ (lowOf l (flowsOf l ds) root (need.take k)) rfl (by exact hown2) nd rfl (by exact hbb) (by omega) hbb.size ?_; intro g1 cap1 w6 hown3 hbw3 hg1 hat1)
        clear hg1 hat1 hown2
        go_wp2
        go_roundw
        case rel => exact ⟨k + 1, by omega, by go_num, by rw [Hs2.out]; exact hown3, hbw3⟩
        case measure => simp [intOf]; omega
      · by_cases hlo : pn < fl
        · have Hs2 := Lib.hid (Hs.out.trans (by simp [hlo] : _ = lowOf l (flowsOf l ds) root (need.take k) ++ [nd]))
          clear Hs
          go_wp2_with (at_builtin; refine wpList_push w2 w5 rfl (.tmp 40) (.tmp 43) _ rfl w2.heap.size 3 Try.underlying30 info3 _ (lowOf l (flowsOf l ds) root (need.take k)) rfl (by exact hown2) nd rfl (by exact hbb) (by omega) hbb.size ?_; intro g1 cap1 w6 hown3 hbw3 hg1 hat1)
          clear hg1 hat1 hown2
          go_wp2
          go_roundw
          case rel => exact ⟨k + 1, by omega, by go_num, by rw [Hs2.out]; exact hown3, hbw3⟩
          case measure => simp [intOf]; omega
        · have Hs2 := Lib.hid (Hs.out.trans (by simp [hlo] : _ = lowOf l (flowsOf l ds) root (need.take k)))
          clear Hs
          go_wp2
          go_roundw
          case rel => exact ⟨k + 1, by omega, by go_num, by rw [Hs2.out]; exact hown2, hbb⟩
          case measure => simp [intOf]; omega
    · have hke : k = need.length := by omega
      subst hke
      rw [List.take_length] at hown
      obtain ⟨A', c', rfl, hi⟩ := hown.form
      have hball := hb.trans (hbr.mono hb.size)
      clear hc HN hown
      go_wp2
      go_ret
      exact ⟨A', c', rfl, hi, hball⟩
set_option maxHeartbeats 4000000 in
theorem refLow_any (A C E : Option Addr) (c d q : Nat) (l : List Pipe) (ds need : List Draw) (root : Int) (w : World) (hm : l.length ≤ 64) (hd : ds.length ≤ 1000000) (hn : need.length ≤ 1000000) (hg : Good l) (h : Pipes w A l) (hds : Draws w C ds) (hne : Draws w E need) (hpos : posD ds) (htot : tot ds ≤ 1000000000000) (hrt : -1000000000000 ≤ root ∧ root ≤ 1000000000000) :
    Calls Try.prog 22 #[.slice A l.length c, .slice C ds.length d, .int .i64 root, .slice E need.length q] w (SliceN w (lowOf l (flowsOf l ds) root need)) := by
  have hc := Lib.hid (fun (W : World) (n : Int) (hW : Below w.heap.size w W) => refPressure_any A C c d l ds root n W hm hd hg (h.below hW) (hds.below hW) hpos htot hrt)
  have HN := Lib.hid hne
  go_enter Try.func22, Try.ntmps22
  go_wp2
  go_loopw [9, 10] (fun v i wr => ∃ k : Nat, k ≤ need.length ∧ i = .int .i64 k ∧ OwnI wr w.heap.size 3 v (lowOf l (flowsOf l ds) root (need.take k)) ∧ Below w.heap.size w wr) (fun _ i _ => need.length - (intOf i).toNat)
  case atStart => exact ⟨0, Nat.zero_le _, rfl, OwnI.nil _ _ _, Below.refl _ _⟩
  case round =>
    obtain ⟨k, hk, rfl, hown, hbr⟩ := hrel
    by_cases hlt : k < need.length
    · obtain ⟨b, off, rfl, hcc⟩ := HN.out (by omega)
      obtain ⟨g0, g1⟩ := hcc k hlt
      replace g0 := cell_later hbr g0
      replace g1 := cell_later hbr g1
      clear hcc hne
      have hs := lowOf_succ l (flowsOf l ds) root hlt
      have hdl := lowOf_len l (flowsOf l ds) root (need.take k)
      have Hdl : (lowOf l (flowsOf l ds) root (need.take k)).length ≤ 1000000 := Nat.le_trans hdl (by simp; omega)
      unfold lowAt at hs
      generalize need[k] = x at *
      obtain ⟨nd, fl⟩ := x
      simp only at g0 g1 hs
      have hcl := Lib.hid (hc.out _ nd hbr)
      generalize pressOf l (flowsOf l ds) root nd = pv at *
      obtain ⟨pn, ok⟩ := pv
      simp only at hs hcl
      have Hs := Lib.hid hs
      have HOW := Lib.hid hown
      clear hs hdl hown hc HN
      go_wp2_with fail
      refine hcl.out.mono ?_
      rintro e w5 ⟨rfl, hb5⟩
      have f0 := cell_later hb5 g0
      have f1 := cell_later hb5 g1
      have hbb := hbr.trans (hb5.mono hbr.size)
      have hown2 := HOW.out.grown hb5
      clear hb5 g0 g1 hcl HOW hbr
      cases ok
      · have Hs2 := Lib.hid (Hs.out.trans (by simp : _ = lowOf l (flowsOf l ds) root (need.take k) ++ [nd]))
        clear Hs
        go_wp2_with (at_builtin; refine wpList_push w w5 rfl (.tmp 42) (.tmp 48) _ rfl w.heap.size 3 Try.underlying30 info3 _ (lowOf l (flowsOf l ds) root (need.take k)) rfl (by exact hown2) nd rfl (by exact hbb) (by omega) hbb.size ?_; intro g1 cap1 w6 hown3 hbw3 hg1 hat1)
        clear hg1 hat1 hown2
        go_wp2
        go_roundw
        case rel => exact ⟨k + 1, by omega, by go_num, by rw [Hs2.out]; exact hown3, hbw3⟩
        case measure => simp [intOf]; omega
      · by_cases hlo : pn < fl
        · have Hs2 := Lib.hid (Hs.out.trans (by simp [hlo] : _ = lowOf l (flowsOf l ds) root (need.take k) ++ [nd]))
          clear Hs
          go_wp2_with (at_builtin; refine wpList_push w w5 rfl (.tmp 42) (.tmp 48) _ rfl w.heap.size 3 Try.underlying30 info3 _ (lowOf l (flowsOf l ds) root (need.take k)) rfl (by exact hown2) nd rfl (by exact hbb) (by omega) hbb.size ?_; intro g1 cap1 w6 hown3 hbw3 hg1 hat1)
          clear hg1 hat1 hown2
          go_wp2
          go_roundw
          case rel => exact ⟨k + 1, by omega, by go_num, by rw [Hs2.out]; exact hown3, hbw3⟩
          case measure => simp [intOf]; omega
        · have Hs2 := Lib.hid (Hs.out.trans (by simp [hlo] : _ = lowOf l (flowsOf l ds) root (need.take k)))
          clear Hs
          go_wp2
          go_roundw
          case rel => exact ⟨k + 1, by omega, by go_num, by rw [Hs2.out]; exact hown2, hbb⟩
          case measure => simp [intOf]; omega
    · have hke : k = need.length := by omega
      subst hke
      rw [List.take_length] at hown
      obtain ⟨A', c', rfl, hi⟩ := hown.form
      clear hc HN hown
      go_wp2
      go_ret
      exact ⟨A', c', rfl, hi, hbr⟩
end Go.Proofs.Ythhjnplegdmidaa
