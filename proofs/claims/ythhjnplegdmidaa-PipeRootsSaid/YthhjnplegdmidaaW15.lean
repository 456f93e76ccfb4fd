/- Contracts: the reference's Path. -/
import Derived.Test.YthhjnplegdmidaaW14
namespace Go.Proofs.Ythhjnplegdmidaa
open Go.RowKit
set_option linter.unusedVariables false
set_option linter.unusedSimpArgs false
set_option maxHeartbeats 4000000 in
theorem refPath_any (A : Option Addr) (c : Nat) (l : List Pipe) (n0 : Int) (w : World) (hm : l.length ≤ 64) (hg : Good l) (h : Pipes w A l) :
    Calls Try.prog 20 #[.slice A l.length c, .int .i64 n0] w (PathPost w (pathOf l n0) (known l n0)) := by
  have hway := Lib.hid (way_any A c l n0 w (by omega) h)
  have hk := way_known hg n0
  cases hkn : known l n0 with
  | false =>
    have e0 : pathOf l n0 = [] := by simp [pathOf, hkn]
    rw [e0]
    rw [hkn] at hk
    have HK := Lib.hid hk
    clear hk hkn e0
    go_enter Try.func20, Try.ntmps20
    go_wp2_with fail
    refine hway.out.mono ?_
    rintro e w2 ⟨A2, c2, rfl, hin2, ho2, hb2⟩
    rw [HK.out]
    clear HK hway hin2 ho2
    go_wp2
    go_ret2
    exact ⟨none, 0, rfl, Ints.nil _ _, hb2⟩
  | true =>
    have e0 : pathOf l n0 = (wayOf l n0).1.map (idAt l) := by simp [pathOf, hkn]
    rw [e0]
    rw [hkn] at hk
    have HK := Lib.hid hk
    have hwsl : (wayOf l n0).1.length ≤ l.length := by
      have := wayR_length l.reverse n0
      rw [List.length_reverse] at this
      exact this
    have HWL := Lib.hid (fun j => way_lt l n0 (j := j))
    clear hk hkn e0
    go_enter Try.func20, Try.ntmps20
    go_wp2_with fail
    refine hway.out.mono ?_
    rintro e w2 ⟨A2, c2, rfl, hin2, ho2, hb2⟩
    rw [HK.out]
    rw [wayI_length]
    have hcells : ∀ w', Below w2.heap.size w2 w' → ∀ j (hj : j < (wayOf l n0).1.length), ∃ b2 o2, A2 = some ⟨b2, o2, none⟩ ∧ w'.cell? ⟨b2, o2 + j, none⟩ = some (.int .i64 (((wayOf l n0).1[j] : Nat) : Int)) := by
      intro w' hb' j hj
      obtain ⟨b3, off3, e3, hc3⟩ := hin2 (by rw [wayI_length]; omega)
      refine ⟨b3, off3, e3, ?_⟩
      have := cell_later hb' (hc3 j (by rw [wayI_length]; omega))
      simpa [wayI] using this
    have HC := Lib.hid hcells
    clear hway HK hin2 ho2 hcells
    generalize hws : (wayOf l n0).1 = ws at *
    have HWS := Lib.hid hws
    clear hws
    go_wp2_with fail
    go_loopw [8, 9] (fun v i wr => ∃ k : Nat, k ≤ ws.length ∧ i = .int .i64 k ∧ OwnI wr w2.heap.size 3 v ((ws.take k).map (idAt l)) ∧ Below w2.heap.size w2 wr) (fun _ i _ => ws.length - (intOf i).toNat)
    case atStart => exact ⟨0, Nat.zero_le _, rfl, OwnI.nil _ _ _, Below.refl _ _⟩
    case round =>
      obtain ⟨k, hk, rfl, hown, hbr⟩ := hrel
      by_cases hlt : k < ws.length
      · have hwl := HWL.out k hlt
        obtain ⟨b2, o2, rfl, hcw⟩ := HC.out wr hbr k hlt
        obtain ⟨b, off, rfl, hcc⟩ := h (by omega)
        obtain ⟨g0, g1, g2, g3, g4⟩ := hcc ws[k] hwl
        have hball := hb2.trans (hbr.mono hb2.size)
        replace g0 := cell_later hball g0
        have hs : (ws.take (k + 1)).map (idAt l) = (ws.take k).map (idAt l) ++ [l[ws[k]].id] := by
          rw [List.take_succ_eq_append_getElem hlt, List.map_append]
          simp [idAt, List.getD, hwl]
        have Hs := Lib.hid hs
        have hlk : ((ws.take k).map (idAt l)).length = k := by simp; omega
        have HLK := Lib.hid hlk
        clear hlk
        have hdl : ((ws.take k).map (idAt l)).length ≤ 64 := by simp; omega
        have HO := Lib.hid hown
        clear hs g1 g2 g3 g4 hcc HC hown hball
        generalize l[ws[k]].id = pid at *
        have hwl' : ((ws[k] : Nat) : Int) < (l.length : Int) := by omega
        have hwl0 : (0 : Int) ≤ ((ws[k] : Nat) : Int) := by omega
        generalize ws[k] = wk at *
        go_wp2_with (at_builtin; refine wpList_push w2 wr rfl (.tmp 24) (.tmp 33) _ rfl w2.heap.size 3 Try.underlying30 info3 _ ((ws.take k).map (idAt l)) rfl (by exact HO.out) pid rfl (by exact hbr) (by omega) hbr.size ?_; intro gg cap1 w6 hown3 hbw3 hg1 hat1)
        rw [HLK.out] at hown3
        clear hg1 hat1 HO
        go_wp2
        go_roundw
        case rel => exact ⟨k + 1, by omega, by go_num, by rw [Hs.out]; exact hown3, hbw3⟩
        case measure => simp [intOf]; omega
      · have hke : k = ws.length := by omega
        subst hke
        rw [List.take_length] at hown
        obtain ⟨A', c', rfl, hi⟩ := hown.form
        have hball := hb2.trans (hbr.mono hb2.size)
        have HI := Lib.hid hi
        clear HC HWL hown hi
        go_wp2
        go_ret2
        exact ⟨A', c', rfl, HI.out, hball⟩
end Go.Proofs.Ythhjnplegdmidaa
