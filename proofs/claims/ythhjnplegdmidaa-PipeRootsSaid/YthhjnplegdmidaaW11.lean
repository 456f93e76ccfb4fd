/- Contracts: Pressure, and the reference's Pressure. -/
import Derived.Test.YthhjnplegdmidaaW10
namespace Go.Proofs.Ythhjnplegdmidaa
open Go.RowKit
set_option linter.unusedVariables false
set_option linter.unusedSimpArgs false
set_option maxHeartbeats 2000000 in
theorem Pressure_any (A C : Option Addr) (c d : Nat) (l : List Pipe) (ds : List Draw) (root node : Int) (w : World) (hm : l.length ≤ 64) (hd : ds.length ≤ 1000000) (hg : Good l) (h : Pipes w A l) (hds : Draws w C ds) (hpos : posD ds) (htot : tot ds ≤ 1000000000000) (hrt : -1000000000000 ≤ root ∧ root ≤ 1000000000000) :
    Calls Try.prog 17 #[.slice A l.length c, .slice C ds.length d, .int .i64 root, .int .i64 node] w fun e w' => e = .returned (.tuple #[.int .i64 (pressOf l (flowsOf l ds) root node).1, .bool (pressOf l (flowsOf l ds) root node).2]) ∧ Below w.heap.size w w' := by
  have hp := Lib.hid (pressures_any A C c d l ds root w hm hd hg h hds hpos htot hrt)
  have hall := Lib.hid (pressAt_all hg (flowsOf l ds) root node)
  go_enter Try.func17, Try.ntmps17
  go_wp2_with fail
  refine hp.out.mono ?_
  rintro e w2 ⟨pr, pl, pp, g, rfl, q1, q2, q3, hrow, hb⟩
  have hc := Lib.hid (press_any A c l pr pl pp g w.heap.size _ root node w2 (by omega) q1 q2 (h.below hb) q3 hrow)
  clear q1 q2 q3 hrow hp
  go_wp2_with fail
  refine hc.out.mono ?_
  rintro e w3 ⟨rfl, hb3⟩
  rw [hall.out]
  clear hall hc
  go_wp2
  go_ret2
  exact ⟨rfl, hb.trans (hb3.mono hb.size)⟩
theorem pfold_step (l : List Pipe) (fs : List Int) (root : Int) {ws : List Nat} {k : Nat} (hk : k < ws.length) : pfold l fs root (ws.take (k + 1)) = dropAt fs (l.getD ws[k] Pipe.zero) ws[k] (pfold l fs root (ws.take k)) := by
  unfold pfold
  rw [List.take_succ_eq_append_getElem hk, List.foldl_append]
  rfl
theorem pfold_bd {l : List Pipe} {fs : List Int} {root : Int} (hl : ∀ p ∈ l, (0 ≤ p.loss ∧ p.loss ≤ 100000) ∧ -100000 ≤ p.rise ∧ p.rise ≤ 100000) (hf : ∀ x ∈ fs, 0 ≤ x ∧ x ≤ 1000000000000) (ws : List Nat) (hw : ∀ j (hj : j < ws.length), ws[j] < l.length) :
    ∀ k, k ≤ ws.length → root - 100000000100000 * k ≤ pfold l fs root (ws.take k) ∧ pfold l fs root (ws.take k) ≤ root + 100000000100000 * k := by
  intro k
  induction k with
  | zero => intro _; simp [pfold]
  | succ k ih =>
    intro hk
    have h1 := ih (by omega)
    rw [pfold_step l fs root (show k < ws.length by omega)]
    have hlt := hw k (by omega)
    obtain ⟨a, b⟩ := hl l[ws[k]] (List.getElem_mem hlt)
    have h2 := drop_bd a b hf ws[k] (pfold l fs root (ws.take k))
    have e : l.getD ws[k] Pipe.zero = l[ws[k]] := by simp [List.getD, hlt]
    rw [e]
    omega
theorem pipe_bd {p : Pipe} (h : inR p = true) : (0 ≤ p.loss ∧ p.loss ≤ 100000) ∧ -100000 ≤ p.rise ∧ p.rise ≤ 100000 := by
  unfold inR at h
  simp only [decide_eq_true_eq] at h
  omega
set_option maxHeartbeats 4000000 in
theorem refPressure_any (A C : Option Addr) (c d : Nat) (l : List Pipe) (ds : List Draw) (root node : Int) (w : World) (hm : l.length ≤ 64) (hd : ds.length ≤ 1000000) (hg : Good l) (h : Pipes w A l) (hds : Draws w C ds) (hpos : posD ds) (htot : tot ds ≤ 1000000000000) (hrt : -1000000000000 ≤ root ∧ root ≤ 1000000000000) :
    Calls Try.prog 18 #[.slice A l.length c, .slice C ds.length d, .int .i64 root, .int .i64 node] w fun e w' => e = .returned (.tuple #[.int .i64 (pressOf l (flowsOf l ds) root node).1, .bool (pressOf l (flowsOf l ds) root node).2]) ∧ Below w.heap.size w w' := by
  have hway := Lib.hid (way_any A c l node w (by omega) h)
  have hk := way_known hg node
  cases hkn : known l node with
  | false =>
    have e0 : pressOf l (flowsOf l ds) root node = (0, false) := by simp [pressOf, hkn]
    rw [e0]
    rw [hkn] at hk
    have HK := Lib.hid hk
    clear hk hkn e0
    go_enter Try.func18, Try.ntmps18
    go_wp2_with fail
    refine hway.out.mono ?_
    rintro e w2 ⟨A2, c2, rfl, hin2, ho2, hb2⟩
    rw [HK.out]
    clear HK hway hin2 ho2
    go_wp2
    go_ret2
    exact ⟨rfl, hb2⟩
  | true =>
    have e0 : pressOf l (flowsOf l ds) root node = (pfold l (flowsOf l ds) root (wayOf l node).1, true) := by rw [pfold_all]; simp [pressOf, hkn]
    rw [e0]
    rw [hkn] at hk
    have HK := Lib.hid hk
    have hfb : ∀ x ∈ flowsOf l ds, 0 ≤ x ∧ x ≤ 1000000000000 := fun x hx => by have := flowsR_bd hpos x hx; omega
    have hwsl : (wayOf l node).1.length ≤ l.length := by
      have := wayR_length l.reverse node
      rw [List.length_reverse] at this
      exact this
    have HWL := Lib.hid (fun j => way_lt l node (j := j))
    have hpb := pfold_bd (l := l) (root := root) (fun p hp => pipe_bd (good_in hg p hp)) hfb (wayOf l node).1 HWL.out
    have HPB := Lib.hid hpb
    have HFB := Lib.hid hfb
    clear hk hkn e0 hpb hfb
    go_enter Try.func18, Try.ntmps18
    go_wp2_with fail
    refine hway.out.mono ?_
    rintro e w2 ⟨A2, c2, rfl, hin2, ho2, hb2⟩
    rw [HK.out]
    rw [wayI_length]
    have hfl := Lib.hid (refFlows_any A C c d l ds w2 hm hd hg (h.below hb2) (hds.below hb2) hpos htot)
    have hcells : ∀ w', Below w2.heap.size w2 w' → ∀ j (hj : j < (wayOf l node).1.length), ∃ b2 o2, A2 = some ⟨b2, o2, none⟩ ∧ w'.cell? ⟨b2, o2 + j, none⟩ = some (.int .i64 (((wayOf l node).1[j] : Nat) : Int)) := by
      intro w' hb' j hj
      obtain ⟨b3, off3, e3, hc3⟩ := hin2 (by rw [wayI_length]; omega)
      refine ⟨b3, off3, e3, ?_⟩
      have := cell_later hb' (hc3 j (by rw [wayI_length]; omega))
      simpa [wayI] using this
    have HC := Lib.hid hcells
    clear hway HK hin2 ho2 hcells
    generalize hws : (wayOf l node).1 = ws at *
    have HWS := Lib.hid hws
    clear hws
    go_wp2_with fail
    refine hfl.out.mono ?_
    rintro e w3 ⟨A3, c3, rfl, hin3, hb3⟩
    have HF := Lib.hid hin3
    have hb4 : Below w.heap.size w w3 := hb2.trans (hb3.mono hb2.size)
    clear hin3 hfl
    go_wp2_with fail
    go_loopw [13, 14] (fun nv i wr => ∃ k : Nat, k ≤ ws.length ∧ i = .int .i64 k ∧ nv = .int .i64 (pfold l (flowsOf l ds) root (ws.take k)) ∧ Below w3.heap.size w3 wr) (fun _ i _ => ws.length - (intOf i).toNat)
    case atStart => exact ⟨0, Nat.zero_le _, rfl, rfl, Below.refl _ _⟩
    case round =>
      obtain ⟨k, hk, rfl, rfl, hbr⟩ := hrel
      by_cases hlt : k < ws.length
      · have hwl := HWL.out k hlt
        have hst := pfold_step l (flowsOf l ds) root hlt
        have hpb := HPB.out k (by omega)
        obtain ⟨b2, o2, rfl, hcw⟩ := HC.out wr (hb3.trans (hbr.mono hb3.size)) k hlt
        have hkf : ws[k] < (flowsOf l ds).length := by rw [flowsOf_length]; exact hwl
        obtain ⟨fb, foff, rfl, hfc⟩ := HF.out (by rw [flowsOf_length]; omega)
        have hf5 := cell_later hbr (hfc ws[k] hkf)
        obtain ⟨b, off, rfl, hcc⟩ := h (by omega)
        obtain ⟨g0, g1, g2, g3, g4⟩ := hcc ws[k] hwl
        have hball := hb4.trans (hbr.mono hb4.size)
        replace g3 := cell_later hball g3
        replace g4 := cell_later hball g4
        have hpi := pipe_bd (good_in hg l[ws[k]] (List.getElem_mem hwl))
        have hdb := drop_bd hpi.1 hpi.2 HFB.out ws[k] (pfold l (flowsOf l ds) root (ws.take k))
        have e1 : l.getD ws[k] Pipe.zero = l[ws[k]] := by simp [List.getD, hwl]
        have e2 : (flowsOf l ds).getD ws[k] 0 = (flowsOf l ds)[ws[k]] := by simp [List.getD, hkf]
        unfold dropAt at hst hdb
        rw [e1, e2] at hst
        rw [e2] at hdb
        have HST := Lib.hid hst
        clear hst e1 e2 g0 g1 g2 hcc hfc HC HF HPB HWL HFB hball
        have hp1 : -7000000000000000 ≤ pfold l (flowsOf l ds) root (ws.take k) ∧ pfold l (flowsOf l ds) root (ws.take k) ≤ 7000000000000000 := by omega
        generalize pfold l (flowsOf l ds) root (ws.take k) = P at *
        generalize (flowsOf l ds)[ws[k]] = F at *
        generalize l[ws[k]].loss = LO at *
        generalize l[ws[k]].rise = RI at *
        have hwl' : ((ws[k] : Nat) : Int) < (l.length : Int) := by omega
        have hwl0 : (0 : Int) ≤ ((ws[k] : Nat) : Int) := by omega
        generalize ws[k] = wk at *
        have hki : (k : Int) < (ws.length : Int) := by omega
        have hk0 : (0 : Int) ≤ (k : Int) := by omega
        clear hpb
        go_wp2_with fail
        go_quiet (fail)
        go_wp2
        go_roundw
        case rel => exact ⟨k + 1, by omega, by go_num, by rw [HST.out], hbr.trans (below_dn (Below.refl _ _) _)⟩
        case measure => simp [intOf]; omega
      · have hke : k = ws.length := by omega
        subst hke
        rw [List.take_length]
        have hball := hb4.trans (hbr.mono hb4.size)
        clear HPB HFB HF HC HWL
        go_wp2
        go_ret2
        exact ⟨by have e := HWS.out; subst e; rfl, hball⟩
end Go.Proofs.Ythhjnplegdmidaa
