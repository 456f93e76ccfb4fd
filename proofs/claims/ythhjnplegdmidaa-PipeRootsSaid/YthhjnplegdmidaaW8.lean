/- Contracts: the reference's flows. -/
import Derived.Test.YthhjnplegdmidaaW7
import Derived.Test.YthhjnplegdmidaaPlain4
namespace Go.Proofs.Ythhjnplegdmidaa
open Go.RowKit
set_option linter.unusedVariables false
set_option linter.unusedSimpArgs false
theorem wayI_length (l : List Pipe) (n : Int) : (wayI l n).length = (wayOf l n).1.length := by simp [wayI]
theorem wayI_get (l : List Pipe) (n : Int) {j : Nat} (hj : j < (wayOf l n).1.length) : (wayI l n)[j]? = some (((wayOf l n).1[j] : Nat) : Int) := by
  simp [wayI, hj]
theorem wayRow_zero (l : List Pipe) (ds : List Draw) : wayRow l (ds.take 0) = List.replicate l.length 0 := by
  apply List.ext_getElem
  · simp [wayRow]
  · intro i _ _; simp [wayRow, carry]
theorem grown_trans2 {A B C : World} {row : Option Nat} (h : A.grownBy B row) (k : B.grownBy C row) : A.grownBy C row := by
  obtain ⟨h1, h2, h3, h4, h5⟩ := h
  obtain ⟨k1, k2, k3, k4, k5⟩ := k
  exact ⟨k1.trans h1, k2.trans h2, k3.trans h3, Nat.le_trans h4 k4, fun i hi hne => (k5 i (Nat.lt_of_lt_of_le hi h4) hne).trans (h5 i hi hne)⟩
theorem OwnI.block {w : World} {B T n c : Nat} {A : Option Addr} {l : List Int} (h : OwnI w B T (.slice A n c) l) (hn : 0 < l.length) : ∃ b, A = some ⟨b, 0, none⟩ ∧ B ≤ b := by
  rcases h.2 with ⟨e, h0⟩ | ⟨g, cap, cur, e, hb, _⟩
  · omega
  · cases e
    exact ⟨g, rfl, hb⟩
set_option maxHeartbeats 4000000 in
theorem refFlows_any (A C : Option Addr) (c d : Nat) (l : List Pipe) (ds : List Draw) (w : World) (hm : l.length ≤ 64) (hd : ds.length ≤ 1000000) (hg : Good l) (h : Pipes w A l) (hds : Draws w C ds) (hpos : posD ds) (htot : tot ds ≤ 1000000000000) :
    Calls Try.prog 16 #[.slice A l.length c, .slice C ds.length d] w fun e w' => ∃ A' c', e = .returned (.slice A' l.length c') ∧ Ints w' A' (flowsOf l ds) ∧ Below w.heap.size w w' := by
  obtain ⟨i0, hi0, hz0, hz1, hz2⟩ := info_parts info3
  have n1 : i0.bytes * l.length ≤ 281474976710656 := by rw [hz2]; omega
  have n2 : l.length ≤ maxLen := by unfold maxLen; omega
  have N1 := Lib.hid n1
  have N2 := Lib.hid n2
  have HI := Lib.hid (And.intro hi0 (And.intro hz0 hz1))
  clear n1 n2 hi0 hz0 hz1 hz2
  go_enter Try.func16, Try.ntmps16
  go_wp2_with (at_make; refine wpList_make_full _ (by rfl) (.tmp 11) (.tmp 11) 30 (by rfl) w.heap.size 3 i0 (.int .i64 0) 1 Try.underlying30 HI.out.1 HI.out.2.1 HI.out.2.2 .i64 .i64 l.length l.length l.length (by rfl) (by rfl) rfl rfl N1.out N2.out (by simp) ?_)
  intro w1 hown hg1
  rw [made_zero] at hown
  have hr : RowIs w1 w.heap.size w.heap.size l.length (List.replicate l.length 0) := ⟨by simp, by simpa using hown⟩
  have hb1 : Below w.heap.size w w1 := (Below.refl _ _).grown hg1 (Nat.le_refl _) (fun k hk => by cases hk)
  clear hown
  rw [← wayRow_zero l ds] at hr
  go_wp2_with fail
  clear hg1
  go_loopw [6] (fun i wr => ∃ k : Nat, k ≤ ds.length ∧ i = .int .i64 k ∧ Below w.heap.size w wr ∧ RowIs wr w.heap.size w.heap.size l.length (wayRow l (ds.take k))) (fun i _ => ds.length - (intOf i).toNat)
  case atStart => exact ⟨0, Nat.zero_le _, rfl, hb1, hr⟩
  case round =>
    clear hb1 hr
    obtain ⟨k, hk, rfl, hb, hrow⟩ := hrel
    by_cases hlt : k < ds.length
    · have hfl := flow_tot hpos hlt
      have hend := midRow_end l ds hlt
      have hmb := fun j => midRow_bd (l := l) hm htot (k := k) (f := ds[k].flow) ⟨hfl.1, by omega⟩ (tot_take hpos k) ds[k].node j
      obtain ⟨b, off, rfl, hc⟩ := hds (by omega)
      obtain ⟨h0, h1⟩ := hc k hlt
      have h0' := cell_later hb h0
      have h1' := cell_later hb h1
      have hbk := World.block_lt_of_cell? _ _ h1
      simp only at hbk
      clear h0 h1 hc
      have HE := Lib.hid hend
      have HM := Lib.hid hmb
      have HR := Lib.hid hrow
      clear hend hmb hrow
      generalize ds[k] = x at *
      obtain ⟨nd, fl⟩ := x
      simp only at h0' h1' HE HM hfl
      have hps := h.below hb
      have hway := Lib.hid (way_any A c l nd wr (by omega) hps)
      have hbl := hb.size
      have hrl := HR.out.lt
      clear hps
      go_wp2_with fail
      refine hway.out.mono ?_
      rintro e w2 ⟨A2, c2, rfl, hin2, ho2, hb2⟩
      have hb3 : Below w.heap.size w w2 := hb.grown (grown_of_below hb2) hb.size (fun j hj => by cases hj)
      have hr2 : RowIs w2 w.heap.size w.heap.size l.length (midRow (wayRow l (ds.take k)) (wayOf l nd).1 fl 0) := by rw [midRow_zero]; exact HR.out.kept (grown_of_below hb2) (by simp)
      have h1'' := cell_later hb2 h1'
      have HWO := Lib.hid (way_ok hg nd)
      have HWL := Lib.hid (fun j => way_lt l nd (j := j))
      have hcells : ∀ j (hj : j < (wayOf l nd).1.length), ∃ b2, A2 = some ⟨b2, 0, none⟩ ∧ wr.heap.size ≤ b2 ∧ w2.cell? ⟨b2, j, none⟩ = some (.int .i64 (((wayOf l nd).1[j] : Nat) : Int)) := by
        intro j hj
        obtain ⟨b2, e2, hge⟩ := OwnI.block ho2 (by rw [wayI_length]; omega)
        refine ⟨b2, e2, hge, ?_⟩
        obtain ⟨b3, off3, e3, hc3⟩ := hin2 (by rw [wayI_length]; omega)
        rw [e2] at e3
        cases e3
        have := hc3 j (by rw [wayI_length]; omega)
        simpa [wayI] using this
      have HC := Lib.hid hcells
      clear hway hb hb2 HR hin2 ho2 h0' h1' hbl hcells
      have hwsl : (wayOf l nd).1.length ≤ l.length := by
        have := wayR_length l.reverse nd
        rw [List.length_reverse] at this
        exact this
      rw [wayI_length]
      generalize (wayOf l nd).1 = ws at *
      generalize (wayOf l nd).2 = okv at *
      go_wp2_with fail
      go_loopw [9] (fun i wx => ∃ j : Nat, j ≤ ws.length ∧ i = .int .i64 j ∧ w2.grownBy wx (some w.heap.size) ∧ Below w.heap.size w wx ∧ RowIs wx w.heap.size w.heap.size l.length (midRow (wayRow l (ds.take k)) ws fl j)) (fun i _ => ws.length - (intOf i).toNat)
      case atStart => exact ⟨0, Nat.zero_le _, rfl, World.grownBy.mk rfl rfl rfl (Nat.le_refl _) (fun _ _ _ => rfl), hb3, hr2⟩
      case round =>
        clear hr2 hb3
        obtain ⟨j, hj, rfl, hgx, hb, hrow⟩ := hrel
        by_cases hjl : j < ws.length
        · have hok := HWO.out (by omega)
          subst hok
          obtain ⟨b2, rfl, hge, hc2⟩ := HC.out j hjl
          have hwl := HWL.out j hjl
          have hx1 : ws[j] < (midRow (wayRow l (ds.take k)) ws fl j).length := by rw [hrow.1]; exact hwl
          have hst := midRow_step (wayRow l (ds.take k)) ws fl hjl _ (List.getElem?_eq_getElem hx1)
          obtain ⟨o0, o1⟩ := hrow.at hx1
          obtain ⟨x0, x1⟩ := HM.out j _ (List.getElem_mem hx1)
          have hc3 := hgx.cell hc2 (by simp; omega)
          have hd3 := hgx.cell h1'' (by simp; omega)
          have hrd : RowIs wr.drew w.heap.size w.heap.size l.length (midRow (wayRow l (ds.take k)) ws fl j) := ⟨hrow.1, hrow.2⟩
          obtain ⟨hs1, hs2⟩ := hrd.set ws[j] ((midRow (wayRow l (ds.take k)) ws fl j)[ws[j]] + fl)
          rw [hst] at hs1
          have hg3 := grown_trans2 hgx (grown_trans (grown_of_below (Below.refl wr.heap.size wr).drew) hs2)
          have hb3 : Below w.heap.size w (wr.drew.setCell ⟨w.heap.size, ws[j], none⟩ (.int .i64 ((midRow (wayRow l (ds.take k)) ws fl j)[ws[j]] + fl))) := hb.drew.grown hs2 hb.drew.size (fun q hq => by cases hq; exact Nat.le_refl _)
          have HS := Lib.hid (And.intro hs1 (And.intro hg3 hb3))
          have o1' : wr.drew.frozen? ⟨w.heap.size, ws[j], none⟩ = false := o1
          clear hst hs1 hs2 hg3 hb3 hrd hgx hrow hb HWO HWL HC HE HM
          generalize (midRow (wayRow l (ds.take k)) ws fl j)[ws[j]] = xv at *
          clear hx1
          have hwl' : ((ws[j] : Nat) : Int) < (l.length : Int) := by omega
          have hwl0 : (0 : Int) ≤ ((ws[j] : Nat) : Int) := by omega
          generalize ws[j] = wj at *
          go_wp2_with fail
          go_still_tail 19, (by kernel_rfl)
          go_wp2
          go_roundw
          case rel => exact ⟨j + 1, by omega, by go_num, HS.out.2.1, HS.out.2.2, HS.out.1⟩
          case measure => simp [intOf]; omega
        · have hje : j = ws.length := by omega
          subst hje
          have hrow2 := HE.out ▸ hrow
          clear hrow
          go_wp2
          go_roundw
          case rel => exact ⟨k + 1, by omega, by go_num, hb, hrow2⟩
          case measure => simp [intOf]; omega
    · have hke : k = ds.length := by omega
      subst hke
      rw [List.take_length, wayRow_flows] at hrow
      have hi := OwnI.form (v := .slice (some ⟨w.heap.size, 0, none⟩) l.length l.length) (l := flowsOf l ds) (show OwnI wr w.heap.size 3 _ _ by unfold OwnI; rw [flowsOf_length]; exact hrow.2)
      obtain ⟨A', c', e1, hi2⟩ := hi
      rw [flowsOf_length] at e1
      have E1 := Lib.hid e1
      have HI2 := Lib.hid hi2
      clear e1 hi2 hrow
      go_wp2
      go_ret
      exact ⟨A', c', congrArg Ending.returned E1.out, HI2.out, hb⟩
end Go.Proofs.Ythhjnplegdmidaa
