/- Contracts: pressures. -/
import Derived.Test.YthhjnplegdmidaaPlain7
import Derived.Laws.EntriesVeiled
namespace Go.Proofs.Ythhjnplegdmidaa
open Go.RowKit
set_option linter.unusedVariables false
set_option linter.unusedSimpArgs false
set_option maxHeartbeats 4000000 in
theorem pressures_any (A C : Option Addr) (c d : Nat) (l : List Pipe) (ds : List Draw) (root : Int) (w : World) (hm : l.length ≤ 64) (hd : ds.length ≤ 1000000) (hg : Good l) (h : Pipes w A l) (hds : Draws w C ds) (hpos : posD ds) (htot : tot ds ≤ 1000000000000) (hrt : -1000000000000 ≤ root ∧ root ≤ 1000000000000) :
    Calls Try.prog 32 #[.slice A l.length c, .slice C ds.length d, .int .i64 root] w fun e w' => ∃ pr pl pp g, e = .returned (.func (Fn.func 36) #[] #[.pointer (some ⟨pr, 0, none⟩), .pointer (some ⟨pl, 0, none⟩), .pointer (some ⟨pp, 0, none⟩)]) ∧ w'.cell? ⟨pr, 0, none⟩ = some (.int .i64 root) ∧ w'.cell? ⟨pl, 0, none⟩ = some (.slice A l.length c) ∧ w'.cell? ⟨pp, 0, none⟩ = some (.slice (some ⟨g, 0, none⟩) l.length l.length) ∧ RowIs w' w.heap.size g l.length (presRow l (flowsOf l ds) root l.length) ∧ Below w.heap.size w w' := by
  obtain ⟨i0, hi0, hz0, hz1, hz2⟩ := info_parts info3
  have n1 : i0.bytes * l.length ≤ 281474976710656 := by rw [hz2]; omega
  have n2 : l.length ≤ maxLen := by unfold maxLen; omega
  have N1 := Lib.hid n1
  have N2 := Lib.hid n2
  have HI := Lib.hid (And.intro hi0 (And.intro hz0 hz1))
  clear n1 n2 hi0 hz0 hz1 hz2
  have hb0 := below_alloc w (.cells #[.slice A l.length c] 22)
  have hb1 := hb0.alloc hb0.size (.cells #[.int .i64 root] 3)
  have p0 : (w.alloc (.cells #[.slice A l.length c] 22)).cell? ⟨w.heap.size, 0, none⟩ = some (.slice A l.length c) := by go_simp
  have p1 := cell_later (below_alloc (w.alloc (.cells #[.slice A l.length c] 22)) (.cells #[.int .i64 root] 3)) p0
  have p2 : ((w.alloc (.cells #[.slice A l.length c] 22)).alloc (.cells #[.int .i64 root] 3)).cell? ⟨w.heap.size + 1, 0, none⟩ = some (.int .i64 root) := by go_simp
  have hfl := Lib.hid (Flows_any A C c d l ds _ hm hd hg (h.below hb1) (fun hn => by obtain ⟨b, off, e, hc⟩ := hds hn; exact ⟨b, off, e, fun i hi => ⟨cell_later hb1 (hc i hi).1, cell_later hb1 (hc i hi).2⟩⟩) hpos htot)
  go_enter Try.func32, Try.ntmps32
  go_wp2_with fail
  refine hfl.out.mono ?_
  rintro e w2 ⟨A2, c2, rfl, hin, hb2⟩
  have q1 := cell_later hb2 p1
  have q2 := cell_later hb2 p2
  have hb3 : Below w.heap.size w w2 := hb1.grown (grown_of_below hb2) hb1.size (fun j hj => by cases hj)
  have hz2 := hb3.size
  have HIN := Lib.hid hin
  have hN1 := World.block_lt_of_cell? _ _ q2
  simp only at hN1
  clear hfl p0 p1 p2 hb0 hb1 hb2 hin
  go_wp2_with (at_make; refine wpList_make_full _ (by rfl) (.tmp 18) (.tmp 18) 30 (by rfl) w.heap.size 3 i0 (.int .i64 0) 1 Try.underlying30 HI.out.1 HI.out.2.1 HI.out.2.2 .i64 .i64 l.length l.length l.length (by rfl) (by rfl) rfl rfl N1.out N2.out (by omega) ?_)
  intro w3 hown hg3
  rw [made_zero] at hown
  have hr : RowIs w3 w.heap.size w2.heap.size l.length (presRow l (flowsOf l ds) root 0) := ⟨by simp [presRow], by rw [presRow_zero]; simpa using hown⟩
  have hN2 := hr.lt.2
  have hb4 : Below w.heap.size w w3 := hb3.grown hg3 hb3.size (fun k hk => by cases hk)
  have q3 := hg3.cell q1 (by simp)
  have q4 := hg3.cell q2 (by simp)
  have hc4 : Below w2.heap.size w2 w3 := (Below.refl _ _).grown hg3 (Nat.le_refl _) (fun k hk => by cases hk)
  clear hown q1 q2 hb3
  have ka := below_alloc w3 (.cells #[.slice (some ⟨w2.heap.size, 0, none⟩) l.length l.length] 30)
  have q5 := cell_later ka q3
  have q6 := cell_later ka q4
  have q7 : (w3.alloc (.cells #[.slice (some ⟨w2.heap.size, 0, none⟩) l.length l.length] 30)).cell? ⟨w3.heap.size, 0, none⟩ = some (.slice (some ⟨w2.heap.size, 0, none⟩) l.length l.length) := by go_simp
  have hr2 := hr.kept (grown_of_below ka) (by simp)
  have hb5 := hb4.alloc hb4.size (.cells #[.slice (some ⟨w2.heap.size, 0, none⟩) l.length l.length] 30)
  have hc5 := hc4.alloc hc4.size (.cells #[.slice (some ⟨w2.heap.size, 0, none⟩) l.length l.length] 30)
  clear hc4
  go_wp2_with fail
  have hfb : ∀ x ∈ flowsOf l ds, 0 ≤ x ∧ x ≤ 1000000000000 := fun x hx => by have := flowsR_bd hpos x hx; omega
  have HFB := Lib.hid hfb
  have HIN3 := Lib.hid (fun (W : World) (hW : Below w.heap.size w W) => h.below hW)
  clear hfb hr hb4 q3 q4 ka N1 N2 HI hg3
  go_loopw [23] (fun i wr => ∃ k : Nat, k ≤ l.length ∧ i = .int .i64 k ∧ Below w.heap.size w wr ∧ Below w2.heap.size w2 wr ∧ wr.cell? ⟨w.heap.size, 0, none⟩ = some (.slice A l.length c) ∧ wr.cell? ⟨w.heap.size + 1, 0, none⟩ = some (.int .i64 root) ∧ wr.cell? ⟨w3.heap.size, 0, none⟩ = some (.slice (some ⟨w2.heap.size, 0, none⟩) l.length l.length) ∧ RowIs wr w.heap.size w2.heap.size l.length (presRow l (flowsOf l ds) root k)) (fun i _ => l.length - (intOf i).toNat)
  case atStart => exact ⟨0, Nat.zero_le _, rfl, hb5, hc5, q5, q6, q7, hr2⟩
  case round =>
    clear hb5 hc5 q5 q6 q7 hr2
    obtain ⟨k, hk, rfl, hb, hc, q5, q6, q7, hrow⟩ := hrel
    by_cases hlt : k < l.length
    · obtain ⟨kn, _, hin⟩ := good_known hg hlt
      have hpa := pressAt_row hg (flowsOf l ds) root hk kn
      have hpe := pEnd_eq (flowsOf l ds) root hlt
      have hst := presRow_step l (flowsOf l ds) root (k := k)
      obtain ⟨b, off, rfl, hcc⟩ := h (by omega)
      obtain ⟨g0, g1, g2, g3, g4⟩ := hcc k hlt
      replace g0 := cell_later hb g0
      replace g1 := cell_later hb g1
      replace g2 := cell_later hb g2
      replace g3 := cell_later hb g3
      replace g4 := cell_later hb g4
      have HPA := Lib.hid hpa
      have HPE := Lib.hid hpe
      have HST := Lib.hid hst
      have HR := Lib.hid hrow
      clear hpa hpe hst hrow hcc
      have kb := below_alloc wr (.cells #[.int .i64 l[k].id, .int .i64 l[k].from_, .int .i64 l[k].to_, .int .i64 l[k].loss, .int .i64 l[k].rise] 45)
      have hpr := Lib.hid (press_any (some ⟨b, off, none⟩) c l (w.heap.size + 1) w.heap.size w3.heap.size w2.heap.size w.heap.size (presRow l (flowsOf l ds) root k) root l[k].from_ _ (by omega) (cell_later kb q6) (cell_later kb q5) (h.below (hb.alloc hb.size _)) (cell_later kb q7) (HR.out.kept (grown_of_below kb) (by simp)))
      go_wp2_with fail
      refine hpr.out.mono ?_
      rintro e w5 ⟨rfl, hb6⟩
      rw [HPA.out]
      have hbk := hb.alloc hb.size (.cells #[.int .i64 l[k].id, .int .i64 l[k].from_, .int .i64 l[k].to_, .int .i64 l[k].loss, .int .i64 l[k].rise] 45)
      have hck := hc.alloc hc.size (.cells #[.int .i64 l[k].id, .int .i64 l[k].from_, .int .i64 l[k].to_, .int .i64 l[k].loss, .int .i64 l[k].rise] 45)
      have hb7 : Below w.heap.size w w5 := hbk.grown (grown_of_below hb6) hbk.size (fun j hj => by cases hj)
      have hc7 : Below w2.heap.size w2 w5 := hck.grown (grown_of_below hb6) hck.size (fun j hj => by cases hj)
      have r5 := cell_later hb6 (cell_later kb q5)
      have r6 := cell_later hb6 (cell_later kb q6)
      have r7 := cell_later hb6 (cell_later kb q7)
      have hr7 := (HR.out.kept (grown_of_below kb) (by simp)).kept (grown_of_below hb6) (by simp)
      have hkf : k < (flowsOf l ds).length := by rw [flowsOf_length]; exact hlt
      obtain ⟨fb, foff, rfl, hfc⟩ := HIN.out (by omega)
      have hf5 := cell_later hc7 (hfc k hkf)
      have hkp : k < (presRow l (flowsOf l ds) root k).length := by rw [hr7.1]; exact hlt
      obtain ⟨o0, o1⟩ := hr7.at hkp
      have e3 := cell_later hb6 (show (wr.alloc (.cells #[.int .i64 l[k].id, .int .i64 l[k].from_, .int .i64 l[k].to_, .int .i64 l[k].loss, .int .i64 l[k].rise] 45)).cell? ⟨wr.heap.size, 3, none⟩ = some (.int .i64 l[k].loss) by go_simp)
      have e4 := cell_later hb6 (show (wr.alloc (.cells #[.int .i64 l[k].id, .int .i64 l[k].from_, .int .i64 l[k].to_, .int .i64 l[k].loss, .int .i64 l[k].rise] 45)).cell? ⟨wr.heap.size, 4, none⟩ = some (.int .i64 l[k].rise) by go_simp)
      have hr7d : RowIs w5.drew w.heap.size w2.heap.size l.length (presRow l (flowsOf l ds) root k) := ⟨hr7.1, hr7.2⟩
      have hs := hr7d.set k (pEnd l (flowsOf l ds) root k)
      rw [HST.out] at hs
      have hin' := hin
      unfold inR at hin'
      simp only [decide_eq_true_eq] at hin'
      have hdb := drop_bd (fs := flowsOf l ds) (p := l[k]) ⟨by omega, by omega⟩ ⟨by omega, by omega⟩ HFB.out k (pR (flowsOf l ds) root (l.take k).reverse l[k].from_)
      have hpb := pR_bd (root := root) HFB.out (l.take k).reverse (fun p hp => by
        have := good_in hg p (List.mem_of_mem_take (List.mem_reverse.1 hp))
        unfold inR at this
        simp only [decide_eq_true_eq] at this
        omega) l[k].from_
      have hlk : (l.take k).reverse.length ≤ 64 := by simp; omega
      rw [HPE.out] at hs
      have hgd : (flowsOf l ds).getD k 0 = (flowsOf l ds)[k] := by simp [List.getD, hkf]
      unfold dropAt at hs hdb
      rw [hgd] at hs hdb
      have hbz := hb7.drew.grown hs.2 hb7.drew.size (fun j hj => by cases hj; exact hz2)
      have hcz := hc7.drew.grown hs.2 hc7.drew.size (fun j hj => by cases hj; exact Nat.le_refl _)
      have s5 := hs.2.cell (show w5.drew.cell? ⟨w.heap.size, 0, none⟩ = _ from r5) (by simp; omega)
      have s6 := hs.2.cell (show w5.drew.cell? ⟨w.heap.size + 1, 0, none⟩ = _ from r6) (by simp; omega)
      have s7 := hs.2.cell (show w5.drew.cell? ⟨w3.heap.size, 0, none⟩ = _ from r7) (by simp; omega)
      have HS := Lib.hid (And.intro hbz (And.intro hcz (And.intro s5 (And.intro s6 (And.intro s7 hs.1)))))
      have o1' : w5.drew.frozen? ⟨w2.heap.size, k, none⟩ = false := o1
      clear hbz hcz s5 s6 s7
      obtain ⟨P, hP⟩ : ∃ P, P = pR (flowsOf l ds) root (l.take k).reverse l[k].from_ := ⟨_, rfl⟩
      rw [← hP] at hdb hpb HS ⊢
      have hpb1 : -7000000000000000 ≤ P ∧ P ≤ 7000000000000000 := by omega
      have hri : -100000 ≤ l[k].rise ∧ l[k].rise ≤ 100000 := by omega
      clear hs hpb hin hin' hgd HPE HPA HST HR hpr hfc g0 g1 g2 g3 g4 hbk hck HFB HIN3 hr7 hr7d hb6 kb q5 q6 q7 hc7 hb7 hb hc
      clear hP
      generalize (flowsOf l ds)[k] = F at *
      generalize l[k].loss = LO at *
      generalize l[k].rise = RI at *
      go_wp2_with fail
      go_still_tail 16, (by kernel_rfl)
      go_wp2
      go_roundw
      case rel => exact ⟨k + 1, by omega, by go_num, HS.out.1, HS.out.2.1, HS.out.2.2.1, HS.out.2.2.2.1, HS.out.2.2.2.2.1, HS.out.2.2.2.2.2⟩
      case measure => simp [intOf]; omega
    · have hke : k = l.length := by omega
      subst hke
      go_wp2
      go_ret
      exact ⟨_, _, _, _, rfl, q6, q5, q7, hrow, hb⟩
end Go.Proofs.Ythhjnplegdmidaa
