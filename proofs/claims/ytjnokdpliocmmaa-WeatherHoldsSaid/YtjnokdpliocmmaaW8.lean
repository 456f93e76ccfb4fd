/- Contracts: the reference's Last; Clone, Add (both), Same. -/
import Derived.Test.YtjnokdpliocmmaaW3
import Derived.Test.YtjnokdpliocmmaaW4
import Derived.Test.YtjnokdpliocmmaaW6
import Derived.Outline
namespace Go.Proofs.Ytjnokdpliocmmaa
open Go.RowKit
set_option linter.unusedVariables false
theorem refLast_at {l : List Obs} {s t : Int} {k m : Nat} (hm : m < l.length) (hk : l.length = m + k + 1) (h : ∀ j (hj : j < l.length), m < j → hitB s t l[j] = false) (hx : hitB s t l[m] = true) : lastOf l s t = some l[m] := by
  unfold lastOf
  rw [List.find?_eq_some_iff_getElem]
  refine ⟨by simpa [hitB] using hx, k, by simp; omega, ?_, fun j hj => ?_⟩
  · simp only [List.getElem_reverse]
    congr 1
    omega
  · have := h (l.length - 1 - j) (by omega) (by omega)
    simp only [hitB, decide_eq_false_iff_not] at this
    simp only [List.getElem_reverse]
    simp
    omega
theorem refLast_none {l : List Obs} {s t : Int} (h : ∀ j (hj : j < l.length), hitB s t l[j] = false) : lastOf l s t = none := by
  unfold lastOf
  rw [List.find?_eq_none]
  intro x hx
  rw [List.mem_reverse] at hx
  obtain ⟨m, hm, rfl⟩ := List.mem_iff_getElem.1 hx
  simpa [hitB] using h m hm
set_option maxHeartbeats 2000000 in
theorem refLast_any (A : Option Addr) (c : Nat) (l : List Obs) (s t : Int) (w : World) (hm : l.length ≤ 1000000000000000) (h : Obss w A l) :
    Calls Try.prog 15 #[.slice A l.length c, .int .i64 s, .int .i64 t] w fun e w' => e = .returned (lastVal (lastOf l s t)) ∧ Below w.heap.size w w' := by
  go_enter Try.func15, Try.ntmps15
  go_wp2
  have bR := Blk.new w #[.int .i64 0, .int .i64 0, .int .i64 0, .int .i64 0, .int .i64 0, .int .i64 0] 30
  have hbw := below_alloc w (.cells #[.int .i64 0, .int .i64 0, .int .i64 0, .int .i64 0, .int .i64 0, .int .i64 0] 30)
  have hr := h.below hbw
  obtain ⟨W1, hW1⟩ : ∃ W1, w.alloc (.cells #[.int .i64 0, .int .i64 0, .int .i64 0, .int .i64 0, .int .i64 0, .int .i64 0] 30) = W1 := ⟨_, rfl⟩
  rw [hW1] at bR hbw hr ⊢
  clear hW1 h
  go_loop [8] (fun i => ∃ (k : Nat) (z : Int), k ≤ l.length ∧ z = (l.length : Int) - 1 - (k : Int) ∧ i = .int .i64 z ∧ ∀ j (hj : j < l.length), l.length ≤ j + k → hitB s t l[j] = false) (fun i => (intOf i + 1).toNat)
  case atStart => exact ⟨0, _, Nat.zero_le _, by simp, rfl, fun j hj h => by omega⟩
  case round =>
    obtain ⟨k, z, hk, hzk, rfl, hno⟩ := hrel
    have r0 := bR.cell 0 rfl
    have r1 := bR.cell 1 rfl
    have r2 := bR.cell 2 rfl
    have r3 := bR.cell 3 rfl
    have r4 := bR.cell 4 rfl
    have r5 := bR.cell 5 rfl
    have f0 := bR.frozen 0
    have f1 := bR.frozen 1
    have f2 := bR.frozen 2
    have f3 := bR.frozen 3
    have f4 := bR.frozen 4
    have f5 := bR.frozen 5
    simp only [List.getElem_toArray, List.getElem_cons_zero, List.getElem_cons_succ] at r0 r1 r2 r3 r4 r5
    have HBW := Lib.hid hbw
    clear hbw
    by_cases hlt : k < l.length
    · obtain ⟨m, hmk⟩ : ∃ m : Nat, l.length = m + k + 1 := ⟨l.length - 1 - k, by omega⟩
      have hzm : z = (m : Int) := by omega
      clear hzk
      subst hzm
      have hml : m < l.length := by omega
      obtain ⟨b, off, rfl, hcc⟩ := hr (by omega)
      obtain ⟨g0, g1, g2, g3, g4, g5⟩ := hcc m hml
      clear hcc
      have hat := fun hx => refLast_at (l := l) (s := s) (t := t) hml hmk (fun j hj hj2 => hno j hj (by omega)) hx
      have hno2 : hitB s t l[m] = false → ∀ j (hj : j < l.length), l.length ≤ j + (k + 1) → hitB s t l[j] = false := fun hf j hj hj2 => by
        by_cases hjm : m = j
        · subst hjm; exact hf
        · exact hno j hj (by omega)
      have Hat := Lib.hid hat
      have Hno := Lib.hid hno2
      have Hm := Lib.hid hmk
      clear hno hno2 hat hmk
      generalize l[m] = x at *
      have ho : x.station ≠ s ∨ x.station = s ∧ (t < x.at_ ∨ x.at_ ≤ t) := by omega
      rcases ho with ho | ⟨ho, h1 | h1⟩
      · have hq : (x.station == s) = false := by simp [ho]
        have hf : hitB s t x = false := by simp [hitB, ho]
        have Hf := Lib.hid (Hno.out hf)
        clear ho hf Hno Hat
        go_wp2
        go_round
        case rel => exact ⟨k + 1, _, by omega, by have := Hm.out; simp; omega, rfl, Hf.out⟩
        case measure => first | (simp [intOf]; done) | (simp [intOf]; omega)
      · have hq : (x.station == s) = true := by simp [ho]
        have hf : hitB s t x = false := by simp [hitB, ho]; omega
        have Hf := Lib.hid (Hno.out hf)
        clear ho hf Hno Hat
        go_wp2
        go_round
        case rel => exact ⟨k + 1, _, by omega, by have := Hm.out; simp; omega, rfl, Hf.out⟩
        case measure => first | (simp [intOf]; done) | (simp [intOf]; omega)
      · have hq : (x.station == s) = true := by simp [ho]
        have hf : hitB s t x = true := by simp [hitB, ho]; omega
        have Hf := Lib.hid (Hat.out hf)
        clear ho hf Hno Hat
        go_wp2
        refine bodyPost_ret (v := .tuple #[x.val, .bool true]) ?_ rfl ?_
        · rw [results_cell_tmp rfl]
          unfold Obs.val
          go_simp
        · rw [Hf.out]
          refine ⟨rfl, ?_⟩
          have hb := HBW.out
          exact ((((((hb.setCell (p := ⟨w.heap.size, 0, none⟩) (Nat.le_refl _) _).setCell (p := ⟨w.heap.size, 1, none⟩) (Nat.le_refl _) _).setCell (p := ⟨w.heap.size, 2, none⟩) (Nat.le_refl _) _).setCell (p := ⟨w.heap.size, 3, none⟩) (Nat.le_refl _) _).setCell (p := ⟨w.heap.size, 4, none⟩) (Nat.le_refl _) _).setCell (p := ⟨w.heap.size, 5, none⟩) (Nat.le_refl _) _)
    · obtain rfl : k = l.length := by omega
      obtain rfl : z = -1 := by omega
      have Hf := Lib.hid (refLast_none fun j hj => hno j hj (by omega))
      clear hno hzk
      go_wp2
      refine bodyPost_ret (v := .tuple #[Obs.zero.val, .bool false]) ?_ rfl ?_
      · rw [results_cell_tmp rfl]
        unfold Obs.val Obs.zero
        go_simp
      · rw [Hf.out]
        refine ⟨rfl, ?_⟩
        have hb := HBW.out
        exact ((((((hb.setCell (p := ⟨w.heap.size, 0, none⟩) (Nat.le_refl _) _).setCell (p := ⟨w.heap.size, 1, none⟩) (Nat.le_refl _) _).setCell (p := ⟨w.heap.size, 2, none⟩) (Nat.le_refl _) _).setCell (p := ⟨w.heap.size, 3, none⟩) (Nat.le_refl _) _).setCell (p := ⟨w.heap.size, 4, none⟩) (Nat.le_refl _) _).setCell (p := ⟨w.heap.size, 5, none⟩) (Nat.le_refl _) _)
end Go.Proofs.Ytjnokdpliocmmaa
