/- Contracts: Bound (both). -/
import Derived.Test.YtogaepijfbgniaaW12
namespace Go.Proofs.Ytogaepijfbgniaa
open Go.RowKit Go.Deep Go.Shelf
set_option linter.unusedVariables false
theorem up_nat (S T : Nat) : upS (S : Int) (T : Int) = if S % T = 0 then ((S / T : Nat) : Int) else ((S / T : Nat) : Int) + 1 := by
  unfold upS
  have h1 : (S : Int) % (T : Int) = ((S % T : Nat) : Int) := by push_cast; rfl
  have h2 : (S : Int) / (T : Int) = ((S / T : Nat) : Int) := by push_cast; rfl
  rw [h1, h2]
  by_cases h : S % T = 0
  · rw [if_pos h, if_pos (by omega)]
  · rw [if_neg h, if_neg (by omega)]
theorem Bound_out (A : Option Addr) (c n : Nat) (t : Int) (ht : t < 1) (w : World) : Calls Try.prog 9 #[.slice A n c, .int .i64 t] w fun e w' => e = .returned (.int .i64 0) ∧ Below w.heap.size w w' := by
  go_enter Try.func9, Try.ntmps9
  go_wp2
  go_ret
  exact ⟨rfl, Below.refl _ _⟩
set_option maxHeartbeats 4000000 in
theorem Bound_pos (A : Option Addr) (c : Nat) (l : List Sec) (T : Nat) (hT : 1 ≤ T) (hTI : T ≤ 9223372036854775807) (hl : l.length ≤ 8) (hs : ∀ x ∈ l, 1 ≤ x.seconds ∧ x.seconds ≤ 86400) (w : World) (hS : Secs w A l) :
    Calls Try.prog 9 #[.slice A l.length c, .int .i64 (T : Int)] w fun e w' => e = .returned (.int .i64 (boundOf l T)) ∧ Below w.heap.size w w' := by
  have q1 := Lib.hid (helpless_any A c l w (by omega) hS)
  have hnl := need_length l
  have hn8 : (needOf l).length ≤ 8 := by omega
  have hns := need_mem hs
  have hv : boundOf l T = mx (mostS (needOf l)) (upS (sumS (needOf l)) T) := if_neg (by omega)
  have HV := Lib.hid hv
  clear hs hnl hv
  go_enter Try.func9, Try.ntmps9
  go_wp2_with fail
  refine q1.out.mono ?_
  rintro e w1 ⟨A1, c1, rfl, hc1, hN, hb1⟩
  clear q1 hS
  generalize needOf l = h at *
  go_wp2_with fail
  go_loopw [5, 6, 15] (fun m s i wr => ∃ k : Nat, k ≤ h.length ∧ i = .int .i64 k ∧ m = .int .i64 (mostS (h.take k)) ∧ s = .int .i64 (sumS (h.take k)) ∧ Below w1.heap.size w1 wr) (fun _ _ i _ => h.length - (intOf i).toNat)
  case atStart => exact ⟨0, Nat.zero_le _, rfl, rfl, rfl, Below.refl _ _⟩
  case round =>
    obtain ⟨k, hk, rfl, rfl, rfl, hb⟩ := hrel
    by_cases hlt : k < h.length
    · have hok := sum_ok hns k hk
      have hpx := hns _ (List.getElem_mem hlt)
      have Hsu := Lib.hid (sum_succ hlt)
      have Hmo := Lib.hid (most_succ hlt)
      obtain ⟨b, off, rfl, g0, g1, g2⟩ := (hN.below hb).at hlt
      generalize h[k] = x at *
      generalize sumS (h.take k) = n at *
      generalize mostS (h.take k) = mo at *
      have hkl : (k : Int) < (h.length : Int) := by omega
      have hadw : IntKind.i64.wrap (n + x.seconds) = n + x.seconds := IntWalk.i64_in _ (by omega)
      have hbw := hb.alloc hb.size (.cells #[.int .i64 x.id, .int .i64 x.people, .int .i64 x.seconds] 33)
      go_wp2
      go_roundw
      case rel => exact ⟨k + 1, by omega, by go_num, by rw [Hmo.out]; rfl, by rw [Hsu.out], hbw⟩
      case measure => simp [intOf]; omega
    · have hke : k = h.length := by omega
      subst hke
      rw [List.take_length]
      have hok := sum_ok hns h.length (Nat.le_refl _)
      rw [List.take_length] at hok
      have hbz := hb1.trans (hb.mono hb1.size)
      generalize sumS h = s at *
      generalize mostS h = mo at *
      obtain ⟨S, rfl⟩ := Int.eq_ofNat_of_zero_le hok.1
      have hS1 : S ≤ 86400 * h.length := by omega
      rw [up_nat] at HV
      have hw0 : IntKind.i64.wrap ((S : Int) % (T : Int)) = ((S % T : Nat) : Int) := by
        have := Nat.mod_le S T
        rw [show (S : Int) % (T : Int) = ((S % T : Nat) : Int) by push_cast; rfl]
        generalize S % T = z at *
        exact IntWalk.i64_in _ (by omega)
      have hw2 : IntKind.i64.wrap ((S : Int) / (T : Int)) = ((S / T : Nat) : Int) := by
        have := Nat.div_le_self S T
        rw [show (S : Int) / (T : Int) = ((S / T : Nat) : Int) by push_cast; rfl]
        generalize S / T = z at *
        exact IntWalk.i64_in _ (by omega)
      have hd := Nat.div_le_self S T
      clear hb hN hok
      have e2 : ((S / T : Nat) : Int) = (S : Int) / (T : Int) := by push_cast; rfl
      have hz0 : 0 ≤ (S : Int) / (T : Int) ∧ (S : Int) / (T : Int) ≤ 86400 * 8 := by rw [← e2]; generalize S / T = z at *; omega
      have HZ := Lib.hid hz0
      rw [e2] at HV
      have hw3 : IntKind.i64.wrap ((S : Int) / (T : Int)) = (S : Int) / (T : Int) := by rw [hw2, e2]
      clear e2 hw2 hz0
      by_cases hz : S % T = 0
      · rw [if_pos hz] at HV
        have hz1 : (((S % T : Nat) : Int) != 0) = false := by rw [hz]; rfl
        clear hz
        go_wp2
        all_goals
          go_ret
          refine ⟨?_, hbz⟩
          rw [HV.out]
          unfold mx
          first | (rw [if_pos h]; rfl) | (rw [if_neg (by omega)]; rfl)
      · rw [if_neg hz] at HV
        have hz1 : (((S % T : Nat) : Int) != 0) = true := by simp; omega
        clear hz
        go_wp2
        all_goals
          have hw4 : wrap64 ((S : Int) / (T : Int) + 1) = (S : Int) / (T : Int) + 1 := w64 _ (by have := HZ.out; generalize (S : Int) / (T : Int) = z at *; omega)
          rw [hw4] at h ⊢
          go_ret
          refine ⟨?_, hbz⟩
          rw [HV.out]
          unfold mx
          first | (rw [if_pos h]; rfl) | (rw [if_neg (by generalize (S : Int) / (T : Int) = z at *; omega)]; rfl)
end Go.Proofs.Ytogaepijfbgniaa
