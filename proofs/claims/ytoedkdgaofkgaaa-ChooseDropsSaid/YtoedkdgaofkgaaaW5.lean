/- Contracts: subset; slices.Clone of ints. -/
import Derived.Test.YtoedkdgaofkgaaaChecked
import Derived.Test.YtoedkdgaofkgaaaBase
import Derived.Test.YtoedkdgaofkgaaaPlain
namespace Go.Proofs.Ytoedkdgaofkgaaa
open Go.RowKit
set_option linter.unusedVariables false
theorem bitsF_step (g k m : Nat) (h : m ≠ 0) : bitsF (g + 1) k m = if m % 2 = 1 then k :: bitsF g (k + 1) (m / 2) else bitsF g (k + 1) (m / 2) := by
  rw [bitsF, if_neg h]
theorem info3 : (Try.prog.info? 3).map (fun i => (i.zero, i.size, i.bytes)) = some (some (.int .i64 0), 1, 8) := by kernel_rfl
def SliceN (w : World) (l : List Int) (e : Ending) (w' : World) : Prop := ∃ A c, e = .returned (.slice A l.length c) ∧ Ints w' A l ∧ Below w.heap.size w w'
set_option maxHeartbeats 1000000 in
theorem subset_any (f n : Nat) (hf : f ≤ 40) (hn : n < 2 ^ f) (w : World) : Calls Try.prog 27 #[.int .i64 n] w (SliceN w (ints (bitsF f 0 n))) := by
  have hn40 : n < 2 ^ 40 := Nat.lt_of_lt_of_le hn (Nat.pow_le_pow_right (by omega) hf)
  have hbig : n < 1099511627776 := by simpa using hn40
  clear hn40
  have Hn := Lib.hid hn; clear hn
  go_enter Try.func27, Try.ntmps27
  go_wp2
  go_loopw [0, 3, 4] (fun a v i wr => ∃ (m k g : Nat) (done : List Nat), a = .int .i64 m ∧ i = .int .i64 k ∧ k + g = f ∧ m < 2 ^ g ∧ m < 1099511627776 ∧ bitsF f 0 n = done ++ bitsF g k m ∧ done.length ≤ k ∧ OwnI wr w.heap.size 3 v (ints done) ∧ Below w.heap.size w wr) (fun a _ _ _ => (intOf a).toNat)
  case atStart => exact ⟨n, 0, f, [], rfl, rfl, by omega, Hn.out, hbig, rfl, by simp, OwnI.nil _ _ _, Below.refl _ _⟩
  case round =>
    obtain ⟨m, k, g, done, rfl, rfl, hkg, hm, hm40, he, hdl, hown, hb⟩ := hrel
    have He := Lib.hid he; clear he
    have Hm := Lib.hid hm; clear hm
    have Hkg := Lib.hid hkg; clear hkg
    by_cases h0 : 0 < m
    · have hg : ∃ g', g = g' + 1 := by
        cases g with
        | zero => have := Hm.out; simp at this; omega
        | succ g => exact ⟨g, rfl⟩
      obtain ⟨g, rfl⟩ := hg
      have hm2 : m / 2 < 2 ^ g := by have := Hm.out; rw [Nat.pow_succ] at this; omega
      have Hm2 := Lib.hid hm2; clear hm2 
      have hb1 := He.out
      rw [bitsF_step _ _ _ (by omega)] at hb1
      have hk40 : k < 40 := by have := Hkg.out; omega
      by_cases h1 : m % 2 = 1
      · rw [if_pos h1] at hb1
        have Hb1 := Lib.hid hb1; clear hb1
        have h1b : ((m : Int) % 2 == 1) = true := by simp; omega
        have H1 := Lib.hid h1; clear h1
        go_wp2_with (at_builtin; go_loud (refine wpList_push w wr rfl (.tmp 12) (.tmp 14) _ rfl w.heap.size 3 Try.underlying27 info3 _ (ints done) rfl (by exact hown) (k : Int) rfl (by exact hb) (by rw [ints_length]; omega) hb.size ?_); intro g1 cap1 w1 hown1 hbw hg1 hat1)
        clear hg1 hat1 hown
        go_wp2
        go_roundw
        case rel => exact ⟨m / 2, k + 1, g, done ++ [k], by go_num, by go_num, by have := Hkg.out; omega, Hm2.out, by omega, by rw [Hb1.out]; simp, by simp; omega, by rw [ints_append]; exact hown1, hbw⟩
        case measure => simp [intOf]; omega
      · rw [if_neg h1] at hb1
        have Hb1 := Lib.hid hb1; clear hb1
        have h1b : ((m : Int) % 2 == 1) = false := by simp; omega
        have H1 := Lib.hid h1; clear h1
        go_wp2
        go_roundw
        case rel => exact ⟨m / 2, k + 1, g, done, by go_num, by go_num, by have := Hkg.out; omega, Hm2.out, by omega, Hb1.out, by omega, hown, hb⟩
        case measure => simp [intOf]; omega
    · have hm0 : m = 0 := by omega
      subst hm0
      have hb1 := He.out
      rw [bitsF_zero, List.append_nil] at hb1
      have Hb1 := Lib.hid hb1; clear hb1
      obtain ⟨A, c, rfl, hi⟩ := hown.form
      go_wp2
      go_ret
      rw [Hb1.out]
      exact ⟨A, c, rfl, hi, hb⟩
end Go.Proofs.Ytoedkdgaofkgaaa
