/- Contracts: the reference's Need; Fits (both). -/
import Derived.Test.YtoedkdgaofkgaaaW2
import Derived.Deep.QuietTactic
import Derived.BigQuiet
namespace Go.Proofs.Ytoedkdgaofkgaaa
open Go.RowKit
set_option linter.unusedVariables false
set_option maxHeartbeats 1000000 in
theorem refNeed_any (A C : Option Addr) (c d : Nat) (l : List Item) (ch : List Int) (w : World) (hm : l.length ≤ 1000000000000000) (hl : itemsB l = true) (hn : ch.length ≤ 40) (h : Items w A l) (hi : Ints w C ch) :
    Calls Try.prog 15 #[.slice A l.length c, .slice C ch.length d] w fun e w' => e = .returned (NeedV (needOf l ch)) ∧ ∃ n, w' = w.drewN n := by
  go_enter Try.func15, Try.ntmps15
  go_wp2
  go_loopw [8, 9, 10, 11] (fun x y z i wr => ∃ (k m : Nat) (a b v : Int), k ≤ ch.length ∧ x = .int .i64 a ∧ y = .int .i64 b ∧ z = .int .i64 v ∧ i = .int .i64 k ∧ NeedAt l ch k a b v ∧ wr = w.drewN m) (fun _ _ _ i _ => ch.length - (intOf i).toNat)
  case atStart => exact ⟨0, 0, 0, 0, 0, Nat.zero_le _, rfl, rfl, rfl, rfl, NeedAt.start l ch, rfl⟩
  case round =>
    obtain ⟨k, m, a, b, v, hk, rfl, rfl, rfl, rfl, hat, rfl⟩ := hrel
    have bx := hat.bx
    have by_ := hat.by_
    have bz := hat.bz
    by_cases hlt : k < ch.length
    · obtain ⟨bC, oC, rfl, hcC⟩ := hi (by omega)
      have hck := hcC k hlt
      have hbad := NeedAt.bad hat hlt
      have hnext := NeedAt.next hl hat hlt
      have Hb := Lib.hid hbad; clear hbad
      have Hn := Lib.hid hnext; clear hnext
      by_cases h0 : ch[k] < 0
      · have hx := Lib.hid (Hb.out (okAt_not hlt (.inl h0)))
        clear Hb Hn hcC h hat
        generalize ch[k] = q at *
        go_wp2
        refine bodyPost_ret (results_tmp4 rfl _ _ _) rfl ⟨?_, _, rfl⟩
        rw [hx.out]; rfl
      by_cases h1 : (l.length : Int) ≤ ch[k]
      · have hx := Lib.hid (Hb.out (okAt_not hlt (.inr (.inl h1))))
        clear Hb Hn hcC h hat
        generalize ch[k] = q at *
        go_wp2
        refine bodyPost_ret (results_tmp4 rfl _ _ _) rfl ⟨?_, _, rfl⟩
        rw [hx.out]; rfl
      obtain ⟨j, hj⟩ := Int.eq_ofNat_of_zero_le (by omega : 0 ≤ ch[k])
      have hjl : j < l.length := by omega
      obtain ⟨bA, oA, rfl, hcA⟩ := h (by omega)
      obtain ⟨ha0, ha1, ha2⟩ := hcA j hjl
      have hbd := itemB_bd (itemB_of hl j hjl)
      by_cases hk0 : 0 < k
      · have hcp := hcC (k - 1) (by omega)
        have e1 : oC + (k - 1) = oC + (k - 1) := rfl
        by_cases h2 : ch[k] ≤ ch[k-1]
        · have hx := Lib.hid (Hb.out (okAt_not hlt (.inr (.inr ⟨hk0, h2⟩))))
          clear Hb Hn hcC hcA hat
          have h2' : ch[k] ≤ ch[k-1] := h2
          generalize ch[k-1] = q1 at *
          generalize ch[k] = q at *
          clear hj
          go_wp2
          refine bodyPost_ret (results_tmp4 rfl _ _ _) rfl ⟨?_, _, rfl⟩
          rw [hx.out]; rfl
        · have hx := Lib.hid (Hn.out (okAt_of hlt (by omega) (by omega) (fun _ => by omega)) j hj hjl)
          clear Hb Hn hcC hcA hat
          rw [hj] at hck
          have h2' : ch[k-1] < (j : Int) := by omega
          clear h2 h1 h0 hj
          generalize ch[k-1] = q1 at *
          go_wp2
          go_quiet (fail)
          go_wp2
          go_roundw
          case rel => exact ⟨k + 1, _, _, _, _, by omega, rfl, rfl, rfl, by go_num, hx.out, rfl⟩
          case measure => simp [intOf]; omega
      · have hk00 : k = 0 := by omega
        have hx := Lib.hid (Hn.out (okAt_of hlt (by omega) (by omega) (fun _ => by omega)) j hj hjl)
        clear Hb Hn hcC hcA hat
        rw [hj] at hck
        clear h1 h0 hj
        have hk00' := Lib.hid hk00; clear hk00
        go_wp2
        go_quiet (fail)
        go_wp2
        go_roundw
        case rel => exact ⟨k + 1, _, _, _, _, by omega, rfl, rfl, rfl, by go_num, hx.out, rfl⟩
        case measure => simp [intOf]; omega
    · have : k = ch.length := by omega
      subst this
      have hd := Lib.hid hat.done
      clear hat
      go_wp2
      refine bodyPost_ret (results_tmp4 rfl _ _ _) rfl ⟨?_, _, rfl⟩
      rw [hd.out]; rfl

theorem needOf_bd {l : List Item} (hl : itemsB l = true) (ch : List Int) : True := trivial
set_option maxHeartbeats 400000 in
theorem Fits_any (A C : Option Addr) (c d : Nat) (l : List Item) (ch : List Int) (a b : Int) (w : World) (hm : l.length ≤ 1000000000000000) (hl : itemsB l = true) (hn : ch.length ≤ 40) (h : Items w A l) (hi : Ints w C ch) :
    Calls Try.prog 16 #[.slice A l.length c, .slice C ch.length d, .int .i64 a, .int .i64 b] w fun e w' => e = .returned (.bool (fitsOf l ch a b)) ∧ w = w' := by
  have hneed := Lib.hid (Need_any A C c d l ch w hm hl hn h hi)
  rcases hq : needOf l ch with ⟨x, y, z, ok⟩
  have hf : fitsOf l ch a b = (ok && decide (x ≤ a) && decide (y ≤ b)) := by simp [fitsOf, hq]
  rw [hf]
  rw [hq] at hneed
  clear hf hq
  cases ok <;> by_cases h1 : x ≤ a <;> by_cases h2 : y ≤ b
  all_goals
    go_enter Try.func16, Try.ntmps16
    go_wp2_with (go_at_call 14; refine (hneed.out).mono ?_; rintro e w' ⟨rfl, rfl⟩; unfold NeedV)
    go_ret
    exact ⟨by simp [*], rfl⟩
end Go.Proofs.Ytoedkdgaofkgaaa
