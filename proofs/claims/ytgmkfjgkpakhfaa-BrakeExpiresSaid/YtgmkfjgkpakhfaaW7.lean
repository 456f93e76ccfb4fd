/- Contracts: the reference's Test. -/
import Derived.Test.YtgmkfjgkpakhfaaW6
namespace Go.Proofs.Ytgmkfjgkpakhfaa
open Go.RowKit
set_option linter.unusedVariables false
set_option maxHeartbeats 1000000 in
theorem refTest_any (A : Option Addr) (c : Nat) (l : List Brake) (id m t : Int) (w : World) (hm : l.length ≤ 8) (h : Brakes w A l) (hr0 : rightOf l = 0) :
    Calls Try.prog 14 #[.slice A l.length c, .int .i64 id, .int .i64 m, .int .i64 t] w (TestPost w (testOf l id m t)) := by
  have Hnext := fun (k : Nat) (hk : k < l.length) => Lib.hid (findF_next hr0 hk id)
  have hge := Lib.hid (findF_ge l id)
  have h00 : findF (l.take 0) id = -1 := rfl
  clear hr0
  go_enter Try.func14, Try.ntmps14
  go_wp2
  go_loopw [10, 11] (fun a i wr => ∃ (k : Nat) (q : Int), k ≤ l.length ∧ a = .int .i64 q ∧ i = .int .i64 k ∧ findF (l.take k) id = q ∧ Below w.heap.size w wr) (fun _ i _ => l.length - (intOf i).toNat)
  case atStart => exact ⟨0, -1, Nat.zero_le _, rfl, rfl, h00, Below.refl _ _⟩
  case round =>
    obtain ⟨k, q, hk, rfl, rfl, hq, hb⟩ := hrel
    by_cases hlt : k < l.length
    · have hn := Hnext k hlt
      obtain ⟨b, off, rfl, hc⟩ := h (by omega)
      obtain ⟨h0, h1, h2, h3, h4⟩ := hc k hlt
      have h0' := cell_later hb h0
      clear h0 h1 h2 h3 h4 hc Hnext
      generalize l[k] = x at *
      by_cases hid : x.id = id
      · have hid' : (x.id == id) = true := by simp [hid]
        have hq' := hn.out
        rw [if_pos hid] at hq'
        have Hq := Lib.hid hq'
        clear hq' hq hn hid
        go_wp2
        go_roundw
        case rel => exact ⟨k + 1, (k : Int), by omega, rfl, by go_num, Hq.out, hb⟩
        case measure => simp [intOf]; omega
      · have hid' : (x.id == id) = false := by simp [hid]
        have hq' := hn.out
        rw [if_neg hid] at hq'
        have Hq := Lib.hid (hq'.trans hq)
        clear hq' hq hn hid
        go_wp2
        go_roundw
        case rel => exact ⟨k + 1, q, by omega, rfl, by go_num, Hq.out, hb⟩
        case measure => simp [intOf]; omega
    · have hke : k = l.length := by omega
      subst hke
      rw [List.take_length] at hq
      by_cases hf : q < 0
      · have hr := Lib.hid (testOf_none (m := m) (t := t) (hq ▸ hf))
        clear hq Hnext
        go_wp2
        go_ret2
        rw [hr.out]
        exact ⟨_, _, rfl, Brakes.nil _ _, hb⟩
      · have hgo := hge.out
        rw [hq] at hgo
        obtain ⟨k, rfl⟩ : ∃ k : Nat, q = k := ⟨q.toNat, by omega⟩
        have hkl : k < l.length := by omega
        clear hge hgo Hnext h00 hlt
        by_cases hr : 0 ≤ m ∧ m ≤ 10000000 ∧ 0 ≤ t ∧ t ≤ 20000000
        · have ht := testOf_at hkl hq hr
          obtain ⟨hr1, hr2, hr3, hr4⟩ := hr
          have hbk := h.below hb
          have hsrc := hbk.src
          obtain ⟨b, off, rfl, hc⟩ := hbk (by omega)
          obtain ⟨h0, h1, h2, h3, h4⟩ := hc k hkl
          clear h0 h1 h2 h4 hc hf
          by_cases hlt : t < l[k].tested
          · rw [if_pos hlt] at ht
            have Ht := Lib.hid ht
            clear ht hq
            go_wp2
            go_ret2
            rw [Ht.out]
            exact ⟨_, _, rfl, Brakes.nil _ _, hb⟩
          · rw [if_neg hlt] at ht
            have Ht := Lib.hid ht
            clear ht hq
            have hset := fun W g (hx : Brakes W (some ⟨g, 0, none⟩) l) => Lib.hid (brakes_set hkl m t hx)
            have hsl := Lib.hid (setF_length l k m t)
            have n1 : ([] : List (List Int)).length + (l.map Brake.row).length ≤ maxLen := by simp [maxLen]; omega
            have n2 : (([] : List (List Int)).length + (l.map Brake.row).length) * 40 ≤ 140737488355328 := by simp; omega
            have m1 := Lib.hid (show l.length = (l.map Brake.row).length by simp)
            have t1 := Lib.hid (show ([] : List (List Int)).length + (l.map Brake.row).length = l.length by simp)
            have RL := Lib.hid (Brake.row_len l)
            go_wp2_with (at_builtin; refine wpList_append_rows _ rfl (.const (.slice none 0 0)) (.tmp 50) _ rfl w.heap.size 32 _ 5 40 Try.underlying22 Brake.info rfl (Nat.zero_lt_succ _) _ [] rfl (OwnR.nil _ w.heap.size 32 5) _ _ l.length (l.map Brake.row) rfl m1.out RL.out (by exact hsrc) n1 n2 hb.size l.length (l.map Brake.row) t1.out rfl ?_; intro A1 c1 w1 own1 hg1 hat1)
            have hb1 := Below.ownR hb (OwnR.nil _ w.heap.size 32 5) hg1 (Nat.le_refl _) hb.size
            obtain ⟨g, rfl, hg, hfz⟩ := own1.pos (by omega)
            have hbr := Brakes.of_src own1.src
            obtain ⟨b', off', e', hc'⟩ := hbr (by omega)
            injection e' with e'
            injection e' with e1 e2
            subst e1
            subst e2
            obtain ⟨i0, i1, i2, i3, i4⟩ := hc' k hkl
            simp only [Nat.zero_add] at i3 i4
            have f3 := hfz (k * 5 + 3)
            have f4 := hfz (k * 5 + 4)
            clear i0 i1 i2 hc' hfz own1 hlt hg1 hat1 h3 hsrc hbk
            generalize l[k].tested = u3 at *
            generalize l[k].measured = u4 at *
            have Hset := hset w1 g hbr
            clear hset hbr
            go_wp2
            go_ret2
            rw [Ht.out]
            exact ⟨some ⟨g, 0, none⟩, c1, congrArg (fun n => Ending.returned (.tuple #[.slice (some ⟨g, 0, none⟩) n c1, .int .i64 0])) hsl.out.symm, Hset.out, (hb1.setCell hg _).setCell hg _⟩
        · have hr' := Lib.hid (testOf_range (hq ▸ hf) hr)
          clear hq
          have ho : m < 0 ∨ 0 ≤ m ∧ (10000000 < m ∨ m ≤ 10000000 ∧ (t < 0 ∨ 0 ≤ t ∧ 20000000 < t)) := by omega
          clear hr
          rcases ho with ho | ⟨ho, ho | ⟨ho2, ho | ⟨ho3, ho⟩⟩⟩
          all_goals
            go_wp2
            go_ret2
            rw [hr'.out]
            exact ⟨_, _, rfl, Brakes.nil _ _, hb⟩
end Go.Proofs.Ytgmkfjgkpakhfaa
