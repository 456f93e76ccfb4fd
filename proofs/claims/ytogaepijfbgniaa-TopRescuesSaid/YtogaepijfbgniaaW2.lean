/- Contracts: Right (both), right. -/
import Derived.Test.YtogaepijfbgniaaW1
import Derived.Test.YtogaepijfbgniaaAbove
import Derived.Deep.DeepCutAuto
namespace Go.Proofs.Ytogaepijfbgniaa
open Go.RowKit Go.Shelf
set_option linter.unusedVariables false
theorem sec_out (x : Sec) : x.id < 1 ∨ 1 ≤ x.id ∧ (9999 < x.id ∨ x.id ≤ 9999 ∧ (x.people < 0 ∨ 0 ≤ x.people ∧ (1000 < x.people ∨ x.people ≤ 1000 ∧ (x.seconds < 1 ∨ 1 ≤ x.seconds ∧ (86400 < x.seconds ∨ x.seconds ≤ 86400))))) := by omega
theorem twice_succ {l : List Sec} {k : Nat} (hk : k < l.length) (x : Sec) : twice (l.take (k + 1)) x = (twice (l.take k) x || (l[k].id == x.id)) := by
  unfold twice
  rw [List.take_succ_eq_append_getElem hk, List.any_append]
  simp
theorem twice_mono {l : List Sec} {x : Sec} {j k : Nat} (hjk : j ≤ k) (h : twice (l.take j) x = true) : twice (l.take k) x = true := by
  unfold twice at *
  rw [List.any_eq_true] at *
  obtain ⟨y, hy, hp⟩ := h
  refine ⟨y, ?_, hp⟩
  rw [show l.take j = (l.take k).take j by rw [List.take_take, Nat.min_eq_left hjk]] at hy
  exact List.mem_of_mem_take hy
set_option maxHeartbeats 8000000 in
set_option maxRecDepth 100000 in
theorem refRight_any (A : Option Addr) (c : Nat) (l : List Sec) (w : World) (hm : l.length ≤ 1000000000000000) (h : Secs w A l) : Calls Try.prog 5 #[.slice A l.length c] w fun e w' => e = .returned (.int .i64 (rightOf l)) ∧ Below w.heap.size w w' := by
  by_cases hl : l.length ≤ 8
  · have hro : rightOf l = rightGo [] l := by rw [rightOf, if_neg (by omega)]
    have Hro := Lib.hid hro
    clear hro
    go_enter Try.func5, Try.ntmps5
    go_wp2
    go_loopw [3] (fun i wr => ∃ (k : Nat), k ≤ l.length ∧ i = .int .i64 k ∧ rightGo [] l = rightGo (l.take k) (l.drop k) ∧ Below w.heap.size w wr) (fun i _ => l.length - (intOf i).toNat)
    case atStart => exact ⟨0, Nat.zero_le _, rfl, rfl, Below.refl _ _⟩
    case round =>
      obtain ⟨k, hk, rfl, he, hb⟩ := hrel
      by_cases hlt : k < l.length
      · rw [rightGo_step hlt] at he
        obtain ⟨b, off, rfl, hc⟩ := h (by omega)
        obtain ⟨h0, h1, h2⟩ := hc k hlt
        have h0' := cell_later hb h0
        have h1' := cell_later hb h1
        have h2' := cell_later hb h2
        clear h0 h1 h2
        have HC := Lib.hid hc
        clear hc
        generalize hx : l[k] = x at *
        clear hx
        go_upto_region 6 with (fail)
        go_cut [59] (fun s wx => s = .bool (!inR x) ∧ wr = wx)
        case first =>
          have ho := sec_out x
          have hd : ∀ b, decide (1 ≤ x.id ∧ x.id ≤ 9999 ∧ 0 ≤ x.people ∧ x.people ≤ 1000 ∧ 1 ≤ x.seconds ∧ x.seconds ≤ 86400) = b → inR x = b := fun b h => h
          have Hd := Lib.hid hd
          clear hd he HC h
          rcases ho with ho | ⟨q0, ho | ⟨q1, ho | ⟨q2, ho | ⟨q3, ho | ⟨q4, ho | ho⟩⟩⟩⟩⟩
          all_goals
            go_wp2
            go_meet
            exact ⟨by first | (rw [Hd.out false (by simp; omega)]; first | done | (simp; done) | (simp; omega)) | (rw [Hd.out true (by simp; omega)]; first | done | (simp; done) | (simp; omega)), rfl⟩
        case rest =>
        obtain ⟨rfl, rfl⟩ := hcut
        clear h1' h2'
        cases hi : inR x
        · rw [errAt, hi] at he
          have He := Lib.hid he
          clear he hi
          go_wp2
          go_ret
          refine ⟨?_, hb⟩
          rw [Hro.out, He.out]; rfl
        · rw [errAt, hi] at he
          have He := Lib.hid he
          clear he hi
          go_wp2_with fail
          go_loopw [4] (fun i wx => ∃ (j n : Nat), j ≤ k ∧ i = .int .i64 j ∧ twice (l.take j) x = false ∧ wx = wr.drewN n) (fun i _ => k - (intOf i).toNat)
          case atStart => exact ⟨0, 0, Nat.zero_le _, rfl, rfl, rfl⟩
          case round =>
            obtain ⟨j, n, hj, rfl, htw, rfl⟩ := hrel
            by_cases hlj : j < k
            · have hsu := @twice_succ l j (by omega) x
              rw [htw, Bool.false_or] at hsu
              obtain ⟨g0, g1, _⟩ := HC.out j (by omega)
              replace g0 := cell_later hb g0
              clear g1
              have hmono := fun (h : twice (l.take (j + 1)) x = true) => twice_mono (l := l) (x := x) (j := j + 1) (k := k) (by omega) h
              have Hmono := Lib.hid hmono
              have Hsu := Lib.hid hsu
              have hji : (j : Int) < (l.length : Int) := by omega
              have hj0 : (0 : Int) ≤ (j : Int) := by omega
              clear hsu hmono htw
              generalize l[j].id = qi at *
              cases hh : (qi == x.id)
              · have hT : Hid (twice (l.take (j + 1)) x = false) := Lib.hid (by rw [Hsu.out, hh])
                clear Hmono Hsu
                go_wp2_with fail
                go_quiet (fail)
                go_wp2
                go_roundw
                case rel => exact ⟨j + 1, _, by omega, by go_num, hT.out, rfl⟩
                case measure => simp [intOf]; omega
              · have hT := Hmono.out (by rw [Hsu.out, hh])
                rw [hT] at He
                clear hT Hmono Hsu
                go_wp2_with fail
                go_quiet (fail)
                go_wp2
                go_ret
                refine ⟨?_, below_dn (below_dn hb _) _⟩
                rw [Hro.out, He.out]; rfl
            · have hje : j = k := by omega
              subst hje
              rw [htw] at He
              clear htw
              go_wp2
              go_roundw
              case rel => exact ⟨j + 1, by omega, by go_num, He.out, below_dn hb _⟩
              case measure => simp [intOf]; omega
      · have hke : k = l.length := by omega
        subst hke
        rw [rightGo_end] at he
        have He := Lib.hid he
        clear he
        go_wp2
        go_ret
        exact ⟨by rw [Hro.out, He.out]; rfl, hb⟩
  · go_enter Try.func5, Try.ntmps5
    go_wp2
    go_ret
    exact ⟨by rw [rightOf, if_pos (by omega)]; rfl, Below.refl _ _⟩
end Go.Proofs.Ytogaepijfbgniaa
