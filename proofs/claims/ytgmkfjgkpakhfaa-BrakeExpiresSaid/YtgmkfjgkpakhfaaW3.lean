/- Contract: the reference's Right. -/
import Derived.Test.YtgmkfjgkpakhfaaTypes
import Derived.Deep.QuietTactic
import Derived.BigQuiet
import Derived.Deep.DeepCutAuto
namespace Go.Proofs.Ytgmkfjgkpakhfaa
open Go.RowKit
set_option linter.unusedVariables false
theorem findF_take_found {l : List Brake} {k j : Nat} {id : Int} (hj : j < k) (hjl : j < l.length) (he : l[j].id = id) : ¬ findF (l.take k) id < 0 := by
  intro h
  have := findF_neg.1 h l[j] (by rw [List.mem_take_iff_getElem]; exact ⟨j, by omega, rfl⟩)
  exact this he
set_option maxRecDepth 100000 in
set_option maxHeartbeats 2000000 in
theorem refRight_any (A : Option Addr) (c : Nat) (l : List Brake) (w : World) (hm : l.length ≤ 1000000000000000) (h : Brakes w A l) : Calls Try.prog 12 #[.slice A l.length c] w fun e w' => e = .returned (.int .i64 (rightOf l)) ∧ Below w.heap.size w w' := by
  by_cases hl : l.length ≤ 8
  · have hro : rightOf l = rightGo [] l := by rw [rightOf, if_neg (by omega)]
    have Hro := Lib.hid hro
    clear hro
    have H0 := Lib.hid h
    go_enter Try.func12, Try.ntmps12
    go_wp2
    go_loopw [3] (fun i wr => ∃ k : Nat, k ≤ l.length ∧ i = .int .i64 k ∧ rightGo [] l = rightGo (l.take k) (l.drop k) ∧ Below w.heap.size w wr) (fun i _ => l.length - (intOf i).toNat)
    case atStart => exact ⟨0, Nat.zero_le _, rfl, rfl, Below.refl _ _⟩
    case round =>
      obtain ⟨k, hk, rfl, he, hb⟩ := hrel
      by_cases hlt : k < l.length
      · rw [rightGo_step hlt] at he
        obtain ⟨b, off, rfl, hc⟩ := h (by omega)
        obtain ⟨h0, h1, h2, h3, h4⟩ := hc k hlt
        have h0' := cell_later hb h0
        have h1' := cell_later hb h1
        have h2' := cell_later hb h2
        have h3' := cell_later hb h3
        have h4' := cell_later hb h4
        have hids := fun j (hj : j < l.length) => (hc j hj).1
        have Hids := Lib.hid hids
        clear h0 h1 h2 h3 h4 hc hids
        have hfound : ∀ (id : Int) (j : Nat), j < k → ∀ (hjl : j < l.length), l[j].id = id → ¬ findF (l.take k) id < 0 := fun id j => findF_take_found
        have Hfound := Lib.hid hfound
        clear hfound
        generalize hx : l[k] = x at *
        clear hx
        have He := Lib.hid he
        clear he
        go_upto_region 7 with (fail)
        have wb := hb.alloc hb.size (.cells #[.int .i64 x.id, .int .i64 x.kind, .int .i64 x.force, .int .i64 x.tested, .int .i64 x.measured] 32)
        have d0 : (wr.alloc (.cells #[.int .i64 x.id, .int .i64 x.kind, .int .i64 x.force, .int .i64 x.tested, .int .i64 x.measured] 32)).cell? ⟨wr.heap.size, 0, none⟩ = some (.int .i64 x.id) := by go_simp
        have d1 : (wr.alloc (.cells #[.int .i64 x.id, .int .i64 x.kind, .int .i64 x.force, .int .i64 x.tested, .int .i64 x.measured] 32)).cell? ⟨wr.heap.size, 1, none⟩ = some (.int .i64 x.kind) := by go_simp
        have d2 : (wr.alloc (.cells #[.int .i64 x.id, .int .i64 x.kind, .int .i64 x.force, .int .i64 x.tested, .int .i64 x.measured] 32)).cell? ⟨wr.heap.size, 2, none⟩ = some (.int .i64 x.force) := by go_simp
        have d3 : (wr.alloc (.cells #[.int .i64 x.id, .int .i64 x.kind, .int .i64 x.force, .int .i64 x.tested, .int .i64 x.measured] 32)).cell? ⟨wr.heap.size, 3, none⟩ = some (.int .i64 x.tested) := by go_simp
        have d4 : (wr.alloc (.cells #[.int .i64 x.id, .int .i64 x.kind, .int .i64 x.force, .int .i64 x.tested, .int .i64 x.measured] 32)).cell? ⟨wr.heap.size, 4, none⟩ = some (.int .i64 x.measured) := by go_simp
        generalize wr.alloc (.cells #[.int .i64 x.id, .int .i64 x.kind, .int .i64 x.force, .int .i64 x.tested, .int .i64 x.measured] 32) = w0 at *
        clear h0' h1' h2' h3' h4'
        go_cut [76] (fun s wx => s = .bool (!inR x) ∧ wx = w0)
        case first =>
          go_wp2
          all_goals
            go_meet
            refine ⟨?_, rfl⟩
            congr 1
            symm
            rw [Bool.eq_iff_iff]
            simp only [inR, Bool.not_eq_true', decide_eq_false_iff_not, Bool.or_eq_true, decide_eq_true_eq, bne_iff_ne, ne_eq, iff_true]
            omega
        case rest =>
          obtain ⟨rfl, rfl⟩ := hcut
          clear d1 d2 d3 d4
          have Hcell := Lib.hid d0
          clear d0
          cases hi : inR x
          · have h2 := He.out
            rw [hi] at h2
            have H2 := Lib.hid h2
            clear hi h2 He
            go_wp2
            go_ret
            exact ⟨by rw [Hro.out, H2.out]; rfl, wb⟩
          · have h2 := He.out
            rw [hi, if_pos rfl] at h2
            have H2 := Lib.hid h2
            clear hi h2 He
            go_wp2
            go_loopw [5] (fun i wq => ∃ j n : Nat, j ≤ k ∧ i = .int .i64 j ∧ (∀ y ∈ l.take j, y.id ≠ x.id) ∧ wq = wc.drewN n) (fun i _ => k - (intOf i).toNat)
            case atStart => exact ⟨0, 0, Nat.zero_le _, rfl, fun y hy => by simp at hy, rfl⟩
            case round =>
              obtain ⟨j, n, hjk, rfl, hno, rfl⟩ := hrel
              have Hno := Lib.hid hno
              clear hno
              by_cases hj : j < k
              · have hjl : j < l.length := by omega
                have hidj := cell_later wb (Hids.out j hjl)
                have hid0 := Hcell.out
                have hf := Hfound.out x.id j hj hjl
                have Hf := Lib.hid hf
                clear hf
                have htk : l.take (j + 1) = l.take j ++ [l[j]] := List.take_succ_eq_append_getElem hjl
                have Htk := Lib.hid htk
                clear htk
                generalize l[j] = y at *
                by_cases hy : y.id = x.id
                · have hy' : (y.id == x.id) = true := by simp [hy]
                  have Hy := Lib.hid hy
                  clear hy
                  go_wp2_with fail
                  go_quiet (fail)
                  go_wp2
                  go_ret
                  refine ⟨?_, below_dn (below_dn wb _) _⟩
                  have h2 := H2.out
                  have h3 := Hf.out Hy.out
                  rw [if_neg (by omega)] at h2
                  rw [Hro.out, h2]; rfl
                · have hy' : (y.id == x.id) = false := by simp [hy]
                  have Hy := Lib.hid hy
                  clear hy
                  go_wp2_with fail
                  go_quiet (fail)
                  go_wp2
                  go_roundw
                  case rel =>
                    refine ⟨j + 1, _, by omega, by go_num, ?_, rfl⟩
                    rw [Htk.out]
                    intro z hz
                    rcases List.mem_append.1 hz with h | h
                    · exact Hno.out z h
                    · simp at h; subst h; exact Hy.out
                  case measure => simp [intOf]; omega
              · have hjk' : j = k := by omega
                subst hjk'
                have h2 := H2.out
                rw [if_pos (findF_neg.2 Hno.out)] at h2
                have H3 := Lib.hid h2
                clear h2 H2
                go_wp2
                go_roundw
                case rel => exact ⟨j + 1, by omega, by go_num, H3.out, below_dn wb _⟩
                case measure => simp [intOf]; omega
      · have hke : k = l.length := by omega
        subst hke
        rw [rightGo_end] at he
        have He := Lib.hid he
        clear he
        go_wp2
        go_ret
        exact ⟨by rw [Hro.out, He.out]; rfl, hb⟩
  · go_enter Try.func12, Try.ntmps12
    go_wp2
    go_ret
    exact ⟨by rw [rightOf, if_pos (by omega)]; rfl, Below.refl _ _⟩
end Go.Proofs.Ytgmkfjgkpakhfaa
