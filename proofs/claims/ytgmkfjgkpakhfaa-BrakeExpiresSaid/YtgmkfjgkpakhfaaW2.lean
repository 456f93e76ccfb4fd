/- Contracts: inRange, find, Right (both). -/
import Derived.Test.YtgmkfjgkpakhfaaW1
namespace Go.Proofs.Ytgmkfjgkpakhfaa
open Go.RowKit
set_option linter.unusedVariables false
theorem inR_eq (id kind force tested measured : Int) : inR ⟨id, kind, force, tested, measured⟩ = (inW id 1 9999 && (decide (kind = 0) || decide (kind = 1)) && inW force 1 10000000 && inW tested (-1) 20000000 && inW measured 0 10000000 && (!decide (tested = -1) || decide (measured = 0))) := by
  rw [Bool.eq_iff_iff]
  simp [inR, inW]
  omega
set_option maxHeartbeats 1000000 in
theorem inRange_any (x : Brake) (w : World) : Calls Try.prog 26 #[x.val] w fun e w' => e = .returned (.bool (inR x)) ∧ Below w.heap.size w w' := by
  obtain ⟨id, kind, force, tested, measured⟩ := x
  rw [inR_eq]
  unfold Brake.val
  simp only
  go_enter Try.func26, Try.ntmps26
  go_wp2_with (go_at_call 28; refine (within_any _ _ _ _).mono ?_; rintro e w' ⟨rfl, rfl⟩)
  all_goals
    go_ret
    exact ⟨by first | (simp_all; done) | (simp_all; rfl), below_alloc _ _⟩
theorem find1_any (x : Brake) (id : Int) (p : Nat) (w : World) (hp : w.cell? ⟨p, 0, none⟩ = some (.int .i64 id)) : Calls Try.prog 33 #[x.val, .pointer (some ⟨p, 0, none⟩)] w fun e w' => e = .returned (.bool (x.id == id)) ∧ Below w.heap.size w w' := by
  have hlt := World.block_lt_of_cell? _ _ hp
  simp only at hlt
  have hp' : (w.alloc (.cells #[.int .i64 x.id, .int .i64 x.kind, .int .i64 x.force, .int .i64 x.tested, .int .i64 x.measured] 32)).cell? ⟨p, 0, none⟩ = some (.int .i64 id) := cell_later (below_alloc _ _) hp
  unfold Brake.val
  go_enter Try.func33, Try.ntmps33
  go_wp2
  go_ret
  exact ⟨rfl, below_alloc _ _⟩
set_option maxHeartbeats 1000000 in
theorem IndexFunc_any (A : Option Addr) (c : Nat) (l : List Brake) (id : Int) (p : Nat) (w : World) (hm : l.length ≤ 1000000000000000) (h : Brakes w A l) (hp : w.cell? ⟨p, 0, none⟩ = some (.int .i64 id)) :
    Calls Try.prog 32 #[.slice A l.length c, .func (Fn.func 33) #[] #[.pointer (some ⟨p, 0, none⟩)]] w fun e w' => e = .returned (.int .i64 (findF l id)) ∧ Below w.heap.size w w' := by
  go_enter Try.func32, Try.ntmps32
  go_wp2
  go_loopw [8] (fun i wr => ∃ k : Nat, k ≤ l.length ∧ i = .int .i64 k ∧ (∀ x ∈ l.take k, x.id ≠ id) ∧ Below w.heap.size w wr) (fun i _ => l.length - (intOf i).toNat)
  case atStart => exact ⟨0, Nat.zero_le _, rfl, fun x hx => by simp at hx, Below.refl _ _⟩
  case round =>
    obtain ⟨k, hk, rfl, hno, hb⟩ := hrel
    have Hno := Lib.hid hno
    clear hno
    by_cases hlt : k < l.length
    · obtain ⟨b, off, rfl, hc⟩ := h (by omega)
      obtain ⟨h0, h1, h2, h3, h4⟩ := hc k hlt
      have h0' := cell_later hb h0
      have h1' := cell_later hb h1
      have h2' := cell_later hb h2
      have h3' := cell_later hb h3
      have h4' := cell_later hb h4
      have hp' := cell_later hb hp
      clear h0 h1 h2 h3 h4 hc
      have hat := @findF_at l id k hlt
      have Hat := Lib.hid hat
      clear hat
      have htk : l.take (k + 1) = l.take k ++ [l[k]] := List.take_succ_eq_append_getElem hlt
      have Htk := Lib.hid htk
      clear htk
      generalize hx : l[k] = x at *
      have Hx := Lib.hid hx
      clear hx
      go_wp2_with fail
      refine (find1_any x id p wr hp').mono ?_
      rintro e w1 ⟨rfl, hb1⟩
      have hbb := hb.trans (hb1.mono hb.size)
      clear hb1 h0' h1' h2' h3' h4' hp'
      by_cases he : x.id = id
      · have he' : (x.id == id) = true := by simp [he]
        have He := Lib.hid he
        clear he
        rw [he']
        clear he'
        go_wp2
        go_ret
        exact ⟨ret_int (Hat.out He.out Hno.out).symm, hbb⟩
      · have he' : (x.id == id) = false := by simp [he]
        have He := Lib.hid he
        clear he
        rw [he']
        clear he'
        go_wp2
        go_roundw
        case rel =>
          refine ⟨k + 1, by omega, by go_num, ?_, hbb⟩
          rw [Htk.out]
          intro y hy
          rcases List.mem_append.1 hy with h | h
          · exact Hno.out y h
          · simp at h; subst h; exact He.out
        case measure => simp [intOf]; omega
    · have hke : k = l.length := by omega
      subst hke
      have hn := Hno.out
      rw [List.take_length] at hn
      have Hn := Lib.hid (findF_none hn)
      clear hn
      go_wp2
      go_ret
      exact ⟨ret_int Hn.out.symm, hb⟩
theorem find_any (A : Option Addr) (c : Nat) (l : List Brake) (id : Int) (w : World) (hm : l.length ≤ 1000000000000000) (h : Brakes w A l) :
    Calls Try.prog 27 #[.slice A l.length c, .int .i64 id] w fun e w' => e = .returned (.int .i64 (findF l id)) ∧ Below w.heap.size w w' := by
  have hp : (w.alloc (.cells #[.int .i64 id] 3)).cell? ⟨w.heap.size, 0, none⟩ = some (.int .i64 id) := by go_simp
  go_enter Try.func27, Try.ntmps27
  go_wp2_with fail
  refine (IndexFunc_any A c l id w.heap.size _ hm (h.below (below_alloc _ _)) hp).mono ?_
  rintro e w1 ⟨rfl, hb⟩
  go_wp2
  go_ret
  exact ⟨rfl, (below_alloc w (.cells #[.int .i64 id] 3)).trans (hb.mono (by simp))⟩
set_option maxHeartbeats 1000000 in
theorem Right_any (A : Option Addr) (c : Nat) (l : List Brake) (w : World) (hm : l.length ≤ 1000000000000000) (hcap : l.length ≤ c) (h : Brakes w A l) : Calls Try.prog 11 #[.slice A l.length c] w fun e w' => e = .returned (.int .i64 (rightOf l)) ∧ Below w.heap.size w w' := by
  by_cases hl : l.length ≤ 8
  · have hro : rightOf l = rightGo [] l := by rw [rightOf, if_neg (by omega)]
    have Hro := Lib.hid hro
    clear hro
    go_enter Try.func11, Try.ntmps11
    go_wp2
    go_loopw [10] (fun i wr => ∃ k : Nat, k ≤ l.length ∧ i = .int .i64 k ∧ rightGo [] l = rightGo (l.take k) (l.drop k) ∧ Below w.heap.size w wr) (fun i _ => l.length - (intOf i).toNat)
    case atStart => exact ⟨0, Nat.zero_le _, rfl, rfl, Below.refl _ _⟩
    case round =>
      obtain ⟨k, hk, rfl, he, hb⟩ := hrel
      by_cases hlt : k < l.length
      · rw [rightGo_step hlt] at he
        have htk := h.take k
        have hs := Brake.slice_to A l.length c k (by omega) hcap
        have hfi := fun W (hW : Below w.heap.size w W) => Lib.hid (find_any A c (l.take k) l[k].id W (by simp; omega) (htk.below hW))
        have hlen : (l.take k).length = k := by simp; omega
        rw [hlen] at hfi
        have hin := fun W => Lib.hid (inRange_any l[k] W)
        obtain ⟨b, off, rfl, hc⟩ := h (by omega)
        obtain ⟨h0, h1, h2, h3, h4⟩ := hc k hlt
        have h0' := cell_later hb h0
        have h1' := cell_later hb h1
        have h2' := cell_later hb h2
        have h3' := cell_later hb h3
        have h4' := cell_later hb h4
        clear h0 h1 h2 h3 h4 hc htk hlen
        generalize findF (l.take k) l[k].id = fi at *
        generalize hx : l[k] = x at *
        clear hx
        cases hi : inR x
        · rw [hi] at he hin
          have He := Lib.hid he
          clear he hi
          go_wp2_with fail
          refine (hin _).out.mono ?_
          rintro e w1 ⟨rfl, hb1⟩
          go_wp2
          go_ret
          refine ⟨?_, (hb.alloc hb.size _).trans (hb1.mono (Nat.le_trans hb.size (by simp)))⟩
          rw [Hro.out, He.out]; rfl
        · rw [hi] at he hin
          rw [if_pos rfl] at he
          have He := Lib.hid he
          clear he hi
          go_wp2_with fail
          refine (hin _).out.mono ?_
          rintro e w1 ⟨rfl, hb1⟩
          have hk0 : w1.cell? ⟨wr.heap.size, 0, none⟩ = some (.int .i64 x.id) := by
            refine cell_later hb1 ?_
            go_simp
          have hbb := (hb.alloc hb.size _).trans (hb1.mono (Nat.le_trans hb.size (by simp)))
          clear hb1
          go_wp2_with fail
          go_still_tail 5, (by kernel_rfl)
          go_wp2_with fail
          refine (hfi _ hbb.drew).out.mono ?_
          rintro e w2 ⟨rfl, hb2⟩
          have hb3 := hbb.drew.trans (hb2.mono hbb.drew.size)
          by_cases hfn : fi < 0
          · have H2 := He.out
            rw [if_pos hfn] at H2
            have H3 := Lib.hid H2
            clear H2 He
            go_wp2
            go_roundw
            case rel => exact ⟨k + 1, by omega, by go_num, H3.out, hb3⟩
            case measure => simp [intOf]; omega
          · have H2 := He.out
            rw [if_neg hfn] at H2
            have H3 := Lib.hid H2
            clear H2 He
            go_wp2
            go_ret
            exact ⟨by rw [Hro.out, H3.out]; rfl, hb3⟩
      · have hke : k = l.length := by omega
        subst hke
        rw [rightGo_end] at he
        have He := Lib.hid he
        clear he
        go_wp2
        go_ret
        exact ⟨by rw [Hro.out, He.out]; rfl, hb⟩
  · go_enter Try.func11, Try.ntmps11
    go_wp2
    go_ret
    exact ⟨by rw [rightOf, if_pos (by omega)]; rfl, Below.refl _ _⟩
end Go.Proofs.Ytgmkfjgkpakhfaa
