/- Contracts: Force, Enough (both). -/
import Derived.Test.YtgmkfjgkpakhfaaW1
import Derived.Test.YtgmkfjgkpakhfaaPlain2
namespace Go.Proofs.Ytgmkfjgkpakhfaa
open Go.RowKit
set_option linter.unusedVariables false
def AllI (l : List Brake) : Prop := ∀ x ∈ l, x.I
set_option maxHeartbeats 1000000 in
theorem Force_any (A : Option Addr) (c : Nat) (l : List Brake) (kind t : Int) (w : World) (hm : l.length ≤ 8) (h : Brakes w A l) (hI : AllI l) (ht : I64 t) (hme : measB l) :
    Calls Try.prog 18 #[.slice A l.length c, .int .i64 kind, .int .i64 t] w fun e w' => e = .returned (.int .i64 (forceOf l kind t)) ∧ Below w.heap.size w w' := by
  go_enter Try.func18, Try.ntmps18
  go_wp2
  go_loopw [7, 12] (fun s i wr => ∃ (k : Nat) (q : Int), k ≤ l.length ∧ i = .int .i64 k ∧ s = .int .i64 q ∧ forceOf (l.take k) kind t = q ∧ Below w.heap.size w wr) (fun _ i _ => l.length - (intOf i).toNat)
  case atStart => exact ⟨0, 0, Nat.zero_le _, rfl, rfl, rfl, Below.refl _ _⟩
  case round =>
    obtain ⟨k, q, hk, rfl, rfl, hq, hb⟩ := hrel
    have hbd := forceOf_bd (measB_take hme k) kind t
    rw [hq] at hbd
    have hq0 : 0 ≤ q := hbd.1
    have hbd2 : q ≤ 80000000 := by have : (l.take k).length ≤ 8 := by simp; omega
                                   omega
    by_cases hlt : k < l.length
    · obtain ⟨b, off, rfl, hc⟩ := h (by omega)
      obtain ⟨h0, h1, h2, h3, h4⟩ := hc k hlt
      have h0' := cell_later hb h0
      have h1' := cell_later hb h1
      have h2' := cell_later hb h2
      have h3' := cell_later hb h3
      have h4' := cell_later hb h4
      clear h0 h1 h2 h3 h4 hc
      have hv := fun W => Lib.hid (Valid_any l[k] t W (hI _ (List.getElem_mem hlt)) ht)
      have hs := forceOf_succ hlt kind t
      have hmk := hme _ (List.getElem_mem hlt)
      rw [hq] at hs
      have Hs := Lib.hid hs
      clear hs hq hbd
      have hbw := hb.alloc hb.size (.cells #[.int .i64 l[k].id, .int .i64 l[k].kind, .int .i64 l[k].force, .int .i64 l[k].tested, .int .i64 l[k].measured] 32)
      generalize l[k] = x at *
      unfold Brake.val at hv
      by_cases hkd : x.kind = kind
      · have hkd' : (x.kind == kind) = true := by simp [hkd]
        have Hkd := Lib.hid hkd
        clear hkd
        go_wp2_with fail
        refine (hv _).out.mono ?_
        rintro e w1 ⟨rfl, hb1⟩
        have h4w : w1.cell? ⟨wr.heap.size, 4, none⟩ = some (.int .i64 x.measured) := by
          refine cell_later hb1 ?_
          go_simp
        have hbb := hbw.trans (hb1.mono hbw.size)
        clear hbw hb1 h0' h1' h2' h3' h4'
        cases hvb : validB x t
        · rw [hvb] at Hs
          clear hvb
          go_wp2
          go_roundw
          case rel => exact ⟨k + 1, q, by omega, by go_num, rfl, by rw [Hs.out]; simp, hbb⟩
          case measure => simp [intOf]; omega
        · rw [hvb] at Hs
          clear hvb
          go_wp2
          go_roundw
          case rel => exact ⟨k + 1, q + x.measured, by omega, by go_num, rfl, by rw [Hs.out]; simp [Hkd.out], hbb⟩
          case measure => simp [intOf]; omega
      · have hkd' : (x.kind == kind) = false := by simp [hkd]
        have Hkd := Lib.hid hkd
        clear hkd
        go_wp2
        go_roundw
        case rel => exact ⟨k + 1, q, by omega, by go_num, rfl, by rw [Hs.out, if_neg (fun hh => Hkd.out hh.1)]; omega, hbw⟩
        case measure => simp [intOf]; omega
    · have hke : k = l.length := by omega
      subst hke
      rw [List.take_length] at hq
      have Hq := Lib.hid hq
      clear hq
      go_wp2
      go_ret
      exact ⟨ret_int Hq.out.symm, hb⟩
set_option maxHeartbeats 1000000 in
theorem refForce_any (A : Option Addr) (c : Nat) (l : List Brake) (kind t : Int) (w : World) (hm : l.length ≤ 8) (h : Brakes w A l) (hI : AllI l) (ht : I64 t) (hme : measB l) :
    Calls Try.prog 19 #[.slice A l.length c, .int .i64 kind, .int .i64 t] w fun e w' => e = .returned (.int .i64 (forceOf l kind t)) ∧ Below w.heap.size w w' := by
  go_enter Try.func19, Try.ntmps19
  go_wp2
  go_loopw [7, 8] (fun s i wr => ∃ (k : Nat) (q : Int), k ≤ l.length ∧ i = .int .i64 k ∧ s = .int .i64 q ∧ forceOf (l.take k) kind t = q ∧ Below w.heap.size w wr) (fun _ i _ => l.length - (intOf i).toNat)
  case atStart => exact ⟨0, 0, Nat.zero_le _, rfl, rfl, rfl, Below.refl _ _⟩
  case round =>
    obtain ⟨k, q, hk, rfl, rfl, hq, hb⟩ := hrel
    have hbd := forceOf_bd (measB_take hme k) kind t
    rw [hq] at hbd
    have hq0 : 0 ≤ q := hbd.1
    have hbd2 : q ≤ 80000000 := by have : (l.take k).length ≤ 8 := by simp; omega
                                   omega
    by_cases hlt : k < l.length
    · obtain ⟨b, off, rfl, hc⟩ := h (by omega)
      obtain ⟨h0, h1, h2, h3, h4⟩ := hc k hlt
      have h0' := cell_later hb h0
      have h1' := cell_later hb h1
      have h2' := cell_later hb h2
      have h3' := cell_later hb h3
      have h4' := cell_later hb h4
      clear h0 h1 h2 h3 h4 hc
      have hv := fun W => Lib.hid (refValid_any l[k] t W (hI _ (List.getElem_mem hlt)) ht)
      have hs := forceOf_succ hlt kind t
      have hmk := hme _ (List.getElem_mem hlt)
      rw [hq] at hs
      have Hs := Lib.hid hs
      clear hs hq hbd
      have hbw := hb
      generalize l[k] = x at *
      unfold Brake.val at hv
      by_cases hkd : x.kind = kind
      · have hkd' : (x.kind == kind) = true := by simp [hkd]
        have Hkd := Lib.hid hkd
        clear hkd
        go_wp2_with fail
        refine (hv _).out.mono ?_
        rintro e w1 ⟨rfl, hb1⟩
        have h4w := cell_later hb1 h4'
        have hbb := hbw.trans (hb1.mono hbw.size)
        clear hbw hb1 h0' h1' h2' h3' h4'
        cases hvb : validB x t
        · rw [hvb] at Hs
          clear hvb
          go_wp2
          go_roundw
          case rel => exact ⟨k + 1, q, by omega, by go_num, rfl, by rw [Hs.out]; simp, hbb⟩
          case measure => simp [intOf]; omega
        · rw [hvb] at Hs
          clear hvb
          go_wp2
          go_roundw
          case rel => exact ⟨k + 1, q + x.measured, by omega, by go_num, rfl, by rw [Hs.out]; simp [Hkd.out], hbb⟩
          case measure => simp [intOf]; omega
      · have hkd' : (x.kind == kind) = false := by simp [hkd]
        have Hkd := Lib.hid hkd
        clear hkd
        go_wp2
        go_roundw
        case rel => exact ⟨k + 1, q, by omega, by go_num, rfl, by rw [Hs.out, if_neg (fun hh => Hkd.out hh.1)]; omega, hbw⟩
        case measure => simp [intOf]; omega
    · have hke : k = l.length := by omega
      subst hke
      rw [List.take_length] at hq
      have Hq := Lib.hid hq
      clear hq
      go_wp2
      go_ret
      exact ⟨ret_int Hq.out.symm, hb⟩

set_option maxHeartbeats 1000000 in
theorem Enough_any (A : Option Addr) (c : Nat) (l : List Brake) (load t : Int) (w : World) (hm : l.length ≤ 8) (h : Brakes w A l) (hI : AllI l) (ht : I64 t) (hme : measB l) :
    Calls Try.prog 20 #[.slice A l.length c, .int .i64 load, .int .i64 t] w fun e w' => e = .returned (.bool (enoughOf l load t)) ∧ Below w.heap.size w w' := by
  have c1 := fun k W (hW : Below w.heap.size w W) => Lib.hid (Force_any A c l k t W hm (h.below hW) hI ht hme)
  unfold enoughOf
  have c2 := fun W hW => (c1 0 W hW)
  have c3 := fun W hW => (c1 1 W hW)
  clear c1
  generalize forceOf l 0 t = p at *
  generalize forceOf l 1 t = q at *
  by_cases h1 : load ≤ p
  · by_cases h2 : load ≤ q
    all_goals
      go_enter Try.func20, Try.ntmps20
      go_wp2_with fail
      refine (c2 _ (Below.refl _ _)).out.mono ?_
      rintro e w1 ⟨rfl, hb1⟩
      go_wp2_with fail
      refine (c3 _ hb1).out.mono ?_
      rintro e w2 ⟨rfl, hb2⟩
      go_wp2
      go_ret
      exact ⟨by simp [h1, h2], hb1.trans (hb2.mono hb1.size)⟩
  · go_enter Try.func20, Try.ntmps20
    go_wp2_with fail
    refine (c2 _ (Below.refl _ _)).out.mono ?_
    rintro e w1 ⟨rfl, hb1⟩
    go_wp2
    go_ret
    exact ⟨by simp; omega, hb1⟩

set_option maxHeartbeats 1000000 in
theorem refEnough_any (A : Option Addr) (c : Nat) (l : List Brake) (load t : Int) (w : World) (hm : l.length ≤ 8) (h : Brakes w A l) (hI : AllI l) (ht : I64 t) (hme : measB l) :
    Calls Try.prog 21 #[.slice A l.length c, .int .i64 load, .int .i64 t] w fun e w' => e = .returned (.bool (enoughOf l load t)) ∧ Below w.heap.size w w' := by
  have c1 := fun k W (hW : Below w.heap.size w W) => Lib.hid (refForce_any A c l k t W hm (h.below hW) hI ht hme)
  unfold enoughOf
  have c2 := fun W hW => (c1 0 W hW)
  have c3 := fun W hW => (c1 1 W hW)
  clear c1
  generalize forceOf l 0 t = p at *
  generalize forceOf l 1 t = q at *
  by_cases h1 : load ≤ p
  · by_cases h2 : load ≤ q
    all_goals
      go_enter Try.func21, Try.ntmps21
      go_wp2_with fail
      refine (c2 _ (Below.refl _ _)).out.mono ?_
      rintro e w1 ⟨rfl, hb1⟩
      go_wp2_with fail
      refine (c3 _ hb1).out.mono ?_
      rintro e w2 ⟨rfl, hb2⟩
      go_wp2
      go_ret
      exact ⟨by simp [h1, h2], hb1.trans (hb2.mono hb1.size)⟩
  · go_enter Try.func21, Try.ntmps21
    go_wp2_with fail
    refine (c2 _ (Below.refl _ _)).out.mono ?_
    rintro e w1 ⟨rfl, hb1⟩
    go_wp2
    go_ret
    exact ⟨by simp; omega, hb1⟩
end Go.Proofs.Ytgmkfjgkpakhfaa
