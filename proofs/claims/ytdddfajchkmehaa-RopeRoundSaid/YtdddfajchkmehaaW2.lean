/- Contracts: People, Between (both). -/
import Derived.Test.YtdddfajchkmehaaW1
namespace Go.Proofs.Ytdddfajchkmehaa
open Go.RowKit
set_option linter.unusedVariables false
set_option linter.unusedSimpArgs false
/-- loads of at most M persons -/
def fit (l : List Int) (M : Int) : Prop := ∀ y ∈ l, 0 ≤ y ∧ y ≤ M
theorem sum_succ {l : List Int} {k : Nat} (hk : k < l.length) : (l.take (k + 1)).sum = (l.take k).sum + l[k] := by
  rw [List.take_succ_eq_append_getElem hk, List.sum_append]
  simp
theorem sum_bd {l : List Int} {M : Int} (hM : 0 ≤ M) (h : fit l M) : ∀ k : Nat, 0 ≤ (l.take k).sum ∧ (l.take k).sum ≤ M * k
  | 0 => by simp
  | k + 1 => by
    have ih := sum_bd hM h k
    have e : M * ((k + 1 : Nat) : Int) = M * k + M := by rw [Int.natCast_add, Int.mul_add]; simp
    by_cases hk : k < l.length
    · have := h l[k] (List.getElem_mem hk)
      rw [sum_succ hk, e]
      omega
    · rw [List.take_of_length_le (by omega)] at ih ⊢
      rw [e]
      omega
theorem bet_bd {x : Line} {M : Int} (hM : 0 ≤ M) (h : fit x.load M) (f t : Int) : ∀ k : Nat, 0 ≤ betK x f t k ∧ betK x f t k ≤ M * k
  | 0 => by simp [betK]
  | k + 1 => by
    have ih := bet_bd hM h f t k
    have e : M * ((k + 1 : Nat) : Int) = M * k + M := by rw [Int.natCast_add, Int.mul_add]; simp
    have hx : 0 ≤ x.load.getD k 0 ∧ x.load.getD k 0 ≤ M := by
      by_cases hi : k < x.load.length
      · have := h x.load[k] (List.getElem_mem hi)
        simpa [List.getD, hi] using this
      · simp [List.getD, List.getElem?_eq_none (Nat.le_of_not_lt hi)]; exact hM
    rw [betK, e]
    split <;> omega
theorem getD_at {l : List Int} {k : Nat} (hk : k < l.length) : l.getD k 0 = l[k] := by simp [List.getD, hk]
set_option maxHeartbeats 1000000 in
theorem People_any (x : Line) (A : Option Addr) (c : Nat) (hn : x.load.length ≤ 250) (hf : fit x.load 1000000) (w : World) (h : Ints w A x.load) : Calls Try.prog 20 #[x.val A c] w fun e w' => e = .returned (.int .i64 (peopleOf x)) ∧ Below w.heap.size w w' := by
  have hb0 := below_alloc w (.cells #[.int .i64 x.loop, .int .i64 x.spacing, .int .i64 x.offset, .slice A x.load.length c] 27)
  have hI := h.below hb0
  have hsb := Lib.hid (fun k => sum_bd (by omega) hf k)
  have HF := Lib.hid hf
  clear hf
  unfold Line.val
  go_enter Try.func20, Try.ntmps20
  go_wp2
  go_loop [3, 9] (fun n i => ∃ k : Nat, k ≤ x.load.length ∧ i = .int .i64 k ∧ n = .int .i64 ((x.load.take k).sum)) (fun _ i => x.load.length - (intOf i).toNat)
  case atStart => exact ⟨0, Nat.zero_le _, rfl, rfl⟩
  case round =>
    obtain ⟨k, hk, rfl, rfl⟩ := hrel
    by_cases hlt : k < x.load.length
    · obtain ⟨b, off, rfl, hc⟩ := hI (by omega)
      have h0 := hc k hlt
      have hs := Lib.hid (sum_succ hlt)
      have h1 := hsb.out k
      have h2 := HF.out _ (List.getElem_mem hlt)
      have h3 : (x.load.take k).sum ≤ 250000000 := by omega
      clear hc hsb HF
      generalize x.load[k] = y at *
      generalize (x.load.take k).sum = s at *
      go_wp2
      go_round
      case rel => exact ⟨k + 1, by omega, by go_num, by rw [hs.out]⟩
      case measure => simp [intOf]; omega
    · have hke : k = x.load.length := by omega
      subst hke
      rw [List.take_length]
      clear hsb HF
      go_wp2
      go_ret
      exact ⟨rfl, hb0⟩
set_option maxHeartbeats 1000000 in
theorem refPeople_any (x : Line) (A : Option Addr) (c : Nat) (hn : x.load.length ≤ 250) (hf : fit x.load 1000000) (w : World) (h : Ints w A x.load) : Calls Try.prog 21 #[x.val A c] w fun e w' => e = .returned (.int .i64 (peopleOf x)) ∧ Below w.heap.size w w' := by
  have hb0 := below_alloc w (.cells #[.int .i64 x.loop, .int .i64 x.spacing, .int .i64 x.offset, .slice A x.load.length c] 27)
  have hI := h.below hb0
  have hsb := Lib.hid (fun k => sum_bd (by omega) hf k)
  have HF := Lib.hid hf
  clear hf
  unfold Line.val
  go_enter Try.func21, Try.ntmps21
  go_wp2
  go_loop [3, 4] (fun n i => ∃ k : Nat, k ≤ x.load.length ∧ i = .int .i64 k ∧ n = .int .i64 ((x.load.take k).sum)) (fun _ i => x.load.length - (intOf i).toNat)
  case atStart => exact ⟨0, Nat.zero_le _, rfl, rfl⟩
  case round =>
    obtain ⟨k, hk, rfl, rfl⟩ := hrel
    by_cases hlt : k < x.load.length
    · obtain ⟨b, off, rfl, hc⟩ := hI (by omega)
      have h0 := hc k hlt
      have hs := Lib.hid (sum_succ hlt)
      have h1 := hsb.out k
      have h2 := HF.out _ (List.getElem_mem hlt)
      have h3 : (x.load.take k).sum ≤ 250000000 := by omega
      clear hc hsb HF
      generalize x.load[k] = y at *
      generalize (x.load.take k).sum = s at *
      go_wp2
      go_round
      case rel => exact ⟨k + 1, by omega, by go_num, by rw [hs.out]⟩
      case measure => simp [intOf]; omega
    · have hke : k = x.load.length := by omega
      subst hke
      rw [List.take_length]
      clear hsb HF
      go_wp2
      go_ret
      exact ⟨rfl, hb0⟩
theorem bet_yes {x : Line} {f t : Int} {k : Nat} (hk : k < x.load.length) (h : f ≤ posOf x k ∧ posOf x k < t) : betK x f t (k + 1) = betK x f t k + x.load[k] := by
  rw [betK, if_pos h, getD_at hk]
theorem bet_no {x : Line} {f t : Int} {k : Nat} (h : ¬ (f ≤ posOf x k ∧ posOf x k < t)) : betK x f t (k + 1) = betK x f t k := by
  rw [betK, if_neg h, Int.add_zero]
set_option maxHeartbeats 2000000 in
theorem Between_any (x : Line) (A : Option Addr) (c : Nat) (f t : Int) (hs : x.shape) (hf : fit x.load 1000000) (w : World) (h : Ints w A x.load) : Calls Try.prog 22 #[x.val A c, .int .i64 f, .int .i64 t] w fun e w' => e = .returned (.int .i64 (betK x f t x.load.length)) ∧ Below w.heap.size w w' := by
  have hn : x.load.length ≤ 200 := hs.2.2.2.1
  have hb0 := below_alloc w (.cells #[.int .i64 x.loop, .int .i64 x.spacing, .int .i64 x.offset, .slice A x.load.length c] 27)
  have hI := h.below hb0
  have hL : Hid (LineAt _ w.heap.size x A c) := Lib.hid (Blk.new w #[.int .i64 x.loop, .int .i64 x.spacing, .int .i64 x.offset, .slice A x.load.length c] 27)
  have hsb := Lib.hid (fun k => bet_bd (x := x) (by omega) hf f t k)
  have HF := Lib.hid hf
  have HP := Lib.hid (fun i hi W => position_any x A c i hs hi W)
  have HPB := Lib.hid (fun i => pos_bd hs i)
  have hlb := shape_bd hs
  clear hf hs
  unfold Line.val at *
  go_enter Try.func22, Try.ntmps22
  go_wp2
  go_loopw [7, 14] (fun n i wr => ∃ k : Nat, k ≤ x.load.length ∧ i = .int .i64 k ∧ n = .int .i64 (betK x f t k) ∧ Below w.heap.size w wr ∧ Hid (LineAt wr w.heap.size x A c) ∧ Hid (Ints wr A x.load)) (fun _ i _ => x.load.length - (intOf i).toNat)
  case atStart => exact ⟨0, Nat.zero_le _, rfl, rfl, hb0, hL, Lib.hid hI⟩
  case round =>
    clear hb0 hI hL
    obtain ⟨k, hk, rfl, rfl, hb, hL, hI⟩ := hrel
    by_cases hlt : k < x.load.length
    · obtain ⟨b, off, rfl, hc⟩ := hI.out (by omega)
      have h0 := hc k hlt
      have h1 := hsb.out k
      have h2 := HF.out _ (List.getElem_mem hlt)
      have h3 : betK x f t k ≤ 250000000 := by omega
      have hcall := Lib.hid (HP.out k (by omega) wr)
      have hpb := HPB.out k
      have hyes := Lib.hid (fun h => bet_yes (x := x) (f := f) (t := t) hlt h)
      have hno := Lib.hid (fun h => bet_no (x := x) (f := f) (t := t) (k := k) h)
      obtain ⟨c0, c1, c2, c3⟩ := LineAt.cells hL.out
      clear hc hsb HF HP HPB
      generalize x.load[k] = y at *
      generalize posOf x k = p at *
      obtain ⟨s, hs⟩ : ∃ s, s = betK x f t k := ⟨_, rfl⟩
      rw [← hs] at h1 h3 hyes hno ⊢
      clear hs
      go_wp2_with fail
      refine hcall.out.mono ?_
      rintro e w1 ⟨rfl, hb1⟩
      have hb2 := hb.trans (hb1.mono hb.size)
      have hL2 := Lib.hid (hL.out.below hb1)
      have hI2 := Lib.hid (hI.out.below hb1)
      clear hb1 c0 c1 c2 c3 h0 hcall hb hL hI
      have ho : p < f ∨ f ≤ p ∧ (t ≤ p ∨ p < t) := by omega
      rcases ho with ho | ⟨p1, ho | ho⟩
      · have HE := Lib.hid (hno.out (by omega))
        clear hno hyes
        go_wp2
        go_roundw
        case rel => exact ⟨k + 1, by omega, by go_num, by rw [HE.out], hb2, hL2, hI2⟩
        case measure => simp [intOf]; omega
      · have HE := Lib.hid (hno.out (by omega))
        clear hno hyes
        go_wp2
        go_roundw
        case rel => exact ⟨k + 1, by omega, by go_num, by rw [HE.out], hb2, hL2, hI2⟩
        case measure => simp [intOf]; omega
      · have HE := Lib.hid (hyes.out ⟨p1, ho⟩)
        clear hno hyes
        go_wp2
        go_roundw
        case rel => exact ⟨k + 1, by omega, by go_num, by rw [HE.out], hb2, hL2, hI2⟩
        case measure => simp [intOf]; omega
    · have hke : k = x.load.length := by omega
      subst hke
      clear hsb HF HP HPB
      go_wp2
      go_ret
      exact ⟨rfl, hb⟩
set_option maxHeartbeats 2000000 in
theorem refBetween_any (x : Line) (A : Option Addr) (c : Nat) (f t : Int) (hs : x.shape) (hf : fit x.load 1000000) (w : World) (h : Ints w A x.load) : Calls Try.prog 23 #[x.val A c, .int .i64 f, .int .i64 t] w fun e w' => e = .returned (.int .i64 (betK x f t x.load.length)) ∧ Below w.heap.size w w' := by
  have hn : x.load.length ≤ 200 := hs.2.2.2.1
  have hb0 := below_alloc w (.cells #[.int .i64 x.loop, .int .i64 x.spacing, .int .i64 x.offset, .slice A x.load.length c] 27)
  have hI := h.below hb0
  have hL : Hid (LineAt _ w.heap.size x A c) := Lib.hid (Blk.new w #[.int .i64 x.loop, .int .i64 x.spacing, .int .i64 x.offset, .slice A x.load.length c] 27)
  have hsb := Lib.hid (fun k => bet_bd (x := x) (by omega) hf f t k)
  have HF := Lib.hid hf
  have HP := Lib.hid (fun i W => refAt_any x A c i hs W)
  have HPB := Lib.hid (fun i => pos_bd hs i)
  have hlb := shape_bd hs
  clear hf hs
  unfold Line.val at *
  go_enter Try.func23, Try.ntmps23
  go_wp2
  go_loopw [7, 8] (fun n i wr => ∃ k : Nat, k ≤ x.load.length ∧ i = .int .i64 k ∧ n = .int .i64 (betK x f t k) ∧ Below w.heap.size w wr ∧ Hid (LineAt wr w.heap.size x A c) ∧ Hid (Ints wr A x.load)) (fun _ i _ => x.load.length - (intOf i).toNat)
  case atStart => exact ⟨0, Nat.zero_le _, rfl, rfl, hb0, hL, Lib.hid hI⟩
  case round =>
    clear hb0 hI hL
    obtain ⟨k, hk, rfl, rfl, hb, hL, hI⟩ := hrel
    obtain ⟨c0, c1, c2, c3⟩ := LineAt.cells hL.out
    by_cases hlt : k < x.load.length
    · obtain ⟨b, off, rfl, hc⟩ := hI.out (by omega)
      have G0 := Lib.hid (hc k hlt)
      have h1 := hsb.out k
      have h2 := HF.out _ (List.getElem_mem hlt)
      have h3 : betK x f t k ≤ 250000000 := by omega
      have ha : atOf x (k : Int) = posOf x k := by unfold atOf; rw [if_pos ⟨by omega, by omega⟩]; rfl
      have hcall := HP.out k wr
      rw [ha] at hcall
      have HCALL := Lib.hid hcall
      have hpb := HPB.out k
      have hyes := Lib.hid (fun h => bet_yes (x := x) (f := f) (t := t) hlt h)
      have hno := Lib.hid (fun h => bet_no (x := x) (f := f) (t := t) (k := k) h)
      clear hc hsb HF HP HPB ha hcall
      generalize x.load[k] = y at *
      generalize posOf x k = p at *
      obtain ⟨s, hs⟩ : ∃ s, s = betK x f t k := ⟨_, rfl⟩
      rw [← hs] at h1 h3 hyes hno ⊢
      clear hs
      go_wp2_with fail
      refine HCALL.out.mono ?_
      rintro e w1 ⟨rfl, hb1⟩
      have hb2 := hb.trans (hb1.mono hb.size)
      have hL2 := Lib.hid (hL.out.below hb1)
      have hI2 := Lib.hid (hI.out.below hb1)
      have g0 := cell_later hb1 G0.out
      clear hb1 c0 c1 c2 c3 G0 HCALL hb hL hI
      obtain ⟨c0, c1, c2, c3⟩ := LineAt.cells hL2.out
      have ho : p < f ∨ f ≤ p ∧ (t ≤ p ∨ p < t) := by omega
      rcases ho with ho | ⟨p1, ho | ho⟩
      · have HE := Lib.hid (hno.out (by omega))
        clear hno hyes
        go_wp2
        go_roundw
        case rel => exact ⟨k + 1, by omega, by go_num, by rw [HE.out], hb2, hL2, hI2⟩
        case measure => simp [intOf]; omega
      · have HE := Lib.hid (hno.out (by omega))
        clear hno hyes
        go_wp2
        go_roundw
        case rel => exact ⟨k + 1, by omega, by go_num, by rw [HE.out], hb2, hL2, hI2⟩
        case measure => simp [intOf]; omega
      · have HE := Lib.hid (hyes.out ⟨p1, ho⟩)
        clear hno hyes
        go_wp2
        go_roundw
        case rel => exact ⟨k + 1, by omega, by go_num, by rw [HE.out], hb2, hL2, hI2⟩
        case measure => simp [intOf]; omega
    · have hke : k = x.load.length := by omega
      subst hke
      clear hsb HF HP HPB
      go_wp2
      go_ret
      exact ⟨rfl, hb⟩
end Go.Proofs.Ytdddfajchkmehaa
