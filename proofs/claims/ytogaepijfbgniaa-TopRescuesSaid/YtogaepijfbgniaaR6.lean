/- Contracts of package route: End, Least; the examples of the chapter hold. -/
import Derived.Test.YtogaepijfbgniaaR4
import Derived.Test.YtogaepijfbgniaaA5
import Derived.Test.YtogaepijfbgniaaW7
namespace Go.Proofs.Ytogaepijfbgniaa
open Go.RowKit Go.Shelf Go.Deep
set_option linter.unusedVariables false
/-- the greatest end of the first k shifts -/
def endM (p : List Int) : Nat → Int
  | 0 => 0
  | k + 1 => if k = 0 ∨ endM p k < p.getD (k * 4 + 3) 0 then p.getD (k * 4 + 3) 0 else endM p k
set_option maxHeartbeats 2000000 in
theorem End_any (b n : Nat) (p : List Int) (hn : n ≤ 6) (hp : p.length = n * 4) (w : World) (h : Blk w b (p.map (Value.int .i64)).toArray 72) :
    Calls Try.prog 26 #[.slice (some ⟨b, 0, none⟩) n n] w fun e w' => e = .returned (.int .i64 (endM p n)) ∧ Below w.heap.size w w' := by
  have hc := Lib.hid (fun j (hj : j < n * 4) => (h.cell j (v := .int .i64 (p.getD j 0)) (by rw [← hp] at hj; simp [hj])))
  clear h
  go_enter Try.func26, Try.ntmps26
  go_wp2_with fail
  go_loopw [3, 8] (fun v q wr => ∃ k : Nat, k ≤ n ∧ q = .int .i64 k ∧ v = .int .i64 (endM p k) ∧ Below w.heap.size w wr) (fun _ q _ => n - (intOf q).toNat)
  case atStart => exact ⟨0, Nat.zero_le _, rfl, rfl, Below.refl _ _⟩
  case round =>
    obtain ⟨k, hk, rfl, rfl, hb⟩ := hrel
    by_cases hlt : k < n
    · have p0 := cell_later hb (hc.out (k * 4) (by omega))
      have p1 := cell_later hb (hc.out (k * 4 + 1) (by omega))
      have p2 := cell_later hb (hc.out (k * 4 + 2) (by omega))
      have p3 := cell_later hb (hc.out (k * 4 + 3) (by omega))
      have hes : endM p (k + 1) = if k = 0 ∨ endM p k < p.getD (k * 4 + 3) 0 then p.getD (k * 4 + 3) 0 else endM p k := rfl
      have Hes := Lib.hid hes
      clear hes
      generalize p.getD (k * 4) 0 = q0 at *
      generalize p.getD (k * 4 + 1) 0 = q1 at *
      generalize p.getD (k * 4 + 2) 0 = q2 at *
      generalize p.getD (k * 4 + 3) 0 = q3 at *
      generalize endM p k = t at *
      have hkl : (k : Int) < (n : Int) := by omega
      have hbw := hb.alloc hb.size (.cells #[.int .i64 q0, .int .i64 q1, .int .i64 q2, .int .i64 q3] 72)
      clear hc hb
      by_cases h0 : k = 0
      · have hE := Lib.hid (Hes.out.trans (if_pos (.inl h0)))
        have hk0 : ((k : Int) == 0) = true := by simp [h0]
        clear Hes h0
        go_wp2
        go_roundw
        case rel => exact ⟨k + 1, by omega, by go_num, by rw [hE.out], hbw⟩
        case measure => simp [intOf]; omega
      · have hk0 : ((k : Int) == 0) = false := by simp [h0]
        by_cases h1 : t < q3
        · have hE := Lib.hid (Hes.out.trans (if_pos (.inr h1)))
          clear Hes h0
          go_wp2
          go_roundw
          case rel => exact ⟨k + 1, by omega, by go_num, by rw [hE.out], hbw⟩
          case measure => simp [intOf]; omega
        · have hE := Lib.hid (Hes.out.trans (if_neg (by omega)))
          have h1' : q3 ≤ t := by omega
          clear Hes h0 h1
          go_wp2
          go_roundw
          case rel => exact ⟨k + 1, by omega, by go_num, by rw [hE.out], hbw⟩
          case measure => simp [intOf]; omega
    · have hke : k = n := by omega
      subst hke
      go_wp2
      go_ret
      exact ⟨rfl, hb⟩
theorem Least_any (A C : Option Addr) (c m d : Nat) (l : List Tk) (hl : OkTasks l) (hl0 : 0 < l.length) (hcap : l.length ≤ c) (hm : 1 ≤ m ∧ m ≤ 3) (w : World) (h : Tasks w A l) (hw : ∃ b off, C = some ⟨b, off, none⟩ ∧ ∀ i, i < m → w.cell? ⟨b, off + i, none⟩ = some (.bool false)) (y : St)
    (hpl : placeM l m l.length 0 0 ⟨List.replicate (l.length * 4) 0, List.replicate (l.length * 4) 0, 1 + sumT l⟩ = some y) :
    Calls Try.prog 12 #[.slice A l.length c, .slice C m d] w fun e w' => e = .returned (.int .i64 (endM y.b l.length)) ∧ Below w.heap.size w w' := by
  have q1 := Lib.hid (Best_any A C c m d l hl hl0 hcap hm w h hw y hpl)
  have q2 := Lib.hid (fun b W hB hL => End_any b l.length y.b hl.1 hL W hB)
  clear h hw hpl hl
  generalize endM y.b l.length = n at *
  go_enter Try.func12, Try.ntmps12
  go_wp2_with fail
  refine q1.out.mono ?_
  rintro e w1 ⟨b, rfl, hB, hL, hb⟩
  go_wp2_with fail
  refine (q2.out b w1 hB hL).mono ?_
  rintro e w2 ⟨rfl, hb2⟩
  go_wp2
  go_ret
  exact ⟨rfl, hb.trans (hb2.mono hb.size)⟩
end Go.Proofs.Ytogaepijfbgniaa
