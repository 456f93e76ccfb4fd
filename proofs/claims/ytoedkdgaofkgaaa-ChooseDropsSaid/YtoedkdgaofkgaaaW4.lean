/- Contracts: the reference's Fits, Less, Same, subset; slices.Clone of ints. -/
import Derived.Test.YtoedkdgaofkgaaaW3
namespace Go.Proofs.Ytoedkdgaofkgaaa
open Go.RowKit
set_option linter.unusedVariables false

set_option maxHeartbeats 400000 in
theorem refFits_any (A C : Option Addr) (c d : Nat) (l : List Item) (ch : List Int) (a b : Int) (w : World) (hm : l.length ≤ 1000000000000000) (hl : itemsB l = true) (hn : ch.length ≤ 40) (h : Items w A l) (hi : Ints w C ch) :
    Calls Try.prog 17 #[.slice A l.length c, .slice C ch.length d, .int .i64 a, .int .i64 b] w fun e w' => e = .returned (.bool (fitsOf l ch a b)) ∧ ∃ n, w' = w.drewN n := by
  have hneed := Lib.hid (refNeed_any A C c d l ch w hm hl hn h hi)
  rcases hq : needOf l ch with ⟨x, y, z, ok⟩
  have hf : fitsOf l ch a b = (ok && decide (x ≤ a) && decide (y ≤ b)) := by simp [fitsOf, hq]
  rw [hf]
  rw [hq] at hneed
  clear hf hq
  cases ok <;> by_cases h1 : x ≤ a <;> by_cases h2 : y ≤ b
  all_goals
    go_enter Try.func17, Try.ntmps17
    go_wp2_with (go_at_call 15; refine (hneed.out).mono ?_; rintro e w' ⟨rfl, nd, rfl⟩; unfold NeedV)
    go_ret
    exact ⟨by simp [*], _, rfl⟩

theorem dN2 (w : World) (a b : Nat) : ∃ k, (w.drewN a).drewN b = w.drewN k := ⟨_, World.drewN_drewN _ _ _⟩
theorem dN3 (w : World) (a b c : Nat) : ∃ k, ((w.drewN a).drewN b).drewN c = w.drewN k := by rw [World.drewN_drewN]; exact dN2 _ _ _
theorem lessOf_step {x y : List Int} {k : Nat} (hk : k < x.length) (hk2 : k < y.length) : lessOf (x.drop k) (y.drop k) = if x[k] ≠ y[k] then decide (x[k] < y[k]) else lessOf (x.drop (k+1)) (y.drop (k+1)) := by
  rw [List.drop_eq_getElem_cons hk, List.drop_eq_getElem_cons hk2, lessOf]
theorem lessOf_end {x y : List Int} {k : Nat} (hk : k ≤ x.length) (hk2 : k ≤ y.length) (h : k = x.length ∨ k = y.length) : lessOf (x.drop k) (y.drop k) = decide (x.length < y.length) := by
  rcases h with h | h
  · subst h; rw [List.drop_length]
    by_cases h2 : x.length < y.length
    · rw [List.drop_eq_getElem_cons h2, lessOf]; simp [h2]
    · have : y.drop x.length = [] := List.drop_eq_nil_iff.2 (by omega)
      rw [this, lessOf]; simp [h2]
  · subst h; rw [List.drop_length]
    by_cases h2 : y.length < x.length
    · rw [List.drop_eq_getElem_cons h2, lessOf]; simp; omega
    · have : x.drop y.length = [] := List.drop_eq_nil_iff.2 (by omega)
      rw [this, lessOf]; simp; omega

set_option maxHeartbeats 1000000 in
theorem Less_any (A C : Option Addr) (c d : Nat) (x y : List Int) (w : World) (hx : x.length ≤ 1000000000000000) (hy : y.length ≤ 1000000000000000) (hA : Ints w A x) (hC : Ints w C y) :
    Calls Try.prog 21 #[.slice A x.length c, .slice C y.length d] w fun e w' => e = .returned (.bool (lessOf x y)) ∧ ∃ n, w' = w.drewN n := by
  go_enter Try.func21, Try.ntmps21
  go_wp2
  go_loopw [5] (fun i wr => ∃ (k m : Nat), k ≤ x.length ∧ k ≤ y.length ∧ i = .int .i64 k ∧ lessOf x y = lessOf (x.drop k) (y.drop k) ∧ wr = w.drewN m) (fun i _ => x.length - (intOf i).toNat)
  case atStart => exact ⟨0, 0, Nat.zero_le _, Nat.zero_le _, rfl, rfl, rfl⟩
  case round =>
    obtain ⟨k, m, hk, hk2, rfl, hl, rfl⟩ := hrel
    by_cases h1 : k < x.length
    · by_cases h2 : k < y.length
      · obtain ⟨b, o, rfl, hcA⟩ := hA (by omega)
        obtain ⟨b', o', rfl, hcC⟩ := hC (by omega)
        have ha := hcA k h1
        have hc := hcC k h2
        rw [lessOf_step h1 h2] at hl
        clear hcA hcC
        generalize hp : x[k] = p at *
        generalize hq : y[k] = q at *
        clear hp hq
        by_cases h3 : p = q
        · have hne : (p != q) = false := by simp [h3]
          rw [if_neg (by simpa using h3)] at hl
          have Hl := Lib.hid hl
          clear hl h3
          go_wp2
          go_quiet (fail)
          go_wp2
          go_roundw
          case rel => exact ⟨k + 1, _, by omega, by omega, by go_num, Hl.out, rfl⟩
          case measure => simp [intOf]; omega
        · have hne : (p != q) = true := by simp [h3]
          rw [if_pos (by simpa using h3)] at hl
          have Hl := Lib.hid hl
          clear hl h3
          by_cases h4 : p < q
          all_goals
            go_wp2
            go_quiet (fail)
            go_wp2
            go_quiet (fail)
            go_wp2
            go_ret
            refine ⟨?_, dN3 _ _ _ _⟩
            rw [Hl.out]
            simp [h4]
      · rw [lessOf_end hk hk2 (.inr (by omega))] at hl
        have Hl := Lib.hid hl
        clear hl
        by_cases h5 : x.length < y.length
        · omega
        go_wp2
        go_ret
        refine ⟨?_, _, rfl⟩
        rw [Hl.out]
        simp; omega
    · rw [lessOf_end hk hk2 (.inl (by omega))] at hl
      have Hl := Lib.hid hl
      clear hl
      go_wp2
      all_goals
        go_ret
        refine ⟨?_, _, rfl⟩
        rw [Hl.out]
        simp

set_option maxHeartbeats 400000 in
theorem Same_any (A C : Option Addr) (c d : Nat) (x y : List Int) (w : World) (hx : x.length ≤ 1000000000000000) (hy : y.length ≤ 1000000000000000) (hA : Ints w A x) (hC : Ints w C y) :
    Calls Try.prog 20 #[.slice A x.length c, .slice C y.length d] w fun e w' => e = .returned (.bool (sameOf x y)) ∧ ∃ n, w' = w.drewN n := by
  have c1 := Lib.hid (Less_any A C c d x y w hx hy hA hC)
  have c2 := fun n => Lib.hid (Less_any C A d c y x (w.drewN n) hy hx hC hA)
  unfold sameOf
  generalize lessOf x y = p at *
  generalize lessOf y x = q at *
  have hA' := Lib.hid hA
  have hC' := Lib.hid hC
  clear hA hC
  cases p
  · go_enter Try.func20, Try.ntmps20
    go_wp2_with fail
    refine c1.out.mono ?_
    rintro e w' ⟨rfl, n, rfl⟩
    go_wp2_with fail
    refine (c2 _).out.mono ?_
    rintro e w' ⟨rfl, n2, rfl⟩
    go_wp2
    go_ret
    exact ⟨rfl, _, rfl⟩
  · go_enter Try.func20, Try.ntmps20
    go_wp2_with fail
    refine c1.out.mono ?_
    rintro e w' ⟨rfl, n, rfl⟩
    go_wp2
    go_ret
    exact ⟨rfl, _, rfl⟩
end Go.Proofs.Ytoedkdgaofkgaaa
