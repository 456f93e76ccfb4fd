/- Contracts: inRange, in, three, Right (both). -/
import Derived.Test.YtoedkdgaofkgaaaChecked
import Derived.Test.YtoedkdgaofkgaaaBase
import Derived.Test.YtoedkdgaofkgaaaPlain
namespace Go.Proofs.Ytoedkdgaofkgaaa
open Go.RowKit
set_option linter.unusedVariables false

def Items (w : World) (A : Option Addr) (l : List Item) : Prop :=
  0 < l.length → ∃ b off, A = some ⟨b, off, none⟩ ∧ ∀ i (h : i < l.length),
    w.cell? ⟨b, off + i * 3, none⟩ = some (.int .i64 (l[i]).a) ∧ w.cell? ⟨b, off + i * 3 + 1, none⟩ = some (.int .i64 (l[i]).b) ∧ w.cell? ⟨b, off + i * 3 + 2, none⟩ = some (.int .i64 (l[i]).v)
theorem Items.below {w w' : World} {A : Option Addr} {l : List Item} (h : Items w A l) (hb : Below w.heap.size w w') : Items w' A l := fun hn => by
  obtain ⟨b, off, rfl, hc⟩ := h hn
  exact ⟨b, off, rfl, fun i hi => ⟨cell_later hb (hc i hi).1, cell_later hb (hc i hi).2.1, cell_later hb (hc i hi).2.2⟩⟩

theorem inRange_any (n : Int) (w : World) : Calls Try.prog 23 #[.int .i64 n] w fun e w' => e = .returned (.bool (inB n)) ∧ w = w' := by
  by_cases h1 : 0 ≤ n <;> by_cases h2 : n ≤ 1000000000
  all_goals
    go_enter Try.func23, Try.ntmps23
    go_wp2
    go_ret
    exact ⟨by simp [inB, *], rfl⟩
theorem in_any (n : Int) (w : World) : Calls Try.prog 24 #[.int .i64 n] w fun e w' => e = .returned (.bool (inB n)) ∧ w = w' := by
  by_cases h1 : 0 ≤ n <;> by_cases h2 : n ≤ 1000000000
  all_goals
    go_enter Try.func24, Try.ntmps24
    go_wp2
    go_ret
    exact ⟨by simp [inB, *], rfl⟩
def threeL : List Item := [⟨3, 1, 10⟩, ⟨2, 2, 7⟩, ⟨4, 1, 9⟩]
def SliceI (w : World) (l : List Item) (e : Ending) (w' : World) : Prop := ∃ A c, e = .returned (.slice A l.length c) ∧ Items w' A l ∧ Below w.heap.size w w'
theorem three_any (w : World) : Calls Try.prog 22 #[] w (SliceI w threeL) := by
  go_enter Try.func22, Try.ntmps22
  go_wp2
  go_ret
  refine ⟨_, _, rfl, fun _ => ⟨_, _, rfl, fun i hi => ?_⟩, by go_grown⟩
  have hi' : i < 3 := hi
  match i, hi' with
  | 0, _ => exact ⟨by go_simp; rfl, by go_simp; rfl, by go_simp; rfl⟩
  | 1, _ => exact ⟨by go_simp; rfl, by go_simp; rfl, by go_simp; rfl⟩
  | 2, _ => exact ⟨by go_simp; rfl, by go_simp; rfl, by go_simp; rfl⟩

theorem Right_any (A : Option Addr) (c : Nat) (l : List Item) (w : World) (hm : l.length ≤ 1000000000000000) (h : Items w A l) : Calls Try.prog 12 #[.slice A l.length c] w fun e w' => e = .returned (.int .i64 (rightOf l)) ∧ Below w.heap.size w w' := by
  by_cases hl : l.length ≤ 12
  · go_enter Try.func12, Try.ntmps12
    go_wp2
    go_loopw [10] (fun i wr => ∃ k : Nat, k ≤ l.length ∧ i = .int .i64 k ∧ itemsB (l.take k) = true ∧ Below w.heap.size w wr) (fun i _ => l.length - (intOf i).toNat)
    case atStart => exact ⟨0, Nat.zero_le _, rfl, rfl, Below.refl _ _⟩
    case round =>
      obtain ⟨k, hk, rfl, he, hb⟩ := hrel
      have He := Lib.hid he; clear he
      by_cases hlt : k < l.length
      · obtain ⟨b, off, rfl, hc⟩ := h (by omega)
        obtain ⟨h0, h1, h2⟩ := hc k hlt
        have h0' := cell_later hb h0
        have h1' := cell_later hb h1
        have h2' := cell_later hb h2
        clear h0 h1 h2 hc h
        have hfalse := itemsB_false k hlt
        have htake := itemsB_take_succ k hlt
        have Hf := Lib.hid hfalse
        have Ht := Lib.hid htake
        clear hfalse htake
        go_wp2_with (go_at_call 23; refine (inRange_any _ _).mono ?_; rintro e w' ⟨rfl, rfl⟩)
        case roundEnd =>
          refine ⟨⟨k + 1, by omega, rfl, ?_, hb.alloc hb.size _⟩, by simp [intOf]; omega⟩
          rw [Ht.out, He.out]
          simp_all [itemB]
        all_goals
          go_ret
          refine ⟨?_, by have := hb.size; go_grown⟩
          rw [rightOf, if_neg (by omega), Hf.out (by simp_all [itemB])]
          rfl
      · go_wp2
        go_ret
        refine ⟨?_, hb⟩
        have : k = l.length := by omega
        subst this
        rw [rightOf, if_neg (by omega), ← List.take_length (l := l), He.out]
        rfl
  · go_enter Try.func12, Try.ntmps12
    go_wp2
    go_ret
    exact ⟨by rw [rightOf, if_pos (by omega)]; rfl, Below.refl _ _⟩
end Go.Proofs.Ytoedkdgaofkgaaa
namespace Go.Proofs.Ytoedkdgaofkgaaa
open Go.RowKit
set_option linter.unusedVariables false
theorem refRight_any (A : Option Addr) (c : Nat) (l : List Item) (w : World) (hm : l.length ≤ 1000000000000000) (h : Items w A l) : Calls Try.prog 13 #[.slice A l.length c] w fun e w' => e = .returned (.int .i64 (rightOf l)) ∧ w = w' := by
  by_cases hl : l.length ≤ 12
  · go_enter Try.func13, Try.ntmps13
    go_wp2
    go_loop [3] (fun i => ∃ k : Nat, k ≤ l.length ∧ i = .int .i64 k ∧ itemsB (l.take k) = true) (fun i => l.length - (intOf i).toNat)
    case atStart => exact ⟨0, Nat.zero_le _, rfl, rfl⟩
    case round =>
      obtain ⟨k, hk, rfl, he⟩ := hrel
      have He := Lib.hid he; clear he
      by_cases hlt : k < l.length
      · obtain ⟨b, off, rfl, hc⟩ := h (by omega)
        obtain ⟨h0, h1, h2⟩ := hc k hlt
        clear hc h
        have hfalse := itemsB_false k hlt
        have htake := itemsB_take_succ k hlt
        have Hf := Lib.hid hfalse
        have Ht := Lib.hid htake
        clear hfalse htake
        go_wp2_with (go_at_call 24; refine (in_any _ _).mono ?_; rintro e w' ⟨rfl, rfl⟩)
        case roundEnd =>
          refine ⟨⟨k + 1, by omega, rfl, ?_⟩, by simp [intOf]; omega⟩
          rw [Ht.out, He.out]
          simp_all [itemB]
        all_goals
          go_ret
          refine ⟨?_, rfl⟩
          rw [rightOf, if_neg (by omega), Hf.out (by simp_all [itemB])]
          rfl
      · go_wp2
        go_ret
        refine ⟨?_, rfl⟩
        have : k = l.length := by omega
        subst this
        rw [rightOf, if_neg (by omega), ← List.take_length (l := l), He.out]
        rfl
  · go_enter Try.func13, Try.ntmps13
    go_wp2
    go_ret
    exact ⟨by rw [rightOf, if_pos (by omega)]; rfl, rfl⟩
end Go.Proofs.Ytoedkdgaofkgaaa
