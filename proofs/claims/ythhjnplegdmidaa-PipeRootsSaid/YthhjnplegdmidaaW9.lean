/- Contracts: the closure that reads a pressure. -/
import Derived.Test.YthhjnplegdmidaaW8
namespace Go.Proofs.Ythhjnplegdmidaa
open Go.RowKit
set_option linter.unusedVariables false
set_option linter.unusedSimpArgs false
/-- the pressure at a node, by the row of the pressures at the ends of the pipes -/
def pressAt (l : List Pipe) (ps : List Int) (root node : Int) : Int × Bool := if node = 0 then (root, true) else match l.findIdx? fun p => p.to_ == node with
  | some i => (ps.getD i 0, true)
  | none => (0, false)
set_option maxHeartbeats 2000000 in
theorem press_any (A : Option Addr) (c : Nat) (l : List Pipe) (pr pl pp g B : Nat) (ps : List Int) (root node : Int) (W : World) (hm : l.length ≤ 1000000000000) (hro : W.cell? ⟨pr, 0, none⟩ = some (.int .i64 root)) (hl : W.cell? ⟨pl, 0, none⟩ = some (.slice A l.length c)) (hp : Pipes W A l)
    (ho : W.cell? ⟨pp, 0, none⟩ = some (.slice (some ⟨g, 0, none⟩) l.length l.length)) (hr : RowIs W B g l.length ps) :
    Calls Try.prog 36 #[.int .i64 node, .pointer (some ⟨pr, 0, none⟩), .pointer (some ⟨pl, 0, none⟩), .pointer (some ⟨pp, 0, none⟩)] W fun e w' => e = .returned (.tuple #[.int .i64 (pressAt l ps root node).1, .bool (pressAt l ps root node).2]) ∧ Below W.heap.size W w' := by
  by_cases hn : node = 0
  · subst hn
    have e0 : pressAt l ps root 0 = (root, true) := by simp [pressAt]
    rw [e0]
    clear e0
    go_enter Try.func36, Try.ntmps36
    go_wp2
    go_ret2
    exact ⟨rfl, Below.refl _ _⟩
  · have hn' : (node == 0) = false := by simpa using hn
    have hfi := find_any A c l node W (by omega) hp
    cases hf : l.findIdx? fun p => p.to_ == node with
    | none =>
      have hi : idxOf l (fun q => q.to_ == node) = -1 := by unfold idxOf; rw [hf]
      have e0 : pressAt l ps root node = (0, false) := by unfold pressAt; rw [if_neg hn, hf]
      rw [hi] at hfi
      rw [e0]
      have Hfi := Lib.hid hfi
      clear hfi hi e0 hf
      go_enter Try.func36, Try.ntmps36
      go_wp2_with fail
      refine Hfi.out.mono ?_
      rintro e w1 ⟨rfl, hb1⟩
      go_wp2
      go_ret2
      exact ⟨rfl, hb1⟩
    | some i =>
      obtain ⟨hil, _, _⟩ := List.findIdx?_eq_some_iff_getElem.1 hf
      have hio : i < ps.length := by rw [hr.1]; exact hil
      have hi : idxOf l (fun q => q.to_ == node) = i := by unfold idxOf; rw [hf]
      have e0 : pressAt l ps root node = (ps[i], true) := by
        unfold pressAt; rw [if_neg hn, hf]; simp [hio]
      rw [hi] at hfi
      rw [e0]
      obtain ⟨o0, _⟩ := hr.at hio
      have hilt : (i : Int) < (l.length : Int) := by omega
      have hi0 : (0 : Int) ≤ (i : Int) := by omega
      have Hfi := Lib.hid hfi
      generalize ps[i] = x at *
      clear hfi hi e0 hf
      go_enter Try.func36, Try.ntmps36
      go_wp2_with fail
      refine Hfi.out.mono ?_
      rintro e w1 ⟨rfl, hb1⟩
      have o2 := cell_later hb1 o0
      have o3 := cell_later hb1 ho
      clear o0 ho Hfi hr
      go_wp2
      go_ret2
      exact ⟨rfl, hb1⟩
end Go.Proofs.Ythhjnplegdmidaa
