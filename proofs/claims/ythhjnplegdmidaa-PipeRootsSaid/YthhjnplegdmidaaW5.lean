/- Contracts: the closure that adds a flow. -/
import Derived.Test.YthhjnplegdmidaaW4
import Derived.Test.YthhjnplegdmidaaPlain3
namespace Go.Proofs.Ythhjnplegdmidaa
open Go.RowKit
set_option linter.unusedVariables false
theorem grown_of_below {W W' : World} (h : Below W.heap.size W W') : W.grownBy W' none := by
  obtain ⟨h1, h2, h3, h4, h5⟩ := h
  exact ⟨h1, h2, h3, h4, fun i hi _ => h5 i hi⟩
/-- the row of the flows -/
def RowIs (W : World) (B g n : Nat) (out : List Int) : Prop := out.length = n ∧ W.ownsRow B 3 1 (.slice (some ⟨g, 0, none⟩) n n) n (out.map (Value.int .i64))
theorem RowIs.at {W : World} {B g n : Nat} {out : List Int} (h : RowIs W B g n out) {k : Nat} (hk : k < out.length) : W.cell? ⟨g, k, none⟩ = some (.int .i64 out[k]) ∧ W.frozen? ⟨g, k, none⟩ = false := by
  have hk' : k < n := by rw [← h.1]; exact hk
  refine ⟨?_, World.ownsRow.frozenAt h.2 k⟩
  rw [World.ownsRow.cellAt h.2 k (by omega), List.getElem?_map, List.getElem?_eq_getElem hk]
  rfl
theorem RowIs.lt {W : World} {B g n : Nat} {out : List Int} (h : RowIs W B g n out) : B ≤ g ∧ g < W.heap.size := World.ownsRow.lt h.2 g rfl
theorem RowIs.kept {W W' : World} {B g n : Nat} {out : List Int} (h : RowIs W B g n out) {row : Option Nat} (hg : W.grownBy W' row) (hne : some g ≠ row) : RowIs W' B g n out := ⟨h.1, World.ownsRow.kept h.2 hg (.inr hne)⟩
theorem RowIs.set {W : World} {B g n : Nat} {out : List Int} (h : RowIs W B g n out) (k : Nat) (x : Int) : RowIs (W.setCell ⟨g, k, none⟩ (.int .i64 x)) B g n (out.set k x) ∧ W.grownBy (W.setCell ⟨g, k, none⟩ (.int .i64 x)) (some g) := by
  obtain ⟨h1, h2⟩ := World.ownsRow.stored h.2 k (.int .i64 x)
  refine ⟨⟨by rw [List.length_set]; exact h.1, ?_⟩, h2⟩
  rw [List.map_set]
  exact h1
theorem grown_trans {A B C : World} {row : Option Nat} (h : A.grownBy B none) (k : B.grownBy C row) : A.grownBy C row := by
  obtain ⟨h1, h2, h3, h4, h5⟩ := h
  obtain ⟨k1, k2, k3, k4, k5⟩ := k
  exact ⟨k1.trans h1, k2.trans h2, k3.trans h3, Nat.le_trans h4 k4, fun i hi hne => (k5 i (Nat.lt_of_lt_of_le hi h4) hne).trans (h5 i hi (by simp))⟩
set_option maxHeartbeats 2000000 in
theorem add_any (A : Option Addr) (c : Nat) (l : List Pipe) (pl po g B : Nat) (out : List Int) (node flow : Int) (W : World) (hm : l.length ≤ 1000000000000) (hl : W.cell? ⟨pl, 0, none⟩ = some (.slice A l.length c)) (hp : Pipes W A l)
    (ho : W.cell? ⟨po, 0, none⟩ = some (.slice (some ⟨g, 0, none⟩) l.length l.length)) (hr : RowIs W B g l.length out) (hbd : ∀ x ∈ out, -9000000000000000000 ≤ x + flow ∧ x + flow ≤ 9000000000000000000) :
    Calls Try.prog 30 #[.int .i64 node, .int .i64 flow, .pointer (some ⟨pl, 0, none⟩), .pointer (some ⟨po, 0, none⟩)] W fun e w' => (∃ v, e = .returned v) ∧ RowIs w' B g l.length (addAt l out node flow) ∧ W.grownBy w' (some g) := by
  have hfi := find_any A c l node W (by omega) hp
  cases hf : l.findIdx? fun p => p.to_ == node with
  | none =>
    have hi : idxOf l (fun q => q.to_ == node) = -1 := by unfold idxOf; rw [hf]
    have ha : addAt l out node flow = out := by unfold addAt; rw [hf]
    rw [hi] at hfi
    rw [ha]
    have Hfi := Lib.hid hfi
    clear hfi hi ha hf
    go_enter Try.func30, Try.ntmps30
    go_wp2_with fail
    refine Hfi.out.mono ?_
    rintro e w1 ⟨rfl, hb1⟩
    have hr1 := hr.kept (grown_of_below hb1) (by simp)
    have hg1 := grown_trans (grown_of_below hb1) (World.grownBy.mk rfl rfl rfl (Nat.le_refl _) (fun _ _ _ => rfl) : w1.grownBy w1 (some g))
    clear hb1
    go_wp2
    go_end0
    exact ⟨⟨_, rfl⟩, hr1, hg1⟩
  | some i =>
    obtain ⟨hil, _, _⟩ := List.findIdx?_eq_some_iff_getElem.1 hf
    have hio : i < out.length := by rw [hr.1]; exact hil
    have hi : idxOf l (fun q => q.to_ == node) = i := by unfold idxOf; rw [hf]
    have ha : addAt l out node flow = out.set i (out[i] + flow) := by unfold addAt; rw [hf]; simp [hio]
    obtain ⟨b1, b2⟩ := hbd _ (List.getElem_mem hio)
    rw [hi] at hfi
    rw [ha]
    obtain ⟨x, hx⟩ : ∃ x, out[i] = x := ⟨_, rfl⟩
    rw [hx] at b1 b2 ⊢
    have Hx := Lib.hid hx
    have Hfi := Lib.hid hfi
    clear hfi hi ha hf hx
    go_enter Try.func30, Try.ntmps30
    go_wp2_with fail
    refine Hfi.out.mono ?_
    rintro e w1 ⟨rfl, hb1⟩
    have hr1 := hr.kept (grown_of_below hb1) (by simp)
    obtain ⟨c1, c2⟩ := hr1.at hio
    rw [Hx.out] at c1
    have ho1 := cell_later hb1 ho
    obtain ⟨s1, s2⟩ := hr1.set i (x + flow)
    have hg1 := grown_trans (grown_of_below hb1) s2
    have S1 := Lib.hid s1
    have G1 := Lib.hid hg1
    clear hb1 s1 s2 hg1 hr1 hr hbd
    go_wp2
    go_end0
    exact ⟨⟨_, rfl⟩, S1.out, G1.out⟩
end Go.Proofs.Ythhjnplegdmidaa
