/- Contracts: the reference's way. -/
import Derived.Test.YthhjnplegdmidaaW6
namespace Go.Proofs.Ythhjnplegdmidaa
open Go.RowKit
set_option linter.unusedVariables false
set_option linter.unusedSimpArgs false
theorem own_one (w : World) (B : Nat) (x : Int) (hB : B ≤ w.heap.size) : OwnI (w.alloc (.cells #[.int .i64 x] 3)) B 3 (.slice (some ⟨w.heap.size, 0, none⟩) 1 1) [x] :=
  ⟨by simp, .inr ⟨w.heap.size, 1, #[.int .i64 x], rfl, hB, heap_alloc_new w _, Nat.le_refl _, by simp [maxLen], by simp, by simp⟩⟩
theorem OwnI.nil_ (w : World) (B : Nat) : OwnI w B 3 (.slice none 0 0) [] := ⟨by simp, .inl ⟨rfl, rfl⟩⟩
/-- where the way stands when the pipes from m on are done -/
def WInv (l : List Pipe) (n0 : Int) (m : Nat) (node : Int) (out : List Int) : Prop :=
  (wayR l.reverse n0).1.map (fun i : Nat => (i : Int)) = (wayR (l.take m).reverse node).1.map (fun i : Nat => (i : Int)) ++ out ∧ (wayR l.reverse n0).2 = (wayR (l.take m).reverse node).2
theorem winv_start (l : List Pipe) (n0 : Int) : WInv l n0 l.length n0 [] := by simp [WInv]
theorem winv_yes {l : List Pipe} {n0 : Int} {m : Nat} (hm : m < l.length) {node : Int} {out : List Int} (h : WInv l n0 (m + 1) node out) (ht : l[m].to_ = node) : WInv l n0 m l[m].from_ ((m : Int) :: out) := by
  unfold WInv at *
  rw [List.take_succ_eq_append_getElem hm, List.reverse_append] at h
  simp only [List.reverse_cons, List.reverse_nil, List.nil_append, List.cons_append, wayR] at h
  rw [if_pos ht] at h
  obtain ⟨h1, h2⟩ := h
  refine ⟨?_, h2⟩
  rw [h1]
  simp
  omega
theorem winv_no {l : List Pipe} {n0 : Int} {m : Nat} (hm : m < l.length) {node : Int} {out : List Int} (h : WInv l n0 (m + 1) node out) (ht : l[m].to_ ≠ node) : WInv l n0 m node out := by
  unfold WInv at *
  rw [List.take_succ_eq_append_getElem hm, List.reverse_append] at h
  simp only [List.reverse_cons, List.reverse_nil, List.nil_append, List.cons_append, wayR] at h
  rw [if_neg ht] at h
  exact h
def wayI (l : List Pipe) (n : Int) : List Int := (wayOf l n).1.map fun i : Nat => (i : Int)
theorem winv_end {l : List Pipe} {n0 node : Int} {out : List Int} (h : WInv l n0 0 node out) : wayI l n0 = out ∧ (wayOf l n0).2 = decide (node = 0) := by
  unfold WInv at h
  simp [wayR] at h
  unfold wayI wayOf
  exact ⟨h.1, by rw [h.2]⟩
def WayPost (w : World) (out : List Int) (ok : Bool) (e : Ending) (w' : World) : Prop := ∃ A c, e = .returned (.tuple #[.slice A out.length c, .bool ok]) ∧ Ints w' A out ∧ OwnI w' w.heap.size 3 (.slice A out.length c) out ∧ Below w.heap.size w w'
set_option maxHeartbeats 4000000 in
theorem way_any (A : Option Addr) (c : Nat) (l : List Pipe) (n0 : Int) (w : World) (hm : l.length ≤ 1000000) (h : Pipes w A l) :
    Calls Try.prog 31 #[.slice A l.length c, .int .i64 n0] w (WayPost w (wayI l n0) (wayOf l n0).2) := by
  have hst := winv_start l n0
  go_enter Try.func31, Try.ntmps31
  go_wp2
  go_loopw [1, 6, 7] (fun nv ov i wr => ∃ (m : Nat) (z node : Int) (out : List Int) (A' : Option Addr) (c' : Nat), m ≤ l.length ∧ z = (m : Int) - 1 ∧ i = .int .i64 z ∧ nv = .int .i64 node ∧ ov = .slice A' out.length c' ∧ out.length ≤ l.length - m ∧ WInv l n0 m node out ∧ Ints wr A' out ∧ OwnI wr w.heap.size 3 (.slice A' out.length c') out ∧ Below w.heap.size w wr) (fun _ _ i _ => (intOf i + 1).toNat)
  case atStart => exact ⟨l.length, _, n0, [], none, 0, Nat.le_refl _, rfl, by simp, rfl, rfl, by simp, hst, Ints.nil _ _, OwnI.nil_ _ _, Below.refl _ _⟩
  case round =>
    clear hst
    obtain ⟨m, z, node, out, A', c', hml, hz, rfl, rfl, rfl, hol, hinv, hin, hio, hb⟩ := hrel
    have HIN := Lib.hid hin
    have HIO := Lib.hid hio
    clear hin hio
    cases m with
    | zero =>
      obtain rfl : z = -1 := by omega
      obtain ⟨e1, e2⟩ := winv_end hinv
      have E1 := Lib.hid e1
      have E2 := Lib.hid e2
      clear e1 e2 hinv hz
      go_wp2
      go_ret2
      rw [E1.out, E2.out]
      refine ⟨A', c', ?_, HIN.out, HIO.out, hb⟩
      have e : (node == 0) = decide (node = 0) := by rw [Bool.eq_iff_iff]; simp
      rw [← e]
      rfl
    | succ m =>
      have hmk : m < l.length := by omega
      have hzm : z = (m : Int) := by omega
      clear hz
      subst hzm
      have hy := winv_yes hmk hinv
      have hn := winv_no hmk hinv
      obtain ⟨b, off, rfl, hc⟩ := h (by omega)
      obtain ⟨g0, g1, g2, g3, g4⟩ := hc m hmk
      replace g1 := cell_later hb g1
      replace g2 := cell_later hb g2
      have Hy := Lib.hid hy
      have Hn := Lib.hid hn
      clear g0 g3 g4 hc hy hn hinv
      generalize l[m].to_ = tt at *
      generalize l[m].from_ = fr at *
      by_cases ht : tt = node
      · have ht' : (tt == node) = true := by simpa using ht
        have hw := Lib.hid (Hy.out ht)
        have hlen : ([(m : Int)] : List Int).length + out.length < 1000000000000 := by simp; omega
        have hlen := Lib.hid hlen
        have hown := own_one wr w.heap.size (m : Int) hb.size
        have hin1 : Ints (wr.alloc (.cells #[.int .i64 (m : Int)] 3)) A' out := HIN.out.below (below_alloc _ _)
        have hbb := hb.alloc hb.size (.cells #[.int .i64 (m : Int)] 3)
        have gg := cell_later (below_alloc wr (.cells #[.int .i64 (m : Int)] 3)) g1
        clear ht Hy Hn
        go_wp2_with (at_builtin; refine wpList_cat w (wr.alloc (.cells #[.int .i64 (m : Int)] 3)) (by rfl) (.tmp 23) (.tmp 24) 30 (by rfl) w.heap.size 3 Try.underlying30 info3 (.slice (some ⟨wr.heap.size, 0, none⟩) 1 1) [(m : Int)] (by rfl) hown A' c' out (by rfl) hin1 hbb hlen.out hbb.size ?_)
        intro v' w3 hown3 hb3 hg3 _
        obtain ⟨A3, c3, rfl, hi3⟩ := hown3.form
        have g3 := hg3.cell gg (by
          have := World.block_lt_of_cell? _ _ g1
          simp only at this
          simp [Value.ownBlock]; omega)
        replace hi3 := Lib.hid hi3
        have HO3 := Lib.hid hown3
        clear hown3 hg3 hown hin1 hbb gg g1 g2 HIN HIO
        simp only [List.cons_append, List.nil_append, List.length_cons] at hi3 HO3 ⊢
        go_wp2
        go_roundw
        case rel => exact ⟨m, _, fr, (m : Int) :: out, A3, c3, by omega, by simp, rfl, rfl, by simp, by simp; omega, hw.out, hi3.out, HO3.out, hb3⟩
        case measure => first | (simp [intOf]; done) | (simp [intOf]; omega)
      · have ht' : (tt == node) = false := by simpa using ht
        have hw := Lib.hid (Hn.out ht)
        clear ht Hy Hn
        go_wp2
        go_roundw
        case rel => exact ⟨m, _, node, out, A', c', by omega, by simp, rfl, rfl, rfl, by omega, hw.out, HIN.out, HIO.out, hb⟩
        case measure => first | (simp [intOf]; done) | (simp [intOf]; omega)
end Go.Proofs.Ythhjnplegdmidaa
