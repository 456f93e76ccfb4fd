/- Contracts: the library's Reverse. -/
import Derived.Test.YthhjnplegdmidaaW12
import Derived.RegionTactic
import Derived.Lib.SlicesMore
import Derived.Deep.LoopGhost
namespace Go.Proofs.Ythhjnplegdmidaa
open Go.RowKit
set_option linter.unusedVariables false
set_option linter.unusedSimpArgs false
theorem swp_list (d : Array Int) (i j : Nat) : (Sort.swp d i j).toList = (d.toList.set i d[j]!).set j d[i]! := by
  simp [Sort.swp]
/-- two stores into a row of the call's own -/
theorem own_swap {w : World} {B g cap : Nat} {d : Array Int} (h : OwnI w B 3 (.slice (some ⟨g, 0, none⟩) d.size cap) d.toList) (i j : Nat) :
    OwnI ((w.setCell ⟨g, i, none⟩ (.int .i64 d[j]!)).setCell ⟨g, j, none⟩ (.int .i64 d[i]!)) B 3 (.slice (some ⟨g, 0, none⟩) d.size cap) (Sort.swp d i j).toList ∧ w.grownBy ((w.setCell ⟨g, i, none⟩ (.int .i64 d[j]!)).setCell ⟨g, j, none⟩ (.int .i64 d[i]!)) (some g) := by
  unfold OwnI at h
  rw [show d.toList.length = d.size from rfl] at h
  obtain ⟨a1, a2⟩ := World.ownsRow.stored h i (.int .i64 d[j]!)
  obtain ⟨b1, b2⟩ := World.ownsRow.stored a1 j (.int .i64 d[i]!)
  refine ⟨?_, grown_trans2 a2 b2⟩
  unfold OwnI
  rw [swp_list, List.map_set, List.map_set]
  simpa using b1
set_option maxHeartbeats 2000000 in
theorem Reverse_any (g cap B : Nat) (d : Array Int) (w : World) (hsz : d.size ≤ 1000000000000) (hown : OwnI w B 3 (.slice (some ⟨g, 0, none⟩) d.size cap) d.toList) :
    Calls Try.prog 33 #[.slice (some ⟨g, 0, none⟩) d.size cap] w fun e w' => (∃ v, e = .returned v) ∧ OwnI w' B 3 (.slice (some ⟨g, 0, none⟩) d.size cap) d.toList.reverse ∧ w.grownBy w' (some g) := by
  have HO := Lib.hid hown
  clear hown
  go_enter Try.func33, Try.ntmps33
  go_wp2
  go_loopg [2, 3] d.size (fun k s2 s3 wr => ∃ (i jn : Nat) (jz : Int) (dk : Array Int), s2 = .int .i64 i ∧ s3 = .int .i64 jz ∧ ((i : Int) < jz → jz = jn ∧ jn < d.size) ∧ (¬ (i : Int) < jz → ¬ i < jn) ∧ jn - i ≤ k ∧
    dk.size = d.size ∧ OwnI wr B 3 (.slice (some ⟨g, 0, none⟩) dk.size cap) dk.toList ∧ w.grownBy wr (some g) ∧ Sort.reverseLoop i jn dk = Sort.reverseLoop 0 (d.size - 1) d)
  case atStart => exact ⟨0, d.size - 1, (d.size : Int) - 1, d, rfl, rfl, fun h => ⟨by omega, by omega⟩, fun h => by omega, by omega, rfl, HO.out, World.grownBy.mk rfl rfl rfl (Nat.le_refl _) (fun _ _ _ => rfl), rfl⟩
  case round =>
    obtain ⟨i, jn, jz, dk, rfl, rfl, h1, h2, hk, hds, ho, hg, heq⟩ := hrel
    by_cases hlt : (i : Int) < jz
    · obtain ⟨rfl, hjn⟩ := h1 hlt
      have hij : i < jn := by omega
      have ho' := ho
      unfold OwnI at ho'
      rw [show dk.toList.length = dk.size from rfl] at ho'
      have ci : wr.cell? ⟨g, i, none⟩ = some (.int .i64 dk[i]!) := by
        rw [World.ownsRow.cellAt ho' i (by omega), getElem!_pos dk i (by omega)]
        simp [show i < dk.size by omega]
      have cj : wr.cell? ⟨g, jn, none⟩ = some (.int .i64 dk[jn]!) := by
        rw [World.ownsRow.cellAt ho' jn (by omega), getElem!_pos dk jn (by omega)]
        simp [show jn < dk.size by omega]
      have fi := World.ownsRow.frozenAt ho' i
      have fj := World.ownsRow.frozenAt ho' jn
      have hw : OwnI wr.drew B 3 (.slice (some ⟨g, 0, none⟩) dk.size cap) dk.toList := ho
      have HS := Lib.hid (own_swap hw i jn)
      have HG := Lib.hid hg
      have HE := Lib.hid heq
      have HD := Lib.hid hds
      clear h1 h2 ho ho' hw hg heq hds HO
      generalize dk[i]! = x at *
      generalize dk[jn]! = y at *
      go_wp2_with fail
      go_region
      go_wp2
      go_roundg (jn - 1 - (i + 1))
      case measure => omega
      case rel =>
        have heq := HE.out
        rw [Sort.reverseLoop, if_pos hij] at heq
        exact ⟨i + 1, jn - 1, (jn : Int) - 1, Sort.swp dk i jn, by simp, rfl, fun h => ⟨by omega, by have := HD.out; omega⟩, fun h => by omega, Nat.le_refl _, by rw [Sort.size_swp]; exact HD.out, by rw [Sort.size_swp]; exact HS.out.1, grown_trans2 HG.out (grown_trans (grown_of_below (Below.refl wr.heap.size wr).drew) HS.out.2), heq⟩
    · have hnot := h2 hlt
      rw [Sort.reverseLoop, if_neg hnot] at heq
      have e : dk.toList = d.toList.reverse := by
        rw [heq, Lib.reverseLoop_reverse]
        simp
      rw [hds, e] at ho
      have HO2 := Lib.hid ho
      clear h1 h2 heq e ho hds
      go_wp2
      go_end0
      exact ⟨⟨_, rfl⟩, HO2.out, hg⟩
end Go.Proofs.Ythhjnplegdmidaa
