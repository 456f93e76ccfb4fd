/- What the laws of the seat share: the set-up's closed facts; items that came in. -/
import Derived.Test.YtoedkdgaofkgaaaRows
import Derived.Test.YtoedkdgaofkgaaaFrame
import Derived.Test.YtoedkdgaofkgaaaAlive
import Derived.Test.YtoedkdgaofkgaaaLaw2
namespace Go.Proofs.Ytoedkdgaofkgaaa
open Go.RowKit Go.ChangeShapes Go.WideShapes Go.ChangeAt
set_option linter.unusedVariables false
theorem own : ownKnob Try.prog.godebug = none := by kernel_rfl
theorem laidOut : laidOutB Try.prog = true := by kernel_rfl
theorem Items.of_recs {w : World} {A : Option Addr} {n : Nat} {g : Nat → Nat → Int} (h : Recs w A 3 n g) : Items w A ((List.range n).map fun i => ⟨g i 0, g i 1, g i 2⟩) := fun hn => by
  obtain ⟨b, off, rfl, hc⟩ := h (by simpa using hn)
  refine ⟨b, off, rfl, fun i hi => ?_⟩
  have hi' : i < n := by simpa using hi
  have h0 := hc i 0 hi' (by omega)
  have h1 := hc i 1 hi' (by omega)
  have h2 := hc i 2 hi' (by omega)
  simp only [List.getElem_map, List.getElem_range]
  exact ⟨h0, h1, h2⟩
/-- a list of items that came in -/
theorem open_items {H : Type} {enc : TypeId × Value → H} {w : World} {base : Nat} {held : Bool} {r : Reach} {b0 : Nat} {v : Value} {d : DataW H} {p : List MemPlace} (hv : Value.okWide Try.prog w r b0 22 v) (h : DataW.Trod enc Try.prog w base (fun _ => true) held 22 v d p) :
    ∃ (A : Option Addr) (c : Nat) (l : List Item), v = .slice A l.length c ∧ l.length ≤ maxLen ∧ Items w A l ∧ LenIs d l.length := by
  obtain ⟨A, n, c, g, rfl, hm, hr, _, hL⟩ := open_recs (fs := _) Try.underlying22 Try.underlying42 (by kernel_rfl) (by kernel_rfl) (by kernel_rfl) (by decide) hv h
  exact ⟨A, c, (List.range n).map fun i => ⟨g i 0, g i 1, g i 2⟩, by simp, by simpa using hm, Items.of_recs hr, by simpa using hL⟩
end Go.Proofs.Ytoedkdgaofkgaaa
namespace Go.Proofs.Ytoedkdgaofkgaaa
theorem bytes42 : Try.prog.bytesOf 42 = 24 := by kernel_rfl
theorem len_ok {n : Nat} (h : n * Try.prog.bytesOf 42 ≤ reachBytes) : n ≤ 6000000000000 := by
  rw [bytes42] at h
  have : reachBytes < 140737488355328 := by simpa using reachBytes_lt
  omega
end Go.Proofs.Ytoedkdgaofkgaaa
