/-
  No cell of these rows narrows 'for every input' (looked for: loops, veiled, ifaces, maps, wideKeys, modest, calm, conditions, laid).
  DERIVED. THE GIVEN ROWS OF THIS SEAT. 8 by the template 'for every input the law returns true; each argument reads behind the call as it read before'; 0 by the template 'total and deterministic' (their statements: YtoedkdgaofkgaaaTotals.lean).
  GIVEN WITH THE SEED: the statements are not yours to turn. If you find one false, say at which input.
  Laid BY PROGRAM, IN A SANDBOX (cutbox-rows.mjs): the forced cells as the released guide's own fill.sh prints them over the translation a019ce33a908c5dc… (all of the seat's roots in one cut). By AI agents, Wed Nov 11 2026. No macro, syntax, notation, axiom, sorry.
-/
import Derived.Test.YtoedkdgaofkgaaaChecked
import GoSem.Claim
import GoSem.ClaimJoined
import GoSem.ClaimMapViews
import Derived.JoinedTies
import Derived.KernelRfl
namespace Go.Proofs.Ytoedkdgaofkgaaa
/- THE CELL 'sum', in the pinned program and in every row, IS THE sha256 OF THE DUMP (.gsa) THAT YtoedkdgaofkgaaaProg.lean LOADS. Nothing in Lean hashes anything: it is a label: what it is worth is what the hold of that sum in a sandbox is worth. -/
noncomputable def Try.pinned : Pinned := { name := "ytoedkdgaofkgaaa", sum := "a019ce33a908c5dce864a90c8936a35f37f01353732dc7f2e5484012c4592f00", checked := Try.checked }
namespace Rows
def none {H : Type} : Left H := { results := [], args := [] }

/-- 'skiarealaw07.ChooseChecks': WHATEVER THE INPUT: true; the input reads as it did. -/
def chooseChecksSpec : ChangeSpec := { name := "chooseChecks", fn := fun _ => fun
  | [d] => { results := [.lit (.bool true)], args := [d] }
  | _ => none }
def chooseChecksRow : OpenClaim := { program := "ytoedkdgaofkgaaa", sum := "a019ce33a908c5dce864a90c8936a35f37f01353732dc7f2e5484012c4592f00", func := "skiarea/skiarealaw07.ChooseChecks", spec := "chooseChecks", unfollowed := true, recurses := true, apart := false }
def ChooseChecksSaid : Prop := chooseChecksRow.holds Try.pinned (OpenSpec.ofChange chooseChecksSpec)

/-- ITS FALSE NEIGHBOUR: 'it returns false'. Refute it at one input. -/
def chooseChecksWrong : ChangeSpec := { name := "chooseChecks", fn := fun _ => fun
  | [d] => { results := [.lit (.bool false)], args := [d] }
  | _ => none }
def ChooseChecksWrongFalsely : Prop := chooseChecksRow.holds Try.pinned (OpenSpec.ofChange chooseChecksWrong)

/-- 'skiarealaw07.ChooseNeeds': WHATEVER THE INPUT: true; the input reads as it did. -/
def chooseNeedsSpec : ChangeSpec := { name := "chooseNeeds", fn := fun _ => fun
  | [d1, d2] => { results := [.lit (.bool true)], args := [d1, d2] }
  | _ => none }
def chooseNeedsRow : OpenClaim := { program := "ytoedkdgaofkgaaa", sum := "a019ce33a908c5dce864a90c8936a35f37f01353732dc7f2e5484012c4592f00", func := "skiarea/skiarealaw07.ChooseNeeds", spec := "chooseNeeds", unfollowed := true, recurses := true, apart := false }
def ChooseNeedsSaid : Prop := chooseNeedsRow.holds Try.pinned (OpenSpec.ofChange chooseNeedsSpec)

/-- ITS FALSE NEIGHBOUR: 'it returns false'. Refute it at one input. -/
def chooseNeedsWrong : ChangeSpec := { name := "chooseNeeds", fn := fun _ => fun
  | [d1, d2] => { results := [.lit (.bool false)], args := [d1, d2] }
  | _ => none }
def ChooseNeedsWrongFalsely : Prop := chooseNeedsRow.holds Try.pinned (OpenSpec.ofChange chooseNeedsWrong)

/-- 'skiarealaw07.ChooseFits': WHATEVER THE INPUT: true; the input reads as it did. -/
def chooseFitsSpec : ChangeSpec := { name := "chooseFits", fn := fun _ => fun
  | [d1, d2, d3, d4] => { results := [.lit (.bool true)], args := [d1, d2, d3, d4] }
  | _ => none }
def chooseFitsRow : OpenClaim := { program := "ytoedkdgaofkgaaa", sum := "a019ce33a908c5dce864a90c8936a35f37f01353732dc7f2e5484012c4592f00", func := "skiarea/skiarealaw07.ChooseFits", spec := "chooseFits", unfollowed := true, recurses := true, apart := false }
def ChooseFitsSaid : Prop := chooseFitsRow.holds Try.pinned (OpenSpec.ofChange chooseFitsSpec)

/-- ITS FALSE NEIGHBOUR: 'it returns false'. Refute it at one input. -/
def chooseFitsWrong : ChangeSpec := { name := "chooseFits", fn := fun _ => fun
  | [d1, d2, d3, d4] => { results := [.lit (.bool false)], args := [d1, d2, d3, d4] }
  | _ => none }
def ChooseFitsWrongFalsely : Prop := chooseFitsRow.holds Try.pinned (OpenSpec.ofChange chooseFitsWrong)

/-- 'skiarealaw07.ChooseBests': WHATEVER THE INPUT: true; the input reads as it did. -/
def chooseBestsSpec : ChangeSpec := { name := "chooseBests", fn := fun _ => fun
  | [d1, d2, d3] => { results := [.lit (.bool true)], args := [d1, d2, d3] }
  | _ => none }
def chooseBestsRow : OpenClaim := { program := "ytoedkdgaofkgaaa", sum := "a019ce33a908c5dce864a90c8936a35f37f01353732dc7f2e5484012c4592f00", func := "skiarea/skiarealaw07.ChooseBests", spec := "chooseBests", unfollowed := true, recurses := true, apart := false }
def ChooseBestsSaid : Prop := chooseBestsRow.holds Try.pinned (OpenSpec.ofChange chooseBestsSpec)

/-- ITS FALSE NEIGHBOUR: 'it returns false'. Refute it at one input. -/
def chooseBestsWrong : ChangeSpec := { name := "chooseBests", fn := fun _ => fun
  | [d1, d2, d3] => { results := [.lit (.bool false)], args := [d1, d2, d3] }
  | _ => none }
def ChooseBestsWrongFalsely : Prop := chooseBestsRow.holds Try.pinned (OpenSpec.ofChange chooseBestsWrong)

/-- 'skiarealaw07.ChooseBest': WHATEVER THE INPUT: true; the input reads as it did. -/
def chooseBestSpec : ChangeSpec := { name := "chooseBest", fn := fun _ => fun
  | [d1, d2, d3] => { results := [.lit (.bool true)], args := [d1, d2, d3] }
  | _ => none }
def chooseBestRow : OpenClaim := { program := "ytoedkdgaofkgaaa", sum := "a019ce33a908c5dce864a90c8936a35f37f01353732dc7f2e5484012c4592f00", func := "skiarea/skiarealaw07.ChooseBest", spec := "chooseBest", unfollowed := true, recurses := true, apart := false }
def ChooseBestSaid : Prop := chooseBestRow.holds Try.pinned (OpenSpec.ofChange chooseBestSpec)

/-- ITS FALSE NEIGHBOUR: 'it returns false'. Refute it at one input. -/
def chooseBestWrong : ChangeSpec := { name := "chooseBest", fn := fun _ => fun
  | [d1, d2, d3] => { results := [.lit (.bool false)], args := [d1, d2, d3] }
  | _ => none }
def ChooseBestWrongFalsely : Prop := chooseBestRow.holds Try.pinned (OpenSpec.ofChange chooseBestWrong)

/-- 'skiarealaw07.ChooseLimits': WHATEVER THE INPUT: true; the input reads as it did. -/
def chooseLimitsSpec : ChangeSpec := { name := "chooseLimits", fn := fun _ => fun
  | [d1, d2, d3] => { results := [.lit (.bool true)], args := [d1, d2, d3] }
  | _ => none }
def chooseLimitsRow : OpenClaim := { program := "ytoedkdgaofkgaaa", sum := "a019ce33a908c5dce864a90c8936a35f37f01353732dc7f2e5484012c4592f00", func := "skiarea/skiarealaw07.ChooseLimits", spec := "chooseLimits", unfollowed := true, recurses := true, apart := false }
def ChooseLimitsSaid : Prop := chooseLimitsRow.holds Try.pinned (OpenSpec.ofChange chooseLimitsSpec)

/-- ITS FALSE NEIGHBOUR: 'it returns false'. Refute it at one input. -/
def chooseLimitsWrong : ChangeSpec := { name := "chooseLimits", fn := fun _ => fun
  | [d1, d2, d3] => { results := [.lit (.bool false)], args := [d1, d2, d3] }
  | _ => none }
def ChooseLimitsWrongFalsely : Prop := chooseLimitsRow.holds Try.pinned (OpenSpec.ofChange chooseLimitsWrong)

/-- 'skiarealaw07.ChooseAdds': WHATEVER THE INPUT: true; the input reads as it did. -/
def chooseAddsSpec : ChangeSpec := { name := "chooseAdds", fn := fun _ => fun
  | [d1, d2, d3] => { results := [.lit (.bool true)], args := [d1, d2, d3] }
  | _ => none }
def chooseAddsRow : OpenClaim := { program := "ytoedkdgaofkgaaa", sum := "a019ce33a908c5dce864a90c8936a35f37f01353732dc7f2e5484012c4592f00", func := "skiarea/skiarealaw07.ChooseAdds", spec := "chooseAdds", unfollowed := true, recurses := true, apart := false }
def ChooseAddsSaid : Prop := chooseAddsRow.holds Try.pinned (OpenSpec.ofChange chooseAddsSpec)

/-- ITS FALSE NEIGHBOUR: 'it returns false'. Refute it at one input. -/
def chooseAddsWrong : ChangeSpec := { name := "chooseAdds", fn := fun _ => fun
  | [d1, d2, d3] => { results := [.lit (.bool false)], args := [d1, d2, d3] }
  | _ => none }
def ChooseAddsWrongFalsely : Prop := chooseAddsRow.holds Try.pinned (OpenSpec.ofChange chooseAddsWrong)

/-- 'skiarealaw07.ChooseDrops': WHATEVER THE INPUT: true; the input reads as it did. -/
def chooseDropsSpec : ChangeSpec := { name := "chooseDrops", fn := fun _ => fun
  | [d1, d2, d3] => { results := [.lit (.bool true)], args := [d1, d2, d3] }
  | _ => none }
def chooseDropsRow : OpenClaim := { program := "ytoedkdgaofkgaaa", sum := "a019ce33a908c5dce864a90c8936a35f37f01353732dc7f2e5484012c4592f00", func := "skiarea/skiarealaw07.ChooseDrops", spec := "chooseDrops", unfollowed := true, recurses := true, apart := false }
def ChooseDropsSaid : Prop := chooseDropsRow.holds Try.pinned (OpenSpec.ofChange chooseDropsSpec)

/-- ITS FALSE NEIGHBOUR: 'it returns false'. Refute it at one input. -/
def chooseDropsWrong : ChangeSpec := { name := "chooseDrops", fn := fun _ => fun
  | [d1, d2, d3] => { results := [.lit (.bool false)], args := [d1, d2, d3] }
  | _ => none }
def ChooseDropsWrongFalsely : Prop := chooseDropsRow.holds Try.pinned (OpenSpec.ofChange chooseDropsWrong)

/- THE SECOND FORM. 'bulk': how many values and letters a reading holds, each counted each time it is reached (what is shared counts as often as it is met; a slice's spare places count too). A statement '..UptoSaid' is the law's where the arguments, and the package variables that the reading takes, are together of bulk at most 1048576: NARROWER than '..Said'. Prove '..Said' where nothing that the law and all that it calls make is longer than what came in: it says more and counts as full. Else prove '..UptoSaid'. A law counts once. -/
mutual
def uptoBulk {H : Type} : DataW H → Nat
  | .lit (.string bytes) => bytes.length + 1
  | .lit _ => 1
  | .nil => 1
  | .ptr d => uptoBulk d + 1
  | .slice elems spare => uptoBulkAll elems + uptoBulkAll spare + 1
  | .agg parts => uptoBulkAll parts + 1
  | .iface _ d => uptoBulk d + 1
  | .map entries => uptoBulkEntries entries + 1
  | .held _ => 1
def uptoBulkAll {H : Type} : List (DataW H) → Nat
  | [] => 0
  | d :: r => uptoBulk d + uptoBulkAll r
def uptoBulkEntries {H : Type} : List (Lit × DataW H) → Nat
  | [] => 0
  | x :: r => uptoBulkEntry x + uptoBulkEntries r
def uptoBulkEntry {H : Type} : Lit × DataW H → Nat
  | (.string bytes, d) => bytes.length + uptoBulk d + 1
  | (_, d) => uptoBulk d + 1
 end
def uptoSmall : (H : Type) → List (DataW H) → Bool := fun _ ds => decide (uptoBulkAll ds ≤ 1048576)
def OpenSpec.upto (s : _root_.Go.ChangeSpec) : _root_.Go.OpenSpec := { _root_.Go.OpenSpec.ofChange s with cond := some uptoSmall }

/-- 'skiarealaw07.ChooseChecks', WHERE WHAT IT READS IS OF BULK AT MOST 1048576: true; the input reads as it did. -/
def chooseChecksUptoRow : OpenClaim := { program := "ytoedkdgaofkgaaa", sum := "a019ce33a908c5dce864a90c8936a35f37f01353732dc7f2e5484012c4592f00", func := "skiarea/skiarealaw07.ChooseChecks", spec := "chooseChecks", unfollowed := true, recurses := true, apart := false, narrowed := true }
def ChooseChecksUptoSaid : Prop := chooseChecksUptoRow.holds Try.pinned (OpenSpec.upto chooseChecksSpec)

/-- 'skiarealaw07.ChooseNeeds', WHERE WHAT IT READS IS OF BULK AT MOST 1048576: true; the input reads as it did. -/
def chooseNeedsUptoRow : OpenClaim := { program := "ytoedkdgaofkgaaa", sum := "a019ce33a908c5dce864a90c8936a35f37f01353732dc7f2e5484012c4592f00", func := "skiarea/skiarealaw07.ChooseNeeds", spec := "chooseNeeds", unfollowed := true, recurses := true, apart := false, narrowed := true }
def ChooseNeedsUptoSaid : Prop := chooseNeedsUptoRow.holds Try.pinned (OpenSpec.upto chooseNeedsSpec)

/-- 'skiarealaw07.ChooseFits', WHERE WHAT IT READS IS OF BULK AT MOST 1048576: true; the input reads as it did. -/
def chooseFitsUptoRow : OpenClaim := { program := "ytoedkdgaofkgaaa", sum := "a019ce33a908c5dce864a90c8936a35f37f01353732dc7f2e5484012c4592f00", func := "skiarea/skiarealaw07.ChooseFits", spec := "chooseFits", unfollowed := true, recurses := true, apart := false, narrowed := true }
def ChooseFitsUptoSaid : Prop := chooseFitsUptoRow.holds Try.pinned (OpenSpec.upto chooseFitsSpec)

/-- 'skiarealaw07.ChooseBests', WHERE WHAT IT READS IS OF BULK AT MOST 1048576: true; the input reads as it did. -/
def chooseBestsUptoRow : OpenClaim := { program := "ytoedkdgaofkgaaa", sum := "a019ce33a908c5dce864a90c8936a35f37f01353732dc7f2e5484012c4592f00", func := "skiarea/skiarealaw07.ChooseBests", spec := "chooseBests", unfollowed := true, recurses := true, apart := false, narrowed := true }
def ChooseBestsUptoSaid : Prop := chooseBestsUptoRow.holds Try.pinned (OpenSpec.upto chooseBestsSpec)

/-- 'skiarealaw07.ChooseBest', WHERE WHAT IT READS IS OF BULK AT MOST 1048576: true; the input reads as it did. -/
def chooseBestUptoRow : OpenClaim := { program := "ytoedkdgaofkgaaa", sum := "a019ce33a908c5dce864a90c8936a35f37f01353732dc7f2e5484012c4592f00", func := "skiarea/skiarealaw07.ChooseBest", spec := "chooseBest", unfollowed := true, recurses := true, apart := false, narrowed := true }
def ChooseBestUptoSaid : Prop := chooseBestUptoRow.holds Try.pinned (OpenSpec.upto chooseBestSpec)

/-- 'skiarealaw07.ChooseLimits', WHERE WHAT IT READS IS OF BULK AT MOST 1048576: true; the input reads as it did. -/
def chooseLimitsUptoRow : OpenClaim := { program := "ytoedkdgaofkgaaa", sum := "a019ce33a908c5dce864a90c8936a35f37f01353732dc7f2e5484012c4592f00", func := "skiarea/skiarealaw07.ChooseLimits", spec := "chooseLimits", unfollowed := true, recurses := true, apart := false, narrowed := true }
def ChooseLimitsUptoSaid : Prop := chooseLimitsUptoRow.holds Try.pinned (OpenSpec.upto chooseLimitsSpec)

/-- 'skiarealaw07.ChooseAdds', WHERE WHAT IT READS IS OF BULK AT MOST 1048576: true; the input reads as it did. -/
def chooseAddsUptoRow : OpenClaim := { program := "ytoedkdgaofkgaaa", sum := "a019ce33a908c5dce864a90c8936a35f37f01353732dc7f2e5484012c4592f00", func := "skiarea/skiarealaw07.ChooseAdds", spec := "chooseAdds", unfollowed := true, recurses := true, apart := false, narrowed := true }
def ChooseAddsUptoSaid : Prop := chooseAddsUptoRow.holds Try.pinned (OpenSpec.upto chooseAddsSpec)

/-- 'skiarealaw07.ChooseDrops', WHERE WHAT IT READS IS OF BULK AT MOST 1048576: true; the input reads as it did. -/
def chooseDropsUptoRow : OpenClaim := { program := "ytoedkdgaofkgaaa", sum := "a019ce33a908c5dce864a90c8936a35f37f01353732dc7f2e5484012c4592f00", func := "skiarea/skiarealaw07.ChooseDrops", spec := "chooseDrops", unfollowed := true, recurses := true, apart := false, narrowed := true }
def ChooseDropsUptoSaid : Prop := chooseDropsUptoRow.holds Try.pinned (OpenSpec.upto chooseDropsSpec)

end Rows
end Go.Proofs.Ytoedkdgaofkgaaa
