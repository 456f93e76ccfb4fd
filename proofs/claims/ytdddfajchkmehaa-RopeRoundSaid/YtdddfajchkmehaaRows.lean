/-
  No cell of these rows narrows 'for every input' (looked for: loops, veiled, ifaces, maps, wideKeys, modest, calm, conditions, laid).
  DERIVED. THE GIVEN ROWS OF THIS SEAT. 7 by the template 'for every input the law returns true; each argument reads behind the call as it read before'; 0 by the template 'total and deterministic' (their statements: YtdddfajchkmehaaTotals.lean).
  GIVEN WITH THE SEED: the statements are not yours to turn. If you find one false, say at which input.
  Laid BY PROGRAM, IN A SANDBOX (cutbox-rows.mjs): the forced cells as the released guide's own fill.sh prints them over the translation 3a5fa28dfc3a3326… (all of the seat's roots in one cut). By AI agents, Wed Nov 11 2026. No macro, syntax, notation, axiom, sorry.
-/
import Derived.Test.YtdddfajchkmehaaChecked
import GoSem.Claim
import GoSem.ClaimJoined
import GoSem.ClaimMapViews
import Derived.JoinedTies
import Derived.KernelRfl
namespace Go.Proofs.Ytdddfajchkmehaa
/- THE CELL 'sum', in the pinned program and in every row, IS THE sha256 OF THE DUMP (.gsa) THAT YtdddfajchkmehaaProg.lean LOADS. Nothing in Lean hashes anything: it is a label: what it is worth is what the hold of that sum in a sandbox is worth. -/
noncomputable def Try.pinned : Pinned := { name := "ytdddfajchkmehaa", sum := "3a5fa28dfc3a332691e14ea4bec6cfe5eadab4f0cbb7071b24ae9face4a97667", checked := Try.checked }
namespace Rows
def none {H : Type} : Left H := { results := [], args := [] }

/-- 'skiarealaw17.RopeNews': WHATEVER THE INPUT: true; the input reads as it did. -/
def ropeNewsSpec : ChangeSpec := { name := "ropeNews", fn := fun _ => fun
  | [d] => { results := [.lit (.bool true)], args := [d] }
  | _ => none }
def ropeNewsRow : OpenClaim := { program := "ytdddfajchkmehaa", sum := "3a5fa28dfc3a332691e14ea4bec6cfe5eadab4f0cbb7071b24ae9face4a97667", func := "skiarea/skiarealaw17.RopeNews", spec := "ropeNews", apart := false }
def RopeNewsSaid : Prop := ropeNewsRow.holds Try.pinned (OpenSpec.ofChange ropeNewsSpec)

/-- ITS FALSE NEIGHBOUR: 'it returns false'. Refute it at one input. -/
def ropeNewsWrong : ChangeSpec := { name := "ropeNews", fn := fun _ => fun
  | [d] => { results := [.lit (.bool false)], args := [d] }
  | _ => none }
def RopeNewsWrongFalsely : Prop := ropeNewsRow.holds Try.pinned (OpenSpec.ofChange ropeNewsWrong)

/-- 'skiarealaw17.RopeRights': WHATEVER THE INPUT: true; the input reads as it did. -/
def ropeRightsSpec : ChangeSpec := { name := "ropeRights", fn := fun _ => fun
  | [d1, d2, d3] => { results := [.lit (.bool true)], args := [d1, d2, d3] }
  | _ => none }
def ropeRightsRow : OpenClaim := { program := "ytdddfajchkmehaa", sum := "3a5fa28dfc3a332691e14ea4bec6cfe5eadab4f0cbb7071b24ae9face4a97667", func := "skiarea/skiarealaw17.RopeRights", spec := "ropeRights", apart := false }
def RopeRightsSaid : Prop := ropeRightsRow.holds Try.pinned (OpenSpec.ofChange ropeRightsSpec)

/-- ITS FALSE NEIGHBOUR: 'it returns false'. Refute it at one input. -/
def ropeRightsWrong : ChangeSpec := { name := "ropeRights", fn := fun _ => fun
  | [d1, d2, d3] => { results := [.lit (.bool false)], args := [d1, d2, d3] }
  | _ => none }
def RopeRightsWrongFalsely : Prop := ropeRightsRow.holds Try.pinned (OpenSpec.ofChange ropeRightsWrong)

/-- 'skiarealaw17.RopeMoves': WHATEVER THE INPUT: true; the input reads as it did. -/
def ropeMovesSpec : ChangeSpec := { name := "ropeMoves", fn := fun _ => fun
  | [d1, d2] => { results := [.lit (.bool true)], args := [d1, d2] }
  | _ => none }
def ropeMovesRow : OpenClaim := { program := "ytdddfajchkmehaa", sum := "3a5fa28dfc3a332691e14ea4bec6cfe5eadab4f0cbb7071b24ae9face4a97667", func := "skiarea/skiarealaw17.RopeMoves", spec := "ropeMoves", apart := false }
def RopeMovesSaid : Prop := ropeMovesRow.holds Try.pinned (OpenSpec.ofChange ropeMovesSpec)

/-- ITS FALSE NEIGHBOUR: 'it returns false'. Refute it at one input. -/
def ropeMovesWrong : ChangeSpec := { name := "ropeMoves", fn := fun _ => fun
  | [d1, d2] => { results := [.lit (.bool false)], args := [d1, d2] }
  | _ => none }
def RopeMovesWrongFalsely : Prop := ropeMovesRow.holds Try.pinned (OpenSpec.ofChange ropeMovesWrong)

/-- 'skiarealaw17.RopeLoads': WHATEVER THE INPUT: true; the input reads as it did. -/
def ropeLoadsSpec : ChangeSpec := { name := "ropeLoads", fn := fun _ => fun
  | [d1, d2] => { results := [.lit (.bool true)], args := [d1, d2] }
  | _ => none }
def ropeLoadsRow : OpenClaim := { program := "ytdddfajchkmehaa", sum := "3a5fa28dfc3a332691e14ea4bec6cfe5eadab4f0cbb7071b24ae9face4a97667", func := "skiarea/skiarealaw17.RopeLoads", spec := "ropeLoads", apart := false }
def RopeLoadsSaid : Prop := ropeLoadsRow.holds Try.pinned (OpenSpec.ofChange ropeLoadsSpec)

/-- ITS FALSE NEIGHBOUR: 'it returns false'. Refute it at one input. -/
def ropeLoadsWrong : ChangeSpec := { name := "ropeLoads", fn := fun _ => fun
  | [d1, d2] => { results := [.lit (.bool false)], args := [d1, d2] }
  | _ => none }
def RopeLoadsWrongFalsely : Prop := ropeLoadsRow.holds Try.pinned (OpenSpec.ofChange ropeLoadsWrong)

/-- 'skiarealaw17.RopePeople': WHATEVER THE INPUT: true; the input reads as it did. -/
def ropePeopleSpec : ChangeSpec := { name := "ropePeople", fn := fun _ => fun
  | [d1, d2] => { results := [.lit (.bool true)], args := [d1, d2] }
  | _ => none }
def ropePeopleRow : OpenClaim := { program := "ytdddfajchkmehaa", sum := "3a5fa28dfc3a332691e14ea4bec6cfe5eadab4f0cbb7071b24ae9face4a97667", func := "skiarea/skiarealaw17.RopePeople", spec := "ropePeople", apart := false }
def RopePeopleSaid : Prop := ropePeopleRow.holds Try.pinned (OpenSpec.ofChange ropePeopleSpec)

/-- ITS FALSE NEIGHBOUR: 'it returns false'. Refute it at one input. -/
def ropePeopleWrong : ChangeSpec := { name := "ropePeople", fn := fun _ => fun
  | [d1, d2] => { results := [.lit (.bool false)], args := [d1, d2] }
  | _ => none }
def RopePeopleWrongFalsely : Prop := ropePeopleRow.holds Try.pinned (OpenSpec.ofChange ropePeopleWrong)

/-- 'skiarealaw17.RopeParts': WHATEVER THE INPUT: true; the input reads as it did. -/
def ropePartsSpec : ChangeSpec := { name := "ropeParts", fn := fun _ => fun
  | [d1, d2, d3] => { results := [.lit (.bool true)], args := [d1, d2, d3] }
  | _ => none }
def ropePartsRow : OpenClaim := { program := "ytdddfajchkmehaa", sum := "3a5fa28dfc3a332691e14ea4bec6cfe5eadab4f0cbb7071b24ae9face4a97667", func := "skiarea/skiarealaw17.RopeParts", spec := "ropeParts", apart := false }
def RopePartsSaid : Prop := ropePartsRow.holds Try.pinned (OpenSpec.ofChange ropePartsSpec)

/-- ITS FALSE NEIGHBOUR: 'it returns false'. Refute it at one input. -/
def ropePartsWrong : ChangeSpec := { name := "ropeParts", fn := fun _ => fun
  | [d1, d2, d3] => { results := [.lit (.bool false)], args := [d1, d2, d3] }
  | _ => none }
def RopePartsWrongFalsely : Prop := ropePartsRow.holds Try.pinned (OpenSpec.ofChange ropePartsWrong)

/-- 'skiarealaw17.RopeRound': WHATEVER THE INPUT: true; the input reads as it did. -/
def ropeRoundSpec : ChangeSpec := { name := "ropeRound", fn := fun _ => fun
  | [d] => { results := [.lit (.bool true)], args := [d] }
  | _ => none }
def ropeRoundRow : OpenClaim := { program := "ytdddfajchkmehaa", sum := "3a5fa28dfc3a332691e14ea4bec6cfe5eadab4f0cbb7071b24ae9face4a97667", func := "skiarea/skiarealaw17.RopeRound", spec := "ropeRound", apart := false }
def RopeRoundSaid : Prop := ropeRoundRow.holds Try.pinned (OpenSpec.ofChange ropeRoundSpec)

/-- ITS FALSE NEIGHBOUR: 'it returns false'. Refute it at one input. -/
def ropeRoundWrong : ChangeSpec := { name := "ropeRound", fn := fun _ => fun
  | [d] => { results := [.lit (.bool false)], args := [d] }
  | _ => none }
def RopeRoundWrongFalsely : Prop := ropeRoundRow.holds Try.pinned (OpenSpec.ofChange ropeRoundWrong)

/- THE SECOND FORM. 'bulk': how many values and letters a reading holds, each counted each time it is reached (what is shared counts as often as it is met; a slice's spare places count too). A statement '..UptoSaid' is the law's where the arguments, and the package variables that the reading takes, are together of bulk at most 1048576: NARROWER than '..Said'. Prove '..Said' where nothing that the law and all that it calls make is longer than what came in: it says more and counts as full. Else prove '..UptoSaid'. A law counts once. -/
mutual
def uptoBulk {H : Type} : DataW H → Nat
  | .lit (.string bytes) => bytes.length + 1
  | .lit _ => 1
  | .nil => 1
  | .ptr d => uptoBulk d + 1
  | .slice elems spare => uptoBulkAll elems + uptoBulkAll spare + 1
  | .agg parts => uptoBulkAll parts + 1
  | .iface _ d => uptoBulk d + 1
  | .map entries => uptoBulkEntries entries + 1
  | .held _ => 1
def uptoBulkAll {H : Type} : List (DataW H) → Nat
  | [] => 0
  | d :: r => uptoBulk d + uptoBulkAll r
def uptoBulkEntries {H : Type} : List (Lit × DataW H) → Nat
  | [] => 0
  | x :: r => uptoBulkEntry x + uptoBulkEntries r
def uptoBulkEntry {H : Type} : Lit × DataW H → Nat
  | (.string bytes, d) => bytes.length + uptoBulk d + 1
  | (_, d) => uptoBulk d + 1
 end
def uptoSmall : (H : Type) → List (DataW H) → Bool := fun _ ds => decide (uptoBulkAll ds ≤ 1048576)
def OpenSpec.upto (s : _root_.Go.ChangeSpec) : _root_.Go.OpenSpec := { _root_.Go.OpenSpec.ofChange s with cond := some uptoSmall }

/-- 'skiarealaw17.RopeNews', WHERE WHAT IT READS IS OF BULK AT MOST 1048576: true; the input reads as it did. -/
def ropeNewsUptoRow : OpenClaim := { program := "ytdddfajchkmehaa", sum := "3a5fa28dfc3a332691e14ea4bec6cfe5eadab4f0cbb7071b24ae9face4a97667", func := "skiarea/skiarealaw17.RopeNews", spec := "ropeNews", apart := false, narrowed := true }
def RopeNewsUptoSaid : Prop := ropeNewsUptoRow.holds Try.pinned (OpenSpec.upto ropeNewsSpec)

/-- 'skiarealaw17.RopeRights', WHERE WHAT IT READS IS OF BULK AT MOST 1048576: true; the input reads as it did. -/
def ropeRightsUptoRow : OpenClaim := { program := "ytdddfajchkmehaa", sum := "3a5fa28dfc3a332691e14ea4bec6cfe5eadab4f0cbb7071b24ae9face4a97667", func := "skiarea/skiarealaw17.RopeRights", spec := "ropeRights", apart := false, narrowed := true }
def RopeRightsUptoSaid : Prop := ropeRightsUptoRow.holds Try.pinned (OpenSpec.upto ropeRightsSpec)

/-- 'skiarealaw17.RopeMoves', WHERE WHAT IT READS IS OF BULK AT MOST 1048576: true; the input reads as it did. -/
def ropeMovesUptoRow : OpenClaim := { program := "ytdddfajchkmehaa", sum := "3a5fa28dfc3a332691e14ea4bec6cfe5eadab4f0cbb7071b24ae9face4a97667", func := "skiarea/skiarealaw17.RopeMoves", spec := "ropeMoves", apart := false, narrowed := true }
def RopeMovesUptoSaid : Prop := ropeMovesUptoRow.holds Try.pinned (OpenSpec.upto ropeMovesSpec)

/-- 'skiarealaw17.RopeLoads', WHERE WHAT IT READS IS OF BULK AT MOST 1048576: true; the input reads as it did. -/
def ropeLoadsUptoRow : OpenClaim := { program := "ytdddfajchkmehaa", sum := "3a5fa28dfc3a332691e14ea4bec6cfe5eadab4f0cbb7071b24ae9face4a97667", func := "skiarea/skiarealaw17.RopeLoads", spec := "ropeLoads", apart := false, narrowed := true }
def RopeLoadsUptoSaid : Prop := ropeLoadsUptoRow.holds Try.pinned (OpenSpec.upto ropeLoadsSpec)

/-- 'skiarealaw17.RopePeople', WHERE WHAT IT READS IS OF BULK AT MOST 1048576: true; the input reads as it did. -/
def ropePeopleUptoRow : OpenClaim := { program := "ytdddfajchkmehaa", sum := "3a5fa28dfc3a332691e14ea4bec6cfe5eadab4f0cbb7071b24ae9face4a97667", func := "skiarea/skiarealaw17.RopePeople", spec := "ropePeople", apart := false, narrowed := true }
def RopePeopleUptoSaid : Prop := ropePeopleUptoRow.holds Try.pinned (OpenSpec.upto ropePeopleSpec)

/-- 'skiarealaw17.RopeParts', WHERE WHAT IT READS IS OF BULK AT MOST 1048576: true; the input reads as it did. -/
def ropePartsUptoRow : OpenClaim := { program := "ytdddfajchkmehaa", sum := "3a5fa28dfc3a332691e14ea4bec6cfe5eadab4f0cbb7071b24ae9face4a97667", func := "skiarea/skiarealaw17.RopeParts", spec := "ropeParts", apart := false, narrowed := true }
def RopePartsUptoSaid : Prop := ropePartsUptoRow.holds Try.pinned (OpenSpec.upto ropePartsSpec)

/-- 'skiarealaw17.RopeRound', WHERE WHAT IT READS IS OF BULK AT MOST 1048576: true; the input reads as it did. -/
def ropeRoundUptoRow : OpenClaim := { program := "ytdddfajchkmehaa", sum := "3a5fa28dfc3a332691e14ea4bec6cfe5eadab4f0cbb7071b24ae9face4a97667", func := "skiarea/skiarealaw17.RopeRound", spec := "ropeRound", apart := false, narrowed := true }
def RopeRoundUptoSaid : Prop := ropeRoundUptoRow.holds Try.pinned (OpenSpec.upto ropeRoundSpec)

end Rows
end Go.Proofs.Ytdddfajchkmehaa
