/-
  No cell of these rows narrows 'for every input' (looked for: loops, veiled, ifaces, maps, wideKeys, modest, calm, conditions, laid).
  DERIVED. THE GIVEN ROWS OF THIS SEAT. 7 by the template 'for every input the law returns true; each argument reads behind the call as it read before'; 0 by the template 'total and deterministic' (their statements: YtidlbhheakhkhaaTotals.lean).
  GIVEN WITH THE SEED: the statements are not yours to turn. If you find one false, say at which input.
  Laid BY PROGRAM, IN A SANDBOX (cutbox-rows.mjs): the forced cells as the released guide's own fill.sh prints them over the translation f48acb53114649c0… (all of the seat's roots in one cut). By AI agents, Wed Nov 11 2026. No macro, syntax, notation, axiom, sorry.
-/
import Derived.Test.YtidlbhheakhkhaaChecked
import GoSem.Claim
import GoSem.ClaimJoined
import GoSem.ClaimMapViews
import Derived.JoinedTies
import Derived.KernelRfl
namespace Go.Proofs.Ytidlbhheakhkhaa
/- THE CELL 'sum', in the pinned program and in every row, IS THE sha256 OF THE DUMP (.gsa) THAT YtidlbhheakhkhaaProg.lean LOADS. Nothing in Lean hashes anything: it is a label: what it is worth is what the hold of that sum in a sandbox is worth. -/
noncomputable def Try.pinned : Pinned := { name := "ytidlbhheakhkhaa", sum := "f48acb53114649c0532cb56ccf82a8ba6c886a6aedb9fd3b030179a700570048", checked := Try.checked }
namespace Rows
def none {H : Type} : Left H := { results := [], args := [] }

/-- 'skiarealaw21.RescueRights': WHATEVER THE INPUT: true; the input reads as it did. -/
def rescueRightsSpec : ChangeSpec := { name := "rescueRights", fn := fun _ => fun
  | [d] => { results := [.lit (.bool true)], args := [d] }
  | _ => none }
def rescueRightsRow : OpenClaim := { program := "ytidlbhheakhkhaa", sum := "f48acb53114649c0532cb56ccf82a8ba6c886a6aedb9fd3b030179a700570048", func := "skiarea/skiarealaw21.RescueRights", spec := "rescueRights", unfollowed := true, recurses := true, apart := false }
def RescueRightsSaid : Prop := rescueRightsRow.holds Try.pinned (OpenSpec.ofChange rescueRightsSpec)

/-- ITS FALSE NEIGHBOUR: 'it returns false'. Refute it at one input. -/
def rescueRightsWrong : ChangeSpec := { name := "rescueRights", fn := fun _ => fun
  | [d] => { results := [.lit (.bool false)], args := [d] }
  | _ => none }
def RescueRightsWrongFalsely : Prop := rescueRightsRow.holds Try.pinned (OpenSpec.ofChange rescueRightsWrong)

/-- 'skiarealaw21.RescuePlans': WHATEVER THE INPUT: true; the input reads as it did. -/
def rescuePlansSpec : ChangeSpec := { name := "rescuePlans", fn := fun _ => fun
  | [d1, d2] => { results := [.lit (.bool true)], args := [d1, d2] }
  | _ => none }
def rescuePlansRow : OpenClaim := { program := "ytidlbhheakhkhaa", sum := "f48acb53114649c0532cb56ccf82a8ba6c886a6aedb9fd3b030179a700570048", func := "skiarea/skiarealaw21.RescuePlans", spec := "rescuePlans", unfollowed := true, recurses := true, apart := false }
def RescuePlansSaid : Prop := rescuePlansRow.holds Try.pinned (OpenSpec.ofChange rescuePlansSpec)

/-- ITS FALSE NEIGHBOUR: 'it returns false'. Refute it at one input. -/
def rescuePlansWrong : ChangeSpec := { name := "rescuePlans", fn := fun _ => fun
  | [d1, d2] => { results := [.lit (.bool false)], args := [d1, d2] }
  | _ => none }
def RescuePlansWrongFalsely : Prop := rescuePlansRow.holds Try.pinned (OpenSpec.ofChange rescuePlansWrong)

/-- 'skiarealaw21.RescueValid': WHATEVER THE INPUT: true; the input reads as it did. -/
def rescueValidSpec : ChangeSpec := { name := "rescueValid", fn := fun _ => fun
  | [d1, d2, d3] => { results := [.lit (.bool true)], args := [d1, d2, d3] }
  | _ => none }
def rescueValidRow : OpenClaim := { program := "ytidlbhheakhkhaa", sum := "f48acb53114649c0532cb56ccf82a8ba6c886a6aedb9fd3b030179a700570048", func := "skiarea/skiarealaw21.RescueValid", spec := "rescueValid", unfollowed := true, recurses := true, apart := false }
def RescueValidSaid : Prop := rescueValidRow.holds Try.pinned (OpenSpec.ofChange rescueValidSpec)

/-- ITS FALSE NEIGHBOUR: 'it returns false'. Refute it at one input. -/
def rescueValidWrong : ChangeSpec := { name := "rescueValid", fn := fun _ => fun
  | [d1, d2, d3] => { results := [.lit (.bool false)], args := [d1, d2, d3] }
  | _ => none }
def RescueValidWrongFalsely : Prop := rescueValidRow.holds Try.pinned (OpenSpec.ofChange rescueValidWrong)

/-- 'skiarealaw21.RescueCounts': WHATEVER THE INPUT: true; the input reads as it did. -/
def rescueCountsSpec : ChangeSpec := { name := "rescueCounts", fn := fun _ => fun
  | [d1, d2, d3] => { results := [.lit (.bool true)], args := [d1, d2, d3] }
  | _ => none }
def rescueCountsRow : OpenClaim := { program := "ytidlbhheakhkhaa", sum := "f48acb53114649c0532cb56ccf82a8ba6c886a6aedb9fd3b030179a700570048", func := "skiarea/skiarealaw21.RescueCounts", spec := "rescueCounts", unfollowed := true, recurses := true, apart := false }
def RescueCountsSaid : Prop := rescueCountsRow.holds Try.pinned (OpenSpec.ofChange rescueCountsSpec)

/-- ITS FALSE NEIGHBOUR: 'it returns false'. Refute it at one input. -/
def rescueCountsWrong : ChangeSpec := { name := "rescueCounts", fn := fun _ => fun
  | [d1, d2, d3] => { results := [.lit (.bool false)], args := [d1, d2, d3] }
  | _ => none }
def RescueCountsWrongFalsely : Prop := rescueCountsRow.holds Try.pinned (OpenSpec.ofChange rescueCountsWrong)

/-- 'skiarealaw21.RescueLeast': WHATEVER THE INPUT: true; the input reads as it did. -/
def rescueLeastSpec : ChangeSpec := { name := "rescueLeast", fn := fun _ => fun
  | [d1, d2, d3] => { results := [.lit (.bool true)], args := [d1, d2, d3] }
  | _ => none }
def rescueLeastRow : OpenClaim := { program := "ytidlbhheakhkhaa", sum := "f48acb53114649c0532cb56ccf82a8ba6c886a6aedb9fd3b030179a700570048", func := "skiarea/skiarealaw21.RescueLeast", spec := "rescueLeast", unfollowed := true, recurses := true, apart := false }
def RescueLeastSaid : Prop := rescueLeastRow.holds Try.pinned (OpenSpec.ofChange rescueLeastSpec)

/-- ITS FALSE NEIGHBOUR: 'it returns false'. Refute it at one input. -/
def rescueLeastWrong : ChangeSpec := { name := "rescueLeast", fn := fun _ => fun
  | [d1, d2, d3] => { results := [.lit (.bool false)], args := [d1, d2, d3] }
  | _ => none }
def RescueLeastWrongFalsely : Prop := rescueLeastRow.holds Try.pinned (OpenSpec.ofChange rescueLeastWrong)

/-- 'skiarealaw21.RescueLeft': WHATEVER THE INPUT: true; the input reads as it did. -/
def rescueLeftSpec : ChangeSpec := { name := "rescueLeft", fn := fun _ => fun
  | [d1, d2, d3] => { results := [.lit (.bool true)], args := [d1, d2, d3] }
  | _ => none }
def rescueLeftRow : OpenClaim := { program := "ytidlbhheakhkhaa", sum := "f48acb53114649c0532cb56ccf82a8ba6c886a6aedb9fd3b030179a700570048", func := "skiarea/skiarealaw21.RescueLeft", spec := "rescueLeft", unfollowed := true, recurses := true, apart := false }
def RescueLeftSaid : Prop := rescueLeftRow.holds Try.pinned (OpenSpec.ofChange rescueLeftSpec)

/-- ITS FALSE NEIGHBOUR: 'it returns false'. Refute it at one input. -/
def rescueLeftWrong : ChangeSpec := { name := "rescueLeft", fn := fun _ => fun
  | [d1, d2, d3] => { results := [.lit (.bool false)], args := [d1, d2, d3] }
  | _ => none }
def RescueLeftWrongFalsely : Prop := rescueLeftRow.holds Try.pinned (OpenSpec.ofChange rescueLeftWrong)

/-- 'skiarealaw21.RescueTeams': WHATEVER THE INPUT: true; the input reads as it did. -/
def rescueTeamsSpec : ChangeSpec := { name := "rescueTeams", fn := fun _ => fun
  | [d] => { results := [.lit (.bool true)], args := [d] }
  | _ => none }
def rescueTeamsRow : OpenClaim := { program := "ytidlbhheakhkhaa", sum := "f48acb53114649c0532cb56ccf82a8ba6c886a6aedb9fd3b030179a700570048", func := "skiarea/skiarealaw21.RescueTeams", spec := "rescueTeams", unfollowed := true, recurses := true, apart := false }
def RescueTeamsSaid : Prop := rescueTeamsRow.holds Try.pinned (OpenSpec.ofChange rescueTeamsSpec)

/-- ITS FALSE NEIGHBOUR: 'it returns false'. Refute it at one input. -/
def rescueTeamsWrong : ChangeSpec := { name := "rescueTeams", fn := fun _ => fun
  | [d] => { results := [.lit (.bool false)], args := [d] }
  | _ => none }
def RescueTeamsWrongFalsely : Prop := rescueTeamsRow.holds Try.pinned (OpenSpec.ofChange rescueTeamsWrong)

/- THE SECOND FORM. 'bulk': how many values and letters a reading holds, each counted each time it is reached (what is shared counts as often as it is met; a slice's spare places count too). A statement '..UptoSaid' is the law's where the arguments, and the package variables that the reading takes, are together of bulk at most 1048576: NARROWER than '..Said'. Prove '..Said' where nothing that the law and all that it calls make is longer than what came in: it says more and counts as full. Else prove '..UptoSaid'. A law counts once. -/
mutual
def uptoBulk {H : Type} : DataW H → Nat
  | .lit (.string bytes) => bytes.length + 1
  | .lit _ => 1
  | .nil => 1
  | .ptr d => uptoBulk d + 1
  | .slice elems spare => uptoBulkAll elems + uptoBulkAll spare + 1
  | .agg parts => uptoBulkAll parts + 1
  | .iface _ d => uptoBulk d + 1
  | .map entries => uptoBulkEntries entries + 1
  | .held _ => 1
def uptoBulkAll {H : Type} : List (DataW H) → Nat
  | [] => 0
  | d :: r => uptoBulk d + uptoBulkAll r
def uptoBulkEntries {H : Type} : List (Lit × DataW H) → Nat
  | [] => 0
  | x :: r => uptoBulkEntry x + uptoBulkEntries r
def uptoBulkEntry {H : Type} : Lit × DataW H → Nat
  | (.string bytes, d) => bytes.length + uptoBulk d + 1
  | (_, d) => uptoBulk d + 1
 end
def uptoSmall : (H : Type) → List (DataW H) → Bool := fun _ ds => decide (uptoBulkAll ds ≤ 1048576)
def OpenSpec.upto (s : _root_.Go.ChangeSpec) : _root_.Go.OpenSpec := { _root_.Go.OpenSpec.ofChange s with cond := some uptoSmall }

/-- 'skiarealaw21.RescueRights', WHERE WHAT IT READS IS OF BULK AT MOST 1048576: true; the input reads as it did. -/
def rescueRightsUptoRow : OpenClaim := { program := "ytidlbhheakhkhaa", sum := "f48acb53114649c0532cb56ccf82a8ba6c886a6aedb9fd3b030179a700570048", func := "skiarea/skiarealaw21.RescueRights", spec := "rescueRights", unfollowed := true, recurses := true, apart := false, narrowed := true }
def RescueRightsUptoSaid : Prop := rescueRightsUptoRow.holds Try.pinned (OpenSpec.upto rescueRightsSpec)

/-- 'skiarealaw21.RescuePlans', WHERE WHAT IT READS IS OF BULK AT MOST 1048576: true; the input reads as it did. -/
def rescuePlansUptoRow : OpenClaim := { program := "ytidlbhheakhkhaa", sum := "f48acb53114649c0532cb56ccf82a8ba6c886a6aedb9fd3b030179a700570048", func := "skiarea/skiarealaw21.RescuePlans", spec := "rescuePlans", unfollowed := true, recurses := true, apart := false, narrowed := true }
def RescuePlansUptoSaid : Prop := rescuePlansUptoRow.holds Try.pinned (OpenSpec.upto rescuePlansSpec)

/-- 'skiarealaw21.RescueValid', WHERE WHAT IT READS IS OF BULK AT MOST 1048576: true; the input reads as it did. -/
def rescueValidUptoRow : OpenClaim := { program := "ytidlbhheakhkhaa", sum := "f48acb53114649c0532cb56ccf82a8ba6c886a6aedb9fd3b030179a700570048", func := "skiarea/skiarealaw21.RescueValid", spec := "rescueValid", unfollowed := true, recurses := true, apart := false, narrowed := true }
def RescueValidUptoSaid : Prop := rescueValidUptoRow.holds Try.pinned (OpenSpec.upto rescueValidSpec)

/-- 'skiarealaw21.RescueCounts', WHERE WHAT IT READS IS OF BULK AT MOST 1048576: true; the input reads as it did. -/
def rescueCountsUptoRow : OpenClaim := { program := "ytidlbhheakhkhaa", sum := "f48acb53114649c0532cb56ccf82a8ba6c886a6aedb9fd3b030179a700570048", func := "skiarea/skiarealaw21.RescueCounts", spec := "rescueCounts", unfollowed := true, recurses := true, apart := false, narrowed := true }
def RescueCountsUptoSaid : Prop := rescueCountsUptoRow.holds Try.pinned (OpenSpec.upto rescueCountsSpec)

/-- 'skiarealaw21.RescueLeast', WHERE WHAT IT READS IS OF BULK AT MOST 1048576: true; the input reads as it did. -/
def rescueLeastUptoRow : OpenClaim := { program := "ytidlbhheakhkhaa", sum := "f48acb53114649c0532cb56ccf82a8ba6c886a6aedb9fd3b030179a700570048", func := "skiarea/skiarealaw21.RescueLeast", spec := "rescueLeast", unfollowed := true, recurses := true, apart := false, narrowed := true }
def RescueLeastUptoSaid : Prop := rescueLeastUptoRow.holds Try.pinned (OpenSpec.upto rescueLeastSpec)

/-- 'skiarealaw21.RescueLeft', WHERE WHAT IT READS IS OF BULK AT MOST 1048576: true; the input reads as it did. -/
def rescueLeftUptoRow : OpenClaim := { program := "ytidlbhheakhkhaa", sum := "f48acb53114649c0532cb56ccf82a8ba6c886a6aedb9fd3b030179a700570048", func := "skiarea/skiarealaw21.RescueLeft", spec := "rescueLeft", unfollowed := true, recurses := true, apart := false, narrowed := true }
def RescueLeftUptoSaid : Prop := rescueLeftUptoRow.holds Try.pinned (OpenSpec.upto rescueLeftSpec)

/-- 'skiarealaw21.RescueTeams', WHERE WHAT IT READS IS OF BULK AT MOST 1048576: true; the input reads as it did. -/
def rescueTeamsUptoRow : OpenClaim := { program := "ytidlbhheakhkhaa", sum := "f48acb53114649c0532cb56ccf82a8ba6c886a6aedb9fd3b030179a700570048", func := "skiarea/skiarealaw21.RescueTeams", spec := "rescueTeams", unfollowed := true, recurses := true, apart := false, narrowed := true }
def RescueTeamsUptoSaid : Prop := rescueTeamsUptoRow.holds Try.pinned (OpenSpec.upto rescueTeamsSpec)

end Rows
end Go.Proofs.Ytidlbhheakhkhaa
