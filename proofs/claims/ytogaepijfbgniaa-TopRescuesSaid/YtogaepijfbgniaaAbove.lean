/- Regions that draw their order, whose own operations only read and whose callees may make memory: one walk in the order of the text, in the class of worlds that keep what lay. -/
import Derived.Test.YtogaepijfbgniaaBase
import Derived.Deep.Quiet
import Derived.BigQuiet
namespace Go.Proofs.Ytogaepijfbgniaa
open Go.RowKit
set_option linter.unusedVariables false
/-- a world that keeps what lay in w -/
structure Above (w : World) where
  val : World
  kept : Below w.heap.size w val
instance above_some (w : World) : Nonempty (Above w) := ⟨⟨w, Below.refl _ _⟩⟩
theorem above_cell {w : World} {p : Addr} {v : Value} (h : w.cell? p = some v) (x : Above w) : x.val.cell? p = some v := cell_later x.kept h
theorem above_call {P : Program} {f : FuncId} {args : Array Value} {w : World} {x : Above w} {v : Value} (h : Calls P f args x.val fun e w' => e = .returned v ∧ Below x.val.heap.size x.val w') :
    Calls P f args x.val fun e w'' => e = .returned v ∧ ∃ y : Above w, w'' = y.val :=
  h.mono fun _ w'' ⟨he, hb⟩ => ⟨he, ⟨w'', x.kept.trans (hb.mono x.kept.size)⟩, rfl⟩
theorem wp_region_above {P : Program} {id : Nat} {Q : Exit → Act → World → Prop} {a : Act} {w : World} {l : List Oper} (hm : P.follows .mixedOrders = true) (hB : Region.lexB .any l.toArray = true)
    (h : wpQuiet P l.toArray (fun w' => ∃ x : Above w, w' = x.val) (fun a' => ∀ w', (∃ x : Above w, w' = x.val) → Q .normal a' w') l a) : (Code.region id l.toArray true).wp P Q a w :=
  wp_region_quiet (C := fun w' => ∃ x : Above w, w' = x.val) hm hB ⟨⟨_, (Below.refl w.heap.size w).drew⟩, rfl⟩ (by simpa using h)
end Go.Proofs.Ytogaepijfbgniaa
