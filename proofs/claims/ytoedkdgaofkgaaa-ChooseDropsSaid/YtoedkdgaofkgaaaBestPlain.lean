/- The plain law of Best's recursion. -/
import Derived.Test.YtoedkdgaofkgaaaPlain
namespace Go.Proofs.Ytoedkdgaofkgaaa
/-- take a choice if it is worth more -/
def updF (value : Int) (ch : List Int) (st : List Int × Int) : List Int × Int := if st.2 < value then (ch, value) else st
/-- the recursion of Best: f: how many items are left at most -/
def tryF (l : List Item) (a b : Int) : Nat → Nat → Int → List Int → List Int × Int → List Int × Int
  | 0, _, value, ch, st => if fitsOf l ch a b then updF value ch st else st
  | f + 1, next, value, ch, st => if fitsOf l ch a b then
      (List.range' next (l.length - next)).foldl (fun st i => tryF l a b f (i + 1) (value + (l.getD i Item.zero).v) (ch ++ [(i : Int)]) st) (updF value ch st)
    else st
def loopF (l : List Item) (a b : Int) (f next : Nat) (value : Int) (ch : List Int) (st : List Int × Int) (k : Nat) : List Int × Int :=
  (List.range' next k).foldl (fun st i => tryF l a b f (i + 1) (value + (l.getD i Item.zero).v) (ch ++ [(i : Int)]) st) (updF value ch st)
theorem tryF_no {l : List Item} {a b : Int} {f next : Nat} {value : Int} {ch : List Int} {st : List Int × Int} (h : fitsOf l ch a b = false) : tryF l a b f next value ch st = st := by
  cases f <;> simp [tryF, h]
theorem tryF_yes {l : List Item} {a b : Int} {f next : Nat} {value : Int} {ch : List Int} {st : List Int × Int} (h : fitsOf l ch a b = true) : tryF l a b (f+1) next value ch st = loopF l a b f next value ch st (l.length - next) := by
  simp [tryF, h, loopF]
theorem tryF_end {l : List Item} {a b : Int} {f next : Nat} {value : Int} {ch : List Int} {st : List Int × Int} (h : fitsOf l ch a b = true) (hn : l.length ≤ next) : tryF l a b f next value ch st = updF value ch st := by
  cases f with
  | zero => simp [tryF, h]
  | succ f => rw [tryF_yes h, show l.length - next = 0 by omega]; simp [loopF]
theorem loopF_zero (l : List Item) (a b : Int) (f next : Nat) (value : Int) (ch : List Int) (st : List Int × Int) : loopF l a b f next value ch st 0 = updF value ch st := by simp [loopF]
theorem loopF_succ (l : List Item) (a b : Int) (f next : Nat) (value : Int) (ch : List Int) (st : List Int × Int) (k : Nat) :
    loopF l a b f next value ch st (k + 1) = tryF l a b f (next + k + 1) (value + (l.getD (next + k) Item.zero).v) (ch ++ [((next + k : Nat) : Int)]) (loopF l a b f next value ch st k) := by
  simp [loopF, List.range'_1_concat]
end Go.Proofs.Ytoedkdgaofkgaaa
