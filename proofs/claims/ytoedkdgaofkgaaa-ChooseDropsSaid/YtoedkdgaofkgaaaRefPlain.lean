/- The plain law of the reference's Best. -/
import Derived.Test.YtoedkdgaofkgaaaPlain
namespace Go.Proofs.Ytoedkdgaofkgaaa
structure RefSt where
  best : List Int
  most : Int
  found : Bool
def sub (n : Nat) : List Int := ints (bitsF 12 0 n)
def valOf (l : List Item) (ch : List Int) : Int := (needOf l ch).2.2.1
def refTakes (l : List Item) (st : RefSt) (ch : List Int) : Bool := !st.found || decide (st.most < valOf l ch) || (valOf l ch == st.most && lessOf ch st.best)
def refStep (l : List Item) (a b : Int) (st : RefSt) (n : Nat) : RefSt :=
  if fitsOf l (sub n) a b then (if refTakes l st (sub n) then ⟨sub n, valOf l (sub n), true⟩ else st) else st
def refF (l : List Item) (a b : Int) : Nat → RefSt
  | 0 => ⟨[], 0, false⟩
  | n + 1 => refStep l a b (refF l a b n) n
theorem refF_no {l : List Item} {a b : Int} {n : Nat} (h : fitsOf l (sub n) a b = false) : refF l a b (n + 1) = refF l a b n := by simp [refF, refStep, h]
theorem refF_stay {l : List Item} {a b : Int} {n : Nat} (h : fitsOf l (sub n) a b = true) (h2 : refTakes l (refF l a b n) (sub n) = false) : refF l a b (n + 1) = refF l a b n := by simp [refF, refStep, h, h2]
theorem refF_take {l : List Item} {a b : Int} {n : Nat} (h : fitsOf l (sub n) a b = true) (h2 : refTakes l (refF l a b n) (sub n) = true) : refF l a b (n + 1) = ⟨sub n, valOf l (sub n), true⟩ := by simp [refF, refStep, h, h2]
theorem sub_length (n : Nat) : (sub n).length ≤ 12 := by unfold sub; rw [ints_length]; exact bitsF_length _ _ _
theorem refF_length (l : List Item) (a b : Int) (n : Nat) : (refF l a b n).best.length ≤ 12 := by
  induction n with
  | zero => simp [refF]
  | succ n ih =>
    simp only [refF, refStep]
    split
    · split
      · exact sub_length n
      · exact ih
    · exact ih
def refBestF (l : List Item) (a b : Int) : List Int := if rightOf l = 0 then (refF l a b (2 ^ l.length)).best else []
end Go.Proofs.Ytoedkdgaofkgaaa
