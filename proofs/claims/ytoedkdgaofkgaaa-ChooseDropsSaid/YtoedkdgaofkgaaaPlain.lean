/- The plain law of package choose: what its functions compute, without any program. -/
namespace Go.Proofs.Ytoedkdgaofkgaaa
structure Item where
  a : Int
  b : Int
  v : Int
def Item.zero : Item := ⟨0, 0, 0⟩
def inB (n : Int) : Bool := decide (0 ≤ n ∧ n ≤ 1000000000)
def itemB (x : Item) : Bool := inB x.a && inB x.b && inB x.v
def itemsB (l : List Item) : Bool := l.all itemB
def rightOf (l : List Item) : Int := if 12 < l.length then 4 else if itemsB l then 0 else 2

theorem itemB_of {l : List Item} (h : itemsB l = true) (i : Nat) (hi : i < l.length) : itemB l[i] = true := by
  unfold itemsB at h; rw [List.all_eq_true] at h; exact h _ (List.getElem_mem hi)
theorem itemB_bd {x : Item} (h : itemB x = true) : (0 ≤ x.a ∧ x.a ≤ 1000000000) ∧ (0 ≤ x.b ∧ x.b ≤ 1000000000) ∧ (0 ≤ x.v ∧ x.v ≤ 1000000000) := by
  simp only [itemB, inB, Bool.and_eq_true, decide_eq_true_eq] at h; exact ⟨h.1.1, h.1.2, h.2⟩
theorem itemsB_take_succ {l : List Item} (k : Nat) (hk : k < l.length) : itemsB (l.take (k + 1)) = (itemsB (l.take k) && itemB l[k]) := by
  unfold itemsB; rw [List.take_succ_eq_append_getElem hk, List.all_append]; simp
theorem itemsB_false {l : List Item} (k : Nat) (hk : k < l.length) (h : itemB l[k] = false) : itemsB l = false := by
  cases hh : itemsB l
  · rfl
  · exact absurd (itemB_of hh k hk) (by simp [h])
/-- is the index i allowed behind p? -/
def okAt (l : List Item) (p : Option Int) (i : Int) : Bool := decide (0 ≤ i ∧ i < l.length ∧ ∀ q, p = some q → q < i)
def need (l : List Item) : Option Int → List Int → Int → Int → Int → Int × Int × Int × Bool
  | _, [], a, b, v => (a, b, v, true)
  | p, i :: r, a, b, v => if okAt l p i then need l (some i) r (a + (l.getD i.toNat Item.zero).a) (b + (l.getD i.toNat Item.zero).b) (v + (l.getD i.toNat Item.zero).v) else (0, 0, 0, false)
def prevOf (ch : List Int) (k : Nat) : Option Int := if k = 0 then none else ch[k-1]?
def needOf (l : List Item) (ch : List Int) : Int × Int × Int × Bool := need l none ch 0 0 0
def fitsOf (l : List Item) (ch : List Int) (a b : Int) : Bool := (needOf l ch).2.2.2 && decide ((needOf l ch).1 ≤ a) && decide ((needOf l ch).2.1 ≤ b)
/-- less, as the reference has it -/
def lessOf : List Int → List Int → Bool
  | [], [] => false
  | [], _ :: _ => true
  | _ :: _, [] => false
  | x :: r, y :: s => if x ≠ y then decide (x < y) else lessOf r s
def sameOf (x y : List Int) : Bool := !lessOf x y && !lessOf y x
end Go.Proofs.Ytoedkdgaofkgaaa
namespace Go.Proofs.Ytoedkdgaofkgaaa
/-- the places of the bits that are set in n, from i on (f: enough fuel: n < 2^f) -/
def bitsF : Nat → Nat → Nat → List Nat
  | 0, _, _ => []
  | f + 1, i, n => if n = 0 then [] else if n % 2 = 1 then i :: bitsF f (i + 1) (n / 2) else bitsF f (i + 1) (n / 2)
theorem bitsF_zero (f i : Nat) : bitsF f i 0 = [] := by cases f <;> simp [bitsF]
def ints (l : List Nat) : List Int := l.map fun (n : Nat) => (n : Int)
theorem ints_append (l r : List Nat) : ints (l ++ r) = ints l ++ ints r := by simp [ints]
theorem ints_length (l : List Nat) : (ints l).length = l.length := by simp [ints]
theorem bitsF_length (f i n : Nat) : (bitsF f i n).length ≤ f := by
  induction f generalizing i n with
  | zero => simp [bitsF]
  | succ f ih => unfold bitsF; have := ih (i+1) (n/2); split <;> (try split) <;> simp <;> omega
end Go.Proofs.Ytoedkdgaofkgaaa
