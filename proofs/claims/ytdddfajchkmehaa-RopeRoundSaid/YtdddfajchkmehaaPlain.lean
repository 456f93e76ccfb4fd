/- The plain law of package rope, without any program: lines, positions, sums. -/
namespace Go.Proofs.Ytdddfajchkmehaa
structure Line where
  loop : Int
  spacing : Int
  offset : Int
  load : List Int
structure Lift where
  id : Int
  operator : Int
  from_ : Int
  to_ : Int
  length : Int
  speed : Int
  seats : Int
  spacing : Int
structure Board where
  carrier : Int
  n : Int
  seats : Int
structure Op where
  kind : Int
  i : Int
  n : Int
def Op.row (x : Op) : List Int := [x.kind, x.i, x.n]
def Line.zero : Line := ⟨0, 0, 0, []⟩
/-- what a right line is, but for its loads -/
def Line.shape (x : Line) : Prop := 5000 ≤ x.spacing ∧ x.spacing ≤ 1000000 ∧ 1 ≤ x.load.length ∧ x.load.length ≤ 200 ∧ x.loop = (x.load.length : Int) * x.spacing ∧ x.loop % 2 = 0 ∧ 0 ≤ x.offset ∧ x.offset < x.loop
instance Line.shapeDec (x : Line) : Decidable x.shape := by unfold Line.shape; infer_instance
def posOf (x : Line) (i : Nat) : Int := (x.offset + (i : Int) * x.spacing) % x.loop
def atOf (x : Line) (i : Int) : Int := if 0 ≤ i ∧ i < (x.load.length : Int) then posOf x i.toNat else -1
def okAt (x : Line) (seats : Int) (i : Nat) (n : Int) : Bool := decide (0 ≤ n ∧ n ≤ seats ∧ (n ≠ 0 → posOf x i < x.loop / 2))
def rightB (x : Line) (seats : Int) : Bool := decide x.shape && (List.range x.load.length).all fun i => okAt x seats i (x.load.getD i 0)
def betK (x : Line) (f t : Int) : Nat → Int
  | 0 => 0
  | k + 1 => betK x f t k + if f ≤ posOf x k ∧ posOf x k < t then x.load.getD k 0 else 0
def peopleOf (x : Line) : Int := x.load.sum
/-- does a carrier reach the upper station -/
def cross (x : Line) (d : Int) (i : Nat) : Bool := decide (posOf x i < x.loop / 2 ∧ x.loop / 2 ≤ posOf x i + d)
def loadM (x : Line) (d : Int) (i : Nat) : Int := if cross x d i then 0 else x.load.getD i 0
def leftK (x : Line) (d : Int) : Nat → Int
  | 0 => 0
  | k + 1 => leftK x d k + if cross x d k then x.load.getD k 0 else 0
def passK (x : Line) (d : Int) : Nat → Int
  | 0 => -1
  | k + 1 => if x.loop ≤ posOf x k + d then (k : Int) else passK x d k
def moved (x : Line) (d : Int) : Line := ⟨x.loop, x.spacing, (x.offset + d) % x.loop, (List.range x.load.length).map (loadM x d)⟩
def moveOf (x : Line) (d : Int) : Line × Int × Int × Int := if 0 ≤ d ∧ d ≤ x.spacing then (moved x d, passK x d x.load.length, leftK x d x.load.length, 0) else (Line.zero, 0, 0, 2)
def putL (x : Line) (i : Nat) (n : Int) : Line := ⟨x.loop, x.spacing, x.offset, x.load.set i n⟩
def loadOf (x : Line) (i n seats : Int) : Line × Int :=
  if 0 ≤ i ∧ i < (x.load.length : Int) then
    if posOf x i.toNat < x.spacing ∧ posOf x i.toNat < x.loop / 2 ∧ x.load.getD i.toNat 0 = 0 then
      if 0 ≤ n ∧ n ≤ seats ∧ seats ≤ 16 then (putL x i.toNat n, 0) else (Line.zero, 2)
    else (Line.zero, 10)
  else (Line.zero, 8)
def takeOf (x : Line) (i n : Int) : Line × Int :=
  if 0 ≤ i ∧ i < (x.load.length : Int) then
    if 0 ≤ n ∧ n ≤ x.load.getD i.toNat 0 then (putL x i.toNat (x.load.getD i.toNat 0 - n), 0) else (Line.zero, 2)
  else (Line.zero, 8)
def newOf (l : Lift) : Line × Int :=
  if 10 ≤ l.length ∧ l.length ≤ 6000 ∧ 5 ≤ l.spacing ∧ l.spacing ≤ 1000 ∧ 2 * l.length % l.spacing = 0 ∧ 2 * l.length / l.spacing ≤ 200 then
    (⟨2000 * l.length, 1000 * l.spacing, 0, List.replicate (2 * l.length / l.spacing).toNat 0⟩, 0)
  else (Line.zero, 1)

/-! ### bounds -/
theorem shape_bd {x : Line} (h : x.shape) : 5000 ≤ x.loop ∧ x.loop ≤ 200000000 ∧ x.spacing ≤ x.loop := by
  obtain ⟨h1, h2, h3, h4, h5, _, _, _⟩ := h
  have a1 : (1 : Int) * x.spacing ≤ (x.load.length : Int) * x.spacing := Int.mul_le_mul_of_nonneg_right (by omega) (by omega)
  have a2 : (x.load.length : Int) * x.spacing ≤ 200 * x.spacing := Int.mul_le_mul_of_nonneg_right (by omega) (by omega)
  omega
theorem mul_bd {x : Line} (h : x.shape) {i : Nat} (hi : i ≤ 250) : 0 ≤ (i : Int) * x.spacing ∧ (i : Int) * x.spacing ≤ 250000000 := by
  obtain ⟨h1, h2, _⟩ := h
  have a1 : 0 ≤ (i : Int) * x.spacing := Int.mul_nonneg (by omega) (by omega)
  have a2 : (i : Int) * x.spacing ≤ 250 * x.spacing := Int.mul_le_mul_of_nonneg_right (by omega) (by omega)
  omega
theorem pos_bd {x : Line} (h : x.shape) (i : Nat) : 0 ≤ posOf x i ∧ posOf x i < x.loop := by
  have hl := shape_bd h
  unfold posOf
  exact ⟨Int.emod_nonneg _ (by omega), Int.emod_lt_of_pos _ (by omega)⟩
end Go.Proofs.Ytdddfajchkmehaa
