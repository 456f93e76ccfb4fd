/- The plain law of package pipe, without any program: structures. -/
namespace Go.Proofs.Ythhjnplegdmidaa
structure Pipe where
  id : Int
  from_ : Int
  to_ : Int
  loss : Int
  rise : Int
theorem Pipe.ext_ {x y : Pipe} (h0 : x.id = y.id) (h1 : x.from_ = y.from_) (h2 : x.to_ = y.to_) (h3 : x.loss = y.loss) (h4 : x.rise = y.rise) : x = y := by
  cases x; cases y; simp_all
def Pipe.zero : Pipe := ⟨0, 0, 0, 0, 0⟩
def Pipe.row (x : Pipe) : List Int := [x.id, x.from_, x.to_, x.loss, x.rise]
structure Draw where
  node : Int
  flow : Int
theorem Draw.ext_ {x y : Draw} (h0 : x.node = y.node) (h1 : x.flow = y.flow) : x = y := by
  cases x; cases y; simp_all
def Draw.zero : Draw := ⟨0, 0⟩
def Draw.row (x : Draw) : List Int := [x.node, x.flow]
def find? (l : List Pipe) (node : Int) : Option Nat := l.findIdx? fun p => decide (p.to_ = node)
/-- the index of the pipe that leads to a node, or -1 -/
def findF (l : List Pipe) (node : Int) : Int := match l.findIdx? fun p => decide (p.to_ = node) with
  | some i => i
  | none => -1
def inR (p : Pipe) : Bool := decide (1 ≤ p.id ∧ p.id ≤ 9999 ∧ 1 ≤ p.to_ ∧ p.to_ ≤ 9999 ∧ 0 ≤ p.loss ∧ p.loss ≤ 100000 ∧ -100000 ≤ p.rise ∧ p.rise ≤ 100000)
def twice (pre : List Pipe) (p : Pipe) : Bool := pre.any fun q => decide (q.id = p.id ∨ q.to_ = p.to_)
def known (pre : List Pipe) (n : Int) : Bool := decide (n = 0) || pre.any fun q => decide (q.to_ = n)
def errAt (pre : List Pipe) (p : Pipe) : Int := if inR p then (if twice pre p then 7 else if known pre p.from_ then 0 else 8) else 2
def rightGo : List Pipe → List Pipe → Int
  | _, [] => 0
  | pre, p :: r => if errAt pre p = 0 then rightGo (pre ++ [p]) r else errAt pre p
def rightOf (l : List Pipe) : Int := if 64 < l.length then 4 else rightGo [] l
theorem rightGo_step {l : List Pipe} {k : Nat} (hk : k < l.length) : rightGo (l.take k) (l.drop k) = if errAt (l.take k) l[k] = 0 then rightGo (l.take (k + 1)) (l.drop (k + 1)) else errAt (l.take k) l[k] := by
  rw [List.drop_eq_getElem_cons hk, rightGo, List.take_succ_eq_append_getElem hk]
theorem rightGo_end (l : List Pipe) : rightGo (l.take l.length) (l.drop l.length) = 0 := by rw [List.drop_length]; rfl
/-- what is drawn at a node -/
def sumAt (ds : List Draw) (n : Int) : Int := (ds.map fun d => if d.node = n then d.flow else 0).sum
/-- what is drawn behind the pipe p is drawn at its beginning -/
def send (p : Pipe) (ds : List Draw) : List Draw := ds.map fun d => if d.node = p.to_ then ⟨p.from_, d.flow⟩ else d
/-- the flows, of the pipes in reverse order -/
def flowsR : List Pipe → List Draw → List Int
  | [], _ => []
  | p :: r, ds => flowsR r (send p ds) ++ [sumAt ds p.to_]
def flowsOf (l : List Pipe) (ds : List Draw) : List Int := flowsR l.reverse ds
/-- the way to a node, of the pipes in reverse order: the indices from the root on, and the node where it begins -/
def wayR : List Pipe → Int → List Nat × Int
  | [], n => ([], n)
  | p :: r, n => if p.to_ = n then ((wayR r p.from_).1 ++ [r.length], (wayR r p.from_).2) else wayR r n
def wayOf (l : List Pipe) (n : Int) : List Nat × Bool := ((wayR l.reverse n).1, decide ((wayR l.reverse n).2 = 0))
end Go.Proofs.Ythhjnplegdmidaa
