/- The plain law of package rescue, without any program: structures, Right. -/
namespace Go.Proofs.Ytogaepijfbgniaa
structure Sec where
  id : Int
  people : Int
  seconds : Int
theorem Sec.ext_ {x y : Sec} (h0 : x.id = y.id) (h1 : x.people = y.people) (h2 : x.seconds = y.seconds) : x = y := by
  cases x; cases y; simp_all
def Sec.zero : Sec := ⟨0, 0, 0⟩
def Sec.row (x : Sec) : List Int := [x.id, x.people, x.seconds]
structure Job where
  team : Int
  sec : Int
  from_ : Int
  to_ : Int
theorem Job.ext_ {x y : Job} (h0 : x.team = y.team) (h1 : x.sec = y.sec) (h2 : x.from_ = y.from_) (h3 : x.to_ = y.to_) : x = y := by
  cases x; cases y; simp_all
def Job.zero : Job := ⟨0, 0, 0, 0⟩
def Job.row (x : Job) : List Int := [x.team, x.sec, x.from_, x.to_]
def inR (p : Sec) : Bool := decide (1 ≤ p.id ∧ p.id ≤ 9999 ∧ 0 ≤ p.people ∧ p.people ≤ 1000 ∧ 1 ≤ p.seconds ∧ p.seconds ≤ 86400)
def twice (pre : List Sec) (p : Sec) : Bool := pre.any fun q => q.id == p.id
def errAt (pre : List Sec) (p : Sec) : Int := if inR p then (if twice pre p then 7 else 0) else 2
def rightGo : List Sec → List Sec → Int
  | _, [] => 0
  | pre, p :: r => if errAt pre p = 0 then rightGo (pre ++ [p]) r else errAt pre p
def rightOf (l : List Sec) : Int := if 8 < l.length then 4 else rightGo [] l
theorem rightGo_step {l : List Sec} {k : Nat} (hk : k < l.length) : rightGo (l.take k) (l.drop k) = if errAt (l.take k) l[k] = 0 then rightGo (l.take (k + 1)) (l.drop (k + 1)) else errAt (l.take k) l[k] := by
  rw [List.drop_eq_getElem_cons hk, rightGo, List.take_succ_eq_append_getElem hk]
theorem rightGo_end (l : List Sec) : rightGo (l.take l.length) (l.drop l.length) = 0 := by rw [List.drop_length]; rfl
/-- the sections that need help -/
def needOf (l : List Sec) : List Sec := l.filter fun p => p.people != 0
end Go.Proofs.Ytogaepijfbgniaa
