/- The plain law of package rescue: valid jobs. -/
import Derived.Test.YtogaepijfbgniaaPlain5
namespace Go.Proofs.Ytogaepijfbgniaa
set_option linter.unusedVariables false
def secOf (h : List Sec) (n : Int) : Option Sec := h.find? fun s => s.id == n
def timeOk (s : Int) (j : Job) : Bool := decide (0 ≤ j.from_ ∧ j.from_ ≤ j.to_ ∧ j.to_ - j.from_ = s)
def teamOk (T : Int) (j : Job) : Bool := decide (1 ≤ j.team ∧ j.team ≤ T)
def jobOk (h : List Sec) (T : Int) (j : Job) : Bool := match secOf h j.sec with
  | none => false
  | some s => teamOk T j && timeOk s.seconds j
def same1 (b j : Job) : Bool := b.sec == j.sec
def over1 (b j : Job) : Bool := b.team == j.team && (decide (b.from_ < j.to_) && decide (j.from_ < b.to_))
/-- a test of each one and those ahead of it -/
def allTo (P : List Job → Job → Bool) : List Job → List Job → Bool
  | _, [] => true
  | pre, j :: r => P pre j && allTo P (pre ++ [j]) r
theorem allTo_step (P : List Job → Job → Bool) {l : List Job} {k : Nat} (hk : k < l.length) : allTo P (l.take k) (l.drop k) = (P (l.take k) l[k] && allTo P (l.take (k + 1)) (l.drop (k + 1))) := by
  rw [List.drop_eq_getElem_cons hk, allTo, List.take_succ_eq_append_getElem hk]
theorem allTo_end (P : List Job → Job → Bool) (l : List Job) : allTo P (l.take l.length) (l.drop l.length) = true := by rw [List.drop_length]; rfl
theorem allTo_and (P Q : List Job → Job → Bool) : ∀ (r pre : List Job), allTo (fun p j => P p j && Q p j) pre r = (allTo P pre r && allTo Q pre r) := by
  intro r
  induction r with
  | nil => intro pre; rfl
  | cons j r ih =>
    intro pre
    simp only [allTo, ih]
    cases P pre j <;> cases Q pre j <;> simp
theorem allTo_congr {P Q : List Job → Job → Bool} (h : ∀ p j, P p j = Q p j) (pre r : List Job) : allTo P pre r = allTo Q pre r := by
  rw [show P = Q from funext fun p => funext fun j => h p j]
def P1 (h : List Sec) (T : Int) (pre : List Job) (j : Job) : Bool := jobOk h T j && !pre.any fun b => same1 b j
def P2 (pre : List Job) (j : Job) : Bool := !pre.any fun b => over1 b j
def P3 (h : List Sec) (T : Int) (pre : List Job) (j : Job) : Bool := jobOk h T j && !pre.any fun b => same1 b j || over1 b j
/-- the jobs are a plan for the sections h -/
def validH (h : List Sec) (T : Int) (js : List Job) : Bool := decide (js.length = h.length) && allTo (P1 h T) [] js && allTo P2 [] js
def validOf (l : List Sec) (T : Int) (js : List Job) : Bool := validH (needOf l) T js
theorem valid_ref (h : List Sec) (T : Int) (js : List Job) : validH h T js = (decide (js.length = h.length) && allTo (P3 h T) [] js) := by
  unfold validH
  rw [allTo_congr (P := P3 h T) (Q := fun p j => P1 h T p j && P2 p j) (fun p j => by
    unfold P1 P2 P3
    have : (p.any fun b => same1 b j || over1 b j) = ((p.any fun b => same1 b j) || (p.any fun b => over1 b j)) := by
      induction p with
      | nil => rfl
      | cons b p ih => simp only [List.any_cons, ih]; cases same1 b j <;> cases over1 b j <;> simp
    rw [this]
    cases jobOk h T j <;> simp), allTo_and, Bool.and_assoc]
/-- the section's place that a job is at -/
def doneOf (ix : Job → Int) (n : Nat) (pre : List Job) : List Bool := (List.range n).map fun i : Nat => pre.any fun j => ix j == (i : Int)
theorem done_length (ix : Job → Int) (n : Nat) (pre : List Job) : (doneOf ix n pre).length = n := by simp [doneOf]
theorem done_at (ix : Job → Int) {n i : Nat} (hi : i < n) (pre : List Job) : (doneOf ix n pre)[i]? = some (pre.any fun j => ix j == (i : Int)) := by simp [doneOf, hi]
theorem done_set (ix : Job → Int) (n i : Nat) (pre : List Job) (j : Job) (h : ix j = (i : Int)) : doneOf ix n (pre ++ [j]) = (doneOf ix n pre).set i true := by
  apply List.ext_getElem?
  intro k
  rw [List.getElem?_set]
  by_cases hk : k < n
  · rw [done_at ix hk, List.any_append]
    simp only [List.any_cons, List.any_nil, Bool.or_false, h]
    by_cases e : i = k
    · subst e
      rw [if_pos rfl, if_pos (by rw [done_length]; exact hk)]
      simp
    · rw [if_neg e, done_at ix hk]
      have : ((i : Int) == (k : Int)) = false := by simp; omega
      rw [this, Bool.or_false]
  · rw [List.getElem?_eq_none (by rw [done_length]; omega)]
    by_cases e : i = k
    · subst e
      rw [if_pos rfl, if_neg (by rw [done_length]; omega)]
    · rw [if_neg e, List.getElem?_eq_none (by rw [done_length]; omega)]
theorem done_nil (ix : Job → Int) (n : Nat) : doneOf ix n [] = List.replicate n false := by
  apply List.ext_getElem?
  intro k
  by_cases hk : k < n
  · rw [done_at ix hk]; simp [hk]
  · rw [List.getElem?_eq_none (by rw [done_length]; omega), List.getElem?_eq_none (by simp; omega)]
end Go.Proofs.Ytogaepijfbgniaa
