/- The plain law of package brake, without any program. -/
namespace Go.Proofs.Ytgmkfjgkpakhfaa
structure Brake where
  id : Int
  kind : Int
  force : Int
  tested : Int
  measured : Int
theorem Brake.ext_ {x y : Brake} (h0 : x.id = y.id) (h1 : x.kind = y.kind) (h2 : x.force = y.force) (h3 : x.tested = y.tested) (h4 : x.measured = y.measured) : x = y := by
  cases x; cases y; simp_all
def Brake.zero : Brake := ⟨0, 0, 0, 0, 0⟩
def Brake.row (x : Brake) : List Int := [x.id, x.kind, x.force, x.tested, x.measured]
end Go.Proofs.Ytgmkfjgkpakhfaa
namespace Go.Proofs.Ytgmkfjgkpakhfaa
def inW (n a b : Int) : Bool := decide (a ≤ n ∧ n ≤ b)
def inR (x : Brake) : Bool := decide (1 ≤ x.id ∧ x.id ≤ 9999 ∧ (x.kind = 0 ∨ x.kind = 1) ∧ 1 ≤ x.force ∧ x.force ≤ 10000000 ∧ -1 ≤ x.tested ∧ x.tested ≤ 20000000 ∧ 0 ≤ x.measured ∧ x.measured ≤ 10000000 ∧ (x.tested ≠ -1 ∨ x.measured = 0))
/-- the least number of which ten times is at least nine times n -/
def nineOf (n : Int) : Int := (9 * n + 9) / 10
def validB (x : Brake) (t : Int) : Bool := decide (0 ≤ x.tested ∧ x.tested ≤ t ∧ t - x.tested < 604800 ∧ nineOf x.force ≤ x.measured)
end Go.Proofs.Ytgmkfjgkpakhfaa
namespace Go.Proofs.Ytgmkfjgkpakhfaa
/-- the index of the first brake with an ID, -1 if there is none -/
def findF : List Brake → Int → Int
  | [], _ => -1
  | x :: r, id => if x.id = id then 0 else if findF r id < 0 then -1 else findF r id + 1
theorem findF_ge (l : List Brake) (id : Int) : -1 ≤ findF l id ∧ findF l id < l.length := by
  induction l with
  | nil => simp [findF]
  | cons x r ih => simp only [findF, List.length_cons, Int.natCast_add]; split <;> (try split) <;> omega
theorem findF_at {l : List Brake} {id : Int} {k : Nat} (hk : k < l.length) (he : l[k].id = id) (h : ∀ x ∈ l.take k, x.id ≠ id) : findF l id = k := by
  induction l generalizing k with
  | nil => simp at hk
  | cons x r ih =>
    cases k with
    | zero => simp at he; simp [findF, he]
    | succ k =>
      have h0 := h x (by simp)
      have := ih (k := k) (by simpa using hk) (by simpa using he) (fun y hy => h y (by simp [hy]))
      rw [findF, if_neg h0, this, if_neg (by omega)]
      simp
theorem findF_none {l : List Brake} {id : Int} (h : ∀ x ∈ l, x.id ≠ id) : findF l id = -1 := by
  induction l with
  | nil => rfl
  | cons x r ih => rw [findF, if_neg (h x (by simp)), ih fun y hy => h y (by simp [hy])]; simp
theorem findF_neg {l : List Brake} {id : Int} : findF l id < 0 ↔ ∀ x ∈ l, x.id ≠ id := by
  induction l with
  | nil => simp [findF]
  | cons x r ih =>
    rw [findF]
    by_cases h : x.id = id
    · rw [if_pos h]; simp [h]
    · rw [if_neg h]
      by_cases h2 : findF r id < 0
      · rw [if_pos h2]; simp [h]; exact ih.1 h2
      · rw [if_neg h2]; simp [h]
        constructor
        · intro h3; omega
        · intro h3; exact absurd (ih.2 h3) h2
def rightGo : List Brake → List Brake → Int
  | _, [] => 0
  | pre, x :: r => if inR x then (if findF pre x.id < 0 then rightGo (pre ++ [x]) r else 7) else 2
def rightOf (l : List Brake) : Int := if 8 < l.length then 4 else rightGo [] l
theorem rightGo_step {l : List Brake} {k : Nat} (hk : k < l.length) : rightGo (l.take k) (l.drop k) = if inR l[k] then (if findF (l.take k) l[k].id < 0 then rightGo (l.take (k + 1)) (l.drop (k + 1)) else 7) else 2 := by
  rw [List.drop_eq_getElem_cons hk, rightGo, List.take_succ_eq_append_getElem hk]
theorem rightGo_end (l : List Brake) : rightGo (l.take l.length) (l.drop l.length) = 0 := by rw [List.drop_length]; rfl
end Go.Proofs.Ytgmkfjgkpakhfaa
