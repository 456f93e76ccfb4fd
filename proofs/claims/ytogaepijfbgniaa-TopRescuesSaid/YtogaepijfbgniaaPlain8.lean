/- The plain law of package rescue: how many are left, and the bound. -/
import Derived.Test.YtogaepijfbgniaaPlain7
namespace Go.Proofs.Ytogaepijfbgniaa
set_option linter.unusedVariables false
def at1 (s : Sec) (t : Int) (j : Job) : Bool := j.sec == s.id && decide (j.to_ ≤ t)
def doneB (js : List Job) (t : Int) (s : Sec) : Bool := js.any (at1 s t)
def leftAt (js : List Job) (t : Int) (s : Sec) : Int := if doneB js t s then 0 else s.people
def leftOf (l : List Sec) (js : List Job) (t : Int) : Int := l.foldl (fun n s => n + leftAt js t s) 0
theorem left_succ {l : List Sec} {k : Nat} (hk : k < l.length) (js : List Job) (t : Int) : leftOf (l.take (k + 1)) js t = leftOf (l.take k) js t + leftAt js t l[k] := by
  unfold leftOf
  rw [List.take_succ_eq_append_getElem hk, List.foldl_append]
  rfl
theorem leftAt_ok (js : List Job) (t : Int) {s : Sec} (h : 0 ≤ s.people ∧ s.people ≤ 1000) : 0 ≤ leftAt js t s ∧ leftAt js t s ≤ 1000 := by
  unfold leftAt; split <;> omega
theorem left_ok {l : List Sec} (h : ∀ s ∈ l, 0 ≤ s.people ∧ s.people ≤ 1000) (js : List Job) (t : Int) : ∀ k, k ≤ l.length → 0 ≤ leftOf (l.take k) js t ∧ leftOf (l.take k) js t ≤ 1000 * k := by
  intro k
  induction k with
  | zero => intro _; simp [leftOf]
  | succ k ih =>
    intro hk
    rw [left_succ (by omega)]
    have := ih (by omega)
    have := leftAt_ok js t (h l[k] (List.getElem_mem _))
    omega
theorem left_fold (js : List Job) (t : Int) : ∀ (l : List Sec) (n : Int), l.foldl (fun n s => n + leftAt js t s) n = n + leftOf l js t := by
  intro l
  induction l with
  | nil => intro n; simp [leftOf]
  | cons s l ih =>
    intro n
    rw [List.foldl_cons, ih]
    unfold leftOf
    rw [List.foldl_cons, ih, ih]
    simp only [leftOf]
    omega
theorem left_cons (js : List Job) (t : Int) (s : Sec) (l : List Sec) : leftOf (s :: l) js t = leftAt js t s + leftOf l js t := by
  unfold leftOf
  rw [List.foldl_cons, left_fold]
  simp [leftOf]
def sumS (h : List Sec) : Int := h.foldl (fun n s => n + s.seconds) 0
def mostS (h : List Sec) : Int := h.foldl (fun n s => mx n s.seconds) 0
theorem sum_succ {l : List Sec} {k : Nat} (hk : k < l.length) : sumS (l.take (k + 1)) = sumS (l.take k) + l[k].seconds := by
  unfold sumS
  rw [List.take_succ_eq_append_getElem hk, List.foldl_append]
  rfl
theorem most_succ {l : List Sec} {k : Nat} (hk : k < l.length) : mostS (l.take (k + 1)) = mx (mostS (l.take k)) l[k].seconds := by
  unfold mostS
  rw [List.take_succ_eq_append_getElem hk, List.foldl_append]
  rfl
theorem sum_ok {l : List Sec} (h : ∀ s ∈ l, 1 ≤ s.seconds ∧ s.seconds ≤ 86400) : ∀ k, k ≤ l.length → 0 ≤ sumS (l.take k) ∧ sumS (l.take k) ≤ 86400 * k := by
  intro k
  induction k with
  | zero => intro _; simp [sumS]
  | succ k ih =>
    intro hk
    rw [sum_succ (by omega)]
    have := ih (by omega)
    have := h l[k] (List.getElem_mem _)
    omega
theorem sum_fold : ∀ (l : List Sec) (n : Int), l.foldl (fun n s => n + s.seconds) n = n + sumS l := by
  intro l
  induction l with
  | nil => intro n; simp [sumS]
  | cons s l ih =>
    intro n
    rw [List.foldl_cons, ih]
    unfold sumS
    rw [List.foldl_cons, ih, ih]
    simp only [sumS]
    omega
theorem sum_cons (s : Sec) (l : List Sec) : sumS (s :: l) = s.seconds + sumS l := by
  unfold sumS
  rw [List.foldl_cons, sum_fold]
  simp [sumS]
/-- the share of a team, rounded up -/
def upS (s t : Int) : Int := if s % t = 0 then s / t else s / t + 1
def boundOf (l : List Sec) (t : Int) : Int := if t < 1 then 0 else mx (mostS (needOf l)) (upS (sumS (needOf l)) t)
/-- the sum of all that people number -/
def peopleS (l : List Sec) : Int := l.foldl (fun n s => n + s.people) 0
theorem people_succ {l : List Sec} {k : Nat} (hk : k < l.length) : peopleS (l.take (k + 1)) = peopleS (l.take k) + l[k].people := by
  unfold peopleS
  rw [List.take_succ_eq_append_getElem hk, List.foldl_append]
  rfl
theorem people_ok {l : List Sec} (h : ∀ s ∈ l, 0 ≤ s.people ∧ s.people ≤ 1000) : ∀ k, k ≤ l.length → 0 ≤ peopleS (l.take k) ∧ peopleS (l.take k) ≤ 1000 * k := by
  intro k
  induction k with
  | zero => intro _; simp [peopleS]
  | succ k ih =>
    intro hk
    rw [people_succ (by omega)]
    have := ih (by omega)
    have := h l[k] (List.getElem_mem _)
    omega
end Go.Proofs.Ytogaepijfbgniaa
