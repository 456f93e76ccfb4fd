/- The plain law of package brake: sums of all brakes of a kind; a test counts for one week. -/
import Derived.Test.YtgmkfjgkpakhfaaPlain3
namespace Go.Proofs.Ytgmkfjgkpakhfaa
def servOf (l : List Brake) : Int := (l.map fun x => if x.kind = 0 then x.measured else 0).sum
def safeOf (l : List Brake) : Int := (l.map fun x => if x.kind = 0 then 0 else x.measured).sum
theorem servOf_succ {l : List Brake} {k : Nat} (hk : k < l.length) : servOf (l.take (k + 1)) = servOf (l.take k) + (if l[k].kind = 0 then l[k].measured else 0) := by
  unfold servOf
  rw [List.take_succ_eq_append_getElem hk, List.map_append, List.sum_append]
  simp
theorem safeOf_succ {l : List Brake} {k : Nat} (hk : k < l.length) : safeOf (l.take (k + 1)) = safeOf (l.take k) + (if l[k].kind = 0 then 0 else l[k].measured) := by
  unfold safeOf
  rw [List.take_succ_eq_append_getElem hk, List.map_append, List.sum_append]
  simp
theorem sums_bd {l : List Brake} (h : measB l) : (0 ≤ servOf l ∧ servOf l ≤ l.length * 10000000) ∧ (0 ≤ safeOf l ∧ safeOf l ≤ l.length * 10000000) := by
  induction l with
  | nil => simp [servOf, safeOf]
  | cons x r ih =>
    have h0 := h x (by simp)
    have h1 := ih fun y hy => h y (by simp [hy])
    have e1 : servOf (x :: r) = (if x.kind = 0 then x.measured else 0) + servOf r := by simp [servOf]
    have e2 : safeOf (x :: r) = (if x.kind = 0 then 0 else x.measured) + safeOf r := by simp [safeOf]
    rw [e1, e2]
    simp only [List.length_cons, Int.natCast_add]
    split <;> omega
theorem force_le {l : List Brake} (h : ∀ x ∈ l, inR x = true) (t : Int) : forceOf l 0 t ≤ servOf l ∧ forceOf l 1 t ≤ safeOf l := by
  induction l with
  | nil => simp [forceOf, servOf, safeOf]
  | cons x r ih =>
    have h0 := h x (by simp)
    have h1 := ih fun y hy => h y (by simp [hy])
    have e1 : servOf (x :: r) = (if x.kind = 0 then x.measured else 0) + servOf r := by simp [servOf]
    have e2 : safeOf (x :: r) = (if x.kind = 0 then 0 else x.measured) + safeOf r := by simp [safeOf]
    have e3 : forceOf (x :: r) 0 t = (if x.kind = 0 ∧ validB x t = true then x.measured else 0) + forceOf r 0 t := by simp [forceOf]
    have e4 : forceOf (x :: r) 1 t = (if x.kind = 1 ∧ validB x t = true then x.measured else 0) + forceOf r 1 t := by simp [forceOf]
    simp only [inR, decide_eq_true_eq] at h0
    rw [e1, e2, e3, e4]
    cases validB x t <;> simp <;> (repeat' split) <;> omega
theorem force_all {l : List Brake} (h : ∀ x ∈ l, inR x = true) (t : Int) (hd : (dueOf l t).length = 0) : forceOf l 0 t = servOf l ∧ forceOf l 1 t = safeOf l := by
  have hv : ∀ x ∈ l, validB x t = true := by
    intro x hx
    have hd' : (l.filter fun x => !validB x t) = [] := by
      unfold dueOf at hd
      rw [List.length_map] at hd
      exact List.length_eq_zero_iff.1 hd
    have := List.filter_eq_nil_iff.1 hd' x hx
    simpa using this
  clear hd
  induction l with
  | nil => simp [forceOf, servOf, safeOf]
  | cons x r ih =>
    have h0 := h x (by simp)
    have h1 := ih (fun y hy => h y (by simp [hy])) (fun y hy => hv y (by simp [hy]))
    have hx := hv x (by simp)
    have e1 : servOf (x :: r) = (if x.kind = 0 then x.measured else 0) + servOf r := by simp [servOf]
    have e2 : safeOf (x :: r) = (if x.kind = 0 then 0 else x.measured) + safeOf r := by simp [safeOf]
    have e3 : forceOf (x :: r) 0 t = (if x.kind = 0 ∧ validB x t = true then x.measured else 0) + forceOf r 0 t := by simp [forceOf]
    have e4 : forceOf (x :: r) 1 t = (if x.kind = 1 ∧ validB x t = true then x.measured else 0) + forceOf r 1 t := by simp [forceOf]
    simp only [inR, decide_eq_true_eq] at h0
    rw [e1, e2, e3, e4, hx]
    simp <;> (repeat' split) <;> omega
theorem enough_less {l : List Brake} {a b t : Int} (h : enoughOf l a t = true) (hb : b ≤ a) : enoughOf l b t = true := by
  simp only [enoughOf, Bool.and_eq_true, decide_eq_true_eq] at *
  omega
theorem enough_le {l : List Brake} {a t : Int} (h : enoughOf l a t = true) : a ≤ forceOf l 0 t ∧ a ≤ forceOf l 1 t := by
  simpa only [enoughOf, Bool.and_eq_true, decide_eq_true_eq] using h
theorem right_in {l : List Brake} (h : rightOf l = 0) : ∀ x ∈ l, inR x = true := (right_ok h).2
/-- what a test that succeeds has done -/
theorem test_ok {l : List Brake} {id m t : Int} (h : (testOf l id m t).2 = 0) : ∃ k : Nat, ∃ _ : k < l.length, findF l id = k ∧ testOf l id m t = (setF l k m t, 0) ∧ 0 ≤ m ∧ m ≤ 10000000 ∧ 0 ≤ t ∧ t ≤ 20000000 := by
  have hge := findF_ge l id
  by_cases hf : findF l id < 0
  · rw [testOf_none hf] at h; simp at h
  · by_cases hr : 0 ≤ m ∧ m ≤ 10000000 ∧ 0 ≤ t ∧ t ≤ 20000000
    · have hk : (findF l id).toNat < l.length := by omega
      have he := testOf_at hk (by omega : findF l id = ((findF l id).toNat : Int)) hr
      rw [he] at h
      split at h
      · simp at h
      · rename_i hn
        rw [if_neg hn] at he
        exact ⟨_, hk, by omega, he, hr⟩
    · rw [testOf_range hf hr] at h; simp at h
theorem test_err {l : List Brake} {id m t : Int} (h : (testOf l id m t).2 ≠ 0) : (testOf l id m t).1 = [] := by
  revert h
  unfold testOf
  split <;> (try split) <;> (try split) <;> simp
theorem findF_id {l : List Brake} {id : Int} {k : Nat} (hk : k < l.length) (h : findF l id = k) : l[k].id = id := by
  induction l generalizing k with
  | nil => simp at hk
  | cons x r ih =>
    rw [findF] at h
    split at h
    · rename_i he
      have : k = 0 := by omega
      subst this
      simpa using he
    · split at h
      · omega
      · cases k with
        | zero => omega
        | succ k => simpa using ih (by simpa using hk) (by omega)
theorem valid_set (x : Brake) (m t later : Int) (ht : 0 ≤ t) : validB { x with tested := t, measured := m } later = (decide (9 * x.force ≤ 10 * m) && (decide (t ≤ later) && decide (later < t + 604800))) := by
  unfold validB nineOf
  rw [Bool.eq_iff_iff]
  simp only [decide_eq_true_eq, Bool.and_eq_true]
  omega
end Go.Proofs.Ytgmkfjgkpakhfaa
