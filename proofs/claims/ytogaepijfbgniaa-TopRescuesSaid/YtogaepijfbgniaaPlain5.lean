/- The plain law of package rescue: the end of an assignment, counted along. -/
import Derived.Test.YtogaepijfbgniaaPlain4
namespace Go.Proofs.Ytogaepijfbgniaa
set_option linter.unusedVariables false
theorem max_add {b : List Int} (hb : b.length = 4) {t : Nat} (ht : t < 4) {x : Int} (hx : 0 ≤ x) : mx (maxL b) ((addAt b t x).getD t 0) = maxL (addAt b t x) := by
  match b, hb with
  | [p, q, r, s], _ =>
    match t, ht with
    | 0, _ => simp [maxL, addAt, mx]; (repeat' split) <;> omega
    | 1, _ => simp [maxL, addAt, mx]; (repeat' split) <;> omega
    | 2, _ => simp [maxL, addAt, mx]; (repeat' split) <;> omega
    | 3, _ => simp [maxL, addAt, mx]; (repeat' split) <;> omega
theorem endTo_max {l : List Sec} {a : List Nat} (hs : ∀ x ∈ l, 1 ≤ x.seconds ∧ x.seconds ≤ 86400) (ha : ∀ k, teamAt a k < 4) : ∀ k, k ≤ l.length → endTo l a k = maxL (busyTo l a k) := by
  intro k
  induction k with
  | zero => intro _; rfl
  | succ k ih =>
    intro hk
    have hsx := hs (secAt l k) (by rw [secAt_eq (by omega)]; exact List.getElem_mem _)
    show mx (endTo l a k) _ = _
    rw [ih (by omega), busyTo_succ]
    exact max_add (busyTo_ok (a := a) hs k (by omega)).1 (ha k) (by omega)
theorem digits_small {T : Nat} (hT : 0 < T) : ∀ n N, ∀ t ∈ digits T n N, 1 ≤ t ∧ t ≤ T := by
  intro n
  induction n with
  | zero => intro N t ht; simp [digits] at ht
  | succ n ih =>
    intro N t ht
    simp only [digits, List.mem_append, List.mem_singleton] at ht
    rcases ht with ht | rfl
    · exact ih _ t ht
    · have := Nat.mod_lt N hT; omega
theorem pick_digits (f : List Nat → Int) {T : Nat} (hT : 0 < T) (n : Nat) (s : Look) {N : Nat} (hN : N < T ^ n) : pick f ((listsOf (List.range' 1 T) n).take (N + 1)) s = upd (pick f ((listsOf (List.range' 1 T) n).take N) s) (f (digits T n N)) (digits T n N) := by
  have hl : N < (listsOf (List.range' 1 T) n).length := by rw [lists_length]; exact hN
  have hg := lists_get hT n N hN
  rw [List.getElem?_eq_getElem hl] at hg
  injection hg with hg
  rw [pick_succ f _ s hl, hg]
theorem digits_end {l : List Sec} (hs : ∀ x ∈ l, 1 ≤ x.seconds ∧ x.seconds ≤ 86400) {T : Nat} (hT : 1 ≤ T ∧ T ≤ 3) (n N : Nat) : (∀ k, teamAt (digits T n N) k < 4) ∧ endTo l (digits T n N) l.length = endOf l (digits T n N) := by
  have h : ∀ k, teamAt (digits T n N) k < 4 := fun k => by
    unfold teamAt
    rw [List.getD_eq_getElem?_getD]
    cases hq : (digits T n N)[k]? with
    | none => simp
    | some z =>
      have := digits_small (T := T) (by omega) _ _ z (List.mem_of_getElem? hq)
      simp; omega
  exact ⟨h, endTo_max hs h _ (Nat.le_refl _)⟩
theorem digits_last (T m N : Nat) (hm : 1 ≤ m) (suf : List Nat) : digits T m N ++ suf = digits T (m - 1) (N / T) ++ (1 + N % T) :: suf := by
  obtain ⟨j, rfl⟩ : ∃ j, m = j + 1 := ⟨m - 1, by omega⟩
  simp [digits]
theorem fill_set (m : Nat) (hm : 1 ≤ m) (suf : List Nat) (x : Nat) : (List.replicate m 0 ++ suf).set (m - 1) x = List.replicate (m - 1) 0 ++ x :: suf := by
  obtain ⟨j, rfl⟩ : ∃ j, m = j + 1 := ⟨m - 1, by omega⟩
  rw [List.replicate_succ']
  simp
end Go.Proofs.Ytogaepijfbgniaa
