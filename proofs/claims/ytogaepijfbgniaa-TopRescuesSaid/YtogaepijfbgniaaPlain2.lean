/- The plain law of package rescue: what 'try' does. -/
import Derived.Test.YtogaepijfbgniaaPlain
namespace Go.Proofs.Ytogaepijfbgniaa
set_option linter.unusedVariables false
def mx (m x : Int) : Int := if m < x then x else m
def maxL (b : List Int) : Int := b.foldl mx (b.headD 0)
/-- the best assignment so far, and its end -/
structure Look where
  least : Int
  best : List Nat
def upd (s : Look) (e : Int) (a : List Nat) : Look := if s.least < 0 ∨ e < s.least then ⟨e, a⟩ else s
def addAt (b : List Int) (k : Nat) (x : Int) : List Int := b.set k (b.getD k 0 + x)
/-- what 'try' makes of the best one so far: the sections' seconds that are left, the teams chosen, how long each is busy -/
def tryAll (T : List Nat) : List Int → List Nat → List Int → Look → Look
  | [], pre, b, s => upd s (maxL b) pre
  | x :: r, pre, b, s => T.foldl (fun s t => tryAll T r (pre ++ [t]) (addAt b t x) s) s
theorem addAt_length (b : List Int) (k : Nat) (x : Int) : (addAt b k x).length = b.length := by simp [addAt]
theorem addAt_back {b : List Int} {k : Nat} (hk : k < b.length) (x : Int) : (addAt b k x).set k ((addAt b k x).getD k 0 - x) = b := by
  unfold addAt
  apply List.ext_getElem
  · simp
  · intro i h1 h2
    simp only [List.getD_eq_getElem?_getD, List.getElem?_set_self (by simpa using hk), Option.getD_some, List.set_set]
    rw [List.getElem_set]
    split
    · subst_vars
      rw [List.getElem?_eq_getElem hk, Option.getD_some]
      omega
    · rfl
theorem addAt_get {b : List Int} {k : Nat} (hk : k < b.length) (x : Int) : (addAt b k x).getD k 0 = b.getD k 0 + x := by
  unfold addAt
  rw [List.getD_eq_getElem?_getD, List.getElem?_set_self hk, Option.getD_some]
/-- how long teams can be busy after i sections -/
def BusyOk (i : Nat) (b : List Int) : Prop := b.length = 4 ∧ ∀ k, 0 ≤ b.getD k 0 ∧ b.getD k 0 ≤ 86400 * i
theorem BusyOk.add {i : Nat} {b : List Int} (h : BusyOk i b) (k : Nat) {x : Int} (h0 : 0 ≤ x) (h1 : x ≤ 86400) : BusyOk (i + 1) (addAt b k x) := by
  refine ⟨by rw [addAt_length]; exact h.1, fun j => ?_⟩
  have hj := h.2 j
  have hk := h.2 k
  have e : (addAt b k x).getD j 0 = b.getD j 0 ∨ (addAt b k x).getD j 0 = b.getD k 0 + x := by
    unfold addAt
    rw [List.getD_eq_getElem?_getD, List.getElem?_set]
    split
    · split
      · right; rfl
      · left
        rename_i hkl
        subst_vars
        rw [List.getD_eq_getElem?_getD, List.getElem?_eq_none (by omega)]
    · left
      rw [List.getD_eq_getElem?_getD]
  rcases e with e | e <;> rw [e] <;> omega
theorem BusyOk.zero : BusyOk 0 [0, 0, 0, 0] := ⟨rfl, fun k => by
  match k with
  | 0 => decide
  | 1 => decide
  | 2 => decide
  | 3 => decide
  | n + 4 => simp⟩
theorem BusyOk.mono {i j : Nat} {b : List Int} (h : BusyOk i b) (hij : i ≤ j) : BusyOk j b := ⟨h.1, fun k => by have := h.2 k; omega⟩
theorem maxL_ok {i : Nat} {b : List Int} (h : BusyOk i b) : 0 ≤ maxL b ∧ maxL b ≤ 86400 * i := by
  have key : ∀ (l : List Int) (m : Int), 0 ≤ m ∧ m ≤ 86400 * i → (∀ x ∈ l, 0 ≤ x ∧ x ≤ 86400 * i) → 0 ≤ l.foldl mx m ∧ l.foldl mx m ≤ 86400 * i := by
    intro l
    induction l with
    | nil => intro m hm _; exact hm
    | cons y r ih =>
      intro m hm hl
      refine ih _ ?_ fun x hx => hl x (by simp [hx])
      have := hl y (by simp)
      unfold mx
      split <;> omega
  refine key b _ ?_ ?_
  · have := h.2 0
    cases b with
    | nil => simp; omega
    | cons y r => simpa using this
  · intro x hx
    obtain ⟨j, hj, rfl⟩ := List.getElem_of_mem hx
    have := h.2 j
    rw [List.getD_eq_getElem?_getD, List.getElem?_eq_getElem hj, Option.getD_some] at this
    exact this
end Go.Proofs.Ytogaepijfbgniaa
