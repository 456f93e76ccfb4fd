/- The plain law of package rescue: the assignments as numbers; the first with the least end. -/
import Derived.Test.YtogaepijfbgniaaPlain3
namespace Go.Proofs.Ytogaepijfbgniaa
set_option linter.unusedVariables false
theorem lists_snoc (T : List Nat) : ∀ n, listsOf T (n + 1) = (listsOf T n).flatMap fun a => T.map fun t => a ++ [t] := by
  intro n
  induction n with
  | zero =>
    simp only [listsOf, List.map_cons, List.map_nil, List.flatMap_cons, List.flatMap_nil, List.append_nil, List.nil_append]
    induction T with
    | nil => rfl
    | cons t r ih => rw [List.flatMap_cons, ih]; rfl
  | succ n ih =>
    have e : listsOf T (n + 1 + 1) = T.flatMap fun t => (listsOf T (n + 1)).map (t :: ·) := rfl
    rw [e]
    conv => rhs; rw [show listsOf T (n + 1) = T.flatMap fun t => (listsOf T n).map (t :: ·) from rfl]
    rw [ih, List.flatMap_assoc]
    congr 1
    funext t
    rw [List.map_flatMap, List.flatMap_map]
    congr 1
    funext a
    simp
theorem flat_get {α β : Type} (f : α → List β) (T : Nat) (hT : 0 < T) : ∀ (L : List α), (∀ a ∈ L, (f a).length = T) → ∀ i, (L.flatMap f)[i]? = (L[i / T]?).bind fun a => (f a)[i % T]? := by
  intro L
  induction L with
  | nil => intro _ i; simp
  | cons a r ih =>
    intro h i
    have ha := h a (by simp)
    rw [List.flatMap_cons]
    by_cases hi : i < T
    · rw [List.getElem?_append_left (by omega), Nat.div_eq_of_lt hi, Nat.mod_eq_of_lt hi]
      rfl
    · rw [List.getElem?_append_right (by omega), ha, ih (fun x hx => h x (by simp [hx]))]
      have e1 : i / T = (i - T) / T + 1 := by
        rw [Nat.div_eq_sub_div hT (by omega)]
      have e2 : (i - T) % T = i % T := by
        rw [Nat.mod_eq_sub_mod (a := i) (by omega)]
      rw [e1, List.getElem?_cons_succ, e2]
/-- the digits of a number to the base T, each 1 greater -/
def digits (T : Nat) : Nat → Nat → List Nat
  | 0, _ => []
  | n + 1, N => digits T n (N / T) ++ [1 + N % T]
theorem digits_length (T : Nat) : ∀ n N, (digits T n N).length = n := by
  intro n
  induction n with
  | zero => intro N; rfl
  | succ n ih => intro N; simp [digits, ih]
theorem lists_get {T : Nat} (hT : 0 < T) : ∀ (n N : Nat), N < T ^ n → (listsOf (List.range' 1 T) n)[N]? = some (digits T n N) := by
  intro n
  induction n with
  | zero =>
    intro N hN
    simp at hN
    subst hN
    rfl
  | succ n ih =>
    intro N hN
    rw [lists_snoc, flat_get _ T hT _ (fun a _ => by simp), ih _ (by
      rw [Nat.div_lt_iff_lt_mul hT]
      rw [Nat.pow_succ] at hN
      exact hN)]
    have hm := Nat.mod_lt N hT
    simp [digits, hm]
theorem lists_length {T : Nat} : ∀ n, (listsOf (List.range' 1 T) n).length = T ^ n := by
  intro n
  induction n with
  | zero => rfl
  | succ n ih =>
    rw [listsOf, List.length_flatMap]
    have : ∀ (L : List Nat) (m : Nat), (L.map fun _ => m).sum = L.length * m := by
      intro L m
      induction L with
      | nil => simp
      | cons a r ih => rw [List.map_cons, List.sum_cons, ih, List.length_cons, Nat.add_mul]; omega
    simp only [List.length_map, ih]
    rw [this, List.length_range', Nat.pow_succ, Nat.mul_comm]
theorem pick_succ (f : List Nat → Int) (ls : List (List Nat)) (s : Look) {k : Nat} (hk : k < ls.length) : pick f (ls.take (k + 1)) s = upd (pick f (ls.take k) s) (f ls[k]) ls[k] := by
  unfold pick
  rw [List.take_succ_eq_append_getElem hk, List.foldl_append]
  rfl
/-- the least end -/
theorem pick_least (f : List Nat → Int) : ∀ (ls : List (List Nat)) (s : Look), (∀ a ∈ ls, 0 ≤ f a) → 0 ≤ s.least → s.least = f s.best → (0 ≤ (pick f ls s).least ∧ (pick f ls s).least = f (pick f ls s).best ∧ (pick f ls s).least ≤ s.least ∧ ∀ a ∈ ls, (pick f ls s).least ≤ f a) := by
  intro ls
  induction ls with
  | nil => intro s _ h0 h1; exact ⟨h0, h1, Int.le_refl _, fun a ha => by simp at ha⟩
  | cons a r ih =>
    intro s hf h0 h1
    have e : pick f (a :: r) s = pick f r (upd s (f a) a) := rfl
    rw [e]
    have hu : 0 ≤ (upd s (f a) a).least ∧ (upd s (f a) a).least = f (upd s (f a) a).best ∧ (upd s (f a) a).least ≤ s.least ∧ (upd s (f a) a).least ≤ f a := by
      unfold upd
      split
      · rename_i h
        exact ⟨hf a (by simp), rfl, by simp only; omega, Int.le_refl _⟩
      · rename_i h
        exact ⟨h0, h1, Int.le_refl _, by omega⟩
    obtain ⟨u0, u1, u2, u3⟩ := hu
    obtain ⟨i0, i1, i2, i3⟩ := ih (upd s (f a) a) (fun x hx => hf x (by simp [hx])) u0 u1
    refine ⟨i0, i1, by omega, fun x hx => ?_⟩
    rcases List.mem_cons.1 hx with rfl | hx
    · omega
    · exact i3 x hx
theorem pick_best (f : List Nat → Int) (ls : List (List Nat)) (s : Look) (hf : ∀ a ∈ ls, 0 ≤ f a) (hs : s.least < 0) (hn : ls ≠ []) : (pick f ls s).best ∈ ls ∧ (pick f ls s).least = f (pick f ls s).best ∧ ∀ a ∈ ls, (pick f ls s).least ≤ f a := by
  cases ls with
  | nil => exact absurd rfl hn
  | cons a r =>
    have e : pick f (a :: r) s = pick f r ⟨f a, a⟩ := by
      show pick f r (upd s (f a) a) = _
      unfold upd
      rw [if_pos (.inl hs)]
    rw [e]
    obtain ⟨i0, i1, i2, i3⟩ := pick_least f r ⟨f a, a⟩ (fun x hx => hf x (by simp [hx])) (hf a (by simp)) rfl
    refine ⟨?_, i1, fun x hx => ?_⟩
    · have : ∀ (ls : List (List Nat)) (s : Look), (pick f ls s).best = s.best ∨ (pick f ls s).best ∈ ls := by
        intro ls
        induction ls with
        | nil => intro s; exact .inl rfl
        | cons b r ih =>
          intro s
          have e : pick f (b :: r) s = pick f r (upd s (f b) b) := rfl
          rw [e]
          rcases ih (upd s (f b) b) with h | h
          · rw [h]
            unfold upd
            split
            · exact .inr (by simp)
            · exact .inl rfl
          · exact .inr (by simp [h])
      rcases this r ⟨f a, a⟩ with h | h
      · rw [h]; simp
      · simp [h]
    · rcases List.mem_cons.1 hx with rfl | hx
      · exact i2
      · exact i3 x hx
end Go.Proofs.Ytogaepijfbgniaa
