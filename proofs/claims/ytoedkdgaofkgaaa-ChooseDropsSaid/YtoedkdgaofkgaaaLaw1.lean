/- The plain law of choose: sums, valid choices, the order of lists, what is best. -/
import Derived.Test.YtoedkdgaofkgaaaBestPlain
import Derived.Test.YtoedkdgaofkgaaaRefPlain
namespace Go.Proofs.Ytoedkdgaofkgaaa
/-! ### the order -/
theorem lessOf_irrefl (x : List Int) : lessOf x x = false := by
  induction x with
  | nil => rfl
  | cons a r ih => simp [lessOf, ih]
theorem lessOf_trans {x y z : List Int} (h1 : lessOf x y = true) (h2 : lessOf y z = true) : lessOf x z = true := by
  induction x generalizing y z with
  | nil =>
    cases y with
    | nil => cases z <;> simp_all [lessOf]
    | cons b s => cases z <;> simp_all [lessOf]
  | cons a r ih =>
    cases y with
    | nil => simp [lessOf] at h1
    | cons b s =>
      cases z with
      | nil => simp [lessOf] at h2
      | cons c t =>
        simp only [lessOf] at h1 h2 ⊢
        by_cases e1 : a = b
        · subst e1
          by_cases e2 : a = c
          · subst e2; simp at h1 h2 ⊢; exact ih h1 h2
          · simp [e2] at h2 ⊢; exact h2
        · by_cases e2 : b = c
          · subst e2; simp [e1] at h1 ⊢; exact h1
          · simp [e1] at h1; simp [e2] at h2
            have : a ≠ c := by omega
            simp [this]; omega
theorem lessOf_asymm {x y : List Int} (h1 : lessOf x y = true) : lessOf y x = false := by
  cases h : lessOf y x
  · rfl
  · have := lessOf_trans h1 h; rw [lessOf_irrefl] at this; cases this
theorem lessOf_total {x y : List Int} (h1 : lessOf x y = false) (h2 : lessOf y x = false) : x = y := by
  induction x generalizing y with
  | nil => cases y with
    | nil => rfl
    | cons b s => simp [lessOf] at h1
  | cons a r ih => cases y with
    | nil => simp [lessOf] at h2
    | cons b s =>
      simp only [lessOf] at h1 h2
      by_cases e : a = b
      · subst e; simp at h1 h2; rw [ih h1 h2]
      · have e' : b ≠ a := fun h => e h.symm
        simp [e] at h1; simp [e'] at h2; omega
theorem lessOf_append (c x y : List Int) : lessOf (c ++ x) (c ++ y) = lessOf x y := by
  induction c with
  | nil => rfl
  | cons a r ih => simp [lessOf, ih]
theorem sameOf_self (x : List Int) : sameOf x x = true := by simp [sameOf, lessOf_irrefl]
theorem sameOf_iff {x y : List Int} : sameOf x y = true ↔ x = y := by
  constructor
  · intro h
    simp only [sameOf, Bool.and_eq_true, Bool.not_eq_true'] at h
    exact lessOf_total h.1 h.2
  · rintro rfl; exact sameOf_self x

/-! ### sums -/
def itA (l : List Item) (i : Int) : Int := (l.getD i.toNat Item.zero).a
def itB (l : List Item) (i : Int) : Int := (l.getD i.toNat Item.zero).b
def itV (l : List Item) (i : Int) : Int := (l.getD i.toNat Item.zero).v
def sumOf (f : Int → Int) : List Int → Int
  | [] => 0
  | i :: r => f i + sumOf f r
theorem sumOf_append (f : Int → Int) (x y : List Int) : sumOf f (x ++ y) = sumOf f x + sumOf f y := by
  induction x with
  | nil => simp [sumOf]
  | cons a r ih => simp [sumOf, ih]; omega
def validF (l : List Item) : Option Int → List Int → Bool
  | _, [] => true
  | p, i :: r => okAt l p i && validF l (some i) r
theorem need_eq (l : List Item) (p : Option Int) (ch : List Int) (x y z : Int) :
    need l p ch x y z = if validF l p ch then (x + sumOf (itA l) ch, y + sumOf (itB l) ch, z + sumOf (itV l) ch, true) else (0, 0, 0, false) := by
  induction ch generalizing p x y z with
  | nil => simp [need, validF, sumOf]
  | cons i r ih =>
    simp only [need, validF, sumOf, ih]
    by_cases h1 : okAt l p i = true
    · by_cases h2 : validF l (some i) r = true
      · simp [h1, h2, itA, itB, itV]; omega
      · simp [h1, h2]
    · simp [h1]
def valid (l : List Item) (ch : List Int) : Bool := validF l none ch
theorem needOf_eq (l : List Item) (ch : List Int) : needOf l ch = if valid l ch then (sumOf (itA l) ch, sumOf (itB l) ch, sumOf (itV l) ch, true) else (0, 0, 0, false) := by
  rw [needOf, need_eq, valid]; simp
theorem fitsOf_eq (l : List Item) (ch : List Int) (a b : Int) : fitsOf l ch a b = true ↔ valid l ch = true ∧ sumOf (itA l) ch ≤ a ∧ sumOf (itB l) ch ≤ b := by
  rw [fitsOf, needOf_eq]
  cases valid l ch <;> simp
theorem valOf_eq {l : List Item} {ch : List Int} (h : valid l ch = true) : valOf l ch = sumOf (itV l) ch := by
  rw [valOf, needOf_eq, if_pos h]
theorem fits_val {l : List Item} {ch : List Int} {a b : Int} (h : fitsOf l ch a b = true) : valOf l ch = sumOf (itV l) ch := valOf_eq ((fitsOf_eq l ch a b).1 h).1
theorem item_nn {l : List Item} (hl : itemsB l = true) (i : Int) : 0 ≤ itA l i ∧ 0 ≤ itB l i ∧ 0 ≤ itV l i := by
  unfold itA itB itV
  by_cases h : i.toNat < l.length
  · have hb := itemB_bd (itemB_of hl i.toNat h)
    have e : l.getD i.toNat Item.zero = l[i.toNat] := by simp [h]
    rw [e]
    exact ⟨hb.1.1, hb.2.1.1, hb.2.2.1⟩
  · have e : l.getD i.toNat Item.zero = Item.zero := by simp; rw [List.getElem?_eq_none (by omega)]; rfl
    rw [e]; simp [Item.zero]
theorem sum_nn {f : Int → Int} (h : ∀ i, 0 ≤ f i) (ch : List Int) : 0 ≤ sumOf f ch := by
  induction ch with
  | nil => simp [sumOf]
  | cons i r ih => have := h i; simp only [sumOf]; omega
theorem validF_append (l : List Item) (p : Option Int) (x y : List Int) : validF l p (x ++ y) = (validF l p x && validF l (match x.getLast? with | some q => some q | none => p) y) := by
  induction x generalizing p with
  | nil => simp [validF]
  | cons i r ih =>
    simp only [List.cons_append, validF, ih, Bool.and_assoc]
    cases r with
    | nil => simp
    | cons j s =>
      rw [List.getLast?_cons_cons]
      cases hg : (j :: s).getLast? with
      | none => simp at hg
      | some q => simp
theorem fits_prefix {l : List Item} (hl : itemsB l = true) {ch t : List Int} {a b : Int} (h : fitsOf l (ch ++ t) a b = true) : fitsOf l ch a b = true := by
  rw [fitsOf_eq] at h ⊢
  obtain ⟨h1, h2, h3⟩ := h
  rw [valid, validF_append, Bool.and_eq_true] at h1
  rw [sumOf_append] at h2 h3
  have ha := sum_nn (fun i => (item_nn hl i).1) t
  have hb := sum_nn (fun i => (item_nn hl i).2.1) t
  exact ⟨h1.1, by omega, by omega⟩
theorem val_nn {l : List Item} (hl : itemsB l = true) (ch : List Int) : 0 ≤ valOf l ch := by
  unfold valOf; rw [needOf_eq]
  split
  · exact sum_nn (fun i => (item_nn hl i).2.2) ch
  · simp
theorem fits_nil (l : List Item) (a b : Int) : fitsOf l [] a b = true ↔ 0 ≤ a ∧ 0 ≤ b := by
  rw [fitsOf_eq]; simp [valid, validF, sumOf]
theorem val_nil (l : List Item) : valOf l [] = 0 := by simp [valOf, needOf_eq, sumOf, valid, validF]

/-- the choice of the greatest value, of several the least -/
structure IsBest (l : List Item) (a b : Int) (x : List Int) : Prop where
  fits : fitsOf l x a b = true
  most : ∀ c, fitsOf l c a b = true → valOf l c ≤ valOf l x
  least : ∀ c, fitsOf l c a b = true → valOf l c = valOf l x → lessOf c x = false
theorem IsBest.unique {l : List Item} {a b : Int} {x y : List Int} (hx : IsBest l a b x) (hy : IsBest l a b y) : x = y := by
  have e : valOf l x = valOf l y := by have := hx.most y hy.fits; have := hy.most x hx.fits; omega
  exact lessOf_total (hy.least x hx.fits e) (hx.least y hy.fits e.symm)

/-! ### the recursion -/
def nextOf (ch : List Int) (next : Nat) : Prop := match ch.getLast? with | some q => (next : Int) = q + 1 | none => next = 0
/-- c is a valid choice that begins with ch, and then goes on with an index below m, or ends -/
def Ext (ch : List Int) (c : List Int) (m : Nat) : Prop := c = ch ∨ ∃ i t, c = ch ++ i :: t ∧ i < (m : Int)
structure Good (l : List Item) (a b : Int) (st st' : List Int × Int) (S : List Int → Prop) : Prop where
  kind : st' = st ∨ (S st'.1 ∧ fitsOf l st'.1 a b = true ∧ st'.2 = valOf l st'.1 ∧ st.2 < st'.2)
  most : ∀ c, S c → fitsOf l c a b = true → valOf l c ≤ st'.2
  least : st.2 < st'.2 → ∀ c, S c → fitsOf l c a b = true → valOf l c = st'.2 → lessOf c st'.1 = false
theorem valid_ok {l : List Item} {ch : List Int} {i : Int} {t : List Int} {next : Nat} (hn : nextOf ch next) (h : valid l (ch ++ i :: t) = true) : (next : Int) ≤ i ∧ i < l.length ∧ valid l (ch ++ [i]) = true := by
  rw [valid, validF_append, Bool.and_eq_true, validF, Bool.and_eq_true] at h
  obtain ⟨h1, h2, h3⟩ := h
  have h2' := h2
  unfold okAt at h2
  rw [decide_eq_true_eq] at h2
  refine ⟨?_, h2.2.1, ?_⟩
  · unfold nextOf at hn
    cases hg : ch.getLast? with
    | none => rw [hg] at hn; simp only at hn; have := h2.1; omega
    | some q => rw [hg] at hn h2; simp only at hn; have := h2.2.2 q rfl; omega
  · rw [valid, validF_append, h1, validF, h2']; rfl
theorem tryF_good (l : List Item) (a b : Int) (hl : itemsB l = true) (f : Nat) :
    ∀ (next : Nat) (value : Int) (ch : List Int) (st : List Int × Int), l.length < next + f → nextOf ch next → valid l ch = true → value = valOf l ch →
      Good l a b st (tryF l a b f next value ch st) (fun c => ∃ t, c = ch ++ t) := by
  induction f with
  | zero =>
    intro next value ch st hf hn hv he
    -- next is beyond the items: nothing goes on
    have hall : ∀ c, (∃ t, c = ch ++ t) → fitsOf l c a b = true → c = ch := by
      rintro c ⟨t, rfl⟩ hc
      cases t with
      | nil => simp
      | cons i t =>
        have := valid_ok hn ((fitsOf_eq _ _ _ _).1 hc).1
        omega
    cases hfit : fitsOf l ch a b
    · rw [tryF_no hfit]
      refine ⟨.inl rfl, fun c hc hcf => ?_, fun h => absurd h (by omega)⟩
      have := hall c hc hcf; subst this; rw [hfit] at hcf; cases hcf
    · rw [tryF_end hfit (by omega)]
      subst he
      unfold updF
      by_cases hu : st.2 < valOf l ch
      · rw [if_pos hu]
        refine ⟨.inr ⟨⟨[], by simp⟩, hfit, rfl, hu⟩, fun c hc hcf => ?_, fun _ c hc hcf _ => ?_⟩
        · rw [hall c hc hcf]; exact Int.le_refl _
        · rw [hall c hc hcf]; exact lessOf_irrefl _
      · rw [if_neg hu]
        refine ⟨.inl rfl, fun c hc hcf => ?_, fun h => absurd h (by omega)⟩
        rw [hall c hc hcf]; omega
  | succ f ih =>
    intro next value ch st hf hn hv he
    cases hfit : fitsOf l ch a b
    · rw [tryF_no hfit]
      refine ⟨.inl rfl, fun c ⟨t, ht⟩ hcf => ?_, fun h => absurd h (by omega)⟩
      subst ht
      rw [fits_prefix hl hcf] at hfit; cases hfit
    · rw [tryF_yes hfit]
      -- the loop
      have loop : ∀ k, next + k ≤ l.length ∨ k = 0 → Good l a b st (loopF l a b f next value ch st k) (fun c => Ext ch c (next + k)) := by
        intro k
        induction k with
        | zero =>
          intro _
          rw [loopF_zero]
          have hall : ∀ c, Ext ch c (next + 0) → fitsOf l c a b = true → c = ch := by
            rintro c (rfl | ⟨i, t, rfl, hi⟩) hc
            · rfl
            · have := valid_ok hn ((fitsOf_eq _ _ _ _).1 hc).1
              omega
          subst he
          unfold updF
          by_cases hu : st.2 < valOf l ch
          · rw [if_pos hu]
            refine ⟨.inr ⟨.inl rfl, hfit, rfl, hu⟩, fun c hc hcf => ?_, fun _ c hc hcf _ => ?_⟩
            · rw [hall c hc hcf]; exact Int.le_refl _
            · rw [hall c hc hcf]; exact lessOf_irrefl _
          · rw [if_neg hu]
            refine ⟨.inl rfl, fun c hc hcf => ?_, fun h => absurd h (by omega)⟩
            rw [hall c hc hcf]; omega
        | succ k ihk =>
          intro hk
          have hk' : next + (k + 1) ≤ l.length := by omega
          have G := ihk (.inl (by omega))
          rw [loopF_succ]
          generalize loopF l a b f next value ch st k = sk at G ⊢
          have hok : valid l (ch ++ [((next + k : Nat) : Int)]) = true := by
            rw [valid, validF_append]
            rw [valid] at hv
            rw [hv, validF, validF]
            simp only [Bool.and_true, Bool.true_and]
            unfold okAt
            rw [decide_eq_true_eq]
            refine ⟨by omega, by omega, fun q hq => ?_⟩
            unfold nextOf at hn
            cases hg : ch.getLast? with
            | none => rw [hg] at hq; cases hq
            | some q' => rw [hg] at hq hn; injection hq with hq; subst hq; simp only at hn; omega
          have hval : value + (l.getD (next + k) Item.zero).v = valOf l (ch ++ [((next + k : Nat) : Int)]) := by
            rw [he, valOf_eq hv, valOf_eq hok, sumOf_append]
            simp only [sumOf, itV, Int.toNat_natCast]; omega
          have T := ih (next + k + 1) (value + (l.getD (next + k) Item.zero).v) (ch ++ [((next + k : Nat) : Int)]) sk (by omega) (by simp [nextOf]) hok hval
          generalize tryF l a b f (next + k + 1) (value + (l.getD (next + k) Item.zero).v) (ch ++ [((next + k : Nat) : Int)]) sk = st' at T ⊢
          -- what is new lies behind what was
          have split : ∀ c, Ext ch c (next + (k + 1)) → Ext ch c (next + k) ∨ ∃ t, c = (ch ++ [((next + k : Nat) : Int)]) ++ t := by
            rintro c (rfl | ⟨i, t, rfl, hi⟩)
            · exact .inl (.inl rfl)
            · by_cases hik : i < ((next + k : Nat) : Int)
              · exact .inl (.inr ⟨i, t, rfl, hik⟩)
              · have : i = ((next + k : Nat) : Int) := by omega
                subst this
                exact .inr ⟨t, by simp⟩
          have wide : ∀ c, Ext ch c (next + k) → Ext ch c (next + (k + 1)) := by
            rintro c (rfl | ⟨i, t, rfl, hi⟩)
            · exact .inl rfl
            · exact .inr ⟨i, t, rfl, by omega⟩
          have wide2 : ∀ c, (∃ t, c = (ch ++ [((next + k : Nat) : Int)]) ++ t) → Ext ch c (next + (k + 1)) := by
            rintro c ⟨t, rfl⟩
            exact .inr ⟨((next + k : Nat) : Int), t, by simp, by omega⟩
          have before : ∀ c d, Ext ch c (next + k) → (∃ t, d = (ch ++ [((next + k : Nat) : Int)]) ++ t) → lessOf c d = true := by
            rintro c d (rfl | ⟨i, t, rfl, hi⟩) ⟨t', rfl⟩
            · have := lessOf_append c [] (((next + k : Nat) : Int) :: t')
              rw [List.append_nil] at this
              rw [List.append_assoc, List.singleton_append, this]; rfl
            · rw [List.append_assoc, List.singleton_append, lessOf_append, lessOf, if_pos (by omega)]
              simp; omega
          rcases T.kind with e | ⟨t1, t2, t3, t4⟩
          · subst e
            refine ⟨?_, ?_, ?_⟩
            · rcases G.kind with h | ⟨h1, h2, h3, h4⟩
              · exact .inl h
              · exact .inr ⟨wide _ h1, h2, h3, h4⟩
            · intro c hc hcf
              rcases split c hc with h | h
              · exact G.most c h hcf
              · exact T.most c h hcf
            · intro hlt c hc hcf hce
              rcases split c hc with h | h
              · exact G.least hlt c h hcf hce
              · rcases G.kind with hk | ⟨h1, _⟩
                · rw [hk] at hlt; omega
                · exact lessOf_asymm (before _ _ h1 h)
          · have hge : st.2 ≤ sk.2 := by
              rcases G.kind with h | ⟨_, _, _, h⟩
              · rw [h]; exact Int.le_refl _
              · omega
            refine ⟨.inr ⟨wide2 _ t1, t2, t3, by omega⟩, ?_, ?_⟩
            · intro c hc hcf
              rcases split c hc with h | h
              · have := G.most c h hcf; omega
              · exact T.most c h hcf
            · intro _ c hc hcf hce
              rcases split c hc with h | h
              · have := G.most c h hcf; omega
              · exact T.least t4 c h hcf hce
      have hS : ∀ c, fitsOf l c a b = true → (∃ t, c = ch ++ t) → Ext ch c (next + (l.length - next)) := by
        rintro c hc ⟨t, rfl⟩
        cases t with
        | nil => exact .inl (by simp)
        | cons i t =>
          have := valid_ok hn ((fitsOf_eq _ _ _ _).1 hc).1
          exact .inr ⟨i, t, rfl, by omega⟩
      have G := loop (l.length - next) (by omega)
      refine ⟨?_, fun c hc hcf => G.most c (hS c hcf hc) hcf, fun h c hc hcf => G.least h c (hS c hcf hc) hcf⟩
      rcases G.kind with h | ⟨h1, h2, h3, h4⟩
      · exact .inl h
      · refine .inr ⟨?_, h2, h3, h4⟩
        rcases h1 with h | ⟨i, t, h, _⟩
        · exact ⟨[], by simp [h]⟩
        · exact ⟨_, h⟩
theorem tryF_best {l : List Item} {a b : Int} (hl : itemsB l = true) (h12 : l.length ≤ 12) (ha : 0 ≤ a) (hb : 0 ≤ b) : IsBest l a b (tryF l a b 13 0 0 [] ([], -1)).1 := by
  have T := tryF_good l a b hl 13 0 0 [] ([], -1) (by omega) (by simp [nextOf]) rfl (val_nil l).symm
  generalize tryF l a b 13 0 0 [] ([], -1) = st at T ⊢
  have h0 := T.most [] ⟨[], rfl⟩ ((fits_nil l a b).2 ⟨ha, hb⟩)
  rw [val_nil] at h0
  rcases T.kind with h | ⟨h1, h2, h3, h4⟩
  · rw [h] at h0; simp at h0
  · exact ⟨h2, fun c hc => by rw [← h3]; exact T.most c ⟨c, by simp⟩ hc, fun c hc he => T.least h4 c ⟨c, by simp⟩ hc (by rw [h3]; exact he)⟩
end Go.Proofs.Ytoedkdgaofkgaaa
