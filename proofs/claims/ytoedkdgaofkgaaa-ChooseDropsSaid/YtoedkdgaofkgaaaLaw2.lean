/- The plain law of choose: the reference's Best; what follows for limits, more items, fewer items. -/
import Derived.Test.YtoedkdgaofkgaaaLaw1
namespace Go.Proofs.Ytoedkdgaofkgaaa
/-- the indices lie in [i, m) and increase -/
def incr (m : Nat) : Nat → List Nat → Prop
  | _, [] => True
  | i, x :: r => i ≤ x ∧ x < m ∧ incr m (x + 1) r
theorem incr_mono {m i j : Nat} {r : List Nat} (h : incr m i r) (hj : j ≤ i) : incr m j r := by
  cases r with
  | nil => trivial
  | cons x r => exact ⟨by have := h.1; omega, h.2⟩
theorem bits_onto (f : Nat) : ∀ (i : Nat) (ch : List Nat), incr (i + f) i ch → ∃ n, n < 2 ^ f ∧ ∀ g, f ≤ g → bitsF g i n = ch := by
  induction f with
  | zero =>
    intro i ch h
    cases ch with
    | nil => exact ⟨0, by simp, fun g _ => bitsF_zero g i⟩
    | cons x r => have := h.1; have := h.2.1; omega
  | succ f ih =>
    intro i ch h
    have step : ∀ (r : List Nat) (bit : Nat), bit < 2 → incr (i + 1 + f) (i + 1) r → ∃ n, n < 2 ^ (f + 1) ∧ ∀ g, f + 1 ≤ g → bitsF g i n = (if bit = 1 then i :: r else r) := by
      intro r bit hbit hr
      obtain ⟨n, hn, hg⟩ := ih (i + 1) r hr
      refine ⟨2 * n + bit, by rw [Nat.pow_succ]; omega, fun g hgf => ?_⟩
      obtain ⟨g, rfl⟩ : ∃ g', g = g' + 1 := ⟨g - 1, by omega⟩
      have hgn := hg g (by omega)
      rw [bitsF]
      by_cases h0 : 2 * n + bit = 0
      · have hn0 : n = 0 := by omega
        have hb0 : bit = 0 := by omega
        subst hn0; subst hb0
        rw [bitsF_zero] at hgn
        rw [if_pos (by omega), if_neg (by omega), hgn]
      · rw [if_neg h0, show (2 * n + bit) / 2 = n by omega, hgn]
        by_cases hb1 : bit = 1
        · rw [if_pos (by omega), if_pos hb1]
        · rw [if_neg (by omega), if_neg hb1]
    cases ch with
    | nil => 
      obtain ⟨n, hn, hg⟩ := step [] 0 (by omega) trivial
      exact ⟨n, hn, fun g h => by rw [hg g h]; simp⟩
    | cons x r =>
      by_cases hx : x = i
      · subst hx
        obtain ⟨n, hn, hg⟩ := step r 1 (by omega) (by have := h.2.2; rw [show x + 1 + f = x + (f + 1) by omega]; exact this)
        exact ⟨n, hn, fun g h => by rw [hg g h]; simp⟩
      · obtain ⟨n, hn, hg⟩ := step (x :: r) 0 (by omega) (by
          have h1 := h.1
          have h2 := h.2.1
          exact ⟨by omega, by omega, by have := h.2.2; rw [show i + 1 + f = i + (f + 1) by omega]; exact this⟩)
        exact ⟨n, hn, fun g h => by rw [hg g h]; simp⟩
theorem valid_nat {l : List Item} (p : Option Int) (i : Nat) (hp : ∀ q, p = some q → (i : Int) = q + 1) (hp0 : p = none → i = 0) (ch : List Int) (h : validF l p ch = true) : ∃ r : List Nat, ch = ints r ∧ incr l.length i r := by
  induction ch generalizing p i with
  | nil => exact ⟨[], rfl, trivial⟩
  | cons x t ih =>
    rw [validF, Bool.and_eq_true] at h
    have h1 := h.1
    unfold okAt at h1
    rw [decide_eq_true_eq] at h1
    obtain ⟨n, rfl⟩ := Int.eq_ofNat_of_zero_le h1.1
    obtain ⟨r, hr, hi⟩ := ih (some (n : Int)) (n + 1) (fun q hq => by injection hq with hq; subst hq; simp) (fun h => by cases h) h.2
    refine ⟨n :: r, by simp [ints, hr], ?_, by omega, hi⟩
    cases p with
    | none => have := hp0 rfl; omega
    | some q => have := hp q rfl; have := h1.2.2 q rfl; omega
theorem sub_onto {l : List Item} (h12 : l.length ≤ 12) {ch : List Int} (h : valid l ch = true) : ∃ n, n < 2 ^ l.length ∧ sub n = ch := by
  obtain ⟨r, rfl, hi⟩ := valid_nat none 0 (fun q hq => by cases hq) (fun _ => rfl) ch h
  obtain ⟨n, hn, hg⟩ := bits_onto l.length 0 r (by simpa using hi)
  exact ⟨n, hn, by rw [sub, hg 12 h12]⟩
theorem refF_good (l : List Item) (a b : Int) (n : Nat) :
    ((refF l a b n).found = false → ∀ m, m < n → fitsOf l (sub m) a b = false) ∧
    ((refF l a b n).found = true → fitsOf l (refF l a b n).best a b = true ∧ (refF l a b n).most = valOf l (refF l a b n).best ∧
      ∀ m, m < n → fitsOf l (sub m) a b = true → valOf l (sub m) ≤ (refF l a b n).most ∧ (valOf l (sub m) = (refF l a b n).most → lessOf (sub m) (refF l a b n).best = false)) := by
  induction n with
  | zero => exact ⟨fun _ m hm => by omega, fun h => by simp [refF] at h⟩
  | succ n ih =>
    cases hf : fitsOf l (sub n) a b
    · rw [refF_no hf]
      refine ⟨fun h m hm => ?_, fun h => ⟨(ih.2 h).1, (ih.2 h).2.1, fun m hm hfm => ?_⟩⟩
      · by_cases e : m = n
        · subst e; exact hf
        · exact ih.1 h m (by omega)
      · by_cases e : m = n
        · subst e; rw [hf] at hfm; cases hfm
        · exact (ih.2 h).2.2 m (by omega) hfm
    · cases ht : refTakes l (refF l a b n) (sub n)
      · rw [refF_stay hf ht]
        unfold refTakes at ht
        simp only [Bool.or_eq_false_iff, Bool.not_eq_false', Bool.and_eq_false_iff, decide_eq_false_iff_not, beq_eq_false_iff_ne] at ht
        obtain ⟨⟨h1, h2⟩, h3⟩ := ht
        have I := ih.2 h1
        refine ⟨fun h => (by rw [h1] at h; cases h), fun _ => ⟨I.1, I.2.1, fun m hm hfm => ?_⟩⟩
        by_cases e : m = n
        · subst e
          refine ⟨by omega, fun he => ?_⟩
          rcases h3 with h3 | h3
          · exact absurd he h3
          · exact h3
        · exact I.2.2 m (by omega) hfm
      · rw [refF_take hf ht]
        refine ⟨fun h => by simp at h, fun _ => ⟨hf, rfl, fun m hm hfm => ?_⟩⟩
        by_cases e : m = n
        · subst e; exact ⟨Int.le_refl _, fun _ => lessOf_irrefl _⟩
        · unfold refTakes at ht
          simp only [Bool.or_eq_true, Bool.not_eq_true', Bool.and_eq_true, decide_eq_true_eq, beq_iff_eq] at ht
          rcases ht with (h1 | h1) | ⟨h1, h2⟩
          · rw [ih.1 h1 m (by omega)] at hfm; cases hfm
          · cases hfd : (refF l a b n).found
            · rw [ih.1 hfd m (by omega)] at hfm; cases hfm
            · have I := (ih.2 hfd).2.2 m (by omega) hfm
              exact ⟨by show _ ≤ valOf l (sub n); omega, fun he => by have he' : valOf l (sub m) = valOf l (sub n) := he; omega⟩
          · cases hfd : (refF l a b n).found
            · rw [ih.1 hfd m (by omega)] at hfm; cases hfm
            · have I := (ih.2 hfd).2.2 m (by omega) hfm
              refine ⟨by show _ ≤ valOf l (sub n); omega, fun he => ?_⟩
              have he' : valOf l (sub m) = valOf l (sub n) := he
              show lessOf (sub m) (sub n) = false
              cases hl : lessOf (sub m) (sub n)
              · rfl
              · have := lessOf_trans hl h2
                rw [I.2 (by omega)] at this; cases this
theorem refF_best {l : List Item} {a b : Int} (h12 : l.length ≤ 12) (ha : 0 ≤ a) (hb : 0 ≤ b) : IsBest l a b (refF l a b (2 ^ l.length)).best := by
  have G := refF_good l a b (2 ^ l.length)
  have on : ∀ c, fitsOf l c a b = true → ∃ m, m < 2 ^ l.length ∧ sub m = c := fun c hc => sub_onto h12 ((fitsOf_eq _ _ _ _).1 hc).1
  have hfd : (refF l a b (2 ^ l.length)).found = true := by
    cases h : (refF l a b (2 ^ l.length)).found
    · obtain ⟨m, hm, he⟩ := on [] ((fits_nil l a b).2 ⟨ha, hb⟩)
      have := G.1 h m hm
      rw [he, (fits_nil l a b).2 ⟨ha, hb⟩] at this; cases this
    · rfl
  obtain ⟨g1, g2, g3⟩ := G.2 hfd
  refine ⟨g1, fun c hc => ?_, fun c hc he => ?_⟩
  · obtain ⟨m, hm, rfl⟩ := on c hc; rw [← g2]; exact (g3 m hm hc).1
  · obtain ⟨m, hm, rfl⟩ := on c hc; exact (g3 m hm hc).2 (by rw [g2]; exact he)
theorem right_ok {l : List Item} (h : rightOf l = 0) : l.length ≤ 12 ∧ itemsB l = true := by
  unfold rightOf at h
  split at h
  · omega
  · split at h
    · exact ⟨by omega, by assumption⟩
    · omega
theorem fits_pos {l : List Item} (hl : itemsB l = true) {ch : List Int} {a b : Int} (h : fitsOf l ch a b = true) : 0 ≤ a ∧ 0 ≤ b := (fits_nil l a b).1 (by
  have : fitsOf l ([] ++ ch) a b = true := h
  exact fits_prefix hl this)
/-- Best, whatever the limits -/
theorem best_spec {l : List Item} {a b : Int} (h : rightOf l = 0) : (0 ≤ a ∧ 0 ≤ b → IsBest l a b (tryF l a b 13 0 0 [] ([], -1)).1) ∧ (¬ (0 ≤ a ∧ 0 ≤ b) → (tryF l a b 13 0 0 [] ([], -1)).1 = []) := by
  obtain ⟨h12, hl⟩ := right_ok h
  refine ⟨fun hab => tryF_best hl h12 hab.1 hab.2, fun hab => ?_⟩
  have : fitsOf l [] a b = false := by
    cases hf : fitsOf l [] a b
    · rfl
    · exact absurd ((fits_nil l a b).1 hf) hab
  rw [tryF_no this]
theorem refF_none {l : List Item} {a b : Int} (hl : itemsB l = true) (hab : ¬ (0 ≤ a ∧ 0 ≤ b)) (n : Nat) : (refF l a b n).best = [] := by
  induction n with
  | zero => rfl
  | succ n ih =>
    have : fitsOf l (sub n) a b = false := by
      cases hf : fitsOf l (sub n) a b
      · rfl
      · exact absurd (fits_pos hl hf) hab
    rw [refF_no this]; exact ih
theorem best_eq_ref {l : List Item} {a b : Int} (h : rightOf l = 0) : (tryF l a b 13 0 0 [] ([], -1)).1 = (refF l a b (2 ^ l.length)).best := by
  obtain ⟨h12, hl⟩ := right_ok h
  by_cases hab : 0 ≤ a ∧ 0 ≤ b
  · exact ((best_spec h).1 hab).unique (refF_best h12 hab.1 hab.2)
  · rw [(best_spec h).2 hab, refF_none hl hab]
end Go.Proofs.Ytoedkdgaofkgaaa
