/- The plain law of choose: other limits, one item more, one item less. -/
import Derived.Test.YtoedkdgaofkgaaaLaw2
namespace Go.Proofs.Ytoedkdgaofkgaaa
/-! ### an item more at the end -/
theorem sumOf_congr {f g : Int → Int} {ch : List Int} (h : ∀ i, i ∈ ch → f i = g i) : sumOf f ch = sumOf g ch := by
  induction ch with
  | nil => rfl
  | cons i r ih => rw [sumOf, sumOf, h i (by simp), ih fun j hj => h j (by simp [hj])]
theorem valid_range {l : List Item} {p : Option Int} {ch : List Int} (h : validF l p ch = true) : ∀ i, i ∈ ch → 0 ≤ i ∧ i < l.length := by
  induction ch generalizing p with
  | nil => intro i hi; simp at hi
  | cons j r ih =>
    intro i hi
    rw [validF, Bool.and_eq_true] at h
    rcases List.mem_cons.1 hi with rfl | hi
    · have h1 := h.1; unfold okAt at h1; rw [decide_eq_true_eq] at h1; exact ⟨h1.1, h1.2.1⟩
    · exact ih h.2 i hi
theorem valid_more {l : List Item} {x : Item} {p : Option Int} {ch : List Int} (h : validF l p ch = true) : validF (l ++ [x]) p ch = true := by
  induction ch generalizing p with
  | nil => rfl
  | cons j r ih =>
    rw [validF, Bool.and_eq_true] at h ⊢
    refine ⟨?_, ih h.2⟩
    have h1 := h.1
    unfold okAt at h1 ⊢
    rw [decide_eq_true_eq] at h1 ⊢
    exact ⟨h1.1, by simp; omega, h1.2.2⟩
theorem it_more {l : List Item} {x : Item} {i : Int} (h0 : 0 ≤ i) (h : i < l.length) : itA (l ++ [x]) i = itA l i ∧ itB (l ++ [x]) i = itB l i ∧ itV (l ++ [x]) i = itV l i := by
  have e : (l ++ [x]).getD i.toNat Item.zero = l.getD i.toNat Item.zero := by
    simp [List.getElem?_append_left (show i.toNat < l.length by omega)]
  unfold itA itB itV
  rw [e]
  exact ⟨rfl, rfl, rfl⟩
theorem sums_more {l : List Item} {x : Item} {ch : List Int} (h : ∀ i, i ∈ ch → 0 ≤ i ∧ i < l.length) : sumOf (itA (l ++ [x])) ch = sumOf (itA l) ch ∧ sumOf (itB (l ++ [x])) ch = sumOf (itB l) ch ∧ sumOf (itV (l ++ [x])) ch = sumOf (itV l) ch :=
  ⟨sumOf_congr fun i hi => (it_more (h i hi).1 (h i hi).2).1, sumOf_congr fun i hi => (it_more (h i hi).1 (h i hi).2).2.1, sumOf_congr fun i hi => (it_more (h i hi).1 (h i hi).2).2.2⟩
theorem fits_more {l : List Item} {x : Item} {ch : List Int} {a b : Int} (h : fitsOf l ch a b = true) : fitsOf (l ++ [x]) ch a b = true ∧ valOf (l ++ [x]) ch = valOf l ch := by
  have hv := fits_val h
  rw [fitsOf_eq] at h
  have s := sums_more (x := x) (valid_range h.1)
  have v := valid_more (x := x) h.1
  refine ⟨(fitsOf_eq _ _ _ _).2 ⟨v, by rw [s.1]; exact h.2.1, by rw [s.2.1]; exact h.2.2⟩, ?_⟩
  rw [valOf_eq v, hv, s.2.2]
/-- a choice of the longer list: without the new item it is one of the shorter, worth at most the new item's value less -/
theorem fits_less {l : List Item} {x : Item} {ch : List Int} {a b : Int} (hl : itemsB (l ++ [x]) = true) (h : fitsOf (l ++ [x]) ch a b = true) : ∃ d, fitsOf l d a b = true ∧ valOf (l ++ [x]) ch ≤ valOf l d + x.v := by
  have hx : itemB x = true := by
    have := itemB_of hl l.length (by simp)
    simpa using this
  have hbx := itemB_bd hx
  have hval := fits_val h
  rw [fitsOf_eq] at h
  obtain ⟨h1, h2, h3⟩ := h
  have split : ∀ (p : Option Int) (ch : List Int), validF (l ++ [x]) p ch = true → (validF l p ch = true) ∨ ∃ d, ch = d ++ [(l.length : Int)] ∧ validF l p d = true := by
    intro p ch
    induction ch generalizing p with
    | nil => intro _; exact .inl rfl
    | cons j r ih =>
      intro h
      rw [validF, Bool.and_eq_true] at h
      have h1 := h.1
      unfold okAt at h1
      rw [decide_eq_true_eq] at h1
      obtain ⟨g1, g2, g3⟩ := h1
      simp at g2
      by_cases hj : j < l.length
      · have ok : okAt l p j = true := by unfold okAt; rw [decide_eq_true_eq]; exact ⟨g1, hj, g3⟩
        rcases ih (some j) h.2 with e | ⟨d, rfl, hd⟩
        · left; rw [validF, ok, e]; rfl
        · right; exact ⟨j :: d, by simp, by rw [validF, ok, hd]; rfl⟩
      · have hje : j = (l.length : Int) := by omega
        subst hje
        cases r with
        | nil => exact .inr ⟨[], rfl, rfl⟩
        | cons k s =>
          have h2 := h.2
          rw [validF, Bool.and_eq_true] at h2
          have h3 := h2.1
          unfold okAt at h3
          rw [decide_eq_true_eq] at h3
          have := h3.2.2 _ rfl
          have := h3.2.1
          simp at this
          omega
  rcases split none ch h1 with e | ⟨d, rfl, hd⟩
  · have s := sums_more (x := x) (valid_range e)
    have hf : fitsOf l ch a b = true := (fitsOf_eq _ _ _ _).2 ⟨e, by rw [← s.1]; exact h2, by rw [← s.2.1]; exact h3⟩
    exact ⟨ch, hf, by rw [hval, fits_val hf, s.2.2]; omega⟩
  · have s := sums_more (x := x) (valid_range hd)
    have e : (l ++ [x]).getD l.length Item.zero = x := by simp
    rw [sumOf_append] at h2 h3 hval
    simp only [sumOf, itA, itB, itV, Int.toNat_natCast, e] at h2 h3 hval
    have s1 : sumOf (fun i => ((l ++ [x]).getD i.toNat Item.zero).a) d = sumOf (itA l) d := s.1
    have s2 : sumOf (fun i => ((l ++ [x]).getD i.toNat Item.zero).b) d = sumOf (itB l) d := s.2.1
    have s3 : sumOf (fun i => ((l ++ [x]).getD i.toNat Item.zero).v) d = sumOf (itV l) d := s.2.2
    have ea : itA (l ++ [x]) = fun i => ((l ++ [x]).getD i.toNat Item.zero).a := rfl
    have eb : itB (l ++ [x]) = fun i => ((l ++ [x]).getD i.toNat Item.zero).b := rfl
    have ev : itV (l ++ [x]) = fun i => ((l ++ [x]).getD i.toNat Item.zero).v := rfl
    have hf : fitsOf l d a b = true := (fitsOf_eq _ _ _ _).2 ⟨hd, by rw [← s.1, ea]; omega, by rw [← s.2.1, eb]; omega⟩
    exact ⟨d, hf, by rw [hval, fits_val hf, ← s.2.2, ev]; omega⟩
def bestOf (l : List Item) (a b : Int) : List Int := (tryF l a b 13 0 0 [] ([], -1)).1
theorem bestOf_valid {l : List Item} (h : rightOf l = 0) (a b : Int) : valid l (bestOf l a b) = true := by
  by_cases hab : 0 ≤ a ∧ 0 ≤ b
  · exact ((fitsOf_eq _ _ _ _).1 ((best_spec h).1 hab).fits).1
  · unfold bestOf; rw [(best_spec h).2 hab]; rfl
theorem bestOf_need {l : List Item} (h : rightOf l = 0) (a b : Int) : (needOf l (bestOf l a b)).2.2.2 = true := by
  rw [needOf_eq, if_pos (bestOf_valid h a b)]
theorem limits_law {l : List Item} (h : rightOf l = 0) {a b a' b' : Int} (ha : a ≤ a') (hb : b ≤ b') : valOf l (bestOf l a b) ≤ valOf l (bestOf l a' b') := by
  obtain ⟨h12, hl⟩ := right_ok h
  by_cases hab : 0 ≤ a ∧ 0 ≤ b
  · have B : IsBest l a b (bestOf l a b) := (best_spec h).1 hab
    have B' : IsBest l a' b' (bestOf l a' b') := (best_spec (a := a') (b := b') h).1 (by omega)
    refine B'.most _ ?_
    have := (fitsOf_eq _ _ _ _).1 B.fits
    exact (fitsOf_eq _ _ _ _).2 ⟨this.1, by omega, by omega⟩
  · unfold bestOf
    rw [(best_spec h).2 hab, val_nil]
    exact val_nn hl _
theorem right_init {l : List Item} {x : Item} (h : rightOf (l ++ [x]) = 0) : rightOf l = 0 := by
  obtain ⟨h12, hl⟩ := right_ok h
  unfold rightOf
  simp at h12
  rw [if_neg (by omega)]
  have : itemsB l = true := by unfold itemsB at hl ⊢; rw [List.all_append, Bool.and_eq_true] at hl; exact hl.1
  rw [this]; rfl
theorem adds_law {l : List Item} {x : Item} (h : rightOf (l ++ [x]) = 0) (a b : Int) : valOf l (bestOf l a b) ≤ valOf (l ++ [x]) (bestOf (l ++ [x]) a b) ∧ valOf (l ++ [x]) (bestOf (l ++ [x]) a b) ≤ valOf l (bestOf l a b) + x.v := by
  have h' := right_init h
  obtain ⟨_, hl⟩ := right_ok h
  have hx : itemB x = true := by
    have := itemB_of hl l.length (by simp)
    simpa using this
  by_cases hab : 0 ≤ a ∧ 0 ≤ b
  · have B := (best_spec h').1 hab
    have B' := (best_spec h).1 hab
    constructor
    · have := fits_more (x := x) B.fits
      have := B'.most _ this.1
      unfold bestOf
      omega
    · obtain ⟨d, hd, hv⟩ := fits_less hl B'.fits
      have := B.most _ hd
      unfold bestOf
      omega
  · unfold bestOf
    rw [(best_spec h').2 hab, (best_spec h).2 hab, val_nil, val_nil]
    have := itemB_bd hx
    omega

/-! ### an item less -/
def down (k : Nat) (i : Int) : Int := if (k : Int) < i then i - 1 else i
def up (k : Nat) (i : Int) : Int := if (k : Int) ≤ i then i + 1 else i
def without (l : List Item) (k : Nat) : List Item := l.take k ++ l.drop (k + 1)
theorem it_up {l : List Item} {k : Nat} (hk : k < l.length) {i : Int} (h0 : 0 ≤ i) : (without l k).getD i.toNat Item.zero = l.getD (up k i).toNat Item.zero := by
  unfold without up
  simp only [List.getD_eq_getElem?_getD]
  congr 1
  by_cases h : (k : Int) ≤ i
  · rw [if_pos h, List.getElem?_append_right (by simp; omega)]
    simp only [List.length_take, List.getElem?_drop]
    congr 1
    omega
  · rw [if_neg h, List.getElem?_append_left (by simp; omega), List.getElem?_take, if_pos (by omega)]
theorem without_length {l : List Item} {k : Nat} (hk : k < l.length) : (without l k).length + 1 = l.length := by
  unfold without; simp; omega
theorem down_up (k : Nat) (i : Int) : down k (up k i) = i := by unfold down up; split <;> split <;> omega
theorem up_down {k : Nat} {i : Int} (h : i ≠ k) : up k (down k i) = i := by unfold down up; split <;> split <;> omega
theorem up_ne (k : Nat) (i : Int) : up k i ≠ k := by unfold up; split <;> omega
theorem up_mono (k : Nat) {i j : Int} : up k i < up k j ↔ i < j := by unfold up; split <;> split <;> omega
theorem up_inj (k : Nat) {i j : Int} : up k i = up k j ↔ i = j := by unfold up; split <;> split <;> omega
theorem up_nn {k : Nat} {i : Int} : 0 ≤ up k i ↔ 0 ≤ i := by unfold up; split <;> omega
theorem validF_up {l : List Item} {k : Nat} (hk : k < l.length) (p : Option Int) (ch : List Int) : validF l (p.map (up k)) (ch.map (up k)) = validF (without l k) p ch := by
  induction ch generalizing p with
  | nil => rfl
  | cons i r ih =>
    have e : (p.map (up k)) = (p.map (up k)) := rfl
    simp only [List.map_cons, validF]
    have := ih (some i)
    rw [Option.map_some] at this
    rw [this]
    congr 1
    unfold okAt
    have hw := without_length hk
    rw [decide_eq_decide]
    constructor
    · rintro ⟨h1, h2, h3⟩
      refine ⟨up_nn.1 h1, ?_, fun q hq => ?_⟩
      · unfold up at h2; split at h2 <;> omega
      · subst hq; exact (up_mono k).1 (h3 _ rfl)
    · rintro ⟨h1, h2, h3⟩
      refine ⟨up_nn.2 h1, ?_, fun q hq => ?_⟩
      · unfold up; split <;> omega
      · cases p with
        | none => cases hq
        | some q' => injection hq with hq; subst hq; exact (up_mono k).2 (h3 _ rfl)
theorem sum_up {l : List Item} {k : Nat} (hk : k < l.length) {ch : List Int} (h : ∀ i, i ∈ ch → 0 ≤ i) (g : Item → Int) : sumOf (fun i => g (l.getD i.toNat Item.zero)) (ch.map (up k)) = sumOf (fun i => g ((without l k).getD i.toNat Item.zero)) ch := by
  induction ch with
  | nil => rfl
  | cons i r ih =>
    simp only [List.map_cons, sumOf]
    rw [ih fun j hj => h j (by simp [hj]), it_up hk (h i (by simp))]
theorem fits_up {l : List Item} {k : Nat} (hk : k < l.length) {ch : List Int} (h0 : ∀ i, i ∈ ch → 0 ≤ i) (a b : Int) : (fitsOf l (ch.map (up k)) a b = true ↔ fitsOf (without l k) ch a b = true) := by
  rw [fitsOf_eq, fitsOf_eq]
  have v : valid l (ch.map (up k)) = valid (without l k) ch := validF_up hk none ch
  have s1 : sumOf (itA l) (ch.map (up k)) = sumOf (itA (without l k)) ch := sum_up hk h0 Item.a
  have s2 : sumOf (itB l) (ch.map (up k)) = sumOf (itB (without l k)) ch := sum_up hk h0 Item.b
  rw [v, s1, s2]
theorem val_up {l : List Item} {k : Nat} (hk : k < l.length) {ch : List Int} (h0 : ∀ i, i ∈ ch → 0 ≤ i) {a b : Int} (hf : fitsOf l (ch.map (up k)) a b = true) : valOf l (ch.map (up k)) = valOf (without l k) ch := by
  rw [fits_val hf, fits_val ((fits_up hk h0 a b).1 hf)]
  exact sum_up hk h0 Item.v
theorem less_up (k : Nat) (x y : List Int) : lessOf (x.map (up k)) (y.map (up k)) = lessOf x y := by
  induction x generalizing y with
  | nil => cases y <;> simp [lessOf]
  | cons a r ih =>
    cases y with
    | nil => simp [lessOf]
    | cons b s =>
      simp only [List.map_cons, lessOf, ih, ne_eq, up_inj, up_mono]
theorem fits_nn {l : List Item} {ch : List Int} {a b : Int} (h : fitsOf l ch a b = true) : ∀ i, i ∈ ch → 0 ≤ i := fun i hi => (valid_range ((fitsOf_eq _ _ _ _).1 h).1 i hi).1
theorem right_without {l : List Item} (h : rightOf l = 0) {k : Nat} (hk : k < l.length) : rightOf (without l k) = 0 := by
  obtain ⟨h12, hl⟩ := right_ok h
  have hw := without_length hk
  unfold rightOf
  rw [if_neg (by omega)]
  have : itemsB (without l k) = true := by
    unfold itemsB at hl ⊢
    rw [List.all_eq_true] at hl ⊢
    intro x hx
    unfold without at hx
    rcases List.mem_append.1 hx with hx | hx
    · exact hl x (List.mem_of_mem_take hx)
    · exact hl x (List.mem_of_mem_drop hx)
  rw [this]; rfl
theorem drops_law {l : List Item} (h : rightOf l = 0) {a b : Int} {k : Nat} (hk : k < l.length) (hn : ∀ i, i ∈ bestOf l a b → i ≠ (k : Int)) : bestOf (without l k) a b = (bestOf l a b).map (down k) := by
  have h' := right_without h hk
  by_cases hab : 0 ≤ a ∧ 0 ≤ b
  · have B : IsBest l a b (bestOf l a b) := (best_spec h).1 hab
    have B' : IsBest (without l k) a b (bestOf (without l k) a b) := (best_spec h').1 hab
    refine B'.unique ?_
    have e : ((bestOf l a b).map (down k)).map (up k) = bestOf l a b := by
      rw [List.map_map]
      conv => rhs; rw [← List.map_id (bestOf l a b)]
      exact List.map_congr_left fun i hi => up_down (hn i hi)
    have nn : ∀ i, i ∈ (bestOf l a b).map (down k) → 0 ≤ i := by
      intro i hi
      obtain ⟨j, hj, rfl⟩ := List.mem_map.1 hi
      have h1 := fits_nn B.fits j hj
      unfold down; split <;> omega
    have f1 : fitsOf l (((bestOf l a b).map (down k)).map (up k)) a b = true := by rw [e]; exact B.fits
    have v1 := val_up hk nn f1
    rw [e] at v1
    refine ⟨(fits_up hk nn a b).1 f1, fun c hc => ?_, fun c hc he => ?_⟩
    · have fc := (fits_up hk (fits_nn hc) a b).2 hc
      have := B.most _ fc
      rw [val_up hk (fits_nn hc) fc] at this
      omega
    · have fc := (fits_up hk (fits_nn hc) a b).2 hc
      have := B.least _ fc (by rw [val_up hk (fits_nn hc) fc]; omega)
      rw [← e, less_up] at this
      exact this
  · unfold bestOf
    rw [(best_spec h).2 hab, (best_spec h').2 hab]; rfl
end Go.Proofs.Ytoedkdgaofkgaaa
