/- The plain law of package pipe: the two loops of Flows compute the flows. -/
import Derived.Test.YthhjnplegdmidaaPlain2
namespace Go.Proofs.Ythhjnplegdmidaa
theorem addAt_length (l : List Pipe) (out : List Int) (node flow : Int) : (addAt l out node flow).length = out.length := by
  unfold addAt
  cases l.findIdx? fun p => p.to_ == node <;> simp
theorem addAt_get {l : List Pipe} (h : l.Pairwise fun p q => p.to_ ≠ q.to_) {out : List Int} (ho : out.length = l.length) (node flow : Int) (j : Nat) (hj : j < l.length) :
    (addAt l out node flow)[j]'(by rw [addAt_length]; omega) = out[j] + if l[j].to_ = node then flow else 0 := by
  cases hf : l.findIdx? fun p => p.to_ == node with
  | none =>
    have e : addAt l out node flow = out := by unfold addAt; rw [hf]
    rw [List.findIdx?_eq_none_iff] at hf
    have := hf l[j] (List.getElem_mem hj)
    simp at this
    simp [e, this]
  | some i =>
    obtain ⟨hi, ht, hb⟩ := List.findIdx?_eq_some_iff_getElem.1 hf
    have e : addAt l out node flow = out.set i (out.getD i 0 + flow) := by unfold addAt; rw [hf]
    simp at ht
    simp only [e, List.getElem_set]
    by_cases e1 : i = j
    · subst e1
      simp [ht, show i < out.length by omega]
    · rw [if_neg e1]
      have hne : l[j].to_ ≠ node := by
        rw [← ht]
        rcases Nat.lt_or_gt_of_ne e1 with h3 | h3
        · exact (List.pairwise_iff_getElem.1 h i j hi hj h3).symm
        · exact List.pairwise_iff_getElem.1 h j i hj hi h3
      simp [hne]
theorem flowsR_length (l : List Pipe) (ds : List Draw) : (flowsR l ds).length = l.length := by
  induction l generalizing ds with
  | nil => rfl
  | cons p r ih => simp [flowsR, ih]
theorem flowsOf_length (l : List Pipe) (ds : List Draw) : (flowsOf l ds).length = l.length := by simp [flowsOf, flowsR_length]
theorem flowsOf_snoc (l : List Pipe) (p : Pipe) (ds : List Draw) : flowsOf (l ++ [p]) ds = flowsOf l (send p ds) ++ [sumAt ds p.to_] := by simp [flowsOf, flowsR]
/-- no draw is negative; all of them together -/
def posD (ds : List Draw) : Prop := ∀ d ∈ ds, 0 ≤ d.flow
def tot (ds : List Draw) : Int := (ds.map Draw.flow).sum
theorem send_pos {p : Pipe} {ds : List Draw} (h : posD ds) : posD (send p ds) := by
  intro d hd
  unfold send at hd
  obtain ⟨e, he, rfl⟩ := List.mem_map.1 hd
  have := h e he
  split <;> exact this
theorem send_tot (p : Pipe) (ds : List Draw) : tot (send p ds) = tot ds := by
  unfold tot send
  rw [List.map_map]
  congr 1
  apply List.map_congr_left
  intro d _
  simp only [Function.comp]
  split <;> rfl
theorem sumAt_bd {ds : List Draw} (h : posD ds) (n : Int) : 0 ≤ sumAt ds n ∧ sumAt ds n ≤ tot ds := by
  induction ds with
  | nil => simp [sumAt, tot]
  | cons d r ih =>
    have h0 := h d (by simp)
    have h1 := ih fun e he => h e (by simp [he])
    have e1 : sumAt (d :: r) n = (if d.node = n then d.flow else 0) + sumAt r n := by simp [sumAt]
    have e2 : tot (d :: r) = d.flow + tot r := by simp [tot]
    rw [e1, e2]
    split <;> omega
/-- where the second loop stands: the pipes from i on are done -/
structure FInv (l : List Pipe) (ds : List Draw) (i : Nat) (out : List Int) (es : List Draw) : Prop where
  len : out.length = l.length
  pos : posD es
  all : tot es = tot ds
  low : ∀ j (hj : j < l.length), j < i → out[j]'(by omega) = sumAt es l[j].to_
  high : ∀ j (hj : j < l.length), i ≤ j → out[j]'(by omega) = (flowsOf l ds)[j]'(by rw [flowsOf_length]; exact hj)
  pre : (flowsOf l ds).take i = flowsOf (l.take i) es
theorem finv_start {l : List Pipe} {ds : List Draw} (h : posD ds) : FInv l ds l.length (l.map fun p => sumAt ds p.to_) ds :=
  ⟨by simp, h, rfl, fun j hj _ => by simp, fun j hj hi => by omega, by rw [List.take_length, List.take_of_length_le (by rw [flowsOf_length]; omega)]⟩
theorem finv_end {l : List Pipe} {ds : List Draw} {out : List Int} {es : List Draw} (h : FInv l ds 0 out es) : out = flowsOf l ds := by
  apply List.ext_getElem
  · rw [h.len, flowsOf_length]
  · intro j h1 h2
    exact h.high j (by rw [h.len] at h1; exact h1) (Nat.zero_le _)
theorem from_ne {l : List Pipe} (h : Good l) {k j : Nat} (hk : k < l.length) (hj : j < l.length) (hkj : k ≤ j) : l[j].to_ ≠ l[k].from_ := by
  obtain ⟨h1, _, _⟩ := good_known h hk
  have hin := good_in h l[j] (List.getElem_mem hj)
  unfold known at h1
  simp only [Bool.or_eq_true, decide_eq_true_eq, List.any_eq_true] at h1
  rcases h1 with h1 | ⟨q, hq, h1⟩
  · unfold inR at hin
    simp only [decide_eq_true_eq] at hin
    omega
  · obtain ⟨m, hm, rfl⟩ := List.mem_iff_getElem.1 hq
    simp at hm
    rw [List.getElem_take] at h1
    rw [← h1]
    exact (List.pairwise_iff_getElem.1 (good_apart h) m j (by omega) hj (by omega)).symm
theorem finv_step {l : List Pipe} (hg : Good l) {ds : List Draw} {k : Nat} (hk : k < l.length) {out : List Int} {es : List Draw} (h : FInv l ds (k + 1) out es) :
    FInv l ds k (addAt l out l[k].from_ (out[k]'(by rw [h.len]; exact hk))) (send l[k] es) := by
  have hx := h.low k hk (by omega)
  have hpre := h.pre
  rw [List.take_succ_eq_append_getElem hk, flowsOf_snoc] at hpre
  have hlen : (flowsOf l ds).length = l.length := flowsOf_length _ _
  rw [List.take_succ_eq_append_getElem (by rw [hlen]; exact hk)] at hpre
  obtain ⟨e1, e2⟩ := List.append_inj' hpre rfl
  simp only [List.cons.injEq, and_true] at e2
  refine ⟨by rw [addAt_length]; exact h.len, send_pos h.pos, (send_tot _ _).trans h.all, fun j hj hjk => ?_, fun j hj hjk => ?_, e1⟩
  · rw [addAt_get (good_apart hg) h.len _ _ j hj, h.low j hj (by omega), hx]
    have hne : l[j].to_ ≠ l[k].to_ := List.pairwise_iff_getElem.1 (good_apart hg) j k hj hk hjk
    rw [sumAt_send _ _ _ hne]
  · rw [addAt_get (good_apart hg) h.len _ _ j hj, if_neg (from_ne hg hk hj hjk), Int.add_zero]
    by_cases e : j = k
    · subst e
      rw [hx, e2]
    · exact h.high j hj (by omega)
theorem finv_step2 {l : List Pipe} (hg : Good l) {ds : List Draw} {k : Nat} (hk : k < l.length) {out : List Int} {es : List Draw} (h : FInv l ds (k + 1) out es) (x : Int) (hx : out[k]? = some x) :
    FInv l ds k (addAt l out l[k].from_ x) (send l[k] es) := by
  have e := finv_step hg hk h
  obtain ⟨h1, h2⟩ := List.getElem?_eq_some_iff.1 hx
  rw [h2] at e
  exact e
theorem flowsR_bd {l : List Pipe} {ds : List Draw} (h : posD ds) : ∀ x ∈ flowsR l ds, 0 ≤ x ∧ x ≤ tot ds := by
  induction l generalizing ds with
  | nil => intro x hx; simp [flowsR] at hx
  | cons p r ih =>
    intro x hx
    simp only [flowsR] at hx
    rcases List.mem_append.1 hx with hx | hx
    · have := ih (send_pos (p := p) h) x hx
      rw [send_tot] at this
      exact this
    · simp at hx
      subst hx
      exact sumAt_bd h _
theorem finv_bd {l : List Pipe} {ds : List Draw} (hp : posD ds) {i : Nat} {out : List Int} {es : List Draw} (h : FInv l ds i out es) : ∀ x ∈ out, 0 ≤ x ∧ x ≤ tot ds := by
  intro x hx
  obtain ⟨j, hj, rfl⟩ := List.mem_iff_getElem.1 hx
  have hjl : j < l.length := by rw [← h.len]; exact hj
  by_cases hji : j < i
  · rw [h.low j hjl hji, ← h.all]
    exact sumAt_bd h.pos _
  · rw [h.high j hjl (by omega)]
    exact flowsR_bd hp _ (by unfold flowsOf; exact List.getElem_mem _)
end Go.Proofs.Ythhjnplegdmidaa
