/- The plain law of the pressures: the value at a node, by the pipes in reverse order, is the fold along the way. -/
import Derived.Test.YthhjnplegdmidaaPlain4
namespace Go.Proofs.Ythhjnplegdmidaa
/-- what is left behind the pipe p of index i -/
def dropAt (fs : List Int) (p : Pipe) (i : Nat) (x : Int) : Int := x - p.rise - (p.loss * fs.getD i 0).tdiv 1000
/-- the pressure at a node, by the pipes in reverse order -/
def pR (fs : List Int) (root : Int) : List Pipe → Int → Int
  | [], _ => root
  | p :: r, n => if p.to_ = n then dropAt fs p r.length (pR fs root r p.from_) else pR fs root r n
/-- the pressure along a way -/
def pfold (l : List Pipe) (fs : List Int) (root : Int) (ws : List Nat) : Int := ws.foldl (fun a i => dropAt fs (l.getD i Pipe.zero) i a) root
theorem pfold_way (l : List Pipe) (fs : List Int) (root : Int) : ∀ (m : Nat), m ≤ l.length → ∀ n : Int, pfold l fs root (wayR (l.take m).reverse n).1 = pR fs root (l.take m).reverse n := by
  intro m
  induction m with
  | zero => intro _ n; simp [wayR, pR, pfold]
  | succ m ih =>
    intro hm n
    have hml : m < l.length := by omega
    rw [List.take_succ_eq_append_getElem hml, List.reverse_append]
    simp only [List.reverse_cons, List.reverse_nil, List.nil_append, List.cons_append]
    have hlen : (l.take m).reverse.length = m := by simp; omega
    unfold wayR pR
    by_cases e : l[m].to_ = n
    · rw [if_pos e, if_pos e, hlen]
      unfold pfold
      rw [List.foldl_append]
      have := ih (by omega) l[m].from_
      unfold pfold at this
      rw [this]
      simp [List.getD, hml]
    · rw [if_neg e, if_neg e]
      exact ih (by omega) n
theorem pR_step {l : List Pipe} (fs : List Int) (root : Int) {m : Nat} (hm : m < l.length) (n : Int) :
    pR fs root (l.take (m + 1)).reverse n = if l[m].to_ = n then dropAt fs l[m] m (pR fs root (l.take m).reverse l[m].from_) else pR fs root (l.take m).reverse n := by
  rw [List.take_succ_eq_append_getElem hm, List.reverse_append]
  simp only [List.reverse_cons, List.reverse_nil, List.nil_append, List.cons_append]
  rw [pR]
  have hlen : (l.take m).reverse.length = m := by simp; omega
  rw [hlen]
/-- the pipes behind the one that leads to a node change nothing there -/
theorem pR_behind {l : List Pipe} (fs : List Int) (root n : Int) {i : Nat} : ∀ k, i ≤ k → k ≤ l.length → (∀ j (hj : j < l.length), i ≤ j → j < k → l[j].to_ ≠ n) → pR fs root (l.take k).reverse n = pR fs root (l.take i).reverse n := by
  intro k
  induction k with
  | zero => intro h1 _ _; obtain rfl : i = 0 := by omega
            rfl
  | succ k ih =>
    intro h1 h2 h3
    by_cases e : i = k + 1
    · subst e; rfl
    · rw [pR_step fs root (by omega), if_neg (h3 k (by omega) (by omega) (by omega))]
      exact ih (by omega) (by omega) (fun j hj h4 h5 => h3 j hj h4 (by omega))
/-- at the end of the pipe i -/
def pEnd (l : List Pipe) (fs : List Int) (root : Int) (i : Nat) : Int := pR fs root (l.take (i + 1)).reverse (l.getD i Pipe.zero).to_
theorem pEnd_eq {l : List Pipe} (fs : List Int) (root : Int) {i : Nat} (hi : i < l.length) : pEnd l fs root i = dropAt fs l[i] i (pR fs root (l.take i).reverse l[i].from_) := by
  unfold pEnd
  rw [pR_step fs root hi]
  simp [List.getD, hi]
/-- the row of the pressures when the first k pipes are done -/
def presRow (l : List Pipe) (fs : List Int) (root : Int) (k : Nat) : List Int := (List.range l.length).map fun i => if i < k then pEnd l fs root i else 0
theorem presRow_zero (l : List Pipe) (fs : List Int) (root : Int) : presRow l fs root 0 = List.replicate l.length 0 := by
  apply List.ext_getElem
  · simp [presRow]
  · intro i _ _; simp [presRow]
theorem presRow_step (l : List Pipe) (fs : List Int) (root : Int) {k : Nat} : (presRow l fs root k).set k (pEnd l fs root k) = presRow l fs root (k + 1) := by
  apply List.ext_getElem
  · simp [presRow]
  · intro i h1 h2
    rw [List.getElem_set]
    simp only [presRow, List.getElem_map, List.getElem_range]
    by_cases e : k = i
    · subst e; rw [if_pos rfl, if_pos (by omega)]
    · rw [if_neg e]
      by_cases e2 : i < k
      · rw [if_pos e2, if_pos (by omega)]
      · rw [if_neg e2, if_neg (by omega)]
theorem drop_bd {fs : List Int} {p : Pipe} (hl : 0 ≤ p.loss ∧ p.loss ≤ 100000) (hr : -100000 ≤ p.rise ∧ p.rise ≤ 100000) (hf : ∀ x ∈ fs, 0 ≤ x ∧ x ≤ 1000000000000) (i : Nat) (x : Int) :
    -100000000100000 ≤ dropAt fs p i x - x ∧ dropAt fs p i x - x ≤ 100000000100000 ∧ 0 ≤ p.loss * fs.getD i 0 ∧ p.loss * fs.getD i 0 ≤ 100000000000000000 := by
  have h0 : 0 ≤ fs.getD i 0 ∧ fs.getD i 0 ≤ 1000000000000 := by
    by_cases hi : i < fs.length
    · have := hf fs[i] (List.getElem_mem hi)
      simpa [List.getD, hi] using this
    · simp [List.getD, List.getElem?_eq_none (Nat.le_of_not_lt hi)]
  unfold dropAt
  have h1 : 0 ≤ p.loss * fs.getD i 0 := Int.mul_nonneg hl.1 h0.1
  have h2 : p.loss * fs.getD i 0 ≤ 100000 * 1000000000000 := Int.mul_le_mul hl.2 h0.2 h0.1 (by omega)
  generalize p.loss * fs.getD i 0 = y at *
  have h3 : y.tdiv 1000 = y / 1000 := Int.tdiv_eq_ediv_of_nonneg h1
  rw [h3]
  omega
theorem pR_bd {fs : List Int} {root : Int} (hf : ∀ x ∈ fs, 0 ≤ x ∧ x ≤ 1000000000000) : ∀ (rl : List Pipe), (∀ p ∈ rl, (0 ≤ p.loss ∧ p.loss ≤ 100000) ∧ -100000 ≤ p.rise ∧ p.rise ≤ 100000) → ∀ n : Int, root - 100000000100000 * rl.length ≤ pR fs root rl n ∧ pR fs root rl n ≤ root + 100000000100000 * rl.length := by
  intro rl
  induction rl with
  | nil => intro _ n; simp [pR]
  | cons p r ih =>
    intro hp n
    have hr := ih (fun q hq => hp q (by simp [hq]))
    obtain ⟨a, b⟩ := hp p (by simp)
    rw [pR, List.length_cons]
    split
    · have h1 := hr p.from_
      have h2 := drop_bd a b hf r.length (pR fs root r p.from_)
      omega
    · have h1 := hr n
      omega
end Go.Proofs.Ythhjnplegdmidaa
