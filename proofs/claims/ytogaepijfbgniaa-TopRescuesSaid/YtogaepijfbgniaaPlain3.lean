/- The plain law of package rescue: the jobs of an assignment. -/
import Derived.Test.YtogaepijfbgniaaPlain2
namespace Go.Proofs.Ytogaepijfbgniaa
set_option linter.unusedVariables false
def teamAt (a : List Nat) (k : Nat) : Nat := a.getD k 0
def secAt (l : List Sec) (k : Nat) : Sec := l.getD k Sec.zero
/-- how long the teams are busy after k sections -/
def busyTo (l : List Sec) (a : List Nat) : Nat → List Int
  | 0 => [0, 0, 0, 0]
  | k + 1 => addAt (busyTo l a k) (teamAt a k) (secAt l k).seconds
/-- the jobs of the first k sections -/
def jobsTo (l : List Sec) (a : List Nat) : Nat → List Job
  | 0 => []
  | k + 1 => jobsTo l a k ++ [⟨teamAt a k, (secAt l k).id, (busyTo l a k).getD (teamAt a k) 0, (busyTo l a (k + 1)).getD (teamAt a k) 0⟩]
/-- when the last one of these ends -/
def endTo (l : List Sec) (a : List Nat) : Nat → Int
  | 0 => 0
  | k + 1 => mx (endTo l a k) ((busyTo l a (k + 1)).getD (teamAt a k) 0)
theorem busyTo_succ (l : List Sec) (a : List Nat) (k : Nat) : busyTo l a (k + 1) = addAt (busyTo l a k) (teamAt a k) (secAt l k).seconds := rfl
theorem jobsTo_succ (l : List Sec) (a : List Nat) (k : Nat) : jobsTo l a (k + 1) = jobsTo l a k ++ [⟨teamAt a k, (secAt l k).id, (busyTo l a k).getD (teamAt a k) 0, (busyTo l a (k + 1)).getD (teamAt a k) 0⟩] := rfl
theorem jobsTo_length (l : List Sec) (a : List Nat) (k : Nat) : (jobsTo l a k).length = k := by
  induction k with
  | zero => rfl
  | succ k ih => rw [jobsTo_succ]; simp [ih]
theorem secAt_eq {l : List Sec} {k : Nat} (hk : k < l.length) : secAt l k = l[k] := by
  unfold secAt
  rw [List.getD_eq_getElem?_getD, List.getElem?_eq_getElem hk, Option.getD_some]
theorem teamAt_eq {a : List Nat} {k : Nat} (hk : k < a.length) : teamAt a k = a[k] := by
  unfold teamAt
  rw [List.getD_eq_getElem?_getD, List.getElem?_eq_getElem hk, Option.getD_some]
theorem busyTo_ok {l : List Sec} {a : List Nat} (hs : ∀ x ∈ l, 1 ≤ x.seconds ∧ x.seconds ≤ 86400) : ∀ k, k ≤ l.length → BusyOk k (busyTo l a k) := by
  intro k
  induction k with
  | zero => intro _; exact BusyOk.zero
  | succ k ih =>
    intro hk
    have := hs (secAt l k) (by rw [secAt_eq (by omega)]; exact List.getElem_mem _)
    exact (ih (by omega)).add _ (by omega) this.2
/-- the assignments of T teams to n sections, in order -/
def listsOf (T : List Nat) : Nat → List (List Nat)
  | 0 => [[]]
  | n + 1 => T.flatMap fun t => (listsOf T n).map (t :: ·)
/-- every list of teams in T -/
def AllIn (T : List Nat) (a : List Nat) : Prop := ∀ t ∈ a, t ∈ T
theorem mem_lists (T : List Nat) : ∀ (n : Nat) (a : List Nat), a ∈ listsOf T n ↔ a.length = n ∧ AllIn T a := by
  intro n
  induction n with
  | zero =>
    intro a
    simp only [listsOf, List.mem_singleton]
    constructor
    · rintro rfl; exact ⟨rfl, fun t ht => by simp at ht⟩
    · intro h; exact List.eq_nil_of_length_eq_zero h.1
  | succ n ih =>
    intro a
    simp only [listsOf, List.mem_flatMap, List.mem_map]
    constructor
    · rintro ⟨t, ht, b, hb, rfl⟩
      obtain ⟨h1, h2⟩ := (ih b).1 hb
      refine ⟨by simp [h1], fun x hx => ?_⟩
      rcases List.mem_cons.1 hx with rfl | hx
      · exact ht
      · exact h2 x hx
    · rintro ⟨h1, h2⟩
      cases a with
      | nil => simp at h1
      | cons t b => exact ⟨t, h2 t (by simp), b, (ih b).2 ⟨by simpa using h1, fun x hx => h2 x (by simp [hx])⟩, rfl⟩
/-- the first of them with the least end -/
def pick (f : List Nat → Int) (ls : List (List Nat)) (s : Look) : Look := ls.foldl (fun s a => upd s (f a) a) s
theorem tryAll_pick (T : List Nat) : ∀ (r : List Int) (pre : List Nat) (b : List Int) (s : Look) (f : List Nat → Int), (∀ a ∈ listsOf T r.length, f (pre ++ a) = maxL ((r.zip a).foldl (fun b p => addAt b p.2 p.1) b)) → tryAll T r pre b s = pick f ((listsOf T r.length).map (pre ++ ·)) s := by
  intro r
  induction r with
  | nil =>
    intro pre b s f hf
    have := hf [] (by simp [listsOf])
    simp only [List.append_nil, List.zip_nil_right, List.foldl_nil] at this
    simp only [tryAll, pick, listsOf, List.length_nil, List.map_cons, List.map_nil, List.foldl_cons, List.foldl_nil, List.append_nil, this]
  | cons x r ih =>
    intro pre b s f hf
    have hstep : ∀ (ts : List Nat) (s : Look), (∀ t ∈ ts, t ∈ T) → ts.foldl (fun s t => tryAll T r (pre ++ [t]) (addAt b t x) s) s = pick f ((ts.flatMap fun t => (listsOf T r.length).map (t :: ·)).map (pre ++ ·)) s := by
      intro ts
      induction ts with
      | nil => intro s _; rfl
      | cons t ts iht =>
        intro s hts
        rw [List.foldl_cons, iht _ fun y hy => hts y (by simp [hy])]
        have e := ih (pre ++ [t]) (addAt b t x) s f (fun a ha => by
          have := hf (t :: a) (by
            simp only [List.length_cons, listsOf, List.mem_flatMap, List.mem_map]
            exact ⟨t, hts t (by simp), a, ha, rfl⟩)
          simp only [List.zip_cons_cons, List.foldl_cons] at this
          rw [← this]
          simp)
        rw [e]
        simp only [List.flatMap_cons, List.map_append, pick, List.foldl_append, List.map_map]
        congr 2
        apply List.map_congr_left
        intro a _
        simp
    have := hstep T s fun _ h => h
    show T.foldl _ s = _
    rw [this]
    rfl
theorem busy_zip (l : List Sec) : ∀ (a : List Nat), a.length = l.length → ((l.map Sec.seconds).zip a).foldl (fun b p => addAt b p.2 p.1) [0, 0, 0, 0] = busyTo l a l.length := by
  have key : ∀ (a : List Nat) (k : Nat), k ≤ l.length → a.length = l.length → (((l.map Sec.seconds).zip a).take k).foldl (fun b p => addAt b p.2 p.1) [0, 0, 0, 0] = busyTo l a k := by
    intro a k
    induction k with
    | zero => intro _ _; rfl
    | succ k ih =>
      intro hk ha
      have hk' : k < ((l.map Sec.seconds).zip a).length := by simp; omega
      rw [List.take_succ_eq_append_getElem hk', List.foldl_append, ih (by omega) ha, busyTo_succ, secAt_eq (by omega), teamAt_eq (by omega)]
      simp
  intro a ha
  rw [← key a l.length (Nat.le_refl _) ha, List.take_of_length_le (by simp; omega)]
/-- the end of an assignment -/
def endOf (l : List Sec) (a : List Nat) : Int := maxL (busyTo l a l.length)
theorem assign_pick (l : List Sec) (T : List Nat) (s : Look) : tryAll T (l.map Sec.seconds) [] [0, 0, 0, 0] s = pick (endOf l) (listsOf T l.length) s := by
  rw [tryAll_pick T _ _ _ _ (endOf l) (fun a ha => by
    have := (mem_lists T _ a).1 ha
    simp only [List.length_map] at this
    rw [List.nil_append, busy_zip l a this.1]
    rfl)]
  simp
end Go.Proofs.Ytogaepijfbgniaa
