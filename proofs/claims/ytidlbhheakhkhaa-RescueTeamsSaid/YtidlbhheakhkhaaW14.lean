/- The examples of the chapter hold. -/
import Derived.Test.YtidlbhheakhkhaaW13
import Derived.Test.YtidlbhheakhkhaaW11
import Derived.Laws.Append
namespace Go.Proofs.Ytidlbhheakhkhaa
open Go.RowKit Go.Deep
set_option linter.unusedVariables false
set_option linter.unusedSimpArgs false
section
variable {P : Program}
theorem src_cells {w : World} {ad : Addr} {k : Nat} {src : List (List Int)} (hsl : ∀ r ∈ src, r.length = k) (hsrc : Src w (some ad) k src) : ∀ j u, (src.flatten.map (Value.int .i64))[j]? = some u → w.cell? (ad.add j) = some u := by
  intro m u hu
  rw [List.getElem?_map] at hu
  cases hx : src.flatten[m]? with
  | none => rw [hx] at hu; simp at hu
  | some x =>
    rw [hx] at hu
    simp at hu
    subst hu
    obtain ⟨i, j, r, e, hj, h1, h2⟩ := flat_of hsl hx
    have hn : 0 < src.length := by have := (List.getElem?_eq_some_iff.1 h1).1; omega
    obtain ⟨b, off, he, hc⟩ := hsrc hn
    injection he with he
    subst he
    have := hc i j r x h1 hj h2
    rw [← e] at this
    unfold Addr.add
    split
    · rename_i h0; rw [h0] at this; exact this
    · exact this
/-- append onto a full slice: a new one -/
theorem run_append_full (w : World) (t ty T : Nat) (z : Value) (k bytes : Nat) (ht : P.underlying t = some (.slice T)) (hi : (P.info? T).map (fun i => (i.zero, i.size, i.bytes)) = some (some z, k, bytes))
    (b ad : Addr) (n cap m c : Nat) (rows src : List (List Int)) (hn : rows.length = n) (hm : src.length = m) (hrl : ∀ r ∈ rows, r.length = k) (hsl : ∀ r ∈ src, r.length = k) (hb : Src w (some b) k rows) (hsrc : Src w (some ad) k src)
    (hfull : cap < n + m) (h63 : n + m ≤ maxLen) (hbytes : (n + m) * bytes ≤ 140737488355328) :
    ∃ A' c' w', (Builtin.append_ #[t, t] ty #[.slice (some b) n cap, .slice (some ad) m c]).run P w = .ok (.slice A' (n + m) c') w' ∧ n + m ≤ c' ∧ Src w' A' k (rows ++ src) ∧ Below w.heap.size w w' := by
  subst hn hm
  obtain ⟨i0, hi0, hz0, hz1, hz2⟩ := info_parts hi
  subst hz1 hz2
  have hsmall : rows.length + src.length ≤ 9223372036854775807 := by simp only [maxLen] at h63; omega
  have hr := run_append_grow (P := P) (w := w) t ty T i0 z ht hi0 hz0 b rows.length cap (rows.flatten.map (Value.int .i64)) (by rw [List.length_map]; exact flat_length hrl) (src_cells hrl hb) ad src.length c (src.flatten.map (Value.int .i64)) (by rw [List.length_map]; exact flat_length hsl) (src_cells hsl hsrc) (by omega) (by omega) (growslice_fits (by omega) hbytes)
  refine ⟨_, _, _, hr, grownCap_ge w _ _ _, fun _ => ⟨_, _, rfl, fun i j r x h1 h2 h3 => ?_⟩, ((Below.refl _ w).drew).alloc (Nat.le_refl _) _⟩
  have hall : ∀ r ∈ rows ++ src, r.length = i0.size := fun r hr => by
    rcases List.mem_append.1 hr with h | h
    · exact hrl r h
    · exact hsl r h
  have hf := flat_at hall h1 h2 h3
  rw [Nat.zero_add]
  refine (cell_of_row _ _ _ _ _ _ (heap_alloc_new w.drew _)).trans ?_
  have hlt := (List.getElem?_eq_some_iff.1 hf).1
  rw [List.flatten_append] at hf hlt
  rw [Array.getElem?_append_left (by simp only [Array.size_append, List.size_toArray, List.length_map]; rw [List.length_append] at hlt; exact hlt)]
  rw [List.append_toArray, ← List.map_append, List.getElem?_toArray, List.getElem?_map, hf]
  rfl
theorem wpList_append_full {ops : Array Oper} {rest : List Oper} {o : Oper} {a : Act} {Q : Exit → Act → World → Prop} (w : World) (hgd : Region.wanted o (yielded ops a.tmps) = true) (s x : Operand) (t : TypeId)
    (ho : o.op = .call { callee := .builtin .append, args := #[s, x], argTypes := #[t, t] })
    (T : Nat) (z : Value) (k bytes : Nat) (ht : P.underlying t = some (.slice T)) (hi : (P.info? T).map (fun i => (i.zero, i.size, i.bytes)) = some (some z, k, bytes))
    (b ad : Addr) (n cap m c : Nat) (hs : a.eval s = .slice (some b) n cap) (hx : a.eval x = .slice (some ad) m c) (rows src : List (List Int)) (hn : rows.length = n) (hm : src.length = m) (hrl : ∀ r ∈ rows, r.length = k) (hsl : ∀ r ∈ src, r.length = k) (hb : Src w (some b) k rows) (hsrc : Src w (some ad) k src)
    (hfull : cap < n + m) (h63 : n + m ≤ maxLen) (hbytes : (n + m) * bytes ≤ 140737488355328) (tot : Nat) (htot : n + m = tot)
    (h : ∀ A' c' w', tot ≤ c' → Src w' A' k (rows ++ src) → Below w.heap.size w w' → wpList P ops Q rest (a.put o.dst (.slice A' tot c')) w') :
    wpList P ops Q (o :: rest) a w := by
  obtain ⟨A', c', w', hrun, h2, h3, h4⟩ := run_append_full (P := P) w t o.type T z k bytes ht hi b ad n cap m c rows src hn hm hrl hsl hb hsrc hfull h63 hbytes
  subst htot
  refine wpList_step fun K hK => ?_
  rw [if_pos hgd]
  unfold Oper.wp execOp
  simp only [ho, resolve, invoke, builtin, Sem.run_bind, Sem.run_pure, Result.andThen_ok, List.map_toArray, List.map_cons, List.map_nil, hs, hx, hrun]
  exact hK _ _ (h A' c' w' h2 h3 h4)
end
def twoL : List Job := [⟨1, 1, 0, 300⟩, ⟨1, 3, 300, 500⟩, ⟨2, 4, 0, 400⟩, ⟨2, 5, 400, 500⟩]
def sampleC : Array Value := #[.int .i64 1, .int .i64 20, .int .i64 300, .int .i64 2, .int .i64 0, .int .i64 500, .int .i64 3, .int .i64 10, .int .i64 200, .int .i64 4, .int .i64 15, .int .i64 400, .int .i64 5, .int .i64 5, .int .i64 100]
def twoC : Array Value := #[.int .i64 1, .int .i64 1, .int .i64 0, .int .i64 300, .int .i64 1, .int .i64 3, .int .i64 300, .int .i64 500, .int .i64 2, .int .i64 4, .int .i64 0, .int .i64 400, .int .i64 2, .int .i64 5, .int .i64 400, .int .i64 500]
theorem sample_secs (w : World) : Secs (w.alloc (.cells sampleC 39)) (some ⟨w.heap.size, 0, none⟩) sampleL := fun _ => by
  refine ⟨_, _, rfl, fun i hi => ?_⟩
  unfold sampleC
  match i, hi with
  | 0, _ => simp only [sampleL, List.getElem_cons_zero]; refine ⟨?_, ?_, ?_⟩ <;> go_simp
  | 1, _ => simp only [sampleL, List.getElem_cons_succ, List.getElem_cons_zero]; refine ⟨?_, ?_, ?_⟩ <;> go_simp
  | 2, _ => simp only [sampleL, List.getElem_cons_succ, List.getElem_cons_zero]; refine ⟨?_, ?_, ?_⟩ <;> go_simp
  | 3, _ => simp only [sampleL, List.getElem_cons_succ, List.getElem_cons_zero]; refine ⟨?_, ?_, ?_⟩ <;> go_simp
  | 4, _ => simp only [sampleL, List.getElem_cons_succ, List.getElem_cons_zero]; refine ⟨?_, ?_, ?_⟩ <;> go_simp
theorem two_jobs (w : World) : Jobs (w.alloc (.cells twoC 43)) (some ⟨w.heap.size, 0, none⟩) twoL := fun _ => by
  refine ⟨_, _, rfl, fun i hi => ?_⟩
  unfold twoC
  match i, hi with
  | 0, _ => simp only [twoL, List.getElem_cons_zero]; refine ⟨?_, ?_, ?_, ?_⟩ <;> go_simp
  | 1, _ => simp only [twoL, List.getElem_cons_succ, List.getElem_cons_zero]; refine ⟨?_, ?_, ?_, ?_⟩ <;> go_simp
  | 2, _ => simp only [twoL, List.getElem_cons_succ, List.getElem_cons_zero]; refine ⟨?_, ?_, ?_, ?_⟩ <;> go_simp
  | 3, _ => simp only [twoL, List.getElem_cons_succ, List.getElem_cons_zero]; refine ⟨?_, ?_, ?_, ?_⟩ <;> go_simp
theorem sample_at (w : World) : Calls Try.prog 24 #[] w fun e w' => e = .returned (.slice (some ⟨w.heap.size, 0, none⟩) 5 5) ∧ w' = w.alloc (.cells sampleC 39) := by
  unfold sampleC
  go_enter Try.func24, Try.ntmps24
  go_wp2
  go_ret
  exact ⟨rfl, rfl⟩
theorem sample_sec : ∀ x ∈ sampleL, (1 ≤ x.seconds ∧ x.seconds ≤ 86400) ∧ (0 ≤ x.people ∧ x.people ≤ 1000) := by
  intro x hx
  simp only [sampleL, List.mem_cons, List.not_mem_nil, or_false] at hx
  rcases hx with rfl | rfl | rfl | rfl | rfl <;> decide
theorem two_I : ∀ x ∈ twoL, x.I := by
  intro x hx
  simp only [twoL, List.mem_cons, List.not_mem_nil, or_false] at hx
  rcases hx with rfl | rfl | rfl | rfl <;> (unfold Job.I I64; simp)
theorem Plan_lit2 (A : Option Addr) (w : World) (h : Secs w A sampleL) : Calls Try.prog 14 #[.slice A 5 5, .int .i64 2] w fun e w' => ∃ A c, e = .returned (.tuple #[.slice A 4 c, .int .i64 500, .int .i64 0]) ∧ Jobs w' A twoL ∧ Below w.heap.size w w' := by
  have := Plan_any A 5 sampleL 2 (by decide) (by decide) (fun x hx => (sample_sec x hx).1) w h
  rw [show planJobs sampleL 2 = twoL by kernel_rfl, show planEnd sampleL 2 = 500 by kernel_rfl] at this
  exact this.mono fun _ _ ⟨A, c, h1, _, h2, h3⟩ => ⟨A, c, h1, h2, h3⟩
theorem Plan_lit3 (A : Option Addr) (w : World) (h : Secs w A sampleL) : Calls Try.prog 14 #[.slice A 5 5, .int .i64 3] w fun e w' => ∃ v, e = .returned (.tuple #[v, .int .i64 400, .int .i64 0]) ∧ Below w.heap.size w w' := by
  have := Plan_any A 5 sampleL 3 (by decide) (by decide) (fun x hx => (sample_sec x hx).1) w h
  rw [show planEnd sampleL 3 = 400 by kernel_rfl] at this
  exact this.mono fun _ _ ⟨A, c, h1, _, h2, h3⟩ => ⟨_, h1, h3⟩
theorem Plan_lit1 (A : Option Addr) (w : World) (h : Secs w A sampleL) : Calls Try.prog 14 #[.slice A 5 5, .int .i64 1] w fun e w' => ∃ v, e = .returned (.tuple #[v, .int .i64 1000, .int .i64 0]) ∧ Below w.heap.size w w' := by
  have := Plan_any A 5 sampleL 1 (by decide) (by decide) (fun x hx => (sample_sec x hx).1) w h
  rw [show planEnd sampleL 1 = 1000 by kernel_rfl] at this
  exact this.mono fun _ _ ⟨A, c, h1, _, h2, h3⟩ => ⟨_, h1, h3⟩
theorem Plan_lit4 (A : Option Addr) (w : World) : Calls Try.prog 14 #[.slice A 5 5, .int .i64 4] w fun e w' => ∃ v, e = .returned (.tuple #[v, .int .i64 0, .int .i64 2]) ∧ Below w.heap.size w w' :=
  (Plan_out A 5 5 4 (by decide) w).mono fun _ _ ⟨A, c, h1, _, h2, h3⟩ => ⟨_, h1, h3⟩
theorem Right_lit (A : Option Addr) (w : World) (h : Secs w A sampleL) : Calls Try.prog 11 #[.slice A 5 5] w fun e w' => e = .returned (.int .i64 0) ∧ Below w.heap.size w w' := by
  have := Right_any A 5 sampleL w (by decide) (by decide) h
  rw [show rightOf sampleL = 0 by kernel_rfl] at this; exact this
theorem Right_lit7 (A : Option Addr) (c : Nat) (hc : 6 ≤ c) (w : World) (h : Secs w A (sampleL ++ [⟨1, 20, 300⟩])) : Calls Try.prog 11 #[.slice A 6 c] w fun e w' => e = .returned (.int .i64 7) ∧ Below w.heap.size w w' := by
  have := Right_any A c (sampleL ++ [⟨1, 20, 300⟩]) w (by decide) (by simpa [sampleL] using hc) h
  rw [show rightOf (sampleL ++ [⟨1, 20, 300⟩]) = 7 by kernel_rfl] at this; exact this
theorem Valid_lit2 (A C : Option Addr) (w : World) (h : Secs w A sampleL) (hj : Jobs w C twoL) : Calls Try.prog 17 #[.slice A 5 5, .int .i64 2, .slice C 4 4] w fun e w' => e = .returned (.bool true) ∧ Below w.heap.size w w' := by
  have := Valid_any A C 5 4 sampleL 2 twoL (by decide) (by decide) (by decide) two_I w h hj
  rw [show validOf sampleL 2 twoL = true by kernel_rfl] at this; exact this
theorem Valid_lit1 (A C : Option Addr) (w : World) (h : Secs w A sampleL) (hj : Jobs w C twoL) : Calls Try.prog 17 #[.slice A 5 5, .int .i64 1, .slice C 4 4] w fun e w' => e = .returned (.bool false) ∧ Below w.heap.size w w' := by
  have := Valid_any A C 5 4 sampleL 1 twoL (by decide) (by decide) (by decide) two_I w h hj
  rw [show validOf sampleL 1 twoL = false by kernel_rfl] at this; exact this
theorem Left_lit300 (A C : Option Addr) (w : World) (h : Secs w A sampleL) (hj : Jobs w C twoL) : Calls Try.prog 19 #[.slice A 5 5, .slice C 4 4, .int .i64 300] w fun e w' => e = .returned (.int .i64 30) ∧ Below w.heap.size w w' := by
  have := Left_any A C 5 4 sampleL twoL 300 (by decide) (by decide) (fun x hx => (sample_sec x hx).2) w h hj
  rw [show leftOf sampleL twoL 300 = 30 by kernel_rfl] at this; exact this
theorem Left_lit400 (A C : Option Addr) (w : World) (h : Secs w A sampleL) (hj : Jobs w C twoL) : Calls Try.prog 19 #[.slice A 5 5, .slice C 4 4, .int .i64 400] w fun e w' => e = .returned (.int .i64 15) ∧ Below w.heap.size w w' := by
  have := Left_any A C 5 4 sampleL twoL 400 (by decide) (by decide) (fun x hx => (sample_sec x hx).2) w h hj
  rw [show leftOf sampleL twoL 400 = 15 by kernel_rfl] at this; exact this
theorem Left_lit500 (A C : Option Addr) (w : World) (h : Secs w A sampleL) (hj : Jobs w C twoL) : Calls Try.prog 19 #[.slice A 5 5, .slice C 4 4, .int .i64 500] w fun e w' => e = .returned (.int .i64 0) ∧ Below w.heap.size w w' := by
  have := Left_any A C 5 4 sampleL twoL 500 (by decide) (by decide) (fun x hx => (sample_sec x hx).2) w h hj
  rw [show leftOf sampleL twoL 500 = 0 by kernel_rfl] at this; exact this
theorem Bound_lit2 (A : Option Addr) (w : World) (h : Secs w A sampleL) : Calls Try.prog 21 #[.slice A 5 5, .int .i64 2] w fun e w' => e = .returned (.int .i64 500) ∧ Below w.heap.size w w' := by
  have := Bound_pos A 5 sampleL 2 (by decide) (by decide) (by decide) (fun x hx => (sample_sec x hx).1) w h
  rw [show boundOf sampleL (2 : Nat) = 500 by kernel_rfl] at this; exact this
theorem Bound_lit3 (A : Option Addr) (w : World) (h : Secs w A sampleL) : Calls Try.prog 21 #[.slice A 5 5, .int .i64 3] w fun e w' => e = .returned (.int .i64 400) ∧ Below w.heap.size w w' := by
  have := Bound_pos A 5 sampleL 3 (by decide) (by decide) (by decide) (fun x hx => (sample_sec x hx).1) w h
  rw [show boundOf sampleL (3 : Nat) = 400 by kernel_rfl] at this; exact this
theorem Bound_lit0 (A : Option Addr) (w : World) : Calls Try.prog 21 #[.slice A 5 5, .int .i64 0] w fun e w' => e = .returned (.int .i64 0) ∧ Below w.heap.size w w' := Bound_out A 5 5 0 (by decide) w
theorem Same_lit (A C : Option Addr) (c d : Nat) (w : World) (h : Jobs w A twoL) (hj : Jobs w C twoL) : Calls Try.prog 16 #[.slice A 4 c, .slice C 4 d] w fun e w' => e = .returned (.bool true) ∧ Below w.heap.size w w' :=
  (Same_eq A C c d twoL w (by decide) h hj).mono fun _ _ ⟨h1, n, h2⟩ => ⟨h1, by rw [h2]; exact below_dn (Below.refl _ _) _⟩
set_option maxRecDepth 100000 in
set_option maxHeartbeats 8000000 in
theorem alive_any (w : World) : Calls Try.prog 10 #[] w fun e w' => e = .returned (.bool true) ∧ Below w.heap.size w w' := by
  go_enter Try.func10, Try.ntmps10
  go_wp2_with fail
  refine (sample_at _).mono ?_
  rintro e w0 ⟨rfl, rfl⟩
  have hB := below_alloc w (.cells sampleC 39)
  have HBB := below_alloc w (.cells sampleC 39)
  have hS := sample_secs w
  obtain ⟨wa, hwa⟩ : ∃ wa, wa = w.alloc (.cells sampleC 39) := ⟨_, rfl⟩
  rw [← hwa] at hB HBB hS ⊢
  clear hwa
  obtain ⟨B, hBB⟩ : ∃ B, w.heap.size = B := ⟨_, rfl⟩
  rw [hBB] at hS hB ⊢
  have hsz := hB.size
  go_upto_region 3 with (fail)
  have hD := two_jobs wa
  have hb := below_alloc wa (.cells twoC 43)
  unfold twoC at hD hb
  replace hS := hS.below hb
  replace hB := hB.trans (hb.mono (hBB ▸ hB.size))
  clear hb
  generalize wa.alloc _ = wb at *
  have hd : ∃ D : Option Addr, D = some ⟨wa.heap.size, 0, none⟩ := ⟨_, rfl⟩
  obtain ⟨D, hd⟩ := hd
  rw [← hd] at hD ⊢
  clear hd
  go_wp2_with fail
  refine (Plan_lit2 _ _ hS).mono ?_
  rintro e w1 ⟨P, c, rfl, hP, hb⟩
  replace hS := hS.below hb
  replace hD := hD.below hb
  replace hB := hB.trans (hb.mono (hBB ▸ hB.size))
  clear hb
  go_wp2_with fail
  refine (Plan_lit3 _ _ hS).mono ?_
  rintro e w2 ⟨v3, rfl, hb⟩
  replace hS := hS.below hb
  replace hD := hD.below hb
  replace hP := hP.below hb
  replace hB := hB.trans (hb.mono (hBB ▸ hB.size))
  clear hb
  go_wp2_with fail
  refine (Plan_lit1 _ _ hS).mono ?_
  rintro e w3 ⟨v1, rfl, hb⟩
  replace hS := hS.below hb
  replace hD := hD.below hb
  replace hP := hP.below hb
  replace hB := hB.trans (hb.mono (hBB ▸ hB.size))
  clear hb
  go_wp2_with fail
  refine (Plan_lit4 _ _).mono ?_
  rintro e w4 ⟨v4, rfl, hb⟩
  replace hS := hS.below hb
  replace hD := hD.below hb
  replace hP := hP.below hb
  replace hB := hB.trans (hb.mono (hBB ▸ hB.size))
  clear hb
  go_wp2_with fail
  refine (Same_lit P D c 4 _ hP hD).mono ?_
  rintro e w5 ⟨rfl, hb⟩
  replace hS := hS.below hb
  replace hD := hD.below hb
  replace hP := hP.below hb
  replace hB := hB.trans (hb.mono (hBB ▸ hB.size))
  clear hb
  clear hP
  go_wp2_with fail
  refine (Right_lit _ _ hS).mono ?_
  rintro e w6 ⟨rfl, hb⟩
  replace hS := hS.below hb
  replace hD := hD.below hb
  replace hB := hB.trans (hb.mono (hBB ▸ hB.size))
  clear hb
  have x0 : w6.cell? ⟨B, 0, none⟩ = some (.int .i64 1) := by
    obtain ⟨_, _, e, hc⟩ := hS (by decide); injection e with e; injection e with e1 e2; subst e1 e2; exact (hc 0 (by decide)).1
  have x1 : w6.cell? ⟨B, 1, none⟩ = some (.int .i64 20) := by
    obtain ⟨_, _, e, hc⟩ := hS (by decide); injection e with e; injection e with e1 e2; subst e1 e2; exact (hc 0 (by decide)).2.1
  have x2 : w6.cell? ⟨B, 2, none⟩ = some (.int .i64 300) := by
    obtain ⟨_, _, e, hc⟩ := hS (by decide); injection e with e; injection e with e1 e2; subst e1 e2; exact (hc 0 (by decide)).2.2
  have ka := below_alloc w6 (.cells #[.int .i64 1, .int .i64 20, .int .i64 300] 39)
  have hsrc := (Sec.one_src w6 ⟨1, 20, 300⟩)
  have hB2 := hB.trans (ka.mono (hBB ▸ hB.size))
  replace hS := hS.below ka
  replace hD := hD.below ka
  have RL := Lib.hid (Sec.row_len [⟨1, 20, 300⟩])
  have RL2 := Lib.hid (Sec.row_len sampleL)
  have n1 : 5 + 1 ≤ maxLen := by decide
  have hsr := hS.src
  clear ka hB
  go_wp2_with (at_builtin; refine wpList_append_full _ (by rfl) (.tmp 83) (.tmp 87) _ rfl 39 _ 3 24 Try.underlying22 Sec.info _ _ 5 5 1 1 rfl rfl (sampleL.map Sec.row) [Sec.row ⟨1, 20, 300⟩] rfl rfl RL2.out RL.out (by exact hsr) (by exact hsrc) (by decide) n1 (by decide) 6 rfl ?_; intro A9 c9 w9 hc9 hs9 hb9)
  replace hS := hS.below hb9
  replace hD := hD.below hb9
  have hB := hB2.trans (hb9.mono (hBB ▸ hB2.size))
  have hs10 : Secs w9 A9 (sampleL ++ [⟨1, 20, 300⟩]) := Secs.of_src (by rw [List.map_append]; exact hs9)
  clear hs9 hb9 hB2 hsr hsrc x0 x1 x2 n1
  go_wp2_with fail
  refine (Right_lit7 A9 c9 hc9 _ hs10).mono ?_
  rintro e w10 ⟨rfl, hb⟩
  replace hS := hS.below hb
  replace hD := hD.below hb
  replace hB := hB.trans (hb.mono (hBB ▸ hB.size))
  clear hb
  clear hs10 hc9
  go_wp2_with fail
  refine (Valid_lit2 _ D _ hS hD).mono ?_
  rintro e w11 ⟨rfl, hb⟩
  replace hS := hS.below hb
  replace hD := hD.below hb
  replace hB := hB.trans (hb.mono (hBB ▸ hB.size))
  clear hb
  go_wp2_with fail
  refine (Valid_lit1 _ D _ hS hD).mono ?_
  rintro e w12 ⟨rfl, hb⟩
  replace hS := hS.below hb
  replace hD := hD.below hb
  replace hB := hB.trans (hb.mono (hBB ▸ hB.size))
  clear hb
  go_wp2_with fail
  refine (Left_lit300 _ D _ hS hD).mono ?_
  rintro e w13 ⟨rfl, hb⟩
  replace hS := hS.below hb
  replace hD := hD.below hb
  replace hB := hB.trans (hb.mono (hBB ▸ hB.size))
  clear hb
  go_wp2_with fail
  refine (Left_lit400 _ D _ hS hD).mono ?_
  rintro e w14 ⟨rfl, hb⟩
  replace hS := hS.below hb
  replace hD := hD.below hb
  replace hB := hB.trans (hb.mono (hBB ▸ hB.size))
  clear hb
  go_wp2_with fail
  refine (Left_lit500 _ D _ hS hD).mono ?_
  rintro e w15 ⟨rfl, hb⟩
  replace hS := hS.below hb
  replace hD := hD.below hb
  replace hB := hB.trans (hb.mono (hBB ▸ hB.size))
  clear hb
  clear hD
  go_wp2_with fail
  refine (Bound_lit2 _ _ hS).mono ?_
  rintro e w16 ⟨rfl, hb⟩
  replace hS := hS.below hb
  replace hB := hB.trans (hb.mono (hBB ▸ hB.size))
  clear hb
  go_wp2_with fail
  refine (Bound_lit3 _ _ hS).mono ?_
  rintro e w17 ⟨rfl, hb⟩
  replace hS := hS.below hb
  replace hB := hB.trans (hb.mono (hBB ▸ hB.size))
  clear hb
  clear hS
  go_wp2_with fail
  refine (Bound_lit0 _ _).mono ?_
  rintro e w18 ⟨rfl, hb⟩
  replace hB := hB.trans (hb.mono (hBB ▸ hB.size))
  clear hb
  go_wp2
  go_ret
  exact ⟨rfl, hBB ▸ hB⟩
end Go.Proofs.Ytidlbhheakhkhaa
