/- Contracts: the reference's jobs. -/
import Derived.Test.YtidlbhheakhkhaaW7
import Derived.Test.YtidlbhheakhkhaaPlain4
namespace Go.Proofs.Ytidlbhheakhkhaa
open Go.RowKit Go.Deep
set_option linter.unusedVariables false
theorem blk_ints {W : World} {F : Nat} {b : List Int} {T : TypeId} (h : Blk W F (b.map (Value.int .i64)).toArray T) (k : Nat) (x : Int) : Blk (W.setCell ⟨F, k, none⟩ (.int .i64 x)) F ((b.set k x).map (Value.int .i64)).toArray T := by
  have := h.set k (.int .i64 x)
  rw [set_toArray, ← List.map_set] at this
  exact this
theorem grown_set (w : World) (a : Addr) (u : Value) : w.grownBy (w.setCell a u) (some a.block) :=
  ⟨rfl, rfl, rfl, by simp, fun k _ hk => Below.heap_setCell w a u k (fun e => hk (by rw [e]))⟩
theorem mx_eq (a b : Int) : (if a < b then b else a) = mx a b := rfl
theorem endTo_succ (l : List Sec) (a : List Nat) (k : Nat) : endTo l a (k + 1) = mx (endTo l a k) ((busyTo l a (k + 1)).getD (teamAt a k) 0) := rfl
set_option maxHeartbeats 4000000 in
set_option maxRecDepth 100000 in
theorem jobs_any (A C : Option Addr) (c d : Nat) (l : List Sec) (a : List Nat) (hl : l.length ≤ 8) (ha : a.length = l.length) (ha4 : ∀ k, k < a.length → teamAt a k < 4) (hs : ∀ x ∈ l, 1 ≤ x.seconds ∧ x.seconds ≤ 86400) (w : World) (hS : Secs w A l) (hI : Ints w C (a.map fun n : Nat => (n : Int))) :
    Calls Try.prog 30 #[.slice A l.length c, .slice C l.length d] w fun e w' => ∃ A' c', e = .returned (.tuple #[.slice A' l.length c', .int .i64 (endTo l a l.length)]) ∧ l.length ≤ c' ∧ Jobs w' A' (jobsTo l a l.length) ∧ Below w.heap.size w w' := by
  have hmk : ∀ W, (Instr.makeSlice 47 (.int .i64 4) (.int .i64 4)).run Try.prog W = .ok (.slice (some ⟨W.heap.size, 0, none⟩) 4 4) (W.alloc (.cells (madeCells #[Value.int .i64 0] 4) 3)) := fun W => run_make_row' (P := Try.prog) 47 3 (.int .i64 0) 8 Try.underlying47 info3 rfl .i64 .i64 4 (by omega) (by omega) W
  have hf0 : Blk (w.alloc (.cells (madeCells #[Value.int .i64 0] 4) 3)) w.heap.size ((busyTo l a 0).map (Value.int .i64)).toArray 3 := by
    have e : madeCells #[Value.int .i64 0] 4 = ((busyTo l a 0).map (Value.int .i64)).toArray := by rw [made_nat]; rfl
    rw [← e]
    exact Blk.new w _ 3
  have hb3 := below_alloc w (.cells (madeCells #[Value.int .i64 0] 4) 3)
  have HF := Lib.hid hf0
  have H3 := Lib.hid hb3
  have HNS := Lib.hid hs
  clear hf0 hb3 hs
  go_enter Try.func30, Try.ntmps30
  go_wp2_with fail
  go_loopw [6, 7, 9] (fun v en i wr => ∃ (k : Nat), k ≤ l.length ∧ i = .int .i64 k ∧ en = .int .i64 (endTo l a k) ∧ OwnR wr (w.heap.size + 1) 43 4 v ((jobsTo l a k).map Job.row) ∧ Blk wr w.heap.size ((busyTo l a k).map (Value.int .i64)).toArray 3 ∧ Below w.heap.size w wr) (fun _ _ i _ => l.length - (intOf i).toNat)
  case atStart => exact ⟨0, Nat.zero_le _, rfl, rfl, OwnR.nil _ _ _ _, HF.out, H3.out⟩
  case round =>
    clear hmk
    obtain ⟨k, hk, rfl, rfl, hown, hF, hb⟩ := hrel
    by_cases hlt : k < l.length
    · have hN3 := hS.below hb
      have hI3 := hI.below hb
      obtain ⟨b, off, rfl, hc⟩ := hN3 (by omega)
      obtain ⟨h0, h1, h2⟩ := hc k hlt
      obtain ⟨b', off', rfl, hc'⟩ := hI3 (by simp; omega)
      have g0 := hc' k (by simp; omega)
      clear hc hc' hN3 hI3
      simp only [List.getElem_map] at g0
      have ht4 := ha4 k (by omega)
      have hsec := HNS.out _ (List.getElem_mem hlt)
      have hjs := jobsTo_succ l a k
      have hes := endTo_succ l a k
      have hbs := busyTo_succ l a k
      rw [hbs] at hjs hes
      rw [teamAt_eq (by omega)] at ht4 hjs hes hbs
      rw [secAt_eq hlt] at hjs hes hbs
      have hbk := busyTo_ok (a := a) HNS.out k hk
      have hjl := jobsTo_length l a k
      have Hjl := Lib.hid hjl
      have Hjs := Lib.hid hjs
      have Hbs := Lib.hid hbs
      have Hes := Lib.hid hes
      clear hjs hbs hjl hes
      generalize a[k] = t at *
      generalize l[k] = x at *
      have hk4 : t < (busyTo l a k).length := by rw [hbk.1]; exact ht4
      have b1 : wr.cell? ⟨w.heap.size, t, none⟩ = some (.int .i64 ((busyTo l a k).getD t 0)) := hF.cell t (list_at _ hk4)
      have b2 : wr.frozen? ⟨w.heap.size, t, none⟩ = false := hF.frozen t
      have hbd := hbk.2 t
      have hag := addAt_get hk4 x.seconds
      rw [hag] at Hjs Hes
      have hbl1 : b < w.heap.size := by
        obtain ⟨_, _, e, q⟩ := hS (by omega)
        injection e with e
        injection e with e1 e2
        subst e1
        exact World.block_lt_of_cell? _ _ (q k hlt).1
      have hbl2 : b' < w.heap.size := by
        obtain ⟨_, _, e, q⟩ := hI (by simp; omega)
        injection e with e
        injection e with e1 e2
        subst e1
        exact World.block_lt_of_cell? _ _ (q k (by simp; omega))
      have hF1 : Blk (wr.setCell ⟨w.heap.size, t, none⟩ (.int .i64 ((busyTo l a k).getD t 0 + x.seconds))).drew w.heap.size ((addAt (busyTo l a k) t x.seconds).map (Value.int .i64)).toArray 3 := blk_ints hF t _
      have hown1 : OwnR (wr.setCell ⟨w.heap.size, t, none⟩ (.int .i64 ((busyTo l a k).getD t 0 + x.seconds))).drew (w.heap.size + 1) 43 4 u6 ((jobsTo l a k).map Job.row) := (hown.far _ _ (by simp)).drew
      have hb1 : Below w.heap.size w (wr.setCell ⟨w.heap.size, t, none⟩ (.int .i64 ((busyTo l a k).getD t 0 + x.seconds))).drew := (hb.setCell (Nat.le_refl _) _).drew
      have d1 : (wr.setCell ⟨w.heap.size, t, none⟩ (.int .i64 ((busyTo l a k).getD t 0 + x.seconds))).drew.cell? ⟨w.heap.size, t, none⟩ = some (.int .i64 ((busyTo l a k).getD t 0 + x.seconds)) := by
        have := hF1.cell t (list_at _ (by rw [addAt_length]; exact hk4))
        rw [hag] at this
        exact this
      have hcs : ∀ q : Addr, q.block < w.heap.size → ∀ u, wr.cell? q = some u → (wr.setCell ⟨w.heap.size, t, none⟩ (.int .i64 ((busyTo l a k).getD t 0 + x.seconds))).drew.cell? q = some u := fun q hq u hu => (((grown_set wr ⟨w.heap.size, t, none⟩ _).cell hu (by simp; omega) : (wr.setCell ⟨w.heap.size, t, none⟩ (.int .i64 ((busyTo l a k).getD t 0 + x.seconds))).cell? q = some u))
      have c0 := hcs _ (by exact hbl1) _ h0
      have c2 := hcs _ (by exact hbl2) _ g0
      have HH := Lib.hid (And.intro hF1 (And.intro hown1 (And.intro hb1 (And.intro d1 (And.intro c0 c2)))))
      clear hF1 hown1 hb1 d1 hag hF hown hb hcs c0 c2
      generalize (busyTo l a k).getD t 0 = y at *
      have hadw : IntKind.i64.wrap (y + x.seconds) = y + x.seconds := IntWalk.i64_in _ (by omega)
      have hk4i : (t : Int) < 4 := by omega
      have hk0 : (0 : Int) ≤ (t : Int) := by omega
      have hkl : (k : Int) < (l.length : Int) := by omega
      have hkn : (0 : Int) ≤ (k : Int) := by omega
      go_upto_region 8 with (fail)
      go_still_tail 12, (by kernel_rfl)
      change wpList _ _ _ _ _ wr.drew
      go_upto_region 9 with (fail)
      obtain ⟨hF1, hown1, hb1, d1, c0, c2⟩ := HH.out
      clear HH b1 b2 h0 h1 h2 g0
      generalize (wr.setCell ⟨w.heap.size, t, none⟩ (.int .i64 (y + x.seconds))).drew = wd at *
      go_upto_region 10 with (fail)
      obtain ⟨J, hJ⟩ : ∃ J : Job, J = ⟨t, x.id, y, y + x.seconds⟩ := ⟨_, rfl⟩
      rw [← hJ] at Hjs
      have hsrc : Src (wd.alloc (.cells #[.int .i64 (t : Int), .int .i64 x.id, .int .i64 y, .int .i64 (y + x.seconds)] 43)).drew (some ⟨wd.heap.size, 0, none⟩) 4 [Job.row J] := by
        subst hJ
        exact (Job.one_src wd ⟨t, x.id, y, y + x.seconds⟩).drew
      clear hJ
      have hown2 : OwnR (wd.alloc (.cells #[.int .i64 (t : Int), .int .i64 x.id, .int .i64 y, .int .i64 (y + x.seconds)] 43)).drew (w.heap.size + 1) 43 4 u6 ((jobsTo l a k).map Job.row) := (hown1.alloc _).drew
      have hb2 : Below w.heap.size w (wd.alloc (.cells #[.int .i64 (t : Int), .int .i64 x.id, .int .i64 y, .int .i64 (y + x.seconds)] 43)).drew := (hb1.alloc hb1.size _).drew
      have hF2 : Blk (wd.alloc (.cells #[.int .i64 (t : Int), .int .i64 x.id, .int .i64 y, .int .i64 (y + x.seconds)] 43)).drew w.heap.size ((addAt (busyTo l a k) t x.seconds).map (Value.int .i64)).toArray 3 := hF1.alloc _
      have hF2lt := hF2.lt
      clear hown1 hb1 hF1
      have jl : ((jobsTo l a k).map Job.row).length = k := by rw [List.length_map, Hjl.out]
      have n1 : ((jobsTo l a k).map Job.row).length + 1 ≤ maxLen := by rw [jl]; simp [maxLen]; omega
      have n2 : (((jobsTo l a k).map Job.row).length + 1) * 32 ≤ 140737488355328 := by rw [jl]; omega
      have RL := Lib.hid (Job.row_len [J])
      have JL := Lib.hid jl
      clear jl
      have hapt := hown2.apart (Nat.lt_succ_self w.heap.size)
      have hap1 : ∀ q : Addr, q.block < w.heap.size → some q.block ≠ u6.ownBlock := fun q hq => hown2.apart (by omega)
      have t2 := Lib.hid (show ((jobsTo l a k).map Job.row).length + [Job.row J].length = k + 1 by rw [JL.out]; rfl)
      have d2 : (wd.alloc (.cells #[.int .i64 (t : Int), .int .i64 x.id, .int .i64 y, .int .i64 (y + x.seconds)] 43)).drew.cell? ⟨w.heap.size, t, none⟩ = some (.int .i64 (y + x.seconds)) := cell_later (below_alloc wd _).drew d1
      have c3 : (wd.alloc (.cells #[.int .i64 (t : Int), .int .i64 x.id, .int .i64 y, .int .i64 (y + x.seconds)] 43)).drew.cell? ⟨b, off + k * 3, none⟩ = some (.int .i64 x.id) := cell_later (below_alloc wd _).drew c0
      have c4 : (wd.alloc (.cells #[.int .i64 (t : Int), .int .i64 x.id, .int .i64 y, .int .i64 (y + x.seconds)] 43)).drew.cell? ⟨b', off' + k, none⟩ = some (.int .i64 (t : Int)) := cell_later (below_alloc wd _).drew c2
      have O2 := Lib.hid (And.intro c3 (And.intro c4 d2))
      have hq1 := hap1 ⟨b, off + k * 3, none⟩ hbl1
      have hq2 := hap1 ⟨b', off' + k, none⟩ hbl2
      have HQ := Lib.hid (And.intro hq1 (And.intro hq2 hapt))
      clear c3 c4 d2 hq1 hq2 hapt hap1
      go_region_held3 (fun w' => w'.cell? ⟨b, off + k * 3, none⟩ = some (.int .i64 x.id) ∧ w'.cell? ⟨b', off' + k, none⟩ = some (.int .i64 (t : Int)) ∧ w'.cell? ⟨w.heap.size, t, none⟩ = some (.int .i64 (y + x.seconds)))
        (first | with_reducible exact hS5 | go_keep)
        (first
          | (refine step_append_rows _ (by rfl) (.tmp 47) (.tmp 66) 27 (by rfl) (w.heap.size + 1) 43 (.agg #[.int .i64 0, .int .i64 0, .int .i64 0, .int .i64 0]) 4 32 Try.underlying27 Job.info rfl (Nat.zero_lt_succ _) u6 ((jobsTo l a k).map Job.row) (by rfl) hown2 (some ⟨wd.heap.size, 0, none⟩) 1 1 [Job.row J] (by rfl) rfl RL.out hsrc n1 n2 hF2lt (k + 1) ((jobsTo l a k).map Job.row ++ [Job.row J]) t2.out rfl ?_
             intro A1 c1 w5 own5 hg5 hat5
             have hS5 : w5.cell? ⟨b, off + k * 3, none⟩ = some (.int .i64 x.id) ∧ w5.cell? ⟨b', off' + k, none⟩ = some (.int .i64 (t : Int)) ∧ w5.cell? ⟨w.heap.size, t, none⟩ = some (.int .i64 (y + x.seconds)) := ⟨hg5.cell O2.out.1 HQ.out.1, hg5.cell O2.out.2.1 HQ.out.2.1, hg5.cell O2.out.2.2 HQ.out.2.2⟩))
      have hb5 := Below.ownR hb2 hown2 hg5 (Nat.le_succ _) hb2.size
      have hF5 := hF2.kept hg5 HQ.out.2.2
      clear hg5 hat5 hown2 hb2 hF2 hsrc
      go_wp2
      go_roundw
      case rel => exact ⟨k + 1, by omega, by go_num, by rw [Hes.out]; rfl, by rw [Hjs.out, List.map_append]; exact own5, by rw [Hbs.out]; exact hF5, hb5⟩
      case measure => simp [intOf]; omega
    · have hke : k = l.length := by omega
      subst hke
      obtain ⟨A', c', rfl, hi⟩ := hown.form
      have hcp := hown.cap
      have hjl := jobsTo_length l a l.length
      have hj := Jobs.of_src hi
      simp only [List.length_map, hjl] at hcp
      rw [List.length_map, hjl]
      clear hown hF hi
      go_wp2
      go_ret2
      exact ⟨A', c', rfl, hcp.2, hj, hb⟩
end Go.Proofs.Ytidlbhheakhkhaa
