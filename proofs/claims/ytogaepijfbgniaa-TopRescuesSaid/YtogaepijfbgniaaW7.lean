/- Contracts: Plan. -/
import Derived.Test.YtogaepijfbgniaaW6
import Derived.Test.YtogaepijfbgniaaPlain3
import Derived.Deep.RegionHeld3
namespace Go.Proofs.Ytogaepijfbgniaa
open Go.RowKit Go.Deep
set_option linter.unusedVariables false
theorem pick_mem (f : List Nat → Int) : ∀ (ls : List (List Nat)) (s : Look), (pick f ls s).best = s.best ∨ (pick f ls s).best ∈ ls := by
  intro ls
  induction ls with
  | nil => intro s; exact .inl rfl
  | cons a r ih =>
    intro s
    have e : pick f (a :: r) s = pick f r (upd s (f a) a) := rfl
    rw [e]
    rcases ih (upd s (f a) a) with h | h
    · rw [h]
      unfold upd
      split
      · exact .inr (by simp)
      · exact .inl rfl
    · exact .inr (by simp [h])
theorem assign_small (l : List Sec) {T : Nat} (hT : T ≤ 3) (k : Nat) : teamAt (assignOf l T).best k < 4 := by
  have key : ∀ t ∈ (assignOf l T).best, t < 4 := by
    unfold assignOf
    rw [assign_pick]
    intro t ht
    rcases pick_mem (endOf l) (listsOf (List.range' 1 T) l.length) ⟨-1, List.replicate l.length 0⟩ with h | h
    · rw [h] at ht
      have := (List.mem_replicate.1 ht).2
      omega
    · have := ((mem_lists _ _ _).1 h).2 t ht
      have := List.mem_range'_1.1 this
      omega
  unfold teamAt
  rw [List.getD_eq_getElem?_getD]
  cases h : (assignOf l T).best[k]? with
  | none => simp
  | some x => exact key x (List.mem_of_getElem? h)
theorem need_mem {l : List Sec} {P : Sec → Prop} (h : ∀ x ∈ l, P x) : ∀ x ∈ needOf l, P x := fun x hx => h x (List.mem_filter.1 hx).1
/-- the jobs of Plan -/
def planJobs (l : List Sec) (T : Nat) : List Job := jobsTo (needOf l) (assignOf (needOf l) T).best (needOf l).length
def planEnd (l : List Sec) (T : Nat) : Int := (assignOf (needOf l) T).least
def PlanPost (w : World) (js : List Job) (n : Int) (x : Int) (e : Ending) (w' : World) : Prop := ∃ A c, e = .returned (.tuple #[.slice A js.length c, .int .i64 n, .int .i64 x]) ∧ js.length ≤ c ∧ Jobs w' A js ∧ Below w.heap.size w w'
theorem Plan_out (A : Option Addr) (c n : Nat) (t : Int) (ht : t < 1 ∨ 3 < t) (w : World) : Calls Try.prog 6 #[.slice A n c, .int .i64 t] w (PlanPost w [] 0 2) := by
  rcases ht with ht | ht
  · go_enter Try.func6, Try.ntmps6
    go_wp2
    go_ret3
    exact ⟨_, _, rfl, Nat.zero_le _, Jobs.nil _ _, Below.refl _ _⟩
  · go_enter Try.func6, Try.ntmps6
    go_wp2
    go_ret3
    exact ⟨_, _, rfl, Nat.zero_le _, Jobs.nil _ _, Below.refl _ _⟩
theorem blk_busy {W : World} {F : Nat} {b : List Int} (h : Blk W F (b.map (Value.int .i64)).toArray 50) (k : Nat) (x : Int) : Blk (W.setCell ⟨F, k, none⟩ (.int .i64 x)) F ((b.set k x).map (Value.int .i64)).toArray 50 := by
  have := h.set k (.int .i64 x)
  rw [set_toArray, ← List.map_set] at this
  exact this
theorem OwnR.far {w : World} {B T k : Nat} {v : Value} {rows : List (List Int)} (h : OwnR w B T k v rows) (p : Addr) (u : Value) (hp : p.block < B) : OwnR (w.setCell p u) B T k v rows := ⟨h.len, ownsRow_setCell_below h.own hp u⟩
theorem OwnR.apart {w : World} {B T k F : Nat} {v : Value} {rows : List (List Int)} (h : OwnR w B T k v rows) (hF : F < B) : some F ≠ v.ownBlock := fun e => by
  have := (h.lt F e.symm).1
  omega
set_option maxHeartbeats 4000000 in
set_option maxRecDepth 100000 in
theorem Plan_any (A : Option Addr) (c : Nat) (l : List Sec) (T : Nat) (hT : 1 ≤ T ∧ T ≤ 3) (hl : l.length ≤ 8) (hs : ∀ x ∈ l, 1 ≤ x.seconds ∧ x.seconds ≤ 86400) (w : World) (hS : Secs w A l) :
    Calls Try.prog 6 #[.slice A l.length c, .int .i64 (T : Int)] w (PlanPost w (planJobs l T) (planEnd l T) 0) := by
  have q1 := Lib.hid (helpless_any A c l w (by omega) hS)
  have hnl := need_length l
  have q2 := fun A' c' W h => Lib.hid (assign_any A' c' (needOf l) T hT (by omega) (need_mem hs) W h)
  have hns := need_mem hs
  have hsm := fun k => assign_small (needOf l) hT.2 k
  have hpl : planJobs l T = jobsTo (needOf l) (assignOf (needOf l) T).best (needOf l).length := rfl
  have hpe : planEnd l T = (assignOf (needOf l) T).least := rfl
  have HPL := Lib.hid hpl
  have HPE := Lib.hid hpe
  have HSM := Lib.hid hsm
  have HNS := Lib.hid hns
  have hn8 : (needOf l).length ≤ 8 := by omega
  clear hpl hpe hsm hs hns hnl
  go_enter Try.func6, Try.ntmps6
  go_wp2_with fail
  refine q1.out.mono ?_
  rintro e w1 ⟨A1, c1, rfl, hc1, hN, hb1⟩
  clear q1
  go_wp2_with fail
  refine (q2 A1 c1 w1 hN).out.mono ?_
  rintro e w2 ⟨A2, c2, rfl, hI, hbl, hb2⟩
  clear q2
  have hN2 := hN.below hb2
  have hbb := hb1.trans (hb2.mono hb1.size)
  clear hb1 hb2 hN
  obtain ⟨best, hbest⟩ : ∃ b, b = (assignOf (needOf l) T).best := ⟨_, rfl⟩
  rw [← hbest] at hI hbl
  have HBE := Lib.hid hbest
  clear hbest
  have hf0 := Blk.new w2 #[.int .i64 0, .int .i64 0, .int .i64 0, .int .i64 0] 50
  have hb3 := hbb.alloc hbb.size (.cells #[.int .i64 0, .int .i64 0, .int .i64 0, .int .i64 0] 50)
  have ha0 := below_alloc w2 (.cells #[.int .i64 0, .int .i64 0, .int .i64 0, .int .i64 0] 50)
  have hsz0 : (w2.alloc (.cells #[.int .i64 0, .int .i64 0, .int .i64 0, .int .i64 0] 50)).heap.size = w2.heap.size + 1 := by simp
  have HF := Lib.hid hf0
  have H3 := Lib.hid (And.intro hb3 ha0)
  clear hf0 hb3 ha0
  go_wp2_with fail
  go_loopw [10, 32] (fun v i wr => ∃ (k : Nat), k ≤ (needOf l).length ∧ i = .int .i64 k ∧ OwnR wr (w2.heap.size + 1) 35 4 v ((jobsTo (needOf l) best k).map Job.row) ∧ Blk wr w2.heap.size ((busyTo (needOf l) best k).map (Value.int .i64)).toArray 50 ∧ Below w2.heap.size w2 wr) (fun _ i _ => (needOf l).length - (intOf i).toNat)
  case atStart => exact ⟨0, Nat.zero_le _, rfl, OwnR.nil _ _ _ _, HF.out, H3.out.2⟩
  case round =>
    obtain ⟨k, hk, rfl, hown, hF, hb⟩ := hrel
    by_cases hlt : k < (needOf l).length
    · have hN3 := hN2.below hb
      have hI3 := hI.below hb
      obtain ⟨b, off, rfl, hc⟩ := hN3 (by omega)
      obtain ⟨h0, h1, h2⟩ := hc k hlt
      obtain ⟨b', off', rfl, hc'⟩ := hI3 (by simp; omega)
      have g0 := hc' k (by simp; omega)
      clear hc hc' hN3 hI3
      simp only [List.getElem_map] at g0
      have ht4 := HSM.out k
      rw [← HBE.out, teamAt_eq (by omega)] at ht4
      have hta := teamAt_eq (a := best) (k := k) (by omega)
      have hsa := secAt_eq hlt
      have hbs := busyTo_succ (needOf l) best k
      have hjs := jobsTo_succ (needOf l) best k
      rw [hbs, hta, hsa] at hjs
      rw [hta, hsa] at hbs
      have hbk := busyTo_ok (a := best) HNS.out k hk
      have hsec := HNS.out _ (List.getElem_mem hlt)
      have hjl := jobsTo_length (needOf l) best k
      have Hjl := Lib.hid hjl
      have Hjs := Lib.hid hjs
      have Hbs := Lib.hid hbs
      clear hjs hbs hta hsa hjl
      generalize best[k] = t at *
      generalize (needOf l)[k] = x at *
      go_upto_region 10 with (fail)
      have ka := below_alloc wr (.cells #[.int .i64 x.id, .int .i64 x.people, .int .i64 x.seconds] 33)
      have hO := Blk.new wr #[.int .i64 x.id, .int .i64 x.people, .int .i64 x.seconds] 33
      have hFlt := hF.lt
      have hap0 : some wr.heap.size ≠ u10.ownBlock := fun e => absurd (hown.lt _ e.symm).2 (Nat.lt_irrefl _)
      replace g0 := cell_later ka g0
      replace hF := hF.alloc (.cells #[.int .i64 x.id, .int .i64 x.people, .int .i64 x.seconds] 33)
      replace hown := hown.alloc (.cells #[.int .i64 x.id, .int .i64 x.people, .int .i64 x.seconds] 33)
      replace hb := hb.alloc hb.size (.cells #[.int .i64 x.id, .int .i64 x.people, .int .i64 x.seconds] 33)
      clear ka h0 h1 h2
      generalize wr.alloc (.cells #[.int .i64 x.id, .int .i64 x.people, .int .i64 x.seconds] 33) = wa at *
      have o0 : wa.cell? ⟨wr.heap.size, 2, none⟩ = some (.int .i64 x.seconds) := hO.cell 2 rfl
      have hk4 : t < (busyTo (needOf l) best k).length := by rw [hbk.1]; exact ht4
      have b1 : wa.cell? ⟨w2.heap.size, t, none⟩ = some (.int .i64 ((busyTo (needOf l) best k).getD t 0)) := hF.cell t (list_at _ hk4)
      have b2 : wa.frozen? ⟨w2.heap.size, t, none⟩ = false := hF.frozen t
      have hbd := hbk.2 t
      have hag := addAt_get hk4 x.seconds
      rw [hag] at Hjs
      have hF1 : Blk (wa.setCell ⟨w2.heap.size, t, none⟩ (.int .i64 ((busyTo (needOf l) best k).getD t 0 + x.seconds))).drew w2.heap.size ((addAt (busyTo (needOf l) best k) t x.seconds).map (Value.int .i64)).toArray 50 := blk_busy hF t _
      have hO1 : Blk (wa.setCell ⟨w2.heap.size, t, none⟩ (.int .i64 ((busyTo (needOf l) best k).getD t 0 + x.seconds))).drew wr.heap.size #[.int .i64 x.id, .int .i64 x.people, .int .i64 x.seconds] 33 := hO.far _ _ (by show wr.heap.size ≠ w2.heap.size; omega)
      have hown1 : OwnR (wa.setCell ⟨w2.heap.size, t, none⟩ (.int .i64 ((busyTo (needOf l) best k).getD t 0 + x.seconds))).drew (w2.heap.size + 1) 35 4 u10 ((jobsTo (needOf l) best k).map Job.row) := (hown.far _ _ (by simp)).drew
      have hb1 : Below w2.heap.size w2 (wa.setCell ⟨w2.heap.size, t, none⟩ (.int .i64 ((busyTo (needOf l) best k).getD t 0 + x.seconds))).drew := (hb.setCell (Nat.le_refl _) _).drew
      have d1 : (wa.setCell ⟨w2.heap.size, t, none⟩ (.int .i64 ((busyTo (needOf l) best k).getD t 0 + x.seconds))).drew.cell? ⟨w2.heap.size, t, none⟩ = some (.int .i64 ((busyTo (needOf l) best k).getD t 0 + x.seconds)) := by
        have := hF1.cell t (list_at _ (by rw [addAt_length]; exact hk4))
        rw [hag] at this
        exact this
      have HH := Lib.hid (And.intro hF1 (And.intro hO1 (And.intro hown1 (And.intro hb1 d1))))
      clear hF1 hO1 hown1 hb1 d1 hag hF hO hown hb
      generalize (busyTo (needOf l) best k).getD t 0 = y at *
      have hadw : IntKind.i64.wrap (y + x.seconds) = y + x.seconds := IntWalk.i64_in _ (by omega)
      have hk4i : (t : Int) < 4 := by omega
      have hk0 : (0 : Int) ≤ (t : Int) := by omega
      go_upto_region 12 with (fail)
      go_still_tail 6, (by kernel_rfl)
      change wpList _ _ _ _ _ wa.drew
      go_upto_region 13 with (fail)
      obtain ⟨hF1, hO1, hown1, hb1, d1⟩ := HH.out
      clear HH b1 b2 o0 g0
      generalize (wa.setCell ⟨w2.heap.size, t, none⟩ (.int .i64 (y + x.seconds))).drew = wd at *
      have o1 : wd.cell? ⟨wr.heap.size, 0, none⟩ = some (.int .i64 x.id) := hO1.cell 0 rfl
      obtain ⟨J, hJ⟩ : ∃ J : Job, J = ⟨t, x.id, y, y + x.seconds⟩ := ⟨_, rfl⟩
      rw [← hJ] at Hjs
      have hsrc : Src (wd.alloc (.cells #[.int .i64 (t : Int), .int .i64 x.id, .int .i64 y, .int .i64 (y + x.seconds)] 35)).drew (some ⟨wd.heap.size, 0, none⟩) 4 [Job.row J] := by
        subst hJ
        exact (Job.one_src wd ⟨t, x.id, y, y + x.seconds⟩).drew
      clear hJ
      have hown2 := (hown1.alloc (.cells #[.int .i64 (t : Int), .int .i64 x.id, .int .i64 y, .int .i64 (y + x.seconds)] 35)).drew
      have hb2 := (hb1.alloc hb1.size (.cells #[.int .i64 (t : Int), .int .i64 x.id, .int .i64 y, .int .i64 (y + x.seconds)] 35)).drew
      have hF2 : Blk (wd.alloc (.cells #[.int .i64 (t : Int), .int .i64 x.id, .int .i64 y, .int .i64 (y + x.seconds)] 35)).drew w2.heap.size ((addAt (busyTo (needOf l) best k) t x.seconds).map (Value.int .i64)).toArray 50 := hF1.alloc _
      have hF2lt := hF2.lt
      clear hO1 hown1 hb1 hF1
      have jl : ((jobsTo (needOf l) best k).map Job.row).length = k := by rw [List.length_map, Hjl.out]
      have n1 : ((jobsTo (needOf l) best k).map Job.row).length + 1 ≤ maxLen := by rw [jl]; simp [maxLen]; omega
      have n2 : (((jobsTo (needOf l) best k).map Job.row).length + 1) * 32 ≤ 140737488355328 := by rw [jl]; omega
      have RL := Lib.hid (Job.row_len [J])
      have JL := Lib.hid jl
      clear jl
      have hapt := hown2.apart (Nat.lt_succ_self w2.heap.size)
      have t2 := Lib.hid (show ((jobsTo (needOf l) best k).map Job.row).length + [Job.row J].length = k + 1 by rw [JL.out]; rfl)
      have o2 : (wd.alloc (.cells #[.int .i64 (t : Int), .int .i64 x.id, .int .i64 y, .int .i64 (y + x.seconds)] 35)).drew.cell? ⟨wr.heap.size, 0, none⟩ = some (.int .i64 x.id) := cell_later (below_alloc wd _).drew o1
      have d2 : (wd.alloc (.cells #[.int .i64 (t : Int), .int .i64 x.id, .int .i64 y, .int .i64 (y + x.seconds)] 35)).drew.cell? ⟨w2.heap.size, t, none⟩ = some (.int .i64 (y + x.seconds)) := cell_later (below_alloc wd _).drew d1
      have O2 := Lib.hid (And.intro o2 d2)
      clear o2 d2
      go_region_held3 (fun w' => w'.cell? ⟨wr.heap.size, 0, none⟩ = some (.int .i64 x.id) ∧ w'.cell? ⟨w2.heap.size, t, none⟩ = some (.int .i64 (y + x.seconds)))
        (first | with_reducible exact hS5 | go_keep)
        (first
          | (refine step_append_rows _ (by rfl) (.tmp 51) (.tmp 60) 23 (by rfl) (w2.heap.size + 1) 35 (.agg #[.int .i64 0, .int .i64 0, .int .i64 0, .int .i64 0]) 4 32 Try.underlying23 Job.info rfl (Nat.zero_lt_succ _) u10 ((jobsTo (needOf l) best k).map Job.row) (by rfl) hown2 (some ⟨wd.heap.size, 0, none⟩) 1 1 [Job.row J] (by rfl) rfl RL.out hsrc n1 n2 hF2lt (k + 1) ((jobsTo (needOf l) best k).map Job.row ++ [Job.row J]) t2.out rfl ?_
             intro A1 c1 w5 own5 hg5 hat5
             have hS5 : w5.cell? ⟨wr.heap.size, 0, none⟩ = some (.int .i64 x.id) ∧ w5.cell? ⟨w2.heap.size, t, none⟩ = some (.int .i64 (y + x.seconds)) := ⟨hg5.cell O2.out.1 hap0, hg5.cell O2.out.2 hapt⟩))
      have hb5 := Below.ownR hb2 hown2 hg5 (Nat.le_succ _) hb2.size
      have hF5 := hF2.kept hg5 hapt
      clear hg5 hat5 hown2 hb2 hF2 hsrc
      go_wp2
      go_roundw
      case rel => exact ⟨k + 1, by omega, by go_num, by rw [Hjs.out, List.map_append]; exact own5, by rw [Hbs.out]; exact hF5, hb5⟩
      case measure => simp [intOf]; omega
    · have hke : k = (needOf l).length := by omega
      subst hke
      obtain ⟨A', c', rfl, hi⟩ := hown.form
      have hcp := hown.cap
      have hjl := jobsTo_length (needOf l) best (needOf l).length
      have hj := Jobs.of_src hi
      have hbz := hbb.trans (hb.mono hbb.size)
      simp only [List.length_map] at hcp
      rw [HBE.out, ← HPL.out] at hcp hj hjl
      rw [List.length_map, HBE.out, ← HPL.out]
      clear hown hF hb hi
      go_wp2
      go_ret3
      rw [← HPE.out]
      exact ⟨A', c', rfl, hcp.2, hj, hbz⟩
end Go.Proofs.Ytogaepijfbgniaa
