/- Contracts: the reference's Plan. -/
import Derived.Test.YtidlbhheakhkhaaW8
import Derived.Test.YtidlbhheakhkhaaPlain5
namespace Go.Proofs.Ytidlbhheakhkhaa
open Go.RowKit Go.Deep
set_option linter.unusedVariables false
theorem refPlan_out (A : Option Addr) (c n : Nat) (t : Int) (ht : t < 1 ∨ 3 < t) (w : World) : Calls Try.prog 15 #[.slice A n c, .int .i64 t] w (PlanPost w [] 0 2) := by
  rcases ht with ht | ht
  · go_enter Try.func15, Try.ntmps15
    go_wp2
    go_ret3
    exact ⟨_, _, rfl, Nat.zero_le _, Jobs.nil _ _, Below.refl _ _⟩
  · go_enter Try.func15, Try.ntmps15
    go_wp2
    go_ret3
    exact ⟨_, _, rfl, Nat.zero_le _, Jobs.nil _ _, Below.refl _ _⟩
theorem w64 (x : Int) (h : -9223372036854775808 ≤ x ∧ x ≤ 9223372036854775807) : wrap64 x = x := by unfold wrap64; omega
theorem lists_ne {T : Nat} (hT : 1 ≤ T) (n : Nat) : listsOf (List.range' 1 T) n ≠ [] := fun h => by
  have := lists_length (T := T) n
  rw [h] at this
  have hp := Nat.pow_pos (n := n) (show 0 < T by omega)
  simp at this
  omega
theorem endOf_ok {l : List Sec} (hs : ∀ x ∈ l, 1 ≤ x.seconds ∧ x.seconds ≤ 86400) (a : List Nat) : 0 ≤ endOf l a ∧ endOf l a ≤ 86400 * l.length := maxL_ok (busyTo_ok (a := a) hs _ (Nat.le_refl _))
/-- what assign tells is the best one -/
theorem assign_best {l : List Sec} (hs : ∀ x ∈ l, 1 ≤ x.seconds ∧ x.seconds ≤ 86400) {T : Nat} (hT : 1 ≤ T) (s0 : Look) (h0 : s0.least < 0) (s : Look) (h : s = pick (endOf l) (listsOf (List.range' 1 T) l.length) s0) : 0 ≤ s.least ∧ s.least = endOf l s.best ∧ s.best.length = l.length ∧ (∀ t ∈ s.best, 1 ≤ t ∧ t ≤ T) ∧ ∀ a, a.length = l.length → (∀ t ∈ a, 1 ≤ t ∧ t ≤ T) → s.least ≤ endOf l a := by
  obtain ⟨b1, b2, b3⟩ := pick_best (endOf l) _ s0 (fun a _ => (endOf_ok hs a).1) h0 (lists_ne hT l.length)
  rw [← h] at b1 b2 b3
  obtain ⟨m1, m2⟩ := (mem_lists _ _ _).1 b1
  refine ⟨by rw [b2]; exact (endOf_ok hs _).1, b2, m1, fun t ht => ?_, fun a ha hta => b3 a ((mem_lists _ _ _).2 ⟨ha, fun t ht => ?_⟩)⟩
  · have := List.mem_range'_1.1 (m2 t ht); omega
  · have := hta t ht
    exact List.mem_range'_1.2 (by omega)
theorem pow_small {T n : Nat} (hT : T ≤ 3) (hn : n ≤ 8) : T ^ n ≤ 6561 := Nat.le_trans (Nat.pow_le_pow_left hT n) (Nat.pow_le_pow_right (by omega) hn)
theorem mul_int (m T : Nat) (hm : m ≤ 6561) (hT : T ≤ 3) : IntKind.i64.wrap ((m : Int) * (T : Int)) = ((m * T : Nat) : Int) := by
  have h : m * T ≤ 6561 * 3 := Nat.mul_le_mul hm hT
  rw [show ((m : Int) * (T : Int)) = ((m * T : Nat) : Int) by push_cast; rfl]
  exact IntWalk.i64_in _ (by omega)
/-- the best jobs so far -/
def jobsAt (l : List Sec) (s : Look) : List Job := if s.least < 0 then [] else jobsTo l s.best l.length
set_option maxHeartbeats 4000000 in
set_option maxRecDepth 100000 in
theorem refPlan_any (A : Option Addr) (c : Nat) (l : List Sec) (T : Nat) (hT : 1 ≤ T ∧ T ≤ 3) (hl : l.length ≤ 8) (hs : ∀ x ∈ l, 1 ≤ x.seconds ∧ x.seconds ≤ 86400) (w : World) (hS : Secs w A l) :
    Calls Try.prog 15 #[.slice A l.length c, .int .i64 (T : Int)] w (PlanPost w (planJobs l T) (planEnd l T) 0) := by
  have q1 := Lib.hid (need_any A c l w (by omega) hS)
  have hnl := need_length l
  have hns := need_mem hs
  have hpl : planJobs l T = jobsTo (needOf l) (assignOf (needOf l) T).best (needOf l).length := rfl
  have hpe : planEnd l T = (assignOf (needOf l) T).least := rfl
  have has : assignOf (needOf l) T = pick (endOf (needOf l)) (listsOf (List.range' 1 T) (needOf l).length) ⟨-1, List.replicate (needOf l).length 0⟩ := assign_pick _ _ _
  rw [has] at hpl hpe
  have HPL := Lib.hid hpl
  have HPE := Lib.hid hpe
  have HNS := Lib.hid hns
  have hn8 : (needOf l).length ≤ 8 := by omega
  clear hpl hpe hs hns hnl has
  go_enter Try.func15, Try.ntmps15
  go_wp2_with fail
  refine q1.out.mono ?_
  rintro e w1 ⟨A1, c1, rfl, hc1, hN, hb1⟩
  clear q1 hS
  generalize needOf l = h at *
  go_wp2_with fail
  go_loopw [8, 9] (fun al i wr => ∃ (k : Nat), k ≤ h.length ∧ i = .int .i64 k ∧ al = .int .i64 ((T ^ k : Nat) : Int) ∧ w1 = wr) (fun _ i _ => h.length - (intOf i).toNat)
  case atStart => exact ⟨0, Nat.zero_le _, rfl, rfl, rfl⟩
  case round =>
    obtain ⟨k, hk, rfl, rfl, rfl⟩ := hrel
    by_cases hlt : k < h.length
    · have hp := pow_small (n := k) hT.2 (by omega)
      have hpp : T ^ (k + 1) = T ^ k * T := Nat.pow_succ ..
      have Hpp := Lib.hid hpp
      clear hpp
      generalize T ^ k = m at *
      have hmw := mul_int m T hp hT.2
      go_wp2
      go_roundw
      case rel => exact ⟨k + 1, by omega, by go_num, by rw [Hpp.out, Int.natCast_mul], trivial⟩
      case measure => simp [intOf]; omega
    · have hke : k = h.length := by omega
      subst hke
      have hp := pow_small (n := h.length) hT.2 hn8
      have HLL := Lib.hid (lists_length (T := T) h.length)
      have HEND := Lib.hid (fun N => digits_end (T := T) HNS.out hT h.length N)
      have HPS := Lib.hid (fun (s : Look) N hN => pick_digits (endOf h) (T := T) (by omega) h.length s (N := N) hN)
      have HDL := Lib.hid (fun N => digits_length T h.length N)
      generalize T ^ h.length = all at *
      go_wp2_with fail
      go_loopw [10, 11, 12] (fun v le i wx => ∃ (k : Nat) (s : Look) (A' : Option Addr) (c' : Nat), k ≤ all ∧ i = .int .i64 k ∧ s = pick (endOf h) ((listsOf (List.range' 1 T) h.length).take k) ⟨-1, List.replicate h.length 0⟩ ∧ le = .int .i64 s.least ∧ v = .slice A' (jobsAt h s).length c' ∧ (jobsAt h s).length ≤ c' ∧ Jobs wx A' (jobsAt h s) ∧ Below w1.heap.size w1 wx) (fun _ _ i _ => all - (intOf i).toNat)
      case atStart => exact ⟨0, _, none, 0, Nat.zero_le _, rfl, rfl, rfl, rfl, Nat.zero_le _, Jobs.nil _ _, Below.refl _ _⟩
      case round =>
        obtain ⟨k, s, A', c', hk, rfl, hs, rfl, rfl, hc', hj, hb2⟩ := hrel
        by_cases hlt : k < all
        · have Hs := Lib.hid hs
          clear hs
          have hmk : ∀ W, (Instr.makeSlice 47 (.int .i64 (h.length : Int)) (.int .i64 (h.length : Int))).run Try.prog W = .ok (.slice (some ⟨W.heap.size, 0, none⟩) h.length h.length) (W.alloc (.cells (madeCells #[Value.int .i64 0] h.length) 3)) := fun W => run_make_row' (P := Try.prog) 47 3 (.int .i64 0) 8 Try.underlying47 info3 rfl .i64 .i64 h.length (by omega) (by omega) W
          obtain ⟨wo, hwo⟩ : ∃ wo, wo = wr := ⟨_, rfl⟩
          subst hwo
          have hB0 : Blk (wo.alloc (.cells (madeCells #[Value.int .i64 0] h.length) 3)) wo.heap.size ((List.replicate h.length 0).map nat).toArray 3 := by
            rw [← made_nat]
            exact Blk.new wo _ 3
          have hbA := below_alloc wo (.cells (madeCells #[Value.int .i64 0] h.length) 3)
          have HA := Lib.hid (And.intro hB0 hbA)
          clear hB0 hbA
          go_wp2_with fail
          go_loopw [14, 15] (fun re i wx => ∃ (m rest : Nat) (suf : List Nat), i = .int .i64 ((m : Int) - 1) ∧ re = .int .i64 (rest : Int) ∧ rest ≤ 6561 ∧ m + suf.length = h.length ∧ digits T h.length k = digits T m rest ++ suf ∧ Blk wx wo.heap.size ((List.replicate m 0 ++ suf).map nat).toArray 3 ∧ Below wo.heap.size wo wx) (fun _ i _ => (intOf i + 1).toNat)
          case atStart => exact ⟨h.length, k, [], rfl, rfl, by omega, by simp, by simp, by rw [List.append_nil]; exact HA.out.1, HA.out.2⟩
          case round =>
            obtain ⟨m, rest, suf, rfl, rfl, hr, hml, hdg, hB, hbo⟩ := hrel
            by_cases hm : 1 ≤ m
            · have hms : (m : Int) - 1 = ((m - 1 : Nat) : Int) := by omega
              rw [digits_last T m rest hm] at hdg
              have Hdg := Lib.hid hdg
              have hset : Blk (wr.setCell ⟨wo.heap.size, m - 1, none⟩ (.int .i64 ((1 + rest % T : Nat) : Int))) wo.heap.size ((List.replicate (m - 1) 0 ++ (1 + rest % T) :: suf).map nat).toArray 3 := by
                have := hB.set (m - 1) (nat (1 + rest % T))
                rw [set_toArray, ← List.map_set, fill_set m hm] at this
                exact this
              have b1 : wr.cell? ⟨wo.heap.size, m - 1, none⟩ = some (.int .i64 0) := hB.cell (m - 1) (by
                simp only [List.getElem?_toArray, List.getElem?_map]
                rw [List.getElem?_append_left (by simp; omega), List.getElem?_replicate, if_pos (by omega)]
                rfl)
              have b2 : wr.frozen? ⟨wo.heap.size, m - 1, none⟩ = false := hB.frozen (m - 1)
              have hbs := hbo.setCell (p := ⟨wo.heap.size, m - 1, none⟩) (Nat.le_refl _) (.int .i64 ((1 + rest % T : Nat) : Int))
              have HS := Lib.hid (And.intro hset hbs)
              have hmod : IntKind.i64.wrap ((rest : Int) % (T : Int)) = ((rest % T : Nat) : Int) := by
                have := Nat.mod_lt rest (show 0 < T by omega)
                rw [show (rest : Int) % (T : Int) = ((rest % T : Nat) : Int) by push_cast; rfl]
                exact IntWalk.i64_in _ (by omega)
              clear hset hbs hdg hB
              rw [hms]
              have hw1 : wrap64 ((rest : Int) / (T : Int)) = ((rest / T : Nat) : Int) := by
                have := Nat.div_le_self rest T
                rw [show (rest : Int) / (T : Int) = ((rest / T : Nat) : Int) by push_cast; rfl]
                generalize rest / T = z at *
                exact w64 _ (by omega)
              have hw2 : wrap64 (1 + (rest : Int) % (T : Int)) = ((1 + rest % T : Nat) : Int) := by
                have := Nat.mod_lt rest (show 0 < T by omega)
                rw [show 1 + (rest : Int) % (T : Int) = ((1 + rest % T : Nat) : Int) by push_cast; rfl]
                exact w64 _ (by omega)
              have HW := Lib.hid (And.intro hw1 hw2)
              clear hw1 hw2
              go_wp2
              go_roundw
              case rel =>
                rw [HW.out.1, HW.out.2]
                have := Nat.div_le_self rest T
                exact ⟨m - 1, rest / T, (1 + rest % T) :: suf, rfl, rfl, by omega, by rw [List.length_cons]; omega, Hdg.out, HS.out.1, HS.out.2⟩
              case measure => first | (simp [intOf]; done) | (simp [intOf]; omega)
            · obtain rfl : m = 0 := by omega
              have hdg' : suf = digits T h.length k := by rw [hdg]; rfl
              subst hdg'
              have hI : Ints wr (some ⟨wo.heap.size, 0, none⟩) ((digits T h.length k).map fun n : Nat => (n : Int)) := fun _ => by
                refine ⟨_, _, rfl, fun i hi => ?_⟩
                rw [Nat.zero_add]
                refine hB.cell i ?_
                simp at hi
                simp [hi, nat]
              have hN2 := hN.below (hb2.trans (hbo.mono hb2.size))
              have hbb := hb2.trans (hbo.mono hb2.size)
              have hjj := hj.below hbo
              have q0 := jobs_any A1 (some ⟨wo.heap.size, 0, none⟩) c1 h.length h (digits T h.length k) hn8 (HDL.out k) (fun i _ => (HEND.out k).1 i) HNS.out wr hN2 hI
              rw [(HEND.out k).2] at q0
              have q := Lib.hid q0
              have hps := HPS.out ⟨-1, List.replicate h.length 0⟩ k hlt
              rw [← Hs.out] at hps
              have Hps := Lib.hid hps
              have hE0 := (endOf_ok HNS.out (digits T h.length k)).1
              have hJ : ∀ E, 0 ≤ E → jobsAt h ⟨E, digits T h.length k⟩ = jobsTo h (digits T h.length k) h.length := fun E hE => if_neg (by show ¬ E < 0; omega)
              have HJ := Lib.hid (hJ _ hE0)
              have HJL := Lib.hid (jobsTo_length h (digits T h.length k) h.length)
              clear hB hbo hj hb2 hI hdg HA hml q0 hps hJ
              have hyes : Hid ((s.least < 0 ∨ endOf h (digits T h.length k) < s.least) → upd s (endOf h (digits T h.length k)) (digits T h.length k) = ⟨endOf h (digits T h.length k), digits T h.length k⟩) := Lib.hid (fun h => by unfold upd; rw [if_pos h])
              have hno : Hid (¬ (s.least < 0 ∨ endOf h (digits T h.length k) < s.least) → upd s (endOf h (digits T h.length k)) (digits T h.length k) = s) := Lib.hid (fun h => by unfold upd; rw [if_neg h])
              go_wp2_with fail
              refine q.out.mono ?_
              rintro e w5 ⟨A5, c5, rfl, hc5, hj5, hb5⟩
              have hb6 := hbb.trans (hb5.mono hbb.size)
              have hj6 := hjj.below hb5
              clear q hmk hN2 hbb hjj
              by_cases hc : s.least < 0 ∨ endOf h (digits T h.length k) < s.least
              · have Hy := Lib.hid (hyes.out hc)
                clear hyes hno
                rcases hc with hc | hc
                all_goals
                  go_wp2
                  go_roundw
                  case rel =>
                    refine ⟨k + 1, ⟨endOf h (digits T h.length k), digits T h.length k⟩, A5, c5, by omega, by go_num, by rw [← Hy.out, Hps.out], rfl, ?_, ?_, ?_, hb6⟩
                    · rw [HJ.out, HJL.out]
                    · rw [HJ.out, HJL.out]; exact hc5
                    · rw [HJ.out]; exact hj5
                  case measure => simp [intOf]; omega
              · have Hy := Lib.hid (hno.out hc)
                clear hyes hno
                have hc1 : 0 ≤ s.least := by omega
                have hc2 : s.least ≤ endOf h (digits T h.length k) := by omega
                clear hc
                go_wp2
                go_roundw
                case rel => exact ⟨k + 1, s, A', c', by omega, by go_num, by rw [Hps.out, Hy.out], rfl, rfl, hc', hj6, hb6⟩
                case measure => simp [intOf]; omega
        · have hke : k = all := by omega
          subst hke
          rw [List.take_of_length_le (by rw [HLL.out]; exact Nat.le_refl _)] at hs
          obtain ⟨a1, _⟩ := assign_best HNS.out hT.1 ⟨-1, _⟩ (by show (-1 : Int) < 0; decide) s hs
          have hja : jobsAt h s = planJobs l T := by
            rw [HPL.out, ← hs]
            exact if_neg (by omega)
          rw [hja] at hc' hj ⊢
          rw [← hs] at HPE
          have HPE2 := Lib.hid HPE.out
          clear hs hja HPL
          go_wp2
          go_ret3
          rw [HPE2.out]
          exact ⟨A', c', rfl, hc', hj, hb1.trans (hb2.mono hb1.size)⟩
end Go.Proofs.Ytidlbhheakhkhaa
