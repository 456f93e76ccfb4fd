/- WeatherHolds: an alarm becomes active only by a value of at least On, and ends only after values have been low for its whole hold time; no condition. -/
import Derived.Test.YtjnokdpliocmmaaLaw0
import Derived.Test.YtjnokdpliocmmaaAbove
import Derived.Deep.DeepCutAuto
import Derived.Deep.RegionHeld3
namespace Go.Proofs.Ytjnokdpliocmmaa.weatherHolds
open Go.RowKit Go.ChangeShapes Go.WideShapes Go.ChangeAt
set_option linter.unusedVariables false
def AlarmAt (W : World) (p : Nat) (a : Alarm) : Prop := W.cell? ⟨p, 0, none⟩ = some (.int .i64 a.on) ∧ W.cell? ⟨p, 1, none⟩ = some (.int .i64 a.off) ∧ W.cell? ⟨p, 2, none⟩ = some (.int .i64 a.hold) ∧ W.cell? ⟨p, 3, none⟩ = some (.bool a.active) ∧ W.cell? ⟨p, 4, none⟩ = some (.int .i64 a.low) ∧ W.frozen? ⟨p, 0, none⟩ = false ∧ W.frozen? ⟨p, 1, none⟩ = false ∧ W.frozen? ⟨p, 2, none⟩ = false ∧ W.frozen? ⟨p, 3, none⟩ = false ∧ W.frozen? ⟨p, 4, none⟩ = false
theorem AlarmAt.lt {W : World} {p : Nat} {a : Alarm} (h : AlarmAt W p a) : p < W.heap.size := World.block_lt_of_cell? _ _ h.1
theorem AlarmAt.of_blk {W : World} {p : Nat} {a : Alarm} (h : Blk W p #[.int .i64 a.on, .int .i64 a.off, .int .i64 a.hold, .bool a.active, .int .i64 a.low] 39) : AlarmAt W p a :=
  ⟨h.cell 0 rfl, h.cell 1 rfl, h.cell 2 rfl, h.cell 3 rfl, h.cell 4 rfl, h.frozen 0, h.frozen 1, h.frozen 2, h.frozen 3, h.frozen 4⟩
theorem AlarmAt.below {W W' : World} {p : Nat} {a : Alarm} (h : AlarmAt W p a) (hb : Below W.heap.size W W') : AlarmAt W' p a := by
  have hlt := h.lt
  obtain ⟨h0, h1, h2, h3, h4, f0, f1, f2, f3, f4⟩ := h
  exact ⟨cell_later hb h0, cell_later hb h1, cell_later hb h2, cell_later hb h3, cell_later hb h4,
    (hb.frozen (p := ⟨p, 0, none⟩) hlt).trans f0, (hb.frozen (p := ⟨p, 1, none⟩) hlt).trans f1, (hb.frozen (p := ⟨p, 2, none⟩) hlt).trans f2, (hb.frozen (p := ⟨p, 3, none⟩) hlt).trans f3, (hb.frozen (p := ⟨p, 4, none⟩) hlt).trans f4⟩
theorem AlarmAt.drewN {W : World} {p : Nat} {a : Alarm} (h : AlarmAt W p a) (n : Nat) : AlarmAt (W.drewN n) p a := h
theorem alarmAt_set {W : World} {p : Nat} {a b : Alarm} (h : AlarmAt W p a) : AlarmAt (((((W.setCell ⟨p, 0, none⟩ (.int .i64 b.on)).setCell ⟨p, 1, none⟩ (.int .i64 b.off)).setCell ⟨p, 2, none⟩ (.int .i64 b.hold)).setCell ⟨p, 3, none⟩ (.bool b.active)).setCell ⟨p, 4, none⟩ (.int .i64 b.low)) p b := by
  obtain ⟨h0, h1, h2, h3, h4, f0, f1, f2, f3, f4⟩ := h
  refine ⟨?_, ?_, ?_, ?_, ?_, ?_, ?_, ?_, ?_, ?_⟩ <;> go_simp
theorem alarm_neq (x : Alarm) (w : World) : (binOp .neq 39 (.agg #[.int .i64 x.on, .int .i64 x.off, .int .i64 x.hold, .bool x.active, .int .i64 x.low]) (.agg #[.int .i64 x.on, .int .i64 x.off, .int .i64 x.hold, .bool x.active, .int .i64 x.low])).run Try.prog w = .ok (.bool false) w := by
  go_simp
/-- what a step that is no error does -/
structure OkStep (a : Alarm) (v t : Int) (b : Alarm) : Prop where
  on : b.on = a.on
  off : b.off = a.off
  hold : b.hold = a.hold
  t0 : 0 ≤ t
  t1 : t ≤ 20000000
  lowle : b.low ≤ t
  rise : b.active = true → a.active = false → a.on ≤ v
  fall : a.active = true → b.active = false → 0 ≤ b.low ∧ a.hold ≤ t - b.low
  stay : b.active = true → 0 ≤ b.low → v < a.on ∧ t - b.low < a.hold
  high : a.off ≤ v → b.low < 0
  first : v < a.off → a.low < 0 → b.low = t
  later : v < a.off → 0 ≤ a.low → b.low = a.low
theorem ff {b : Bool} (h1 : b = true) (h2 : b = false) : False := by
  rw [h1] at h2
  cases h2
theorem upd_cases (a : Alarm) (v t : Int) : updOf a v t = (a, 2) ∨ ((updOf a v t).2 = 0 ∧ OkStep a v t (updOf a v t).1) := by
  obtain ⟨on, off, hold, active, low⟩ := a
  by_cases hr : 0 ≤ off ∧ off ≤ on ∧ 0 ≤ hold ∧ hold ≤ 86400 ∧ 0 ≤ v ∧ 0 ≤ t ∧ t ≤ 20000000 ∧ low ≤ t
  · right
    unfold updOf
    rw [if_pos hr]
    simp only
    by_cases c1 : on ≤ v
    · rw [if_pos c1]
      exact ⟨rfl, ⟨rfl, rfl, rfl, by omega, by omega, by simp only; omega, fun _ _ => c1, fun _ h => by simp at h, fun _ h => by simp only at h; omega, fun _ => by simp only; omega, fun h => by simp only at h; omega, fun h => by simp only at h; omega⟩⟩
    · rw [if_neg c1]
      by_cases c2 : off ≤ v
      · rw [if_pos c2]
        exact ⟨rfl, ⟨rfl, rfl, rfl, by omega, by omega, by simp only; omega, fun h1 h2 => (ff h1 h2).elim, fun h1 h2 => (ff h1 h2).elim, fun _ h => by simp only at h; omega, fun _ => by simp only; omega, fun h => by simp only at h; omega, fun h => by simp only at h; omega⟩⟩
      · rw [if_neg c2]
        by_cases c3 : low < 0
        · rw [if_pos c3]
          by_cases c4 : hold ≤ t - t
          · rw [if_pos c4]
            exact ⟨rfl, ⟨rfl, rfl, rfl, by omega, by omega, by simp only; omega, fun h => by simp at h, fun _ _ => by simp only; omega, fun h => by simp at h, fun h => by simp only at h; omega, fun _ _ => rfl, fun _ h => by simp only at h; omega⟩⟩
          · rw [if_neg c4]
            exact ⟨rfl, ⟨rfl, rfl, rfl, by omega, by omega, by simp only; omega, fun h1 h2 => (ff h1 h2).elim, fun h1 h2 => (ff h1 h2).elim, fun _ _ => by simp only; omega, fun h => by simp only at h; omega, fun _ _ => rfl, fun _ h => by simp only at h; omega⟩⟩
        · rw [if_neg c3]
          by_cases c4 : hold ≤ t - low
          · rw [if_pos c4]
            exact ⟨rfl, ⟨rfl, rfl, rfl, by omega, by omega, by simp only; omega, fun h => by simp at h, fun _ _ => by simp only; omega, fun h => by simp at h, fun h => by simp only at h; omega, fun _ h => by simp only at h; omega, fun _ _ => rfl⟩⟩
          · rw [if_neg c4]
            exact ⟨rfl, ⟨rfl, rfl, rfl, by omega, by omega, by simp only; omega, fun h1 h2 => (ff h1 h2).elim, fun h1 h2 => (ff h1 h2).elim, fun _ _ => by simp only; omega, fun h => by simp only at h; omega, fun _ h => by simp only at h; omega, fun _ _ => rfl⟩⟩
  · left
    unfold updOf
    rw [if_neg hr]
theorem upd_any2 (a : Alarm) (v t : Int) (q : Alarm × Int) (hq : updOf a v t = q) (w : World) : Calls Try.prog 22 #[.agg #[.int .i64 a.on, .int .i64 a.off, .int .i64 a.hold, .bool a.active, .int .i64 a.low], .int .i64 v, .int .i64 t] w fun e w' => e = .returned (.tuple #[.agg #[.int .i64 q.1.on, .int .i64 q.1.off, .int .i64 q.1.hold, .bool q.1.active, .int .i64 q.1.low], .int .i64 q.2]) ∧ Below w.heap.size w w' := by
  subst hq
  exact Update_any a v t w
set_option maxHeartbeats 8000000 in
set_option maxRecDepth 100000 in
theorem walk (a0 : Alarm) (A : Option Addr) (c : Nat) (l : List Val) (w : World) (_h : I64 a0.on ∧ I64 a0.off ∧ I64 a0.hold ∧ I64 a0.low) (_hm : l.length ≤ c ∧ c ≤ maxLen) (hv : Vals w A l ∧ ∀ x ∈ l, x.I) (hr : l.length * Try.prog.bytesOf 45 ≤ reachBytes) : Calls Try.prog 8 #[a0.val, .slice A l.length c] w fun e w' => e = .returned (.bool true) ∧ Below w.heap.size w w' := by
  have hv := hv.1
  have hr := len_ok2 hr
  clear _hm _h
  have hb0 := below_alloc w (.cells #[.int .i64 a0.on, .int .i64 a0.off, .int .i64 a0.hold, .bool a0.active, .int .i64 a0.low] 39)
  have bA := AlarmAt.of_blk (Blk.new w #[.int .i64 a0.on, .int .i64 a0.off, .int .i64 a0.hold, .bool a0.active, .int .i64 a0.low] 39)
  unfold Alarm.val
  go_enter Try.func8, Try.ntmps8
  go_wp2_with fail
  refine (alive_any _).mono ?_
  rintro e w1 ⟨rfl, hb1⟩
  replace bA := bA.below hb1
  have B1 := hb0.trans (hb1.mono hb0.size)
  clear hb0 hb1
  have bA0 := bA
  obtain ⟨h0, h1, h2, h3, h4, f0, f1, f2, f3, f4⟩ := bA0
  go_wp2_with fail
  go_quiet (fail)
  clear h0 h1 h2 h3 h4 f0 f1 f2 f3 f4
  go_wp2_with fail
  go_loopw [5, 6, 7] (fun lo si i wr => ∃ (k : Nat) (a : Alarm) (s : Int), k ≤ l.length ∧ i = .int .i64 k ∧ lo = .bool (decide (0 ≤ a.low)) ∧ si = .int .i64 s ∧ (0 ≤ a.low → s = a.low) ∧ AlarmAt wr w.heap.size a ∧ Below w.heap.size w wr) (fun _ _ i _ => l.length - (intOf i).toNat)
  case atStart => exact ⟨0, a0, a0.low, Nat.zero_le _, rfl, rfl, rfl, fun _ => rfl, bA.drewN _, below_dn B1 _⟩
  case round =>
    clear bA B1
    obtain ⟨k, a, s, hk, rfl, rfl, rfl, hs, bA, B⟩ := hrel
    have Hs := Lib.hid hs
    clear hs
    by_cases hlt : k < l.length ∧ k < 100
    · obtain ⟨hlt, hk1⟩ := hlt
      obtain ⟨b, ov, rfl, hc⟩ := hv (by omega)
      obtain ⟨c0, c1⟩ := hc k hlt
      have v0 := cell_later B c0
      have v1 := cell_later B c1
      clear c0 c1 hc
      generalize l[k] = x at *
      obtain ⟨v, t⟩ := x
      simp only at v0 v1
      obtain ⟨q, hq⟩ : ∃ q, updOf a v t = q := ⟨_, rfl⟩
      have hU := fun W => Lib.hid (upd_any2 a v t q hq W)
      have hca := upd_cases a v t
      rw [hq] at hca
      have Hca := Lib.hid hca
      clear hca hq
      have hki : (k : Int) < (l.length : Int) := by omega
      have hk0 : (0 : Int) ≤ (k : Int) := by omega
      have bA0 := bA
      obtain ⟨h0, h1, h2, h3, h4, f0, f1, f2, f3, f4⟩ := bA0
      go_upto_region 7 with (fail)
      go_cut [8, 9] (fun bx y wx => ∃ g : Nat, bx = .pointer (some ⟨g, 0, none⟩) ∧ y = .int .i64 q.2 ∧ AlarmAt wx g q.1 ∧ Below wr.heap.size wr wx)
      case first =>
        have bZ := Blk.new wr #[.int .i64 0, .int .i64 0, .int .i64 0, .bool false, .int .i64 0] 39
        have s0 := fun (w' : World) (hw : Below wr.heap.size wr w') => cell_later hw h0
        have s1 := fun (w' : World) (hw : Below wr.heap.size wr w') => cell_later hw h1
        have s2 := fun (w' : World) (hw : Below wr.heap.size wr w') => cell_later hw h2
        have s3 := fun (w' : World) (hw : Below wr.heap.size wr w') => cell_later hw h3
        have s4 := fun (w' : World) (hw : Below wr.heap.size wr w') => cell_later hw h4
        have s5 := fun (w' : World) (hw : Below wr.heap.size wr w') => cell_later hw v0
        have s6 := fun (w' : World) (hw : Below wr.heap.size wr w') => cell_later hw v1
        have hb2 := Below.refl wr.heap.size wr
        clear h0 h1 h2 h3 h4 f0 f1 f2 f3 f4 v0 v1
        go_region_held3 (fun w' => Below wr.heap.size wr w')
          (first | (with_reducible exact hb2) | (with_reducible exact hb2.drew) | (with_reducible exact hb2.alloc hb2.size _) | (with_reducible exact (hb2.alloc hb2.size _).drew) | (exact (((((hb2.setCell (p := ⟨wr.heap.size, 0, none⟩) (Nat.le_refl wr.heap.size) _).setCell (p := ⟨wr.heap.size, 1, none⟩) (Nat.le_refl wr.heap.size) _).setCell (p := ⟨wr.heap.size, 2, none⟩) (Nat.le_refl wr.heap.size) _).setCell (p := ⟨wr.heap.size, 3, none⟩) (Nat.le_refl wr.heap.size) _).setCell (p := ⟨wr.heap.size, 4, none⟩) (Nat.le_refl wr.heap.size) _)))
          ((first
            | (go_at_call 22; (with_reducible refine (hU wr.drew).out.mono ?_); rintro e w2 ⟨rfl, hb3⟩; have hb2 : Below wr.heap.size wr w2 := (Below.refl _ wr).drew.trans hb3)
            | (go_at_call 22; (with_reducible refine (hU (wr.alloc (.cells #[.int .i64 0, .int .i64 0, .int .i64 0, .bool false, .int .i64 0] 39)).drew).out.mono ?_); rintro e w2 ⟨rfl, hb3⟩; have hb2 : Below wr.heap.size wr w2 := (below_alloc wr (.cells #[.int .i64 0, .int .i64 0, .int .i64 0, .bool false, .int .i64 0] 39)).drew.trans (hb3.mono (by simp)); have zz := bZ.below (((Below.refl _ _).drew).trans hb3); have z0 := zz.cell 0 (v := .int .i64 0) rfl; have z1 := zz.cell 1 (v := .int .i64 0) rfl; have z2 := zz.cell 2 (v := .int .i64 0) rfl; have z3 := zz.cell 3 (v := .bool false) rfl; have z4 := zz.cell 4 (v := .int .i64 0) rfl; have y0 := zz.frozen 0; have y1 := zz.frozen 1; have y2 := zz.frozen 2; have y3 := zz.frozen 3; have y4 := zz.frozen 4; have zA : AlarmAt w2 wr.heap.size ⟨0, 0, 0, false, 0⟩ := AlarmAt.of_blk zz; clear zz hb3)))
        · go_wp2_with fail
          go_meet
          exact ⟨_, rfl, rfl, AlarmAt.of_blk (Blk.new _ _ _), by assumption⟩
        · go_wp2_with fail
          go_meet
          exact ⟨_, rfl, rfl, alarmAt_set zA, by assumption⟩
      case rest =>
        obtain ⟨g, rfl, rfl, bB, hbx⟩ := hcut
        replace bA := bA.below hbx
        replace v0 := cell_later hbx v0
        replace v1 := cell_later hbx v1
        have BB := B.trans (hbx.mono B.size)
        clear h0 h1 h2 h3 h4 f0 f1 f2 f3 f4 hbx B hU
        rcases Hca.out with he | ⟨hy, hst⟩
        · subst he
          clear Hca
          simp only at bB ⊢
          have hne := alarm_neq a
          have bA1 := bA
          have bB1 := bB
          obtain ⟨a0, a1, a2, a3, a4, fa0, fa1, fa2, fa3, fa4⟩ := bA1
          obtain ⟨b0, b1, b2, b3, b4, fb0, fb1, fb2, fb3, fb4⟩ := bB1
          go_wp2
          go_roundw
          case rel => exact ⟨k + 1, a, s, by omega, by go_num, rfl, rfl, Hs.out, bA, BB⟩
          case measure => simp [intOf]; omega
        · clear Hca
          obtain ⟨q1, q2⟩ := q
          obtain ⟨on', off', hold', act', low'⟩ := q1
          obtain ⟨on, off, hold, act, low⟩ := a
          simp only at hy bB hst Hs ⊢
          subst hy
          obtain ⟨rfl, rfl, rfl, t0, t1, lowle, rise, fall, stay, high, first, later⟩ := hst
          simp only at lowle rise fall stay high first later
          replace rise := Lib.hid rise
          replace fall := Lib.hid fall
          replace stay := Lib.hid stay
          replace high := Lib.hid high
          replace first := Lib.hid first
          replace later := Lib.hid later
          have bA1 := bA
          have bB1 := bB
          obtain ⟨a0, a1, a2, a3, a4, fa0, fa1, fa2, fa3, fa4⟩ := bA1
          obtain ⟨b0, b1, b2, b3, b4, fb0, fb1, fb2, fb3, fb4⟩ := bB1
          simp only at a0 a1 a2 a3 a4 b0 b1 b2 b3 b4
          go_wp2_with fail
          go_quiet (fail)
          clear a0 a1 a2 a3 a4 fa0 fa1 fa2 fa3 fa4 b0 b1 b2 b3 b4 fb0 fb1 fb2 fb3 fb4
          have bAW1 : AlarmAt (wc.drewN nq) w.heap.size ⟨on', off', hold', act, low⟩ := bA
          have bBW1 : AlarmAt (wc.drewN nq) g ⟨on', off', hold', act', low'⟩ := bB
          have v0W1 : (wc.drewN nq).cell? ⟨b, ov + k * 2, none⟩ = some (.int .i64 v) := v0
          have v1W1 : (wc.drewN nq).cell? ⟨b, ov + k * 2 + 1, none⟩ = some (.int .i64 t) := v1
          have BBW1 := below_dn BB nq
          clear bA bB v0 v1 BB
          generalize wc.drewN nq = W1 at *
          have bA := bAW1
          have bB := bBW1
          have v0 := v0W1
          have v1 := v1W1
          have BB := BBW1
          clear bAW1 bBW1 v0W1 v1W1 BBW1
          go_upto_if 54 with (fail)
          go_cut [5, 6] (fun lo si wx => ∃ s' : Int, lo = .bool (decide (0 ≤ low')) ∧ si = .int .i64 s' ∧ (0 ≤ low' → s' = low') ∧ ∃ n, wx = W1.drewN n)
          case first =>
            have ho : off' ≤ v ∨ v < off' ∧ (low < 0 ∨ 0 ≤ low) := by omega
            rcases ho with ho | ⟨ho, ho2 | ho2⟩
            · have hl := high.out ho
              have hd : decide (0 ≤ low') = false := by simp; omega
              have Hd := Lib.hid hd
              clear hd
              go_wp2
              go_meet
              exact ⟨_, congrArg Value.bool Hd.out.symm, rfl, fun h => by omega, 0, rfl⟩
            · have hl := first.out ho ho2
              have hdl : decide (0 ≤ low) = false := by simp; omega
              rw [hdl]
              clear hdl
              have hd : decide (0 ≤ low') = true := by simp; omega
              have Hd := Lib.hid hd
              have Hl := Lib.hid hl
              clear hd hl
              go_wp2_with fail
              go_quiet (fail)
              go_wp2
              go_meet
              exact ⟨_, congrArg Value.bool Hd.out.symm, rfl, fun h => Hl.out.symm, _, rfl⟩
            · have hl := later.out ho ho2
              have hdl : decide (0 ≤ low) = true := by simp; omega
              rw [hdl]
              clear hdl
              have hd : decide (0 ≤ low') = true := by simp; omega
              have Hd := Lib.hid hd
              have Hl := Lib.hid hl
              clear hd hl
              go_wp2
              go_meet
              exact ⟨_, congrArg Value.bool Hd.out.symm, rfl, fun h => (Hs.out ho2).trans Hl.out.symm, 0, rfl⟩
          case rest =>
          obtain ⟨s', rfl, rfl, hs', n1, rfl⟩ := hcut
          replace hs' := Lib.hid hs'
          obtain ⟨lo, hlo⟩ : ∃ lo, decide (0 ≤ low') = lo := ⟨_, rfl⟩
          rw [hlo]
          have Hlo := Lib.hid hlo
          clear hlo
          clear Hs first later high
          have bAW2 : AlarmAt (W1.drewN n1) w.heap.size ⟨on', off', hold', act, low⟩ := bA
          have bBW2 : AlarmAt (W1.drewN n1) g ⟨on', off', hold', act', low'⟩ := bB
          have v0W2 : (W1.drewN n1).cell? ⟨b, ov + k * 2, none⟩ = some (.int .i64 v) := v0
          have v1W2 : (W1.drewN n1).cell? ⟨b, ov + k * 2 + 1, none⟩ = some (.int .i64 t) := v1
          have BBW2 := below_dn BB n1
          clear bA bB v0 v1 BB
          generalize W1.drewN n1 = W2 at *
          have bA := bAW2
          have bB := bBW2
          have v0 := v0W2
          have v1 := v1W2
          have BB := BBW2
          clear bAW2 bBW2 v0W2 v1W2 BBW2
          go_wp2_with fail
          go_cut [78] (fun x wx => x = .bool false ∧ ∃ n, wx = W2.drewN n)
          case first =>
            have bA1 := bA
            have bB1 := bB
            obtain ⟨a0, a1, a2, a3, a4, fa0, fa1, fa2, fa3, fa4⟩ := bA1
            obtain ⟨b0, b1, b2, b3, b4, fb0, fb1, fb2, fb3, fb4⟩ := bB1
            simp only at a0 a1 a2 a3 a4 b0 b1 b2 b3 b4
            clear fa0 fa1 fa2 fa3 fa4 fb0 fb1 fb2 fb3 fb4
            cases act' <;> cases act
            · go_quiet (fail)
              go_wp2
              go_meet
              exact ⟨by simp, _, rfl⟩
            · go_quiet (fail)
              go_wp2
              go_meet
              exact ⟨by simp, _, rfl⟩
            · have hon := rise.out rfl rfl
              go_quiet (fail)
              go_wp2
              go_meet
              exact ⟨by simp; omega, _, rfl⟩
            · go_quiet (fail)
              go_wp2
              go_meet
              exact ⟨by simp, _, rfl⟩
          case rest =>
          obtain ⟨rfl, n2, rfl⟩ := hcut
          have bAW3 : AlarmAt (W2.drewN n2) w.heap.size ⟨on', off', hold', act, low⟩ := bA
          have bBW3 : AlarmAt (W2.drewN n2) g ⟨on', off', hold', act', low'⟩ := bB
          have v0W3 : (W2.drewN n2).cell? ⟨b, ov + k * 2, none⟩ = some (.int .i64 v) := v0
          have v1W3 : (W2.drewN n2).cell? ⟨b, ov + k * 2 + 1, none⟩ = some (.int .i64 t) := v1
          have BBW3 := below_dn BB n2
          clear bA bB v0 v1 BB
          generalize W2.drewN n2 = W3 at *
          have bA := bAW3
          have bB := bBW3
          have v0 := v0W3
          have v1 := v1W3
          have BB := BBW3
          clear bAW3 bBW3 v0W3 v1W3 BBW3
          go_wp2_with fail
          go_cut [101] (fun x wx => x = .bool false ∧ ∃ n, wx = W3.drewN n)
          case first =>
            have bA1 := bA
            have bB1 := bB
            obtain ⟨a0, a1, a2, a3, a4, fa0, fa1, fa2, fa3, fa4⟩ := bA1
            obtain ⟨b0, b1, b2, b3, b4, fb0, fb1, fb2, fb3, fb4⟩ := bB1
            simp only at a0 a1 a2 a3 a4 b0 b1 b2 b3 b4
            clear fa0 fa1 fa2 fa3 fa4 fb0 fb1 fb2 fb3 fb4
            cases act <;> cases act'
            · go_quiet (fail)
              go_wp2
              go_meet
              exact ⟨by simp, _, rfl⟩
            · go_quiet (fail)
              go_wp2
              go_meet
              exact ⟨by simp, _, rfl⟩
            · obtain ⟨e1, e2⟩ := fall.out rfl rfl
              have e3 := hs'.out e1
              subst e3
              have hd : lo = true := by rw [← Hlo.out]; simp; omega
              have hw : IntKind.i64.wrap (t - s') = t - s' := IntWalk.i64_in _ (by omega)
              clear Hlo
              subst hd
              go_quiet (fail)
              go_wp2
              go_meet
              exact ⟨by simp; omega, _, rfl⟩
            · go_quiet (fail)
              go_wp2
              go_meet
              exact ⟨by simp, _, rfl⟩
          case rest =>
          obtain ⟨rfl, n3, rfl⟩ := hcut
          have bAW4 : AlarmAt (W3.drewN n3) w.heap.size ⟨on', off', hold', act, low⟩ := bA
          have bBW4 : AlarmAt (W3.drewN n3) g ⟨on', off', hold', act', low'⟩ := bB
          have v0W4 : (W3.drewN n3).cell? ⟨b, ov + k * 2, none⟩ = some (.int .i64 v) := v0
          have v1W4 : (W3.drewN n3).cell? ⟨b, ov + k * 2 + 1, none⟩ = some (.int .i64 t) := v1
          have BBW4 := below_dn BB n3
          clear bA bB v0 v1 BB
          generalize W3.drewN n3 = W4 at *
          have bA := bAW4
          have bB := bBW4
          have v0 := v0W4
          have v1 := v1W4
          have BB := BBW4
          clear bAW4 bBW4 v0W4 v1W4 BBW4
          go_wp2_with fail
          go_cut [149] (fun x wx => x = .bool false ∧ ∃ n, wx = W4.drewN n)
          case first =>
            have bA1 := bA
            have bB1 := bB
            obtain ⟨a0, a1, a2, a3, a4, fa0, fa1, fa2, fa3, fa4⟩ := bA1
            obtain ⟨b0, b1, b2, b3, b4, fb0, fb1, fb2, fb3, fb4⟩ := bB1
            simp only at a0 a1 a2 a3 a4 b0 b1 b2 b3 b4
            clear fa0 fa1 fa2 fa3 fa4 fb0 fb1 fb2 fb3 fb4
            have m1 : (on' != on') = false := by simp
            have m2 : (off' != off') = false := by simp
            have m3 : (hold' != hold') = false := by simp
            cases act'
            · go_quiet (fail)
              go_wp2
              go_meet
              exact ⟨by simp, _, rfl⟩
            · by_cases hl : 0 ≤ low'
              · obtain ⟨e1, e2⟩ := stay.out rfl hl
                have e3 := hs'.out hl
                subst e3
                have hd : lo = true := by rw [← Hlo.out]; simp; omega
                have hw : IntKind.i64.wrap (t - s') = t - s' := IntWalk.i64_in _ (by omega)
                clear Hlo
                subst hd
                go_quiet (fail)
                go_wp2
                go_meet
                exact ⟨by simp; omega, _, rfl⟩
              · have hd : lo = false := by rw [← Hlo.out]; simp; omega
                clear Hlo
                subst hd
                go_quiet (fail)
                go_wp2
                go_meet
                exact ⟨by simp, _, rfl⟩
          case rest =>
          obtain ⟨rfl, n4, rfl⟩ := hcut
          have bAW5 : AlarmAt (W4.drewN n4) w.heap.size ⟨on', off', hold', act, low⟩ := bA
          have bBW5 : AlarmAt (W4.drewN n4) g ⟨on', off', hold', act', low'⟩ := bB
          have v0W5 : (W4.drewN n4).cell? ⟨b, ov + k * 2, none⟩ = some (.int .i64 v) := v0
          have v1W5 : (W4.drewN n4).cell? ⟨b, ov + k * 2 + 1, none⟩ = some (.int .i64 t) := v1
          have BBW5 := below_dn BB n4
          clear bA bB v0 v1 BB
          generalize W4.drewN n4 = W5 at *
          have bA := bAW5
          have bB := bBW5
          have v0 := v0W5
          have v1 := v1W5
          have BB := BBW5
          clear bAW5 bBW5 v0W5 v1W5 BBW5
          have bA1 := bA
          have bB1 := bB
          obtain ⟨a0, a1, a2, a3, a4, fa0, fa1, fa2, fa3, fa4⟩ := bA1
          obtain ⟨b0, b1, b2, b3, b4, fb0, fb1, fb2, fb3, fb4⟩ := bB1
          simp only at a0 a1 a2 a3 a4 b0 b1 b2 b3 b4
          have hset : AlarmAt (((((W5.setCell ⟨w.heap.size, 0, none⟩ (.int .i64 on')).setCell ⟨w.heap.size, 1, none⟩ (.int .i64 off')).setCell ⟨w.heap.size, 2, none⟩ (.int .i64 hold')).setCell ⟨w.heap.size, 3, none⟩ (.bool act')).setCell ⟨w.heap.size, 4, none⟩ (.int .i64 low')) w.heap.size ⟨on', off', hold', act', low'⟩ := alarmAt_set (b := ⟨on', off', hold', act', low'⟩) bA
          have hbel : Below w.heap.size w (((((W5.setCell ⟨w.heap.size, 0, none⟩ (.int .i64 on')).setCell ⟨w.heap.size, 1, none⟩ (.int .i64 off')).setCell ⟨w.heap.size, 2, none⟩ (.int .i64 hold')).setCell ⟨w.heap.size, 3, none⟩ (.bool act')).setCell ⟨w.heap.size, 4, none⟩ (.int .i64 low')) := (((((BB.setCell (p := ⟨w.heap.size, 0, none⟩) (Nat.le_refl w.heap.size) (.int .i64 on')).setCell (p := ⟨w.heap.size, 1, none⟩) (Nat.le_refl w.heap.size) (.int .i64 off')).setCell (p := ⟨w.heap.size, 2, none⟩) (Nat.le_refl w.heap.size) (.int .i64 hold')).setCell (p := ⟨w.heap.size, 3, none⟩) (Nat.le_refl w.heap.size) (.bool act')).setCell (p := ⟨w.heap.size, 4, none⟩) (Nat.le_refl w.heap.size) (.int .i64 low'))
          replace hset := Lib.hid hset
          go_wp2
          go_roundw
          case rel => exact ⟨k + 1, ⟨on', off', hold', act', low'⟩, s', by omega, by go_num, congrArg Value.bool Hlo.out.symm, rfl, hs'.out, hset.out, hbel⟩
          case measure => simp [intOf]; omega
    · have ho : l.length ≤ k ∨ k < l.length ∧ 100 ≤ k := by omega
      clear hlt
      rcases ho with ho | ⟨ho, ho2⟩
      · go_wp2
        go_ret
        exact ⟨rfl, B⟩
      · go_wp2
        go_ret
        exact ⟨rfl, B⟩

set_option maxRecDepth 100000 in
theorem lifted (os : Os) (started : os.Started) (H : Type) (enc : TypeId × Value → H) :
    ReturnsInHanded {} Try.checked os 8 .any (Rows.weatherHoldsSpec.pre6 enc Try.prog Try.f8 Rows.weatherHoldsRow.domain false) (Rows.weatherHoldsSpec.post enc Try.prog Try.f8 false true false false) := by
  refine returnsInHanded_of_change_sized (C := Try.checked) own started (by kernel_rfl) Try.func8
    (ChangeSpec.witness6 (enc := enc) (C := Try.checked) false ⟨#[], #[Alarm.val ⟨0, 0, 0, false, 0⟩, .slice none 0 0], []⟩ 8 (by kernel_rfl) (by kernel_rfl) (by kernel_rfl) (by kernel_rfl)) ?_
  intro W base args ds gs before hval0 hW hcnd hsz0 _
  have hval : ∀ (j : Nat) t v, Try.f8.params[j]? = some t → args[j]? = some v → Value.okWide Try.prog W .any base t v := hval0
  refine law_post laidOut (by kernel_rfl) Try.underlying4 rfl rfl hW (fun hn => ?_) ?_
  · match ds, hn with
    | [_, _], _ => rfl
  obtain ⟨p, q, hA0, hV, rfl, _, _⟩ := hW
  have hA : DataW.TrodAll enc Try.prog W 0 (fun _ => true) true Try.f8.params.toList args.toList ds p := hA0
  obtain ⟨rfl, rfl⟩ := trodVars_none hV
  have hsz : (DataW.weightsEach Try.prog (Try.f8.params.toList ++ []) (ds ++ [])).all (· ≤ reachBytes) = true := hsz0
  rw [Try.params8] at hA hval hsz
  obtain ⟨v0, vs0, d0, ds0, p0, q0, hargs, rfl, rfl, h0, r0⟩ := trodAll_cons hA
  obtain ⟨v1, vs1, d1, ds1, p1, q1, rfl, rfl, rfl, h1, r1⟩ := trodAll_cons r0
  obtain ⟨rfl, rfl, rfl⟩ := trodAll_nil r1
  obtain rfl : args = #[v0, v1] := by cases args; simp_all
  obtain ⟨x0, rfl, w0⟩ := open_alarm (hval 0 39 v0 rfl rfl) h0
  obtain ⟨A1, c1, l1, rfl, hm1, hi1, hL1⟩ := open_vals (hval 1 43 v1 rfl rfl) h1
  exact walk x0 A1 c1 l1 W w0 hm1 hi1 (hL1.reach hsz (j := 1) rfl rfl Try.underlying43)
theorem over : Rows.weatherHoldsRow.holds Try.pinned (OpenSpec.ofChange Rows.weatherHoldsSpec) :=
  OpenClaim.holds_of_wide 8 Try.f8 rfl rfl rfl rfl rfl rfl rfl ⟨rfl, rfl, rfl, rfl, rfl⟩ rfl rfl rfl rfl rfl (by kernel_rfl) Try.func8 (by kernel_rfl)
    (of_decide_eq_true (by kernel_rfl)) (by unfold Func.isWrapper; first | (rw [if_pos (by decide +kernel)]; kernel_rfl) | (rw [if_neg (by decide +kernel)]; exact ⟨rfl, rfl⟩))
    (fun os started H enc _ => lifted os started H enc)
theorem proved : Rows.WeatherHoldsSaid := over
#print axioms proved
end Go.Proofs.Ytjnokdpliocmmaa.weatherHolds
