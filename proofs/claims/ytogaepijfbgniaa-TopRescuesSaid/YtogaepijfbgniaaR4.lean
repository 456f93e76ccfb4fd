/- Contracts of package route: how Best lays out its search. -/
import Derived.Test.YtogaepijfbgniaaR5
import Derived.Deep.OwnRows
import Derived.Deep.RegionHeld3
namespace Go.Proofs.Ytogaepijfbgniaa
open Go.RowKit Go.Shelf Go.Deep
set_option linter.unusedVariables false
theorem info42 : (Try.prog.info? 42).map (fun i => (i.zero, i.size, i.bytes)) = some (some (.slice none 0 0), 1, 24) := by kernel_rfl
theorem info72 : (Try.prog.info? 72).map (fun i => (i.zero, i.size, i.bytes)) = some (some (.agg #[.int .i64 0, .int .i64 0, .int .i64 0, .int .i64 0]), 4, 32) := by kernel_rfl
def z4 : Array Value := #[.int .i64 0, .int .i64 0, .int .i64 0, .int .i64 0]
theorem make_shifts (n : Nat) (hn : n ≤ 6) (w : World) : (Instr.makeSlice 40 (.int .i64 (n : Int)) (.int .i64 (n : Int))).run Try.prog w = .ok (.slice (some ⟨w.heap.size, 0, none⟩) n n) (w.alloc (.cells (Array.replicate (n * 4) (.int .i64 0)) 72)) := by
  obtain ⟨i, hi, hzz⟩ := Option.map_eq_some_iff.1 info72
  simp only [Prod.mk.injEq] at hzz
  obtain ⟨hz, hs, hb⟩ := hzz
  have hr := run_make (P := Try.prog) w 40 72 i _ Try.underlying40 hi hz .i64 .i64 n n (by omega) (Int.le_refl _) (by rw [hb]; omega) (by omega)
  simp only [Int.toNat_natCast, hs] at hr
  rw [hr]
  congr 3
  apply Array.ext
  · simp [size_madeCells]
  · intro j h1 h2
    have h3 : j % 4 < 4 := Nat.mod_lt _ (by omega)
    simp only [madeCells, Array.getElem_map, Array.getElem_range]
    simp only [Array.getElem_replicate]
    have : ∀ q, q < 4 → (Value.agg #[Value.int IntKind.i64 0, Value.int IntKind.i64 0, Value.int IntKind.i64 0, Value.int IntKind.i64 0]).cells[q]! = .int .i64 0 := by
      intro q hq
      match q, hq with
      | 0, _ => rfl
      | 1, _ => rfl
      | 2, _ => rfl
      | 3, _ => rfl
    exact this _ h3
theorem make_rows (n : Nat) (hn : n ≤ 6) (w : World) : (Instr.makeSlice 56 (.int .i64 (n : Int)) (.int .i64 (n : Int))).run Try.prog w = .ok (.slice (some ⟨w.heap.size, 0, none⟩) n n) (w.alloc (.cells (Array.replicate n (.slice none 0 0)) 42)) := by
  rw [run_make_row' (P := Try.prog) 56 42 (.slice none 0 0) 24 Try.underlying56 info42 rfl .i64 .i64 n (by omega) (by omega) w]
  congr 3
  apply Array.ext
  · simp [size_madeCells]
  · intro j h1 h2
    simp [madeCells, Nat.mod_one]


theorem blk4_0 (w : World) (o1 o2 o3 : Obj) (cs : Array Value) (t : TypeId) : Blk ((((w.alloc (.cells cs t)).alloc o1).alloc o2).alloc o3).drew w.heap.size cs t := allocs_at [.cells cs t, o1, o2, o3] w 0 (by simp)
theorem blk4_1 (w : World) (o1 o2 o3 : Obj) (cs : Array Value) (t : TypeId) : Blk ((((w.alloc o1).alloc (.cells cs t)).alloc o2).alloc o3).drew (w.heap.size + 1) cs t := allocs_at [o1, .cells cs t, o2, o3] w 1 (by simp)
theorem blk4_2 (w : World) (o1 o2 o3 : Obj) (cs : Array Value) (t : TypeId) : Blk ((((w.alloc o1).alloc o2).alloc (.cells cs t)).alloc o3).drew (w.heap.size + 1 + 1) cs t := allocs_at [o1, o2, .cells cs t, o3] w 2 (by simp)
theorem blk4_3 (w : World) (o1 o2 o3 : Obj) (cs : Array Value) (t : TypeId) : Blk ((((w.alloc o1).alloc o2).alloc o3).alloc (.cells cs t)).drew (w.heap.size + 1 + 1 + 1) cs t := allocs_at [o1, o2, o3, .cells cs t] w 3 (by simp)
theorem below4 (w : World) (o0 o1 o2 o3 : Obj) : Below w.heap.size w ((((w.alloc o0).alloc o1).alloc o2).alloc o3).drew := (allocs_below [o0, o1, o2, o3] w w (Below.refl _ _)).drew
/-- what lies when the search is laid out -/
def Start (n : Nat) (A : Option Addr) (cA : Nat) (C : Option Addr) (m cC : Nat) (w1 : World) (s p b K : Nat) (wx : World) : Prop :=
  Blk wx s #[.slice A n cA, .slice C m cC, .slice (some ⟨K, 0, none⟩) n n, .slice (some ⟨p, 0, none⟩) n n, .slice (some ⟨b, 0, none⟩) n n, .int .i64 1] 58 ∧ Blk wx p (Array.replicate (n * 4) (.int .i64 0)) 72 ∧ Blk wx b (Array.replicate (n * 4) (.int .i64 0)) 72 ∧ Blk wx K (Array.replicate n (.slice none 0 0)) 42 ∧
    (s ≠ p ∧ s ≠ b ∧ p ≠ b ∧ K ≠ s ∧ K ≠ p ∧ K ≠ b) ∧ (w1.heap.size ≤ s ∧ w1.heap.size ≤ p ∧ w1.heap.size ≤ b ∧ w1.heap.size ≤ K) ∧ Below w1.heap.size w1 wx
theorem start_ex {n : Nat} {A : Option Addr} {cA : Nat} {C : Option Addr} {m cC : Nat} {w1 : World} {s p b K : Nat} {wx : World}
    (hs : Blk wx s #[.slice A n cA, .slice C m cC, .slice (some ⟨K, 0, none⟩) n n, .slice (some ⟨p, 0, none⟩) n n, .slice (some ⟨b, 0, none⟩) n n, .int .i64 1] 58) (hp : Blk wx p (Array.replicate (n * 4) (.int .i64 0)) 72) (hb : Blk wx b (Array.replicate (n * 4) (.int .i64 0)) 72) (hK : Blk wx K (Array.replicate n (.slice none 0 0)) 42)
    (hne : s ≠ p ∧ s ≠ b ∧ p ≠ b ∧ K ≠ s ∧ K ≠ p ∧ K ≠ b) (hge : w1.heap.size ≤ s ∧ w1.heap.size ≤ p ∧ w1.heap.size ≤ b ∧ w1.heap.size ≤ K) (hbl : Below w1.heap.size w1 wx) :
    ∃ s' p' b' K', Value.pointer (some ⟨s, 0, none⟩) = .pointer (some ⟨s', 0, none⟩) ∧ Start n A cA C m cC w1 s' p' b' K' wx := ⟨s, p, b, K, rfl, hs, hp, hb, hK, hne, hge, hbl⟩
def sumT (l : List Tk) : Int := l.foldl (fun n x => n + x.seconds) 0
theorem sumT_succ {l : List Tk} {k : Nat} (hk : k < l.length) : sumT (l.take (k + 1)) = sumT (l.take k) + l[k].seconds := by
  unfold sumT
  rw [List.take_succ_eq_append_getElem hk, List.foldl_append]
  rfl
theorem sumT_ok {l : List Tk} (h : ∀ x ∈ l, 1 ≤ x.run ∧ x.run ≤ 9999 ∧ 1 ≤ x.seconds ∧ x.seconds ≤ 86400) : ∀ k, k ≤ l.length → 0 ≤ sumT (l.take k) ∧ sumT (l.take k) ≤ 86400 * k := by
  intro k
  induction k with
  | zero => intro _; simp [sumT]
  | succ k ih =>
    intro hk
    rw [sumT_succ (by omega)]
    have := ih (by omega)
    have := h l[k] (List.getElem_mem _)
    omega
theorem rows_start {n B K : Nat} {W : World} (h : Blk W K (Array.replicate n (.slice none 0 0)) 42) : RowsAt n B K W (fun _ => 0) (fun _ => .slice none 0 0) := by
  refine ⟨?_, fun r _ => World.ownsRow_nil W B 4 1, fun r q _ _ _ g hg => by simp [Value.ownBlock] at hg⟩
  have e : ((List.range n).map fun _ : Nat => Value.slice none 0 0).toArray = Array.replicate n (.slice none 0 0) := by
    apply Array.ext
    · simp
    · intro i h1 h2; simp
  rw [e]
  exact h
theorem RowsAt.far {n B K : Nat} {W : World} {cnt : Nat → Nat} {v : Nat → Value} (h : RowsAt n B K W cnt v) {g : Nat} {cs : Array Value} {t : TypeId} (hb : Blk W g cs t) (ht : t ≠ 4) (hk : K ≠ g) (i : Nat) (u : Value) : RowsAt n B K (W.setCell ⟨g, i, none⟩ u) cnt v :=
  ⟨h.blk.far _ _ hk, fun r hr => ownsRow_setCell_other (h.own r hr) (fun q => own_apart (h.own r hr) hb ht q.symm) u, h.dis⟩
theorem RowsAt.cnt {n B K : Nat} {W : World} {c c' : Nat → Nat} {v : Nat → Value} (h : RowsAt n B K W c v) (hc : ∀ r, r < n → c r = c' r) : RowsAt n B K W c' v :=
  ⟨h.blk, fun r hr => by rw [← hc r hr]; exact h.own r hr, h.dis⟩
def CellsR (s K q7 q9 n : Nat) (tk ty : Tk) (w' : World) : Prop := w'.cell? ⟨s, 2, none⟩ = some (.slice (some ⟨K, 0, none⟩) n n) ∧ (w'.cell? ⟨q7, 0, none⟩ = some (.int .i64 tk.run) ∧ w'.cell? ⟨q7, 1, none⟩ = some (.int .i64 tk.seconds) ∧ w'.cell? ⟨q7, 2, none⟩ = some (.bool false) ∧ w'.cell? ⟨q7, 3, none⟩ = some (.slice none 0 0)) ∧ w'.cell? ⟨q9, 0, none⟩ = some (.int .i64 ty.run) ∧ w'.cell? ⟨q9, 1, none⟩ = some (.int .i64 ty.seconds) ∧ w'.cell? ⟨q9, 2, none⟩ = some (.bool false) ∧ w'.cell? ⟨q9, 3, none⟩ = some (.slice none 0 0)
theorem cells_four {W : World} {q : Nat} {x : Tk} (h : Blk W q #[.int .i64 x.run, .int .i64 x.seconds, .bool false, .slice none 0 0] 38) : W.cell? ⟨q, 0, none⟩ = some (.int .i64 x.run) ∧ W.cell? ⟨q, 1, none⟩ = some (.int .i64 x.seconds) ∧ W.cell? ⟨q, 2, none⟩ = some (.bool false) ∧ W.cell? ⟨q, 3, none⟩ = some (.slice none 0 0) := ⟨h.cell 0 rfl, h.cell 1 rfl, h.cell 2 rfl, h.cell 3 rfl⟩
/-- what Best gives -/
def BestPost (w : World) (l : List Tk) (y : St) (e : Ending) (w' : World) : Prop := ∃ b, e = .returned (.slice (some ⟨b, 0, none⟩) l.length l.length) ∧ Blk w' b (y.b.map (Value.int .i64)).toArray 72 ∧ y.b.length = l.length * 4 ∧ Below w.heap.size w w'
set_option maxHeartbeats 16000000 in
set_option maxRecDepth 100000 in
/-- Best, from where its search is laid out -/
theorem Best_any (A C : Option Addr) (c m d : Nat) (l : List Tk) (hl : OkTasks l) (hl0 : 0 < l.length) (hcap : l.length ≤ c) (hm : 1 ≤ m ∧ m ≤ 3) (w : World) (h : Tasks w A l) (hw : ∃ b off, C = some ⟨b, off, none⟩ ∧ ∀ i, i < m → w.cell? ⟨b, off + i, none⟩ = some (.bool false)) (y : St)
    (hpl : placeM l m l.length 0 0 ⟨List.replicate (l.length * 4) 0, List.replicate (l.length * 4) 0, 1 + sumT l⟩ = some y) :
    Calls Try.prog 10 #[.slice A l.length c, .slice C m d] w (BestPost w l y) := by
  have q1 := Lib.hid (Right_any A C c m d l hl hcap hm w h)
  have hl6 := hl.1
  go_enter Try.func10, Try.ntmps10
  go_wp2_with fail
  refine q1.out.mono ?_
  rintro e w1 ⟨rfl, hb1⟩
  clear q1
  have h1 := make_shifts l.length hl6
  have h2 := make_rows l.length hl6
  go_upto_region 3 with (fail)
  go_cut [5] (fun v wx => ∃ s p b K, v = .pointer (some ⟨s, 0, none⟩) ∧ Start l.length A c C m d w1 s p b K wx)
  case first =>
    clear h hl hb1
    go_region
    all_goals
      go_wp2
      go_meet
      apply start_ex
      · first | with_reducible exact blk4_0 _ _ _ _ _ _ | with_reducible exact blk4_1 _ _ _ _ _ _ | with_reducible exact blk4_2 _ _ _ _ _ _ | with_reducible exact blk4_3 _ _ _ _ _ _
      · first | with_reducible exact blk4_0 _ _ _ _ _ _ | with_reducible exact blk4_1 _ _ _ _ _ _ | with_reducible exact blk4_2 _ _ _ _ _ _ | with_reducible exact blk4_3 _ _ _ _ _ _
      · first | with_reducible exact blk4_0 _ _ _ _ _ _ | with_reducible exact blk4_1 _ _ _ _ _ _ | with_reducible exact blk4_2 _ _ _ _ _ _ | with_reducible exact blk4_3 _ _ _ _ _ _
      · first | with_reducible exact blk4_0 _ _ _ _ _ _ | with_reducible exact blk4_1 _ _ _ _ _ _ | with_reducible exact blk4_2 _ _ _ _ _ _ | with_reducible exact blk4_3 _ _ _ _ _ _
      · omega
      · omega
      · exact below4 _ _ _ _ _
  case rest =>
    obtain ⟨s, p, b, K, rfl, hst⟩ := hcut
    obtain ⟨bt, ot, rfl, _⟩ := h hl0
    obtain ⟨hs, hp, hb, hK, hne, hge, hbl⟩ := hst
    have hR := rows_start (B := w1.heap.size) hK
    have H0 := Lib.hid (And.intro hs (And.intro hp (And.intro hb (And.intro hR hbl))))
    have HOK := Lib.hid hl.2.1
    have hT := Lib.hid (fun W (hW : Below w1.heap.size w1 W) => (h.below hb1).below hW)
    have hsz : w1.heap.size ≤ wc.heap.size := hbl.size
    clear h1 h2 hs hp hb hK hR hbl hl
    go_wp2_with fail
    go_loopw [28] (fun i wr => ∃ (k : Nat) (v : Nat → Value), k ≤ l.length ∧ i = .int .i64 k ∧ RowsAt l.length w1.heap.size K wr (fun r => if r < k then l.length else 0) v ∧ Blk wr s #[.slice (some ⟨bt, ot, none⟩) l.length c, .slice C m d, .slice (some ⟨K, 0, none⟩) l.length l.length, .slice (some ⟨p, 0, none⟩) l.length l.length, .slice (some ⟨b, 0, none⟩) l.length l.length, .int .i64 (1 + sumT (l.take k))] 58 ∧ Blk wr p (Array.replicate (l.length * 4) (.int .i64 0)) 72 ∧ Blk wr b (Array.replicate (l.length * 4) (.int .i64 0)) 72 ∧ Below w1.heap.size w1 wr) (fun i _ => l.length - (intOf i).toNat)
    case atStart => exact ⟨0, _, Nat.zero_le _, rfl, H0.out.2.2.2.1.cnt (fun r _ => by simp), H0.out.1, H0.out.2.1, H0.out.2.2.1, H0.out.2.2.2.2⟩
    case round =>
      clear H0
      obtain ⟨k, v, hk, rfl, hR, hs, hp, hb, hbl⟩ := hrel
      by_cases hlt : k < l.length
      · have hsx := HOK.out _ (List.getElem_mem hlt)
        have hso := sumT_ok HOK.out k hk
        have Hss := Lib.hid (sumT_succ hlt)
        obtain ⟨bt', ot', e, t0, t1, t2, t3⟩ := (hT.out wr hbl).at hlt
        injection e with e
        injection e with e1 e2
        subst e1 e2
        generalize l[k] = tk at *
        go_upto_region 7 with (fail)
        have ka := below_alloc wr (.cells #[.int .i64 tk.run, .int .i64 tk.seconds, .bool false, .slice none 0 0] 38)
        have hO := Blk.new wr #[.int .i64 tk.run, .int .i64 tk.seconds, .bool false, .slice none 0 0] 38
        have hwr := hbl.size
        replace hR := hR.below ka
        replace hs := hs.below ka
        replace hp := hp.below ka
        replace hb := hb.below ka
        replace hbl := hbl.trans (ka.mono hbl.size)
        have hsq : s ≠ wr.heap.size := by
          have := hs.lt
          intro e
          have h1 : Blk (wr.alloc (.cells #[.int .i64 tk.run, .int .i64 tk.seconds, .bool false, .slice none 0 0] 38)) s #[.int .i64 tk.run, .int .i64 tk.seconds, .bool false, .slice none 0 0] 38 := by rw [e]; exact hO
          unfold Blk at h1 hs
          rw [hs] at h1
          injection h1 with h1
          injection h1 with _ h2 _
          exact absurd h2 (by decide)
        clear t0 t1 t2 t3 ka
        generalize wr.alloc (.cells #[.int .i64 tk.run, .int .i64 tk.seconds, .bool false, .slice none 0 0] 38) = wo at *
        generalize wr.heap.size = q7 at *
        have s5 := hs.cell 5 (v := .int .i64 (1 + sumT (l.take k))) rfl
        have f5 := hs.frozen 5
        have o1 := hO.cell 1 (v := .int .i64 tk.seconds) rfl
        have hs2 : Blk (wo.setCell ⟨s, 5, none⟩ (.int .i64 (1 + sumT (l.take (k + 1))))) s #[.slice (some ⟨bt, ot, none⟩) l.length c, .slice C m d, .slice (some ⟨K, 0, none⟩) l.length l.length, .slice (some ⟨p, 0, none⟩) l.length l.length, .slice (some ⟨b, 0, none⟩) l.length l.length, .int .i64 (1 + sumT (l.take (k + 1)))] 58 := hs.set 5 _
        have hp2 := hp.far ⟨s, 5, none⟩ (.int .i64 (1 + sumT (l.take (k + 1)))) (fun e => hne.1 e.symm)
        have hb2 := hb.far ⟨s, 5, none⟩ (.int .i64 (1 + sumT (l.take (k + 1)))) (fun e => hne.2.1 e.symm)
        have hR2 := hR.far hs (by decide) hne.2.2.2.1 5 (.int .i64 (1 + sumT (l.take (k + 1))))
        have hO2 := hO.far ⟨s, 5, none⟩ (.int .i64 (1 + sumT (l.take (k + 1)))) (fun e => hsq e.symm)
        have hbl2 := hbl.setCell (p := ⟨s, 5, none⟩) hge.1 (.int .i64 (1 + sumT (l.take (k + 1))))
        have hadw : IntKind.i64.wrap (1 + sumT (l.take k) + tk.seconds) = 1 + sumT (l.take (k + 1)) := by
          rw [Hss.out, ← Int.add_assoc]
          exact IntWalk.i64_in _ (by omega)
        have H2 := Lib.hid (And.intro hs2 (And.intro hp2 (And.intro hb2 (And.intro hR2 (And.intro hO2 hbl2)))))
        clear hs2 hp2 hb2 hR2 hO2 hbl2 hs hp hb hR hO hbl
        go_upto_region 8 with (fail)
        generalize wo.setCell ⟨s, 5, none⟩ (.int .i64 (1 + sumT (l.take (k + 1)))) = w2 at *
        have HW2 := Lib.hid H2.out
        clear s5 f5 o1 hadw H2
        go_wp2_with fail
        go_loopw [41] (fun i wx => ∃ (j : Nat) (v : Nat → Value), j ≤ l.length ∧ i = .int .i64 j ∧ RowsAt l.length w1.heap.size K wx (fill l.length k j) v ∧ Blk wx s #[.slice (some ⟨bt, ot, none⟩) l.length c, .slice C m d, .slice (some ⟨K, 0, none⟩) l.length l.length, .slice (some ⟨p, 0, none⟩) l.length l.length, .slice (some ⟨b, 0, none⟩) l.length l.length, .int .i64 (1 + sumT (l.take (k + 1)))] 58 ∧ Blk wx p (Array.replicate (l.length * 4) (.int .i64 0)) 72 ∧ Blk wx b (Array.replicate (l.length * 4) (.int .i64 0)) 72 ∧ Blk wx q7 #[.int .i64 tk.run, .int .i64 tk.seconds, .bool false, .slice none 0 0] 38 ∧ Below w1.heap.size w1 wx) (fun i _ => l.length - (intOf i).toNat)
        case atStart => exact ⟨0, v, Nat.zero_le _, rfl, HW2.out.2.2.2.1.cnt (fun r _ => by unfold fill; split <;> simp), HW2.out.1, HW2.out.2.1, HW2.out.2.2.1, HW2.out.2.2.2.2.1, HW2.out.2.2.2.2.2⟩
        case round =>
          clear HW2 v
          obtain ⟨j, v, hj, rfl, hR, hs, hp, hb, hO, hbl⟩ := hrel
          by_cases hlj : j < l.length
          · obtain ⟨bt', ot', e, t0, t1, t2, t3⟩ := (hT.out wr hbl).at hlj
            injection e with e
            injection e with e1 e2
            subst e1 e2
            generalize l[j] = ty at *
            go_upto_region 11 with (fail)
            have ka := below_alloc wr (.cells #[.int .i64 ty.run, .int .i64 ty.seconds, .bool false, .slice none 0 0] 38)
            have hO9 := Blk.new wr #[.int .i64 ty.run, .int .i64 ty.seconds, .bool false, .slice none 0 0] 38
            replace hR := hR.below ka
            replace hs := hs.below ka
            replace hp := hp.below ka
            replace hb := hb.below ka
            replace hO := hO.below ka
            replace hbl := hbl.trans (ka.mono hbl.size)
            clear t0 t1 t2 t3 ka
            generalize wr.alloc (.cells #[.int .i64 ty.run, .int .i64 ty.seconds, .bool false, .slice none 0 0] 38) = wq at *
            generalize wr.heap.size = q9 at *
            have hF0 : Filled l.length w1.heap.size K s p b q7 #[.slice (some ⟨bt, ot, none⟩) l.length c, .slice C m d, .slice (some ⟨K, 0, none⟩) l.length l.length, .slice (some ⟨p, 0, none⟩) l.length l.length, .slice (some ⟨b, 0, none⟩) l.length l.length, .int .i64 (1 + sumT (l.take (k + 1)))] (Array.replicate (l.length * 4) (.int .i64 0)) #[.int .i64 tk.run, .int .i64 tk.seconds, .bool false, .slice none 0 0] w1 wq k j v := ⟨hR, hs, hp, hb, hO, hbl⟩
            have hlk : k < l.length := hlt
            have hown := hR.own k hlk
            have hck : fill l.length k j k = j := by simp [fill]
            rw [hck] at hown
            have cK : wq.drew.cell? ⟨K, k, none⟩ = some (v k) := hR.cell hlk
            have HF := Lib.hid (And.intro hF0 hO9)
            have HOWN := Lib.hid hown
            have hKlt := hR.blk.lt
            have fKq := hR.blk.frozen k
            have hszq := hbl.size
            have hq := Lib.hid (clash_any tk ty wq.drew)
            unfold Tk.val at hq
            have hS : CellsR s K q7 q9 l.length tk ty wq.drew := ⟨hs.cell 2 rfl, cells_four hO, cells_four hO9⟩
            have hkl : (k : Int) < (l.length : Int) := by omega
            have n1 : j + 1 ≤ maxLen := by simp [maxLen]; omega
            have n2 : (j + 1) * 1 ≤ 140737488355328 := by omega
            have hKne : K ≠ s ∧ K ≠ p ∧ K ≠ b := ⟨hne.2.2.2.1, hne.2.2.2.2.1, hne.2.2.2.2.2⟩
            clear hF0 hR hs hp hb hO hO9 hbl hown hck
            refine wp_region_held_drew (S := CellsR s K q7 q9 l.length tk ty) (by kernel_rfl) hS (fun hHeld => ?_)
            clear hHeld
            refine wpAnyH_take (i := 0) (oi := { dst := some 45, op := Op.fieldAddr 58 (Operand.tmp 5) 2, type := 0, pos := _, after := _, guard := none }) (v := ?v0) rfl (by kernel_rfl) (by kernel_rfl) (by kernel_rfl) (fun _ _ _ h => h) (Or.inl ⟨by rfl, ?h0⟩) hS ?r0
            case h0 => (intro W hSw; obtain ⟨y0, ⟨y1, y2, y3, y4⟩, y5, y6, y7, y8⟩ := hSw; go_simp; try with_reducible rfl)
            try simp only [Act.put, List.setIfInBounds_toArray, List.set_cons_zero, List.set_cons_succ]
            refine wpAnyH_take (i := 1) (oi := { dst := some 46, op := Op.load 56 (Operand.tmp 45), type := 56, pos := _, after := _, guard := none }) (v := ?v1) rfl (by kernel_rfl) (by kernel_rfl) (by kernel_rfl) (fun _ _ _ h => h) (Or.inl ⟨by rfl, ?h1⟩) hS ?r1
            case h1 => (intro W hSw; obtain ⟨y0, ⟨y1, y2, y3, y4⟩, y5, y6, y7, y8⟩ := hSw; go_simp; try with_reducible rfl)
            try simp only [Act.put, List.setIfInBounds_toArray, List.set_cons_zero, List.set_cons_succ]
            refine wpAnyH_take (i := 2) (oi := { dst := some 47, op := Op.move (Operand.tmp 6), type := 3, pos := _, after := _, guard := none }) (v := ?v2) rfl (by kernel_rfl) (by kernel_rfl) (by kernel_rfl) (fun _ _ _ h => h) (Or.inl ⟨by rfl, ?h2⟩) hS ?r2
            case h2 => (intro W hSw; obtain ⟨y0, ⟨y1, y2, y3, y4⟩, y5, y6, y7, y8⟩ := hSw; go_simp; try with_reducible rfl)
            try simp only [Act.put, List.setIfInBounds_toArray, List.set_cons_zero, List.set_cons_succ]
            refine wpAnyH_take (i := 3) (oi := { dst := some 48, op := Op.fieldAddr 58 (Operand.tmp 5) 2, type := 0, pos := _, after := _, guard := none }) (v := ?v3) rfl (by kernel_rfl) (by kernel_rfl) (by kernel_rfl) (fun _ _ _ h => h) (Or.inl ⟨by rfl, ?h3⟩) hS ?r3
            case h3 => (intro W hSw; obtain ⟨y0, ⟨y1, y2, y3, y4⟩, y5, y6, y7, y8⟩ := hSw; go_simp; try with_reducible rfl)
            try simp only [Act.put, List.setIfInBounds_toArray, List.set_cons_zero, List.set_cons_succ]
            refine wpAnyH_take (i := 4) (oi := { dst := some 49, op := Op.load 56 (Operand.tmp 48), type := 56, pos := _, after := _, guard := none }) (v := ?v4) rfl (by kernel_rfl) (by kernel_rfl) (by kernel_rfl) (fun _ _ _ h => h) (Or.inl ⟨by rfl, ?h4⟩) hS ?r4
            case h4 => (intro W hSw; obtain ⟨y0, ⟨y1, y2, y3, y4⟩, y5, y6, y7, y8⟩ := hSw; go_simp; try with_reducible rfl)
            try simp only [Act.put, List.setIfInBounds_toArray, List.set_cons_zero, List.set_cons_succ]
            refine wpAnyH_take (i := 5) (oi := { dst := some 50, op := Op.move (Operand.tmp 6), type := 3, pos := _, after := _, guard := none }) (v := ?v5) rfl (by kernel_rfl) (by kernel_rfl) (by kernel_rfl) (fun _ _ _ h => h) (Or.inl ⟨by rfl, ?h5⟩) hS ?r5
            case h5 => (intro W hSw; obtain ⟨y0, ⟨y1, y2, y3, y4⟩, y5, y6, y7, y8⟩ := hSw; go_simp; try with_reducible rfl)
            try simp only [Act.put, List.setIfInBounds_toArray, List.set_cons_zero, List.set_cons_succ]
            refine wpAnyH_take (i := 6) (oi := { dst := some 51, op := Op.indexAddr 56 (Operand.tmp 49) (Operand.tmp 50), type := 0, pos := _, after := _, guard := none }) (v := ?v6) rfl (by kernel_rfl) (by kernel_rfl) (by kernel_rfl) (fun _ _ _ h => h) (Or.inl ⟨by rfl, ?h6⟩) hS ?r6
            case h6 => (intro W hSw; obtain ⟨y0, ⟨y1, y2, y3, y4⟩, y5, y6, y7, y8⟩ := hSw; go_simp; try with_reducible rfl)
            try simp only [Act.put, List.setIfInBounds_toArray, List.set_cons_zero, List.set_cons_succ]
            refine wpAnyH_take (i := 8) (oi := { dst := some 53, op := Op.load 38 (Operand.tmp 7), type := 38, pos := _, after := _, guard := none }) (v := ?v8) rfl (by kernel_rfl) (by kernel_rfl) (by kernel_rfl) (fun _ _ _ h => h) (Or.inl ⟨by rfl, ?h8⟩) hS ?r8
            case h8 => (intro W hSw; obtain ⟨y0, ⟨y1, y2, y3, y4⟩, y5, y6, y7, y8⟩ := hSw; go_simp; try with_reducible rfl)
            try simp only [Act.put, List.setIfInBounds_toArray, List.set_cons_zero, List.set_cons_succ]
            refine wpAnyH_take (i := 9) (oi := { dst := some 54, op := Op.load 38 (Operand.tmp 9), type := 38, pos := _, after := _, guard := none }) (v := ?v9) rfl (by kernel_rfl) (by kernel_rfl) (by kernel_rfl) (fun _ _ _ h => h) (Or.inl ⟨by rfl, ?h9⟩) hS ?r9
            case h9 => (intro W hSw; obtain ⟨y0, ⟨y1, y2, y3, y4⟩, y5, y6, y7, y8⟩ := hSw; go_simp; try with_reducible rfl)
            try simp only [Act.put, List.setIfInBounds_toArray, List.set_cons_zero, List.set_cons_succ]
            refine wpAnyH_ready (rs := [7, 10]) (by kernel_rfl) (by simp) ?_
            refine AllReadyH.cons (o := { dst := some 52, op := Op.load 42 (Operand.tmp 51), type := 42, pos := _, after := _, guard := none }) rfl (fun KK hK => ?_) (AllReadyH.cons (o := { dst := some 55, op := Op.call { callee := Callee.value (Operand.func 20), args := #[Operand.tmp 53, Operand.tmp 54], argTypes := #[38, 38] }, type := 4, pos := _, after := _, guard := none }) rfl (fun KK hK => ?_) (AllReadyH.nil))
            · skip
              go_simp
              refine hK.out _ _ hS (fun hHeld => ?_)
              clear hHeld hK KK
              try simp only [Act.put, List.setIfInBounds_toArray, List.set_cons_zero, List.set_cons_succ]
              refine wpAnyH_ready (rs := [10]) (by kernel_rfl) (by simp) ?_
              refine AllReadyH.cons (o := { dst := some 55, op := Op.call { callee := Callee.value (Operand.func 20), args := #[Operand.tmp 53, Operand.tmp 54], argTypes := #[38, 38] }, type := 4, pos := _, after := _, guard := none }) rfl (fun KK hK => ?_) (AllReadyH.nil)
              go_simp
              refine hq.out.mono ?_
              rintro e w4 ⟨rfl, hb4'⟩
              have hb4 : Below wq.heap.size wq w4 := ⟨hb4'.os, hb4'.tape, hb4'.output, hb4'.size, hb4'.block⟩
              have cK4 := cell_later hb4 (show wq.cell? ⟨K, k, none⟩ = some (v k) from cK)
              have hS4 : CellsR s K q7 q9 l.length tk ty w4 := ⟨cell_later hb4 hS.1, cells_four (HF.out.1.2.2.2.2.1.below hb4), cells_four (HF.out.2.below hb4)⟩
              clear hb4' hS
              go_wp2_with fail
              refine hK.out _ _ hS4 (fun hHeld => ?_)
              clear hHeld hK KK
              try simp only [Act.put, List.setIfInBounds_toArray, List.set_cons_zero, List.set_cons_succ]
              refine wpAnyH_ready (rs := [11]) (by kernel_rfl) (by simp) ?_
              refine AllReadyH.cons (o := { dst := some 56, op := Op.buildSlice 42 1 #[(0, Operand.tmp 55)], type := 42, pos := _, after := _, guard := none }) rfl (fun KK hK => ?_) (AllReadyH.nil)
              go_simp
              have hba := hb4.alloc hb4.size (.cells #[.bool false] 4)
              have cK5 := cell_later (below_alloc w4 (.cells #[.bool false] 4)) cK4
              have hF5 := HF.out.1.below hszq hba
              have hO9' := HF.out.2.below hba
              have HO5 := own_below HOWN.out hba
              have HU5 : (w4.alloc (.cells #[.bool false] 4)).cell? ((⟨w4.heap.size, 0, none⟩ : Addr).add 0) = some (.bool false) := (Blk.new w4 #[.bool false] 4).cell 0 rfl
              have HB5 : w1.heap.size ≤ (w4.alloc (.cells #[.bool false] 4)).heap.size := hF5.2.2.2.2.2.size
              have hS5 : CellsR s K q7 q9 l.length tk ty (w4.alloc (.cells #[.bool false] 4)) := ⟨hF5.2.1.cell 2 rfl, cells_four hF5.2.2.2.2.1, cells_four hO9'⟩
              have H5 := Lib.hid (And.intro hF5 (And.intro hO9' (And.intro HO5 (And.intro HU5 HB5))))
              clear hF5 hO9' HO5 HU5 HB5 hba
              refine hK.out _ _ hS5 (fun hHeld => ?_)
              clear hHeld hK KK
              try simp only [Act.put, List.setIfInBounds_toArray, List.set_cons_zero, List.set_cons_succ]
              refine wpAnyH_ready (rs := [12]) (by kernel_rfl) (by simp) ?_
              refine AllReadyH.cons (o := { dst := some 57, op := Op.call { callee := Callee.builtin Builtin.append, args := #[Operand.tmp 52, Operand.tmp 56], argTypes := #[42, 42] }, type := 42, pos := _, after := _, guard := none }) rfl (fun KK hK => ?_) (AllReadyH.nil)
              refine step_append_one _ (by rfl) (.tmp 52) (.tmp 56) 42 (by rfl) w1.heap.size 4 (.bool false) 1 Try.underlying42 info4b rfl (v k) j (List.replicate j (.bool false)) (by rfl) H5.out.2.2.1 ⟨w4.heap.size, 0, none⟩ 1 (.bool false) (by rfl) H5.out.2.2.2.1 rfl n1 n2 H5.out.2.2.2.2 ?_
              intro u w5 own5 hg5 hat5
              obtain ⟨g5, c5, rfl⟩ := own_form own5
              have aK := own_apart H5.out.2.2.1 H5.out.1.1.blk (by decide)
              have as' := own_apart H5.out.2.2.1 H5.out.1.2.1 (by decide)
              have a7 := own_apart H5.out.2.2.1 H5.out.1.2.2.2.2.1 (by decide)
              have a9 := own_apart H5.out.2.2.1 H5.out.2.1 (by decide)
              have hS6 : CellsR s K q7 q9 l.length tk ty w5 := ⟨(H5.out.1.2.1.kept hg5 as').cell 2 rfl, cells_four (H5.out.1.2.2.2.2.1.kept hg5 a7), cells_four (H5.out.2.1.kept hg5 a9)⟩
              have fK5 := (H5.out.1.1.blk.kept hg5 aK).frozen k
              have cK6 := hg5.cell cK5 aK
              have hF6 := H5.out.1.grow hlk hKne hge.2.2.2 H5.out.2.2.2.2 hg5 own5 hat5
              have hO6 := (H5.out.2.1.kept hg5 a9).far ⟨K, k, none⟩ (.slice (some ⟨g5, 0, none⟩) (j + 1) c5) (fun e => by
                subst e
                have h1 := H5.out.2.1
                have h2 := H5.out.1.1.blk
                unfold Blk at h1 h2
                rw [h2] at h1
                injection h1 with h1
                injection h1 with _ h1 _
                exact absurd h1 (by decide))
              have hS7 : CellsR s K q7 q9 l.length tk ty (w5.setCell ⟨K, k, none⟩ (.slice (some ⟨g5, 0, none⟩) (j + 1) c5)) := ⟨hF6.2.1.cell 2 rfl, cells_four hF6.2.2.2.2.1, cells_four hO6⟩
              have HF6 := Lib.hid hF6
              clear aK as' a7 a9 own5 hg5 hat5 hF6 hO6
              refine hK.out _ _ hS6 (fun hHeld => ?_)
              clear hHeld hK KK
              try simp only [Act.put, List.setIfInBounds_toArray, List.set_cons_zero, List.set_cons_succ]
              refine wpAnyH_take (i := 13) (oi := { dst := some 58, op := Op.indexAddr 56 (Operand.tmp 46) (Operand.tmp 47), type := 0, pos := _, after := _, guard := none }) (v := ?v101) rfl (by kernel_rfl) (by kernel_rfl) (by kernel_rfl) (fun _ _ _ h => h) (Or.inl ⟨by rfl, ?h101⟩) hS6 ?r101
              case h101 => (intro W hSw; go_simp; try with_reducible rfl)
              try simp only [Act.put, List.setIfInBounds_toArray, List.set_cons_zero, List.set_cons_succ]
              refine wpAnyH_ready (rs := [14]) (by kernel_rfl) (by simp) ?_
              refine AllReadyH.cons (o := { dst := none, op := Op.store 42 (Operand.tmp 58) (Operand.tmp 57), type := 0, pos := _, after := _, guard := none }) rfl (fun KK hK => ?_) (AllReadyH.nil)
              go_simp
              refine hK.out _ _ hS7 (fun hHeld => ?_)
              clear hHeld hK KK
              try simp only [Act.put, List.setIfInBounds_toArray, List.set_cons_zero, List.set_cons_succ]
              refine wpAnyH_done (by kernel_rfl) ?_ _
              clear hS7 hS6 hS5 hS4 cK cK4 cK5 cK6 fK5 fKq
              go_wp2
              go_roundw
              case rel => exact ⟨j + 1, _, by omega, by go_num, HF6.out.1, HF6.out.2.1, HF6.out.2.2.1, HF6.out.2.2.2.1, HF6.out.2.2.2.2.1, HF6.out.2.2.2.2.2⟩
              case measure => simp [intOf]; omega
            · skip
              go_simp
              refine hq.out.mono ?_
              rintro e w4 ⟨rfl, hb4'⟩
              have hb4 : Below wq.heap.size wq w4 := ⟨hb4'.os, hb4'.tape, hb4'.output, hb4'.size, hb4'.block⟩
              have cK4 := cell_later hb4 (show wq.cell? ⟨K, k, none⟩ = some (v k) from cK)
              have hS4 : CellsR s K q7 q9 l.length tk ty w4 := ⟨cell_later hb4 hS.1, cells_four (HF.out.1.2.2.2.2.1.below hb4), cells_four (HF.out.2.below hb4)⟩
              clear hb4' hS
              go_wp2_with fail
              refine hK.out _ _ hS4 (fun hHeld => ?_)
              clear hHeld hK KK
              try simp only [Act.put, List.setIfInBounds_toArray, List.set_cons_zero, List.set_cons_succ]
              refine wpAnyH_ready (rs := [7, 11]) (by kernel_rfl) (by simp) ?_
              refine AllReadyH.cons (o := { dst := some 52, op := Op.load 42 (Operand.tmp 51), type := 42, pos := _, after := _, guard := none }) rfl (fun KK hK => ?_) (AllReadyH.cons (o := { dst := some 56, op := Op.buildSlice 42 1 #[(0, Operand.tmp 55)], type := 42, pos := _, after := _, guard := none }) rfl (fun KK hK => ?_) (AllReadyH.nil))
              · skip
                go_simp
                refine hK.out _ _ hS4 (fun hHeld => ?_)
                clear hHeld hK KK
                try simp only [Act.put, List.setIfInBounds_toArray, List.set_cons_zero, List.set_cons_succ]
                refine wpAnyH_ready (rs := [11]) (by kernel_rfl) (by simp) ?_
                refine AllReadyH.cons (o := { dst := some 56, op := Op.buildSlice 42 1 #[(0, Operand.tmp 55)], type := 42, pos := _, after := _, guard := none }) rfl (fun KK hK => ?_) (AllReadyH.nil)
                go_simp
                have hba := hb4.alloc hb4.size (.cells #[.bool false] 4)
                have cK5 := cell_later (below_alloc w4 (.cells #[.bool false] 4)) cK4
                have hF5 := HF.out.1.below hszq hba
                have hO9' := HF.out.2.below hba
                have HO5 := own_below HOWN.out hba
                have HU5 : (w4.alloc (.cells #[.bool false] 4)).cell? ((⟨w4.heap.size, 0, none⟩ : Addr).add 0) = some (.bool false) := (Blk.new w4 #[.bool false] 4).cell 0 rfl
                have HB5 : w1.heap.size ≤ (w4.alloc (.cells #[.bool false] 4)).heap.size := hF5.2.2.2.2.2.size
                have hS5 : CellsR s K q7 q9 l.length tk ty (w4.alloc (.cells #[.bool false] 4)) := ⟨hF5.2.1.cell 2 rfl, cells_four hF5.2.2.2.2.1, cells_four hO9'⟩
                have H5 := Lib.hid (And.intro hF5 (And.intro hO9' (And.intro HO5 (And.intro HU5 HB5))))
                clear hF5 hO9' HO5 HU5 HB5 hba
                refine hK.out _ _ hS5 (fun hHeld => ?_)
                clear hHeld hK KK
                try simp only [Act.put, List.setIfInBounds_toArray, List.set_cons_zero, List.set_cons_succ]
                refine wpAnyH_ready (rs := [12]) (by kernel_rfl) (by simp) ?_
                refine AllReadyH.cons (o := { dst := some 57, op := Op.call { callee := Callee.builtin Builtin.append, args := #[Operand.tmp 52, Operand.tmp 56], argTypes := #[42, 42] }, type := 42, pos := _, after := _, guard := none }) rfl (fun KK hK => ?_) (AllReadyH.nil)
                refine step_append_one _ (by rfl) (.tmp 52) (.tmp 56) 42 (by rfl) w1.heap.size 4 (.bool false) 1 Try.underlying42 info4b rfl (v k) j (List.replicate j (.bool false)) (by rfl) H5.out.2.2.1 ⟨w4.heap.size, 0, none⟩ 1 (.bool false) (by rfl) H5.out.2.2.2.1 rfl n1 n2 H5.out.2.2.2.2 ?_
                intro u w5 own5 hg5 hat5
                obtain ⟨g5, c5, rfl⟩ := own_form own5
                have aK := own_apart H5.out.2.2.1 H5.out.1.1.blk (by decide)
                have as' := own_apart H5.out.2.2.1 H5.out.1.2.1 (by decide)
                have a7 := own_apart H5.out.2.2.1 H5.out.1.2.2.2.2.1 (by decide)
                have a9 := own_apart H5.out.2.2.1 H5.out.2.1 (by decide)
                have hS6 : CellsR s K q7 q9 l.length tk ty w5 := ⟨(H5.out.1.2.1.kept hg5 as').cell 2 rfl, cells_four (H5.out.1.2.2.2.2.1.kept hg5 a7), cells_four (H5.out.2.1.kept hg5 a9)⟩
                have fK5 := (H5.out.1.1.blk.kept hg5 aK).frozen k
                have cK6 := hg5.cell cK5 aK
                have hF6 := H5.out.1.grow hlk hKne hge.2.2.2 H5.out.2.2.2.2 hg5 own5 hat5
                have hO6 := (H5.out.2.1.kept hg5 a9).far ⟨K, k, none⟩ (.slice (some ⟨g5, 0, none⟩) (j + 1) c5) (fun e => by
                  subst e
                  have h1 := H5.out.2.1
                  have h2 := H5.out.1.1.blk
                  unfold Blk at h1 h2
                  rw [h2] at h1
                  injection h1 with h1
                  injection h1 with _ h1 _
                  exact absurd h1 (by decide))
                have hS7 : CellsR s K q7 q9 l.length tk ty (w5.setCell ⟨K, k, none⟩ (.slice (some ⟨g5, 0, none⟩) (j + 1) c5)) := ⟨hF6.2.1.cell 2 rfl, cells_four hF6.2.2.2.2.1, cells_four hO6⟩
                have HF6 := Lib.hid hF6
                clear aK as' a7 a9 own5 hg5 hat5 hF6 hO6
                refine hK.out _ _ hS6 (fun hHeld => ?_)
                clear hHeld hK KK
                try simp only [Act.put, List.setIfInBounds_toArray, List.set_cons_zero, List.set_cons_succ]
                refine wpAnyH_take (i := 13) (oi := { dst := some 58, op := Op.indexAddr 56 (Operand.tmp 46) (Operand.tmp 47), type := 0, pos := _, after := _, guard := none }) (v := ?v102) rfl (by kernel_rfl) (by kernel_rfl) (by kernel_rfl) (fun _ _ _ h => h) (Or.inl ⟨by rfl, ?h102⟩) hS6 ?r102
                case h102 => (intro W hSw; go_simp; try with_reducible rfl)
                try simp only [Act.put, List.setIfInBounds_toArray, List.set_cons_zero, List.set_cons_succ]
                refine wpAnyH_ready (rs := [14]) (by kernel_rfl) (by simp) ?_
                refine AllReadyH.cons (o := { dst := none, op := Op.store 42 (Operand.tmp 58) (Operand.tmp 57), type := 0, pos := _, after := _, guard := none }) rfl (fun KK hK => ?_) (AllReadyH.nil)
                go_simp
                refine hK.out _ _ hS7 (fun hHeld => ?_)
                clear hHeld hK KK
                try simp only [Act.put, List.setIfInBounds_toArray, List.set_cons_zero, List.set_cons_succ]
                refine wpAnyH_done (by kernel_rfl) ?_ _
                clear hS7 hS6 hS5 hS4 cK cK4 cK5 cK6 fK5 fKq
                go_wp2
                go_roundw
                case rel => exact ⟨j + 1, _, by omega, by go_num, HF6.out.1, HF6.out.2.1, HF6.out.2.2.1, HF6.out.2.2.2.1, HF6.out.2.2.2.2.1, HF6.out.2.2.2.2.2⟩
                case measure => simp [intOf]; omega
              · skip
                go_simp
                have hba := hb4.alloc hb4.size (.cells #[.bool false] 4)
                have cK5 := cell_later (below_alloc w4 (.cells #[.bool false] 4)) cK4
                have hF5 := HF.out.1.below hszq hba
                have hO9' := HF.out.2.below hba
                have HO5 := own_below HOWN.out hba
                have HU5 : (w4.alloc (.cells #[.bool false] 4)).cell? ((⟨w4.heap.size, 0, none⟩ : Addr).add 0) = some (.bool false) := (Blk.new w4 #[.bool false] 4).cell 0 rfl
                have HB5 : w1.heap.size ≤ (w4.alloc (.cells #[.bool false] 4)).heap.size := hF5.2.2.2.2.2.size
                have hS5 : CellsR s K q7 q9 l.length tk ty (w4.alloc (.cells #[.bool false] 4)) := ⟨hF5.2.1.cell 2 rfl, cells_four hF5.2.2.2.2.1, cells_four hO9'⟩
                have H5 := Lib.hid (And.intro hF5 (And.intro hO9' (And.intro HO5 (And.intro HU5 HB5))))
                clear hF5 hO9' HO5 HU5 HB5 hba
                refine hK.out _ _ hS5 (fun hHeld => ?_)
                clear hHeld hK KK
                try simp only [Act.put, List.setIfInBounds_toArray, List.set_cons_zero, List.set_cons_succ]
                refine wpAnyH_ready (rs := [7]) (by kernel_rfl) (by simp) ?_
                refine AllReadyH.cons (o := { dst := some 52, op := Op.load 42 (Operand.tmp 51), type := 42, pos := _, after := _, guard := none }) rfl (fun KK hK => ?_) (AllReadyH.nil)
                go_simp
                refine hK.out _ _ hS5 (fun hHeld => ?_)
                clear hHeld hK KK
                try simp only [Act.put, List.setIfInBounds_toArray, List.set_cons_zero, List.set_cons_succ]
                refine wpAnyH_ready (rs := [12]) (by kernel_rfl) (by simp) ?_
                refine AllReadyH.cons (o := { dst := some 57, op := Op.call { callee := Callee.builtin Builtin.append, args := #[Operand.tmp 52, Operand.tmp 56], argTypes := #[42, 42] }, type := 42, pos := _, after := _, guard := none }) rfl (fun KK hK => ?_) (AllReadyH.nil)
                refine step_append_one _ (by rfl) (.tmp 52) (.tmp 56) 42 (by rfl) w1.heap.size 4 (.bool false) 1 Try.underlying42 info4b rfl (v k) j (List.replicate j (.bool false)) (by rfl) H5.out.2.2.1 ⟨w4.heap.size, 0, none⟩ 1 (.bool false) (by rfl) H5.out.2.2.2.1 rfl n1 n2 H5.out.2.2.2.2 ?_
                intro u w5 own5 hg5 hat5
                obtain ⟨g5, c5, rfl⟩ := own_form own5
                have aK := own_apart H5.out.2.2.1 H5.out.1.1.blk (by decide)
                have as' := own_apart H5.out.2.2.1 H5.out.1.2.1 (by decide)
                have a7 := own_apart H5.out.2.2.1 H5.out.1.2.2.2.2.1 (by decide)
                have a9 := own_apart H5.out.2.2.1 H5.out.2.1 (by decide)
                have hS6 : CellsR s K q7 q9 l.length tk ty w5 := ⟨(H5.out.1.2.1.kept hg5 as').cell 2 rfl, cells_four (H5.out.1.2.2.2.2.1.kept hg5 a7), cells_four (H5.out.2.1.kept hg5 a9)⟩
                have fK5 := (H5.out.1.1.blk.kept hg5 aK).frozen k
                have cK6 := hg5.cell cK5 aK
                have hF6 := H5.out.1.grow hlk hKne hge.2.2.2 H5.out.2.2.2.2 hg5 own5 hat5
                have hO6 := (H5.out.2.1.kept hg5 a9).far ⟨K, k, none⟩ (.slice (some ⟨g5, 0, none⟩) (j + 1) c5) (fun e => by
                  subst e
                  have h1 := H5.out.2.1
                  have h2 := H5.out.1.1.blk
                  unfold Blk at h1 h2
                  rw [h2] at h1
                  injection h1 with h1
                  injection h1 with _ h1 _
                  exact absurd h1 (by decide))
                have hS7 : CellsR s K q7 q9 l.length tk ty (w5.setCell ⟨K, k, none⟩ (.slice (some ⟨g5, 0, none⟩) (j + 1) c5)) := ⟨hF6.2.1.cell 2 rfl, cells_four hF6.2.2.2.2.1, cells_four hO6⟩
                have HF6 := Lib.hid hF6
                clear aK as' a7 a9 own5 hg5 hat5 hF6 hO6
                refine hK.out _ _ hS6 (fun hHeld => ?_)
                clear hHeld hK KK
                try simp only [Act.put, List.setIfInBounds_toArray, List.set_cons_zero, List.set_cons_succ]
                refine wpAnyH_take (i := 13) (oi := { dst := some 58, op := Op.indexAddr 56 (Operand.tmp 46) (Operand.tmp 47), type := 0, pos := _, after := _, guard := none }) (v := ?v103) rfl (by kernel_rfl) (by kernel_rfl) (by kernel_rfl) (fun _ _ _ h => h) (Or.inl ⟨by rfl, ?h103⟩) hS6 ?r103
                case h103 => (intro W hSw; go_simp; try with_reducible rfl)
                try simp only [Act.put, List.setIfInBounds_toArray, List.set_cons_zero, List.set_cons_succ]
                refine wpAnyH_ready (rs := [14]) (by kernel_rfl) (by simp) ?_
                refine AllReadyH.cons (o := { dst := none, op := Op.store 42 (Operand.tmp 58) (Operand.tmp 57), type := 0, pos := _, after := _, guard := none }) rfl (fun KK hK => ?_) (AllReadyH.nil)
                go_simp
                refine hK.out _ _ hS7 (fun hHeld => ?_)
                clear hHeld hK KK
                try simp only [Act.put, List.setIfInBounds_toArray, List.set_cons_zero, List.set_cons_succ]
                refine wpAnyH_done (by kernel_rfl) ?_ _
                clear hS7 hS6 hS5 hS4 cK cK4 cK5 cK6 fK5 fKq
                go_wp2
                go_roundw
                case rel => exact ⟨j + 1, _, by omega, by go_num, HF6.out.1, HF6.out.2.1, HF6.out.2.2.1, HF6.out.2.2.2.1, HF6.out.2.2.2.2.1, HF6.out.2.2.2.2.2⟩
                case measure => simp [intOf]; omega
          · have hje : j = l.length := by omega
            subst hje
            have hR2 := hR.cnt (c' := fun r => if r < k + 1 then l.length else 0) (fun r _ => by
              unfold fill
              by_cases e1 : r < k
              · rw [if_pos e1, if_pos (by omega)]
              · by_cases e2 : r = k
                · rw [if_neg e1, if_pos e2, if_pos (by omega)]
                · rw [if_neg e1, if_neg e2, if_neg (by omega)])
            have HR2 := Lib.hid (And.intro hR2 (And.intro hs (And.intro hp (And.intro hb hbl))))
            clear hR hR2 hs hp hb hO hbl
            go_wp2
            go_roundw
            case rel => exact ⟨k + 1, v, by omega, by go_num, HR2.out.1, HR2.out.2.1, HR2.out.2.2.1, HR2.out.2.2.2.1, HR2.out.2.2.2.2⟩
            case measure => simp [intOf]; omega
      · have hke : k = l.length := by omega
        subst hke
        rw [List.take_length] at hs
        obtain ⟨bw, ow, rfl, hwc⟩ := hw
        have hrep : Array.replicate (l.length * 4) (Value.int .i64 0) = ((List.replicate (l.length * 4) (0 : Int)).map (Value.int .i64)).toArray := by
          apply Array.ext
          · simp
          · intro q h1 h2; simp
        rw [hrep] at hp hb
        obtain ⟨E, hEd⟩ : ∃ E : Env, E = ⟨l, m, some ⟨bt, ot, none⟩, c, some ⟨bw, ow, none⟩, d, K, l.length, s, p, b, wr⟩ := ⟨_, rfl⟩
        have hW := hb1.trans (hbl.mono hb1.size)
        have hsz1 := hb1.size
        have hbtlt : bt < w.heap.size := by
          obtain ⟨_, _, e, q⟩ := h hl0
          injection e with e
          injection e with e1 e2
          subst e1
          exact World.block_lt_of_cell? _ _ (q 0 hl0).1
        have hbwlt : bw < w.heap.size := World.block_lt_of_cell? _ _ (hwc 0 (by omega))
        have hmine : ∀ q, q < w.heap.size → ¬ Mine E q := fun q hq e => by
          subst hEd
          unfold Mine at e
          simp only at e
          omega
        have hE : E.Ok := by
          subst hEd
          refine ⟨⟨hne.1, hne.2.1, hne.2.2.1⟩, ⟨hs.lt, hp.lt, hb.lt⟩, fun _ => ⟨bt, ot, rfl, hmine _ hbtlt⟩, fun _ => ⟨bw, ow, rfl, hmine _ hbwlt, fun q hq => cell_later hW (hwc q hq)⟩, ?_, fun r hr => ?_, h.below hW⟩
          · unfold Mine
            simp only
            omega
          · have ho := hR.own r hr
            have hcell := hR.cell hr
            have hcr : (if r < l.length then l.length else 0) = l.length := if_pos hr
            simp only [hcr] at ho
            rcases ho.2 with ⟨_, h0⟩ | ⟨g, cap, cur, hvg, _, hg, hnc, _, hcs, htk⟩
            · omega
            · refine ⟨g, cap, by rw [hcell, hvg], ?_, fun q hq => ?_⟩
              · have hgb : Blk wr g cur 4 := hg
                have hx : ∀ {q cs t}, Blk wr q cs t → t ≠ 4 → g ≠ q := fun {q cs t} hq ht e => by
                  subst e
                  unfold Blk at hgb hq
                  rw [hgb] at hq
                  injection hq with hq
                  injection hq with _ h2 _
                  exact ht h2.symm
                unfold Mine
                simp only
                rintro (e | e | e)
                · exact hx hs (by decide) e
                · exact hx hp (by decide) e
                · exact hx hb (by decide) e
              · rw [hvg] at ho
                have hq' : q < l.length := hq
                have hc := World.ownsRow.cellAt ho q (by omega)
                rw [hc]
                simp [hq']
        have hSA : SAt E wr ⟨List.replicate (l.length * 4) 0, List.replicate (l.length * 4) 0, 1 + sumT l⟩ := by
          subst hEd
          exact ⟨⟨rfl, rfl, rfl, Nat.le_refl _, fun _ _ _ _ _ => rfl⟩, hs, hp, hb, by simp, by simp⟩
        have hq := place_any E hE (by rw [hEd]; exact hl6) (by rw [hEd]; exact hl0) (by rw [hEd]; exact hm.2) l.length 0 0 _ y hl6 (by decide) (by rw [hEd]; exact hpl) wr hSA
        unfold pargs at hq
        have hEs : E.s = s ∧ E.p = p ∧ E.b = b ∧ E.l = l := by rw [hEd]; exact ⟨rfl, rfl, rfl, rfl⟩
        rw [hEs.1] at hq
        have Hq := Lib.hid hq
        have HB := Lib.hid hbl
        clear hE hSA hmine hR hs hp hb hq hEd hbl
        go_wp2_with fail
        refine Hq.out.mono ?_
        rintro e w5 ⟨rfl, hS5, hK5⟩
        have s4 := hS5.s.cell 4 (v := .slice (some ⟨E.b, 0, none⟩) E.l.length E.l.length) rfl
        have hb5 := hS5.b
        have hbl5 := hS5.bl
        rw [hEs.1, hEs.2.2.1, hEs.2.2.2] at s4
        rw [hEs.2.2.1] at hb5
        rw [hEs.2.2.2] at hbl5
        have hbw5 : Below w1.heap.size w1 w5 := HB.out.trans ⟨hK5.os, hK5.tape, hK5.output, hK5.size, fun q hq => hK5.block q (by have := HB.out.size; show q < wr.heap.size; omega) (by rw [show (E.since wr).s = E.s from rfl, hEs.1]; omega) (by rw [show (E.since wr).p = E.p from rfl, hEs.2.1]; omega) (by rw [show (E.since wr).b = E.b from rfl, hEs.2.2.1]; omega)⟩
        have HZ := Lib.hid (And.intro hb5 (And.intro hbl5 (hb1.trans (hbw5.mono hb1.size))))
        clear hb5 hbl5 hbw5 hS5 hK5 hwc
        go_wp2
        go_ret
        exact ⟨b, rfl, HZ.out.1, HZ.out.2.1, HZ.out.2.2⟩
end Go.Proofs.Ytogaepijfbgniaa
