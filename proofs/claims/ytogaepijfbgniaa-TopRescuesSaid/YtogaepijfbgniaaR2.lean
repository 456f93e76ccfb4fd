/- Contracts of package route: Right, earliest, End. -/
import Derived.Test.YtogaepijfbgniaaR1
import Derived.Test.YtogaepijfbgniaaAbove
import Derived.Test.YtogaepijfbgniaaW6
import Derived.Deep.DeepCutAuto
namespace Go.Proofs.Ytogaepijfbgniaa
open Go.RowKit Go.Shelf Go.Deep
set_option linter.unusedVariables false
/-- right tasks -/
def OkTasks (l : List Tk) : Prop := l.length ≤ 6 ∧ (∀ x ∈ l, 1 ≤ x.run ∧ x.run ≤ 9999 ∧ 1 ≤ x.seconds ∧ x.seconds ≤ 86400) ∧ ∀ k (hk : k < l.length), (idxOf (l.take k) fun y => y.run == l[k].run) = -1
set_option maxHeartbeats 4000000 in
set_option maxRecDepth 100000 in
theorem Right_any (A C : Option Addr) (c m d : Nat) (l : List Tk) (hl : OkTasks l) (hcap : l.length ≤ c) (hm : 1 ≤ m ∧ m ≤ 3) (w : World) (h : Tasks w A l) :
    Calls Try.prog 19 #[.slice A l.length c, .slice C m d] w fun e w' => e = .returned (.int .i64 0) ∧ Below w.heap.size w w' := by
  obtain ⟨hl6, hr, hid⟩ := hl
  have HR := Lib.hid hr
  have HI := Lib.hid hid
  have HF := Lib.hid (fun k n W (hW : Below w.heap.size w W) => find_any A c (l.take k) n W (by simp; omega) ((h.take k).below hW))
  have hm0 : ((m : Int) == 0) = false := by simp; omega
  clear hr hid
  go_enter Try.func19, Try.ntmps19
  go_wp2_with fail
  go_loopw [20] (fun i wr => ∃ k : Nat, k ≤ l.length ∧ i = .int .i64 k ∧ Below w.heap.size w wr) (fun i _ => l.length - (intOf i).toNat)
  case atStart => exact ⟨0, Nat.zero_le _, rfl, Below.refl _ _⟩
  case round =>
    obtain ⟨k, hk, rfl, hb⟩ := hrel
    by_cases hlt : k < l.length
    · have hs := Tk.slice_to A l.length c k (by omega) hcap
      obtain ⟨b, off, rfl, h0, h1, h2, h3⟩ := (h.below hb).at hlt
      have hx := HR.out _ (List.getElem_mem hlt)
      have hf := fun W hW => HF.out k l[k].run W hW
      rw [HI.out k hlt] at hf
      have hlen : (l.take k).length = k := by simp; omega
      rw [hlen] at hf
      have HF2 := Lib.hid hf
      clear hf hlen h HR HI HF
      generalize l[k] = x at *
      go_upto_region 8 with (fail)
      have hO := Blk.new wr #[.int .i64 x.run, .int .i64 x.seconds, .bool false, .slice none 0 0] 38
      have hbo := hb.alloc hb.size (.cells #[.int .i64 x.run, .int .i64 x.seconds, .bool false, .slice none 0 0] 38)
      clear h0 h1 h2 h3 hb
      generalize wr.alloc (.cells #[.int .i64 x.run, .int .i64 x.seconds, .bool false, .slice none 0 0] 38) = wo at *
      have o0 := hO.cell 0 (v := .int .i64 x.run) rfl
      have o1 := hO.cell 1 (v := .int .i64 x.seconds) rfl
      have o2 := hO.cell 2 (v := .bool false) rfl
      have o3 := hO.cell 3 (v := .slice none 0 0) rfl
      go_wp2_with fail
      have k0 := fun z => above_cell (w := wo) o0 z
      have k2 := fun z => above_cell (w := wo) o2 z
      have hv := fun (z : Above wo) => Lib.hid (HF2.out z.val (hbo.trans (z.kept.mono hbo.size)))
      clear o0 o1 o2 o3 hO
      refine wp_region_above (by kernel_rfl) (by kernel_rfl) ?_
      repeat (go_big_quiet_step ((go_at_call 30; exact above_call (hv _).out)))
      refine wpQuiet_nil ?_
      rintro _ ⟨z, rfl⟩
      have k2' := k2 z
      obtain ⟨z, hz⟩ := z
      simp only at k2'
      clear k0 k2 hv
      go_wp2
      go_roundw
      case rel => exact ⟨k + 1, by omega, by go_num, hbo.trans (hz.mono hbo.size)⟩
      case measure => simp [intOf]; omega
    · have hke : k = l.length := by omega
      subst hke
      go_wp2
      go_ret
      exact ⟨rfl, hb⟩
/-- a search as Best makes it: where its parts lie, and the world when it begins -/
structure Env where
  l : List Tk
  m : Nat
  A : Option Addr
  cA : Nat
  C : Option Addr
  cC : Nat
  K : Nat
  cK : Nat
  s : Nat
  p : Nat
  b : Nat
  W0 : World
structure St where
  p : List Int
  b : List Int
  e : Int
/-- what lay when the search began, but for its own three blocks -/
structure Kept (E : Env) (W : World) : Prop where
  os : W.os = E.W0.os
  tape : W.tape = E.W0.tape
  output : W.output = E.W0.output
  size : E.W0.heap.size ≤ W.heap.size
  block : ∀ k, k < E.W0.heap.size → k ≠ E.s → k ≠ E.p → k ≠ E.b → W.heap[k]? = E.W0.heap[k]?
def Mine (E : Env) (k : Nat) : Prop := k = E.s ∨ k = E.p ∨ k = E.b
section
variable {E : Env} {W W' : World}
theorem Kept.below (h : Kept E W) (hb : Below W.heap.size W W') : Kept E W' :=
  ⟨hb.os.trans h.os, hb.tape.trans h.tape, hb.output.trans h.output, Nat.le_trans h.size hb.size, fun k hk h1 h2 h3 => (hb.block k (by have := h.size; omega)).trans (h.block k hk h1 h2 h3)⟩
theorem Kept.set (h : Kept E W) {a : Addr} (ha : Mine E a.block) (u : Value) : Kept E (W.setCell a u) :=
  have hb := (Below.refl 0 W).setCell (p := a) (Nat.zero_le _) u
  ⟨hb.os.trans h.os, hb.tape.trans h.tape, hb.output.trans h.output, Nat.le_trans h.size hb.size, fun k hk h1 h2 h3 => (Below.heap_setCell W a u k (fun e => by rcases ha with q | q | q <;> omega)).trans (h.block k hk h1 h2 h3)⟩
theorem Kept.row (h : Kept E W) (g : Nat) (cs : Array Value) (ha : Mine E g) : Kept E (W.setRow g cs) :=
  have hb := below_setRow (Below.refl 0 W) (Nat.zero_le g) cs
  ⟨hb.os.trans h.os, hb.tape.trans h.tape, hb.output.trans h.output, Nat.le_trans h.size hb.size, fun k hk h1 h2 h3 => (setRow_other W g k cs (fun e => by rcases ha with q | q | q <;> omega)).trans (h.block k hk h1 h2 h3)⟩
theorem Kept.drewN (h : Kept E W) (n : Nat) : Kept E (W.drewN n) := ⟨h.os, h.tape, h.output, h.size, h.block⟩
theorem Kept.cell (h : Kept E W) {a : Addr} {v : Value} (hv : E.W0.cell? a = some v) (h0 : ¬ Mine E a.block) : W.cell? a = some v := by
  have hlt := World.block_lt_of_cell? _ _ hv
  unfold Mine at h0
  rw [World.cell?_of_block (h.block a.block hlt (fun e => h0 (.inl e)) (fun e => h0 (.inr (.inl e))) (fun e => h0 (.inr (.inr e))))]
  exact hv
end
/-- what lies elsewhere -/
structure Env.Ok (E : Env) : Prop where
  ne : E.s ≠ E.p ∧ E.s ≠ E.b ∧ E.p ≠ E.b
  lt : E.s < E.W0.heap.size ∧ E.p < E.W0.heap.size ∧ E.b < E.W0.heap.size
  task : 0 < E.l.length → ∃ b off, E.A = some ⟨b, off, none⟩ ∧ ¬ Mine E b
  winch : 0 < E.m → ∃ b off, E.C = some ⟨b, off, none⟩ ∧ ¬ Mine E b ∧ ∀ i, i < E.m → E.W0.cell? ⟨b, off + i, none⟩ = some (.bool false)
  clash : ¬ Mine E E.K
  row : ∀ i, i < E.l.length → ∃ g c, E.W0.cell? ⟨E.K, i, none⟩ = some (.slice (some ⟨g, 0, none⟩) E.l.length c) ∧ ¬ Mine E g ∧ ∀ j, j < E.l.length → E.W0.cell? ⟨g, j, none⟩ = some (.bool false)
  tasks : Tasks E.W0 E.A E.l
/-- the memory of the search -/
structure SAt (E : Env) (W : World) (x : St) : Prop where
  kept : Kept E W
  s : Blk W E.s #[.slice E.A E.l.length E.cA, .slice E.C E.m E.cC, .slice (some ⟨E.K, 0, none⟩) E.l.length E.cK, .slice (some ⟨E.p, 0, none⟩) E.l.length E.l.length, .slice (some ⟨E.b, 0, none⟩) E.l.length E.l.length, .int .i64 x.e] 58
  p : Blk W E.p (x.p.map (Value.int .i64)).toArray 72
  b : Blk W E.b (x.b.map (Value.int .i64)).toArray 72
  pl : x.p.length = E.l.length * 4
  bl : x.b.length = E.l.length * 4
section
variable {E : Env} {W W' : World} {x : St}
theorem SAt.below (h : SAt E W x) (hb : Below W.heap.size W W') : SAt E W' x := ⟨h.kept.below hb, h.s.below hb, h.p.below hb, h.b.below hb, h.pl, h.bl⟩
theorem SAt.drewN (h : SAt E W x) (n : Nat) : SAt E (W.drewN n) x := ⟨h.kept.drewN n, h.s.drewN n, h.p.drewN n, h.b.drewN n, h.pl, h.bl⟩
theorem SAt.set (hE : E.Ok) (h : SAt E W x) (i : Nat) (v : Int) : SAt E (W.setCell ⟨E.p, i, none⟩ (.int .i64 v)) { x with p := x.p.set i v } where
  kept := h.kept.set (.inr (.inl rfl)) _
  s := h.s.far _ _ hE.ne.1
  p := by
    have := h.p.set i (.int .i64 v)
    rw [set_toArray, ← List.map_set] at this
    exact this
  b := h.b.far _ _ (fun e => hE.ne.2.2 e.symm)
  pl := by simp only [List.length_set]; exact h.pl
  bl := h.bl
theorem SAt.getp (h : SAt E W x) {i : Nat} (hi : i < E.l.length * 4) : W.cell? ⟨E.p, i, none⟩ = some (.int .i64 (x.p.getD i 0)) := h.p.cell i (by rw [← h.pl] at hi; simp [hi])
end
/-- when a groomer is free, by the first k shifts -/
def earl (p : List Int) (g : Int) : Nat → Int
  | 0 => 0
  | k + 1 => if (p.getD (k * 4) 0 != 0) = true then (if (p.getD (k * 4) 0 == g) = true then mx (earl p g k) (p.getD (k * 4 + 3) 0) else earl p g k) else earl p g k
set_option maxHeartbeats 4000000 in
set_option maxRecDepth 100000 in
theorem earliest_any (E : Env) (hE : E.Ok) (hl : E.l.length ≤ 6) (x : St) (i : Nat) (hi : i < E.l.length) (g : Int) (w : World) (h : SAt E w x) :
    Calls Try.prog 32 #[.pointer (some ⟨E.s, 0, none⟩), .int .i64 i, .int .i64 g] w fun e w' => e = .returned (.int .i64 (earl x.p g E.l.length)) ∧ Below w.heap.size w w' := by
  have s2 := h.s.cell 2 (v := .slice (some ⟨E.K, 0, none⟩) E.l.length E.cK) rfl
  have s3 := h.s.cell 3 (v := .slice (some ⟨E.p, 0, none⟩) E.l.length E.l.length) rfl
  have hp := Lib.hid (fun j (hj : j < E.l.length * 4) => h.getp hj)
  obtain ⟨gb, gc, r0, r1, r2⟩ := hE.row i hi
  have c0 := h.kept.cell r0 hE.clash
  have cj := Lib.hid (fun j (hj : j < E.l.length) => h.kept.cell (r2 j hj) r1)
  have S2 := Lib.hid s2
  have C0 := Lib.hid c0
  have hii : (i : Int) < (E.l.length : Int) := by omega
  clear r0 r1 r2 h hE s2 c0
  go_enter Try.func32, Try.ntmps32
  go_wp2_with fail
  go_loopw [7, 15] (fun v q wr => ∃ k : Nat, k ≤ E.l.length ∧ q = .int .i64 k ∧ v = .int .i64 (earl x.p g k) ∧ Below w.heap.size w wr) (fun _ q _ => E.l.length - (intOf q).toNat)
  case atStart => exact ⟨0, Nat.zero_le _, rfl, rfl, Below.refl _ _⟩
  case round =>
    clear s3
    obtain ⟨k, hk, rfl, rfl, hb⟩ := hrel
    by_cases hlt : k < E.l.length
    · have p0 := cell_later hb (hp.out (k * 4) (by omega))
      have p1 := cell_later hb (hp.out (k * 4 + 1) (by omega))
      have p2 := cell_later hb (hp.out (k * 4 + 2) (by omega))
      have p3 := cell_later hb (hp.out (k * 4 + 3) (by omega))
      have hes : earl x.p g (k + 1) = if (x.p.getD (k * 4) 0 != 0) = true then (if (x.p.getD (k * 4) 0 == g) = true then mx (earl x.p g k) (x.p.getD (k * 4 + 3) 0) else earl x.p g k) else earl x.p g k := rfl
      have Hes := Lib.hid hes
      clear hes
      generalize x.p.getD (k * 4) 0 = q0 at *
      generalize x.p.getD (k * 4 + 1) 0 = q1 at *
      generalize x.p.getD (k * 4 + 2) 0 = q2 at *
      generalize x.p.getD (k * 4 + 3) 0 = q3 at *
      generalize earl x.p g k = t at *
      have hkl : (k : Int) < (E.l.length : Int) := by omega
      have ka := below_alloc wr (.cells #[.int .i64 q0, .int .i64 q1, .int .i64 q2, .int .i64 q3] 72)
      have hbw := hb.alloc hb.size (.cells #[.int .i64 q0, .int .i64 q1, .int .i64 q2, .int .i64 q3] 72)
      have e2 := cell_later ka (cell_later hb S2.out)
      have e0 := cell_later ka (cell_later hb C0.out)
      have ej := cell_later ka (cell_later hb (cj.out k hlt))
      clear ka hp cj S2 C0
      cases h0 : (q0 != 0) with
      | false =>
        have He := Hes.out
        rw [h0, if_neg (by simp)] at He
        have HE2 := Lib.hid He
        clear He Hes hb
        go_wp2
        go_roundw
        case rel => exact ⟨k + 1, by omega, by go_num, by rw [HE2.out], hbw⟩
        case measure => simp [intOf]; omega
      | true =>
        have He := Hes.out
        rw [h0, if_pos rfl] at He
        cases h1 : (q0 == g) with
        | false =>
          rw [h1, if_neg (by simp)] at He
          have HE2 := Lib.hid He
          clear He Hes hb
          go_wp2
          go_roundw
          case rel => exact ⟨k + 1, by omega, by go_num, by rw [HE2.out], hbw⟩
          case measure => simp [intOf]; omega
        | true =>
          rw [h1, if_pos rfl] at He
          have HE2 := Lib.hid He
          clear He Hes hb
          go_wp2
          all_goals
            go_roundw
            case rel => exact ⟨k + 1, by omega, by go_num, by rw [HE2.out]; first | rfl | (unfold mx; rw [if_pos (by assumption)]) | (unfold mx; rw [if_neg (by omega)]), hbw⟩
            case measure => simp [intOf]; omega
    · have hke : k = E.l.length := by omega
      subst hke
      go_wp2
      go_ret
      exact ⟨rfl, hb⟩
end Go.Proofs.Ytogaepijfbgniaa
