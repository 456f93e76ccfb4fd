/- The examples of the chapter hold; Same. -/
import Derived.Test.YtjnokdpliocmmaaW2
import Derived.Test.YtjnokdpliocmmaaW7
import Derived.Test.YtjnokdpliocmmaaW8
import Derived.Test.YtjnokdpliocmmaaW9
import Derived.Deep.RegionHeld3
namespace Go.Proofs.Ytjnokdpliocmmaa
open Go.RowKit
set_option linter.unusedVariables false
set_option linter.unusedSimpArgs false
set_option maxHeartbeats 1000000 in
theorem Same_eq (A C : Option Addr) (c d : Nat) (l : List Obs) (w : World) (hm : l.length ≤ 1000000000000000) (hA : Obss w A l) (hC : Obss w C l) :
    Calls Try.prog 26 #[.slice A l.length c, .slice C l.length d] w fun e w' => e = .returned (.bool true) ∧ ∃ n, w' = w.drewN n := by
  go_enter Try.func26, Try.ntmps26
  go_wp2
  go_loopw [5] (fun i wr => ∃ (k n : Nat), k ≤ l.length ∧ i = .int .i64 k ∧ wr = w.drewN n) (fun i _ => l.length - (intOf i).toNat)
  case atStart => exact ⟨0, 0, Nat.zero_le _, rfl, rfl⟩
  case round =>
    obtain ⟨k, n, hk, rfl, rfl⟩ := hrel
    by_cases hlt : k < l.length
    · obtain ⟨b, o, rfl, hcA⟩ := hA (by omega)
      obtain ⟨b', o', rfl, hcC⟩ := hC (by omega)
      obtain ⟨a0, a1, a2, a3, a4, a5⟩ := hcA k hlt
      obtain ⟨e0, e1, e2, e3, e4, e5⟩ := hcC k hlt
      clear hcA hcC
      generalize l[k] = x at *
      have hne := x.neq_self
      go_wp2_with fail
      go_quiet (fail)
      go_wp2
      go_roundw
      case rel => exact ⟨k + 1, _, by omega, by go_num, rfl⟩
      case measure => simp [intOf]; omega
    · go_wp2
      go_ret
      exact ⟨rfl, _, rfl⟩
def threeL : List Obs := [⟨3, 10, 5, 0, 0, 1⟩, ⟨3, 20, 9, 0, 0, 2⟩, ⟨3, 30, 7, 0, 0, 4⟩]
theorem three_any (w : World) : Calls Try.prog 27 #[] w fun e w' => ∃ A c, e = .returned (.slice A 3 c) ∧ Obss w' A threeL ∧ Below w.heap.size w w' := by
  go_enter Try.func27, Try.ntmps27
  go_wp2
  go_ret
  refine ⟨_, _, rfl, fun _ => ⟨_, _, rfl, fun i hi => ?_⟩, below_alloc _ _⟩
  match i, hi with
  | 0, _ => simp only [threeL, List.getElem_cons_zero]; refine ⟨?_, ?_, ?_, ?_, ?_, ?_⟩ <;> go_simp
  | 1, _ => simp only [threeL, List.getElem_cons_succ, List.getElem_cons_zero]; refine ⟨?_, ?_, ?_, ?_, ?_, ?_⟩ <;> go_simp
  | 2, _ => simp only [threeL, List.getElem_cons_succ, List.getElem_cons_zero]; refine ⟨?_, ?_, ?_, ?_, ?_, ?_⟩ <;> go_simp
theorem Blk.below {W W' : World} {B : Nat} {cs : Array Value} {t : TypeId} (h : Blk W B cs t) (hb : Below W.heap.size W W') : Blk W' B cs t := (hb.block B h.lt).trans h
theorem wet_lit (temp hum x y : Int) (h : wetOf temp hum = (x, y)) (w : World) : Calls Try.prog 20 #[.int .i64 temp, .int .i64 hum] w fun e w' => e = .returned (.tuple #[.int .i64 x, .int .i64 y]) ∧ w = w' := by
  have := Wet_any temp hum w
  rw [h] at this; exact this
theorem upd_lit (a : Alarm) (v t : Int) (b : Alarm) (y : Int) (h : updOf a v t = (b, y)) (w : World) : Calls Try.prog 22 #[a.val, .int .i64 v, .int .i64 t] w fun e w' => e = .returned (.tuple #[b.val, .int .i64 y]) ∧ Below w.heap.size w w' := by
  have := Update_any a v t w
  rw [h] at this; exact this
theorem last_lit (A : Option Addr) (c : Nat) (s t : Int) (o : Obs) (h : lastOf threeL s t = some o) (w : World) (hl : Obss w A threeL) : Calls Try.prog 14 #[.slice A 3 c, .int .i64 s, .int .i64 t] w fun e w' => e = .returned (.tuple #[o.val, .bool true]) ∧ Below w.heap.size w w' := by
  have := Last_any A c threeL s t w (by decide) hl
  rw [h] at this; exact this
theorem peak_lit (A : Option Addr) (c : Nat) (s : Int) (p : Itv) (y : Int) (h : peakOf threeL s p = y) (w : World) (hl : Obss w A threeL) : Calls Try.prog 16 #[.slice A 3 c, .int .i64 s, p.val] w fun e w' => e = .returned (.int .i64 y) ∧ Below w.heap.size w w' := by
  have := Peak_any A c threeL s p w (by decide) hl
  rw [h] at this; exact this
theorem three_snow : snowB threeL := by
  intro x hx
  simp only [threeL, List.mem_cons, List.not_mem_nil, or_false] at hx
  rcases hx with rfl | rfl | rfl <;> decide
theorem fresh_lit (A : Option Addr) (c : Nat) (s : Int) (p : Itv) (y : Int) (h : freshOf threeL s p = y) (w : World) (hl : Obss w A threeL) : Calls Try.prog 18 #[.slice A 3 c, .int .i64 s, p.val] w fun e w' => e = .returned (.int .i64 y) ∧ Below w.heap.size w w' := by
  have := Fresh_any A c threeL s p w (by decide) three_snow hl
  rw [h] at this; exact this
theorem right_lit (A : Option Addr) (c : Nat) (y : Int) (h : rightOf threeL = y) (w : World) (hl : Obss w A threeL) : Calls Try.prog 12 #[.slice A 3 c] w fun e w' => e = .returned (.int .i64 y) ∧ Below w.heap.size w w' := by
  have := Right_any A c threeL w (by decide) hl
  rw [h] at this; exact this
def Cells14 (p1 p2 p3 p5 : Nat) (W : World) : Prop := W.cell? ⟨p1, 3, none⟩ = some (.bool true) ∧ W.cell? ⟨p1, 4, none⟩ = some (.int .i64 1000) ∧ W.cell? ⟨p2, 3, none⟩ = some (.bool true) ∧ W.cell? ⟨p2, 4, none⟩ = some (.int .i64 1000) ∧ W.cell? ⟨p3, 3, none⟩ = some (.bool false) ∧ W.cell? ⟨p3, 4, none⟩ = some (.int .i64 1000) ∧ W.cell? ⟨p5, 0, none⟩ = some (.int .i64 3) ∧ W.cell? ⟨p5, 1, none⟩ = some (.int .i64 20) ∧ W.cell? ⟨p5, 2, none⟩ = some (.int .i64 9) ∧ W.cell? ⟨p5, 3, none⟩ = some (.int .i64 0) ∧ W.cell? ⟨p5, 4, none⟩ = some (.int .i64 0) ∧ W.cell? ⟨p5, 5, none⟩ = some (.int .i64 2) ∧ W.cell? ⟨p5 + 1, 0, none⟩ = some (.int .i64 10) ∧ W.cell? ⟨p5 + 1, 1, none⟩ = some (.int .i64 30)
theorem cells14_later {p1 p2 p3 p5 : Nat} {W W' : World} (h : Cells14 p1 p2 p3 p5 W) (hb : Below W.heap.size W W') : Cells14 p1 p2 p3 p5 W' := by
  obtain ⟨h0, h1, h2, h3, h4, h5, h6, h7, h8, h9, h10, h11, h12, h13⟩ := h
  exact ⟨cell_later hb h0, cell_later hb h1, cell_later hb h2, cell_later hb h3, cell_later hb h4, cell_later hb h5, cell_later hb h6, cell_later hb h7, cell_later hb h8, cell_later hb h9, cell_later hb h10, cell_later hb h11, cell_later hb h12, cell_later hb h13⟩
set_option maxRecDepth 100000 in
set_option maxHeartbeats 8000000 in
theorem alive_any (w : World) : Calls Try.prog 11 #[] w fun e w' => e = .returned (.bool true) ∧ Below w.heap.size w w' := by
  have u1 := fun W => Lib.hid (upd_lit ⟨20, 15, 600, true, -1⟩ 14 1000 ⟨20, 15, 600, true, 1000⟩ 0 (by rfl) W)
  have u2 := fun W => Lib.hid (upd_lit ⟨20, 15, 600, true, 1000⟩ 10 1599 ⟨20, 15, 600, true, 1000⟩ 0 (by rfl) W)
  have u3 := fun W => Lib.hid (upd_lit ⟨20, 15, 600, true, 1000⟩ 14 1600 ⟨20, 15, 600, false, 1000⟩ 0 (by rfl) W)
  unfold Alarm.val at u1 u2 u3
  go_enter Try.func11, Try.ntmps11
  go_wp2_with fail
  refine (wet_lit 0 500 (-25) 0 (by decide +kernel) _).mono ?_
  rintro e w' ⟨rfl, rfl⟩
  go_wp2_with fail
  refine (wet_lit (-50) 300 (-79) 0 (by decide +kernel) _).mono ?_
  rintro e w' ⟨rfl, rfl⟩
  go_wp2_with fail
  refine (u1 _).out.mono ?_
  rintro e w1 ⟨rfl, hb1⟩
  go_wp2_with fail
  refine (u2 _).out.mono ?_
  rintro e w2 ⟨rfl, hb2⟩
  have bA := (Blk.new w1 #[.int .i64 20, .int .i64 15, .int .i64 600, .bool true, .int .i64 1000] 39).below hb2
  have B2 := (hb1.alloc hb1.size (.cells #[.int .i64 20, .int .i64 15, .int .i64 600, .bool true, .int .i64 1000] 39)).trans (hb2.mono (Nat.le_trans hb1.size (by simp)))
  clear hb1 hb2
  go_wp2_with fail
  refine (u3 _).out.mono ?_
  rintro e w3 ⟨rfl, hb3⟩
  replace bA := (bA.alloc (.cells #[.int .i64 20, .int .i64 15, .int .i64 600, .bool true, .int .i64 1000] 39)).below hb3
  have bB := (Blk.new w2 #[.int .i64 20, .int .i64 15, .int .i64 600, .bool true, .int .i64 1000] 39).below hb3
  have B3 := (B2.alloc B2.size (.cells #[.int .i64 20, .int .i64 15, .int .i64 600, .bool true, .int .i64 1000] 39)).trans (hb3.mono (Nat.le_trans B2.size (by simp)))
  clear hb3 B2 u1 u2 u3
  go_wp2_with fail
  refine (three_any _).mono ?_
  rintro e w4 ⟨A4, c4, rfl, h4, hb4⟩
  replace bA := (bA.alloc (.cells #[.int .i64 20, .int .i64 15, .int .i64 600, .bool false, .int .i64 1000] 39)).below hb4
  replace bB := (bB.alloc (.cells #[.int .i64 20, .int .i64 15, .int .i64 600, .bool false, .int .i64 1000] 39)).below hb4
  have bC := (Blk.new w3 #[.int .i64 20, .int .i64 15, .int .i64 600, .bool false, .int .i64 1000] 39).below hb4
  have B4 := (B3.alloc B3.size (.cells #[.int .i64 20, .int .i64 15, .int .i64 600, .bool false, .int .i64 1000] 39)).trans (hb4.mono (Nat.le_trans B3.size (by simp)))
  clear hb4 B3
  go_wp2_with fail
  refine (last_lit A4 c4 3 25 ⟨3, 20, 9, 0, 0, 2⟩ (by rfl) _ h4).mono ?_
  rintro e w5 ⟨rfl, hb5⟩
  replace bA := ((bA.below hb5).alloc (.cells #[.int .i64 3, .int .i64 20, .int .i64 9, .int .i64 0, .int .i64 0, .int .i64 2] 30)).alloc (.cells #[.int .i64 10, .int .i64 30] 28)
  replace bB := ((bB.below hb5).alloc (.cells #[.int .i64 3, .int .i64 20, .int .i64 9, .int .i64 0, .int .i64 0, .int .i64 2] 30)).alloc (.cells #[.int .i64 10, .int .i64 30] 28)
  replace bC := ((bC.below hb5).alloc (.cells #[.int .i64 3, .int .i64 20, .int .i64 9, .int .i64 0, .int .i64 0, .int .i64 2] 30)).alloc (.cells #[.int .i64 10, .int .i64 30] 28)
  have bO := (Blk.new w5 #[.int .i64 3, .int .i64 20, .int .i64 9, .int .i64 0, .int .i64 0, .int .i64 2] 30).alloc (.cells #[.int .i64 10, .int .i64 30] 28)
  have bS := Blk.new (w5.alloc (.cells #[.int .i64 3, .int .i64 20, .int .i64 9, .int .i64 0, .int .i64 0, .int .i64 2] 30)) #[.int .i64 10, .int .i64 30] 28
  rw [World.size_alloc] at bS
  have B5 := B4.trans (hb5.mono B4.size)
  have B6 := (B5.alloc B5.size (.cells #[.int .i64 3, .int .i64 20, .int .i64 9, .int .i64 0, .int .i64 0, .int .i64 2] 30)).alloc (Nat.le_trans B5.size (by simp)) (.cells #[.int .i64 10, .int .i64 30] 28)
  clear hb5 B4 B5 h4
  have hS0 : Cells14 w1.heap.size w2.heap.size w3.heap.size w5.heap.size ((w5.alloc (.cells #[.int .i64 3, .int .i64 20, .int .i64 9, .int .i64 0, .int .i64 0, .int .i64 2] 30)).alloc (.cells #[.int .i64 10, .int .i64 30] 28)).drew :=
    ⟨bA.cell 3 rfl, bA.cell 4 rfl, bB.cell 3 rfl, bB.cell 4 rfl, bC.cell 3 rfl, bC.cell 4 rfl, bO.cell 0 rfl, bO.cell 1 rfl, bO.cell 2 rfl, bO.cell 3 rfl, bO.cell 4 rfl, bO.cell 5 rfl, bS.cell 0 rfl, bS.cell 1 rfl⟩
  have hS := hS0
  have hB := B6.drew
  have heq := Obs.eql_self ⟨3, 20, 9, 0, 0, 2⟩
  simp only at heq
  clear hS0 B6 bA bB bC bO bS
  unfold Obs.val
  go_wp2_with fail
  simp only [List.append_eq, List.cons_append, List.nil_append]
  refine wp_region_held_drew (S := Cells14 w1.heap.size w2.heap.size w3.heap.size w5.heap.size) (by kernel_rfl) hS (fun hHeld => ?_)
  clear hHeld
  refine wpAnyH_take (i := 0) (oi := { dst := some 43, op := Op.move (Operand.tmp 1), type := 3, pos := _, after := _, guard := none }) (v := ?v0) rfl (by kernel_rfl) (by kernel_rfl) (by kernel_rfl) (fun _ _ _ h => h) (Or.inl ⟨by rfl, ?h0⟩) hS ?r0
  case h0 => (intro W hSw; go_simp; try with_reducible rfl)
  try simp only [Act.put, List.setIfInBounds_toArray, List.set_cons_zero, List.set_cons_succ]
  refine wpAnyH_take (i := 1) (oi := { dst := some 44, op := Op.binOp BinOp.eql 3 (Operand.tmp 43) (Operand.const (Value.int IntKind.i64 (-25))) 3, type := 4, pos := _, after := _, guard := none }) (v := ?v1) rfl (by kernel_rfl) (by kernel_rfl) (by kernel_rfl) (fun _ _ _ h => h) (Or.inl ⟨by rfl, ?h1⟩) hS ?r1
  case h1 => (intro W hSw; go_simp; try with_reducible rfl)
  try simp only [Act.put, List.setIfInBounds_toArray, List.set_cons_zero, List.set_cons_succ]
  refine wpAnyH_take (i := 2) (oi := { dst := some 45, op := Op.move (Operand.tmp 44), type := 4, pos := _, after := _, guard := none }) (v := ?v2) rfl (by kernel_rfl) (by kernel_rfl) (by kernel_rfl) (fun _ _ _ h => h) (Or.inl ⟨by rfl, ?h2⟩) hS ?r2
  case h2 => (intro W hSw; go_simp; try with_reducible rfl)
  try simp only [Act.put, List.setIfInBounds_toArray, List.set_cons_zero, List.set_cons_succ]
  refine wpAnyH_take (i := 3) (oi := { dst := some 46, op := Op.move (Operand.tmp 2), type := 24, pos := _, after := _, guard := some (2, true) }) (v := ?v3) rfl (by kernel_rfl) (by kernel_rfl) (by kernel_rfl) (fun _ _ _ h => h) (Or.inl ⟨by rfl, ?h3⟩) hS ?r3
  case h3 => (intro W hSw; go_simp; try with_reducible rfl)
  try simp only [Act.put, List.setIfInBounds_toArray, List.set_cons_zero, List.set_cons_succ]
  refine wpAnyH_take (i := 4) (oi := { dst := some 47, op := Op.binOp BinOp.eql 24 (Operand.tmp 46) (Operand.const (Value.int IntKind.i64 0)) 24, type := 4, pos := _, after := _, guard := some (2, true) }) (v := ?v4) rfl (by kernel_rfl) (by kernel_rfl) (by kernel_rfl) (fun _ _ _ h => h) (Or.inl ⟨by rfl, ?h4⟩) hS ?r4
  case h4 => (intro W hSw; go_simp; try with_reducible rfl)
  try simp only [Act.put, List.setIfInBounds_toArray, List.set_cons_zero, List.set_cons_succ]
  refine wpAnyH_take (i := 5) (oi := { dst := some 48, op := Op.pick (Operand.tmp 45) (Operand.tmp 47) (Operand.const (Value.bool false)), type := 4, pos := _, after := _, guard := none }) (v := ?v5) rfl (by kernel_rfl) (by kernel_rfl) (by kernel_rfl) (fun _ _ _ h => h) (Or.inl ⟨by rfl, ?h5⟩) hS ?r5
  case h5 => (intro W hSw; go_simp; try with_reducible rfl)
  try simp only [Act.put, List.setIfInBounds_toArray, List.set_cons_zero, List.set_cons_succ]
  refine wpAnyH_take (i := 6) (oi := { dst := some 49, op := Op.move (Operand.tmp 48), type := 4, pos := _, after := _, guard := none }) (v := ?v6) rfl (by kernel_rfl) (by kernel_rfl) (by kernel_rfl) (fun _ _ _ h => h) (Or.inl ⟨by rfl, ?h6⟩) hS ?r6
  case h6 => (intro W hSw; go_simp; try with_reducible rfl)
  try simp only [Act.put, List.setIfInBounds_toArray, List.set_cons_zero, List.set_cons_succ]
  refine wpAnyH_take (i := 7) (oi := { dst := some 50, op := Op.move (Operand.tmp 3), type := 3, pos := _, after := _, guard := some (6, true) }) (v := ?v7) rfl (by kernel_rfl) (by kernel_rfl) (by kernel_rfl) (fun _ _ _ h => h) (Or.inl ⟨by rfl, ?h7⟩) hS ?r7
  case h7 => (intro W hSw; go_simp; try with_reducible rfl)
  try simp only [Act.put, List.setIfInBounds_toArray, List.set_cons_zero, List.set_cons_succ]
  refine wpAnyH_take (i := 8) (oi := { dst := some 51, op := Op.binOp BinOp.eql 3 (Operand.tmp 50) (Operand.const (Value.int IntKind.i64 (-79))) 3, type := 4, pos := _, after := _, guard := some (6, true) }) (v := ?v8) rfl (by kernel_rfl) (by kernel_rfl) (by kernel_rfl) (fun _ _ _ h => h) (Or.inl ⟨by rfl, ?h8⟩) hS ?r8
  case h8 => (intro W hSw; go_simp; try with_reducible rfl)
  try simp only [Act.put, List.setIfInBounds_toArray, List.set_cons_zero, List.set_cons_succ]
  refine wpAnyH_take (i := 9) (oi := { dst := some 52, op := Op.pick (Operand.tmp 49) (Operand.tmp 51) (Operand.const (Value.bool false)), type := 4, pos := _, after := _, guard := none }) (v := ?v9) rfl (by kernel_rfl) (by kernel_rfl) (by kernel_rfl) (fun _ _ _ h => h) (Or.inl ⟨by rfl, ?h9⟩) hS ?r9
  case h9 => (intro W hSw; go_simp; try with_reducible rfl)
  try simp only [Act.put, List.setIfInBounds_toArray, List.set_cons_zero, List.set_cons_succ]
  refine wpAnyH_take (i := 10) (oi := { dst := some 53, op := Op.move (Operand.tmp 52), type := 4, pos := _, after := _, guard := none }) (v := ?v10) rfl (by kernel_rfl) (by kernel_rfl) (by kernel_rfl) (fun _ _ _ h => h) (Or.inl ⟨by rfl, ?h10⟩) hS ?r10
  case h10 => (intro W hSw; go_simp; try with_reducible rfl)
  try simp only [Act.put, List.setIfInBounds_toArray, List.set_cons_zero, List.set_cons_succ]
  refine wpAnyH_take (i := 11) (oi := { dst := some 54, op := Op.move (Operand.tmp 4), type := 24, pos := _, after := _, guard := some (10, true) }) (v := ?v11) rfl (by kernel_rfl) (by kernel_rfl) (by kernel_rfl) (fun _ _ _ h => h) (Or.inl ⟨by rfl, ?h11⟩) hS ?r11
  case h11 => (intro W hSw; go_simp; try with_reducible rfl)
  try simp only [Act.put, List.setIfInBounds_toArray, List.set_cons_zero, List.set_cons_succ]
  refine wpAnyH_take (i := 12) (oi := { dst := some 55, op := Op.binOp BinOp.eql 24 (Operand.tmp 54) (Operand.const (Value.int IntKind.i64 0)) 24, type := 4, pos := _, after := _, guard := some (10, true) }) (v := ?v12) rfl (by kernel_rfl) (by kernel_rfl) (by kernel_rfl) (fun _ _ _ h => h) (Or.inl ⟨by rfl, ?h12⟩) hS ?r12
  case h12 => (intro W hSw; go_simp; try with_reducible rfl)
  try simp only [Act.put, List.setIfInBounds_toArray, List.set_cons_zero, List.set_cons_succ]
  refine wpAnyH_take (i := 13) (oi := { dst := some 56, op := Op.pick (Operand.tmp 53) (Operand.tmp 55) (Operand.const (Value.bool false)), type := 4, pos := _, after := _, guard := none }) (v := ?v13) rfl (by kernel_rfl) (by kernel_rfl) (by kernel_rfl) (fun _ _ _ h => h) (Or.inl ⟨by rfl, ?h13⟩) hS ?r13
  case h13 => (intro W hSw; go_simp; try with_reducible rfl)
  try simp only [Act.put, List.setIfInBounds_toArray, List.set_cons_zero, List.set_cons_succ]
  refine wpAnyH_take (i := 14) (oi := { dst := some 57, op := Op.move (Operand.tmp 56), type := 4, pos := _, after := _, guard := none }) (v := ?v14) rfl (by kernel_rfl) (by kernel_rfl) (by kernel_rfl) (fun _ _ _ h => h) (Or.inl ⟨by rfl, ?h14⟩) hS ?r14
  case h14 => (intro W hSw; go_simp; try with_reducible rfl)
  try simp only [Act.put, List.setIfInBounds_toArray, List.set_cons_zero, List.set_cons_succ]
  refine wpAnyH_take (i := 15) (oi := { dst := some 58, op := Op.fieldAddr 39 (Operand.tmp 5) 3, type := 0, pos := _, after := _, guard := some (14, true) }) (v := ?v15) rfl (by kernel_rfl) (by kernel_rfl) (by kernel_rfl) (fun _ _ _ h => h) (Or.inl ⟨by rfl, ?h15⟩) hS ?r15
  case h15 => (intro W hSw; go_simp; try with_reducible rfl)
  try simp only [Act.put, List.setIfInBounds_toArray, List.set_cons_zero, List.set_cons_succ]
  refine wpAnyH_take (i := 16) (oi := { dst := some 59, op := Op.load 4 (Operand.tmp 58), type := 4, pos := _, after := _, guard := some (14, true) }) (v := ?v16) rfl (by kernel_rfl) (by kernel_rfl) (by kernel_rfl) (fun _ _ _ h => h) (Or.inl ⟨by rfl, ?h16⟩) hS ?r16
  case h16 => (intro W hSw; obtain ⟨y0, y1, y2, y3, y4, y5, y6, y7, y8, y9, y10, y11, y12, y13⟩ := hSw; go_simp; try with_reducible rfl)
  try simp only [Act.put, List.setIfInBounds_toArray, List.set_cons_zero, List.set_cons_succ]
  refine wpAnyH_take (i := 17) (oi := { dst := some 60, op := Op.pick (Operand.tmp 57) (Operand.tmp 59) (Operand.const (Value.bool false)), type := 4, pos := _, after := _, guard := none }) (v := ?v17) rfl (by kernel_rfl) (by kernel_rfl) (by kernel_rfl) (fun _ _ _ h => h) (Or.inl ⟨by rfl, ?h17⟩) hS ?r17
  case h17 => (intro W hSw; go_simp; try with_reducible rfl)
  try simp only [Act.put, List.setIfInBounds_toArray, List.set_cons_zero, List.set_cons_succ]
  refine wpAnyH_take (i := 18) (oi := { dst := some 61, op := Op.move (Operand.tmp 60), type := 4, pos := _, after := _, guard := none }) (v := ?v18) rfl (by kernel_rfl) (by kernel_rfl) (by kernel_rfl) (fun _ _ _ h => h) (Or.inl ⟨by rfl, ?h18⟩) hS ?r18
  case h18 => (intro W hSw; go_simp; try with_reducible rfl)
  try simp only [Act.put, List.setIfInBounds_toArray, List.set_cons_zero, List.set_cons_succ]
  refine wpAnyH_take (i := 19) (oi := { dst := some 62, op := Op.fieldAddr 39 (Operand.tmp 5) 4, type := 0, pos := _, after := _, guard := some (18, true) }) (v := ?v19) rfl (by kernel_rfl) (by kernel_rfl) (by kernel_rfl) (fun _ _ _ h => h) (Or.inl ⟨by rfl, ?h19⟩) hS ?r19
  case h19 => (intro W hSw; go_simp; try with_reducible rfl)
  try simp only [Act.put, List.setIfInBounds_toArray, List.set_cons_zero, List.set_cons_succ]
  refine wpAnyH_take (i := 20) (oi := { dst := some 63, op := Op.load 3 (Operand.tmp 62), type := 3, pos := _, after := _, guard := some (18, true) }) (v := ?v20) rfl (by kernel_rfl) (by kernel_rfl) (by kernel_rfl) (fun _ _ _ h => h) (Or.inl ⟨by rfl, ?h20⟩) hS ?r20
  case h20 => (intro W hSw; obtain ⟨y0, y1, y2, y3, y4, y5, y6, y7, y8, y9, y10, y11, y12, y13⟩ := hSw; go_simp; try with_reducible rfl)
  try simp only [Act.put, List.setIfInBounds_toArray, List.set_cons_zero, List.set_cons_succ]
  refine wpAnyH_take (i := 21) (oi := { dst := some 64, op := Op.binOp BinOp.eql 3 (Operand.tmp 63) (Operand.const (Value.int IntKind.i64 1000)) 3, type := 4, pos := _, after := _, guard := some (18, true) }) (v := ?v21) rfl (by kernel_rfl) (by kernel_rfl) (by kernel_rfl) (fun _ _ _ h => h) (Or.inl ⟨by rfl, ?h21⟩) hS ?r21
  case h21 => (intro W hSw; go_simp; try with_reducible rfl)
  try simp only [Act.put, List.setIfInBounds_toArray, List.set_cons_zero, List.set_cons_succ]
  refine wpAnyH_take (i := 22) (oi := { dst := some 65, op := Op.pick (Operand.tmp 61) (Operand.tmp 64) (Operand.const (Value.bool false)), type := 4, pos := _, after := _, guard := none }) (v := ?v22) rfl (by kernel_rfl) (by kernel_rfl) (by kernel_rfl) (fun _ _ _ h => h) (Or.inl ⟨by rfl, ?h22⟩) hS ?r22
  case h22 => (intro W hSw; go_simp; try with_reducible rfl)
  try simp only [Act.put, List.setIfInBounds_toArray, List.set_cons_zero, List.set_cons_succ]
  refine wpAnyH_take (i := 23) (oi := { dst := some 66, op := Op.move (Operand.tmp 65), type := 4, pos := _, after := _, guard := none }) (v := ?v23) rfl (by kernel_rfl) (by kernel_rfl) (by kernel_rfl) (fun _ _ _ h => h) (Or.inl ⟨by rfl, ?h23⟩) hS ?r23
  case h23 => (intro W hSw; go_simp; try with_reducible rfl)
  try simp only [Act.put, List.setIfInBounds_toArray, List.set_cons_zero, List.set_cons_succ]
  refine wpAnyH_take (i := 24) (oi := { dst := some 67, op := Op.move (Operand.tmp 6), type := 24, pos := _, after := _, guard := some (23, true) }) (v := ?v24) rfl (by kernel_rfl) (by kernel_rfl) (by kernel_rfl) (fun _ _ _ h => h) (Or.inl ⟨by rfl, ?h24⟩) hS ?r24
  case h24 => (intro W hSw; go_simp; try with_reducible rfl)
  try simp only [Act.put, List.setIfInBounds_toArray, List.set_cons_zero, List.set_cons_succ]
  refine wpAnyH_take (i := 25) (oi := { dst := some 68, op := Op.binOp BinOp.eql 24 (Operand.tmp 67) (Operand.const (Value.int IntKind.i64 0)) 24, type := 4, pos := _, after := _, guard := some (23, true) }) (v := ?v25) rfl (by kernel_rfl) (by kernel_rfl) (by kernel_rfl) (fun _ _ _ h => h) (Or.inl ⟨by rfl, ?h25⟩) hS ?r25
  case h25 => (intro W hSw; go_simp; try with_reducible rfl)
  try simp only [Act.put, List.setIfInBounds_toArray, List.set_cons_zero, List.set_cons_succ]
  refine wpAnyH_take (i := 26) (oi := { dst := some 69, op := Op.pick (Operand.tmp 66) (Operand.tmp 68) (Operand.const (Value.bool false)), type := 4, pos := _, after := _, guard := none }) (v := ?v26) rfl (by kernel_rfl) (by kernel_rfl) (by kernel_rfl) (fun _ _ _ h => h) (Or.inl ⟨by rfl, ?h26⟩) hS ?r26
  case h26 => (intro W hSw; go_simp; try with_reducible rfl)
  try simp only [Act.put, List.setIfInBounds_toArray, List.set_cons_zero, List.set_cons_succ]
  refine wpAnyH_take (i := 27) (oi := { dst := some 70, op := Op.move (Operand.tmp 69), type := 4, pos := _, after := _, guard := none }) (v := ?v27) rfl (by kernel_rfl) (by kernel_rfl) (by kernel_rfl) (fun _ _ _ h => h) (Or.inl ⟨by rfl, ?h27⟩) hS ?r27
  case h27 => (intro W hSw; go_simp; try with_reducible rfl)
  try simp only [Act.put, List.setIfInBounds_toArray, List.set_cons_zero, List.set_cons_succ]
  refine wpAnyH_take (i := 28) (oi := { dst := some 71, op := Op.fieldAddr 39 (Operand.tmp 7) 3, type := 0, pos := _, after := _, guard := some (27, true) }) (v := ?v28) rfl (by kernel_rfl) (by kernel_rfl) (by kernel_rfl) (fun _ _ _ h => h) (Or.inl ⟨by rfl, ?h28⟩) hS ?r28
  case h28 => (intro W hSw; go_simp; try with_reducible rfl)
  try simp only [Act.put, List.setIfInBounds_toArray, List.set_cons_zero, List.set_cons_succ]
  refine wpAnyH_take (i := 29) (oi := { dst := some 72, op := Op.load 4 (Operand.tmp 71), type := 4, pos := _, after := _, guard := some (27, true) }) (v := ?v29) rfl (by kernel_rfl) (by kernel_rfl) (by kernel_rfl) (fun _ _ _ h => h) (Or.inl ⟨by rfl, ?h29⟩) hS ?r29
  case h29 => (intro W hSw; obtain ⟨y0, y1, y2, y3, y4, y5, y6, y7, y8, y9, y10, y11, y12, y13⟩ := hSw; go_simp; try with_reducible rfl)
  try simp only [Act.put, List.setIfInBounds_toArray, List.set_cons_zero, List.set_cons_succ]
  refine wpAnyH_take (i := 30) (oi := { dst := some 73, op := Op.pick (Operand.tmp 70) (Operand.tmp 72) (Operand.const (Value.bool false)), type := 4, pos := _, after := _, guard := none }) (v := ?v30) rfl (by kernel_rfl) (by kernel_rfl) (by kernel_rfl) (fun _ _ _ h => h) (Or.inl ⟨by rfl, ?h30⟩) hS ?r30
  case h30 => (intro W hSw; go_simp; try with_reducible rfl)
  try simp only [Act.put, List.setIfInBounds_toArray, List.set_cons_zero, List.set_cons_succ]
  refine wpAnyH_take (i := 31) (oi := { dst := some 74, op := Op.move (Operand.tmp 73), type := 4, pos := _, after := _, guard := none }) (v := ?v31) rfl (by kernel_rfl) (by kernel_rfl) (by kernel_rfl) (fun _ _ _ h => h) (Or.inl ⟨by rfl, ?h31⟩) hS ?r31
  case h31 => (intro W hSw; go_simp; try with_reducible rfl)
  try simp only [Act.put, List.setIfInBounds_toArray, List.set_cons_zero, List.set_cons_succ]
  refine wpAnyH_take (i := 32) (oi := { dst := some 75, op := Op.move (Operand.tmp 8), type := 24, pos := _, after := _, guard := some (31, true) }) (v := ?v32) rfl (by kernel_rfl) (by kernel_rfl) (by kernel_rfl) (fun _ _ _ h => h) (Or.inl ⟨by rfl, ?h32⟩) hS ?r32
  case h32 => (intro W hSw; go_simp; try with_reducible rfl)
  try simp only [Act.put, List.setIfInBounds_toArray, List.set_cons_zero, List.set_cons_succ]
  refine wpAnyH_take (i := 33) (oi := { dst := some 76, op := Op.binOp BinOp.eql 24 (Operand.tmp 75) (Operand.const (Value.int IntKind.i64 0)) 24, type := 4, pos := _, after := _, guard := some (31, true) }) (v := ?v33) rfl (by kernel_rfl) (by kernel_rfl) (by kernel_rfl) (fun _ _ _ h => h) (Or.inl ⟨by rfl, ?h33⟩) hS ?r33
  case h33 => (intro W hSw; go_simp; try with_reducible rfl)
  try simp only [Act.put, List.setIfInBounds_toArray, List.set_cons_zero, List.set_cons_succ]
  refine wpAnyH_take (i := 34) (oi := { dst := some 77, op := Op.pick (Operand.tmp 74) (Operand.tmp 76) (Operand.const (Value.bool false)), type := 4, pos := _, after := _, guard := none }) (v := ?v34) rfl (by kernel_rfl) (by kernel_rfl) (by kernel_rfl) (fun _ _ _ h => h) (Or.inl ⟨by rfl, ?h34⟩) hS ?r34
  case h34 => (intro W hSw; go_simp; try with_reducible rfl)
  try simp only [Act.put, List.setIfInBounds_toArray, List.set_cons_zero, List.set_cons_succ]
  refine wpAnyH_take (i := 35) (oi := { dst := some 78, op := Op.move (Operand.tmp 77), type := 4, pos := _, after := _, guard := none }) (v := ?v35) rfl (by kernel_rfl) (by kernel_rfl) (by kernel_rfl) (fun _ _ _ h => h) (Or.inl ⟨by rfl, ?h35⟩) hS ?r35
  case h35 => (intro W hSw; go_simp; try with_reducible rfl)
  try simp only [Act.put, List.setIfInBounds_toArray, List.set_cons_zero, List.set_cons_succ]
  refine wpAnyH_take (i := 36) (oi := { dst := some 79, op := Op.fieldAddr 39 (Operand.tmp 9) 3, type := 0, pos := _, after := _, guard := some (35, true) }) (v := ?v36) rfl (by kernel_rfl) (by kernel_rfl) (by kernel_rfl) (fun _ _ _ h => h) (Or.inl ⟨by rfl, ?h36⟩) hS ?r36
  case h36 => (intro W hSw; go_simp; try with_reducible rfl)
  try simp only [Act.put, List.setIfInBounds_toArray, List.set_cons_zero, List.set_cons_succ]
  refine wpAnyH_take (i := 37) (oi := { dst := some 80, op := Op.load 4 (Operand.tmp 79), type := 4, pos := _, after := _, guard := some (35, true) }) (v := ?v37) rfl (by kernel_rfl) (by kernel_rfl) (by kernel_rfl) (fun _ _ _ h => h) (Or.inl ⟨by rfl, ?h37⟩) hS ?r37
  case h37 => (intro W hSw; obtain ⟨y0, y1, y2, y3, y4, y5, y6, y7, y8, y9, y10, y11, y12, y13⟩ := hSw; go_simp; try with_reducible rfl)
  try simp only [Act.put, List.setIfInBounds_toArray, List.set_cons_zero, List.set_cons_succ]
  refine wpAnyH_take (i := 38) (oi := { dst := some 81, op := Op.unOp UnOp.not 4 (Operand.tmp 80), type := 4, pos := _, after := _, guard := some (35, true) }) (v := ?v38) rfl (by kernel_rfl) (by kernel_rfl) (by kernel_rfl) (fun _ _ _ h => h) (Or.inl ⟨by rfl, ?h38⟩) hS ?r38
  case h38 => (intro W hSw; go_simp; try with_reducible rfl)
  try simp only [Act.put, List.setIfInBounds_toArray, List.set_cons_zero, List.set_cons_succ]
  refine wpAnyH_take (i := 39) (oi := { dst := some 82, op := Op.pick (Operand.tmp 78) (Operand.tmp 81) (Operand.const (Value.bool false)), type := 4, pos := _, after := _, guard := none }) (v := ?v39) rfl (by kernel_rfl) (by kernel_rfl) (by kernel_rfl) (fun _ _ _ h => h) (Or.inl ⟨by rfl, ?h39⟩) hS ?r39
  case h39 => (intro W hSw; go_simp; try with_reducible rfl)
  try simp only [Act.put, List.setIfInBounds_toArray, List.set_cons_zero, List.set_cons_succ]
  refine wpAnyH_take (i := 40) (oi := { dst := some 83, op := Op.move (Operand.tmp 82), type := 4, pos := _, after := _, guard := none }) (v := ?v40) rfl (by kernel_rfl) (by kernel_rfl) (by kernel_rfl) (fun _ _ _ h => h) (Or.inl ⟨by rfl, ?h40⟩) hS ?r40
  case h40 => (intro W hSw; go_simp; try with_reducible rfl)
  try simp only [Act.put, List.setIfInBounds_toArray, List.set_cons_zero, List.set_cons_succ]
  refine wpAnyH_take (i := 41) (oi := { dst := some 84, op := Op.fieldAddr 39 (Operand.tmp 9) 4, type := 0, pos := _, after := _, guard := some (40, true) }) (v := ?v41) rfl (by kernel_rfl) (by kernel_rfl) (by kernel_rfl) (fun _ _ _ h => h) (Or.inl ⟨by rfl, ?h41⟩) hS ?r41
  case h41 => (intro W hSw; go_simp; try with_reducible rfl)
  try simp only [Act.put, List.setIfInBounds_toArray, List.set_cons_zero, List.set_cons_succ]
  refine wpAnyH_take (i := 42) (oi := { dst := some 85, op := Op.load 3 (Operand.tmp 84), type := 3, pos := _, after := _, guard := some (40, true) }) (v := ?v42) rfl (by kernel_rfl) (by kernel_rfl) (by kernel_rfl) (fun _ _ _ h => h) (Or.inl ⟨by rfl, ?h42⟩) hS ?r42
  case h42 => (intro W hSw; obtain ⟨y0, y1, y2, y3, y4, y5, y6, y7, y8, y9, y10, y11, y12, y13⟩ := hSw; go_simp; try with_reducible rfl)
  try simp only [Act.put, List.setIfInBounds_toArray, List.set_cons_zero, List.set_cons_succ]
  refine wpAnyH_take (i := 43) (oi := { dst := some 86, op := Op.binOp BinOp.eql 3 (Operand.tmp 85) (Operand.const (Value.int IntKind.i64 1000)) 3, type := 4, pos := _, after := _, guard := some (40, true) }) (v := ?v43) rfl (by kernel_rfl) (by kernel_rfl) (by kernel_rfl) (fun _ _ _ h => h) (Or.inl ⟨by rfl, ?h43⟩) hS ?r43
  case h43 => (intro W hSw; go_simp; try with_reducible rfl)
  try simp only [Act.put, List.setIfInBounds_toArray, List.set_cons_zero, List.set_cons_succ]
  refine wpAnyH_take (i := 44) (oi := { dst := some 87, op := Op.pick (Operand.tmp 83) (Operand.tmp 86) (Operand.const (Value.bool false)), type := 4, pos := _, after := _, guard := none }) (v := ?v44) rfl (by kernel_rfl) (by kernel_rfl) (by kernel_rfl) (fun _ _ _ h => h) (Or.inl ⟨by rfl, ?h44⟩) hS ?r44
  case h44 => (intro W hSw; go_simp; try with_reducible rfl)
  try simp only [Act.put, List.setIfInBounds_toArray, List.set_cons_zero, List.set_cons_succ]
  refine wpAnyH_take (i := 45) (oi := { dst := some 88, op := Op.move (Operand.tmp 87), type := 4, pos := _, after := _, guard := none }) (v := ?v45) rfl (by kernel_rfl) (by kernel_rfl) (by kernel_rfl) (fun _ _ _ h => h) (Or.inl ⟨by rfl, ?h45⟩) hS ?r45
  case h45 => (intro W hSw; go_simp; try with_reducible rfl)
  try simp only [Act.put, List.setIfInBounds_toArray, List.set_cons_zero, List.set_cons_succ]
  refine wpAnyH_take (i := 46) (oi := { dst := some 89, op := Op.move (Operand.tmp 10), type := 24, pos := _, after := _, guard := some (45, true) }) (v := ?v46) rfl (by kernel_rfl) (by kernel_rfl) (by kernel_rfl) (fun _ _ _ h => h) (Or.inl ⟨by rfl, ?h46⟩) hS ?r46
  case h46 => (intro W hSw; go_simp; try with_reducible rfl)
  try simp only [Act.put, List.setIfInBounds_toArray, List.set_cons_zero, List.set_cons_succ]
  refine wpAnyH_take (i := 47) (oi := { dst := some 90, op := Op.binOp BinOp.eql 24 (Operand.tmp 89) (Operand.const (Value.int IntKind.i64 0)) 24, type := 4, pos := _, after := _, guard := some (45, true) }) (v := ?v47) rfl (by kernel_rfl) (by kernel_rfl) (by kernel_rfl) (fun _ _ _ h => h) (Or.inl ⟨by rfl, ?h47⟩) hS ?r47
  case h47 => (intro W hSw; go_simp; try with_reducible rfl)
  try simp only [Act.put, List.setIfInBounds_toArray, List.set_cons_zero, List.set_cons_succ]
  refine wpAnyH_take (i := 48) (oi := { dst := some 91, op := Op.pick (Operand.tmp 88) (Operand.tmp 90) (Operand.const (Value.bool false)), type := 4, pos := _, after := _, guard := none }) (v := ?v48) rfl (by kernel_rfl) (by kernel_rfl) (by kernel_rfl) (fun _ _ _ h => h) (Or.inl ⟨by rfl, ?h48⟩) hS ?r48
  case h48 => (intro W hSw; go_simp; try with_reducible rfl)
  try simp only [Act.put, List.setIfInBounds_toArray, List.set_cons_zero, List.set_cons_succ]
  refine wpAnyH_take (i := 49) (oi := { dst := some 92, op := Op.move (Operand.tmp 91), type := 4, pos := _, after := _, guard := none }) (v := ?v49) rfl (by kernel_rfl) (by kernel_rfl) (by kernel_rfl) (fun _ _ _ h => h) (Or.inl ⟨by rfl, ?h49⟩) hS ?r49
  case h49 => (intro W hSw; go_simp; try with_reducible rfl)
  try simp only [Act.put, List.setIfInBounds_toArray, List.set_cons_zero, List.set_cons_succ]
  refine wpAnyH_take (i := 50) (oi := { dst := some 93, op := Op.move (Operand.tmp 12), type := 4, pos := _, after := _, guard := some (49, true) }) (v := ?v50) rfl (by kernel_rfl) (by kernel_rfl) (by kernel_rfl) (fun _ _ _ h => h) (Or.inl ⟨by rfl, ?h50⟩) hS ?r50
  case h50 => (intro W hSw; go_simp; try with_reducible rfl)
  try simp only [Act.put, List.setIfInBounds_toArray, List.set_cons_zero, List.set_cons_succ]
  refine wpAnyH_take (i := 51) (oi := { dst := some 94, op := Op.pick (Operand.tmp 92) (Operand.tmp 93) (Operand.const (Value.bool false)), type := 4, pos := _, after := _, guard := none }) (v := ?v51) rfl (by kernel_rfl) (by kernel_rfl) (by kernel_rfl) (fun _ _ _ h => h) (Or.inl ⟨by rfl, ?h51⟩) hS ?r51
  case h51 => (intro W hSw; go_simp; try with_reducible rfl)
  try simp only [Act.put, List.setIfInBounds_toArray, List.set_cons_zero, List.set_cons_succ]
  refine wpAnyH_take (i := 52) (oi := { dst := some 95, op := Op.move (Operand.tmp 94), type := 4, pos := _, after := _, guard := none }) (v := ?v52) rfl (by kernel_rfl) (by kernel_rfl) (by kernel_rfl) (fun _ _ _ h => h) (Or.inl ⟨by rfl, ?h52⟩) hS ?r52
  case h52 => (intro W hSw; go_simp; try with_reducible rfl)
  try simp only [Act.put, List.setIfInBounds_toArray, List.set_cons_zero, List.set_cons_succ]
  refine wpAnyH_take (i := 53) (oi := { dst := some 96, op := Op.load 30 (Operand.tmp 11), type := 30, pos := _, after := _, guard := some (52, true) }) (v := ?v53) rfl (by kernel_rfl) (by kernel_rfl) (by kernel_rfl) (fun _ _ _ h => h) (Or.inl ⟨by rfl, ?h53⟩) hS ?r53
  case h53 => (intro W hSw; obtain ⟨y0, y1, y2, y3, y4, y5, y6, y7, y8, y9, y10, y11, y12, y13⟩ := hSw; go_simp; try with_reducible rfl)
  try simp only [Act.put, List.setIfInBounds_toArray, List.set_cons_zero, List.set_cons_succ]
  refine wpAnyH_ready (rs := [54]) (by kernel_rfl) (by simp) ?_
  refine AllReadyH.cons (o := { dst := some 97, op := Op.call { callee := Callee.value (Operand.func 27), args := #[], argTypes := #[] }, type := 22, pos := _, after := _, guard := some (52, true) }) rfl (fun K hK => ?_) AllReadyH.nil
  go_simp
  refine (three_any _).mono ?_
  rintro e w6 ⟨A6, c6, rfl, h6, hb6⟩
  obtain ⟨b6, off6, rfl, hcc⟩ := id h6 (by decide)
  obtain ⟨x0, x1, x2, x3, x4, x5⟩ := hcc 1 (by decide)
  simp only [threeL, List.getElem_cons_succ, List.getElem_cons_zero, Nat.one_mul] at x0 x1 x2 x3 x4 x5
  replace hS := cells14_later hS hb6
  replace hB := hB.trans (hb6.mono hB.size)
  clear hb6 hcc
  go_wp2_with fail
  refine hK.out _ _ hS (fun hHeld => ?_)
  clear hK K
  try simp only [Act.put, List.setIfInBounds_toArray, List.set_cons_zero, List.set_cons_succ]
  refine wpAnyH_take (i := 55) (oi := { dst := some 98, op := Op.indexAddr 22 (Operand.tmp 97) (Operand.const (Value.int IntKind.i64 1)), type := 0, pos := _, after := _, guard := some (52, true) }) (v := ?v55) rfl (by kernel_rfl) (by kernel_rfl) (by kernel_rfl) (fun _ _ _ h => h) (Or.inl ⟨by rfl, ?h55⟩) hS ?r55
  case h55 => (intro W hSw; go_simp; try with_reducible rfl)
  try simp only [Act.put, List.setIfInBounds_toArray, List.set_cons_zero, List.set_cons_succ]
  refine wpAnyH_ready (rs := [56]) (by kernel_rfl) (by simp) ?_
  refine AllReadyH.cons (o := { dst := some 99, op := Op.load 30 (Operand.tmp 98), type := 30, pos := _, after := _, guard := some (52, true) }) rfl (fun K hK => ?_) AllReadyH.nil
  go_simp
  refine hK.out _ _ hS (fun hHeld => ?_)
  clear hK K
  try simp only [Act.put, List.setIfInBounds_toArray, List.set_cons_zero, List.set_cons_succ]
  refine wpAnyH_take (i := 57) (oi := { dst := some 100, op := Op.binOp BinOp.eql 30 (Operand.tmp 96) (Operand.tmp 99) 30, type := 4, pos := _, after := _, guard := some (52, true) }) (v := ?v57) rfl (by kernel_rfl) (by kernel_rfl) (by kernel_rfl) (fun _ _ _ h => h) (Or.inl ⟨by rfl, ?h57⟩) hS ?r57
  case h57 => (intro W hSw; go_simp; try with_reducible rfl)
  try simp only [Act.put, List.setIfInBounds_toArray, List.set_cons_zero, List.set_cons_succ]
  refine wpAnyH_take (i := 58) (oi := { dst := some 101, op := Op.pick (Operand.tmp 95) (Operand.tmp 100) (Operand.const (Value.bool false)), type := 4, pos := _, after := _, guard := none }) (v := ?v58) rfl (by kernel_rfl) (by kernel_rfl) (by kernel_rfl) (fun _ _ _ h => h) (Or.inl ⟨by rfl, ?h58⟩) hS ?r58
  case h58 => (intro W hSw; go_simp; try with_reducible rfl)
  try simp only [Act.put, List.setIfInBounds_toArray, List.set_cons_zero, List.set_cons_succ]
  refine wpAnyH_take (i := 59) (oi := { dst := some 102, op := Op.move (Operand.tmp 101), type := 4, pos := _, after := _, guard := none }) (v := ?v59) rfl (by kernel_rfl) (by kernel_rfl) (by kernel_rfl) (fun _ _ _ h => h) (Or.inl ⟨by rfl, ?h59⟩) hS ?r59
  case h59 => (intro W hSw; go_simp; try with_reducible rfl)
  try simp only [Act.put, List.setIfInBounds_toArray, List.set_cons_zero, List.set_cons_succ]
  refine wpAnyH_take (i := 61) (oi := { dst := some 104, op := Op.load 28 (Operand.tmp 13), type := 28, pos := _, after := _, guard := some (59, true) }) (v := ?v61) rfl (by kernel_rfl) (by kernel_rfl) (by kernel_rfl) (fun _ _ _ h => h) (Or.inl ⟨by rfl, ?h61⟩) hS ?r61
  case h61 => (intro W hSw; obtain ⟨y0, y1, y2, y3, y4, y5, y6, y7, y8, y9, y10, y11, y12, y13⟩ := hSw; go_simp; try with_reducible rfl)
  try simp only [Act.put, List.setIfInBounds_toArray, List.set_cons_zero, List.set_cons_succ]
  refine wpAnyH_ready (rs := [60]) (by kernel_rfl) (by simp) ?_
  refine AllReadyH.cons (o := { dst := some 103, op := Op.call { callee := Callee.value (Operand.func 27), args := #[], argTypes := #[] }, type := 22, pos := _, after := _, guard := some (59, true) }) rfl (fun K hK => ?_) AllReadyH.nil
  go_simp
  refine (three_any _).mono ?_
  rintro e w6 ⟨A6, c6, rfl, h6, hb6⟩
  obtain ⟨b6, off6, rfl, hcc⟩ := id h6 (by decide)
  obtain ⟨x0, x1, x2, x3, x4, x5⟩ := hcc 1 (by decide)
  simp only [threeL, List.getElem_cons_succ, List.getElem_cons_zero, Nat.one_mul] at x0 x1 x2 x3 x4 x5
  replace hS := cells14_later hS hb6
  replace hB := hB.trans (hb6.mono hB.size)
  clear hb6 hcc
  go_wp2_with fail
  refine hK.out _ _ hS (fun hHeld => ?_)
  clear hK K
  try simp only [Act.put, List.setIfInBounds_toArray, List.set_cons_zero, List.set_cons_succ]
  refine wpAnyH_ready (rs := [62]) (by kernel_rfl) (by simp) ?_
  refine AllReadyH.cons (o := { dst := some 105, op := Op.call { callee := Callee.value (Operand.func 16), args := #[Operand.tmp 103, Operand.const (Value.int IntKind.i64 3), Operand.tmp 104], argTypes := #[22, 3, 28] }, type := 3, pos := _, after := _, guard := some (59, true) }) rfl (fun K hK => ?_) AllReadyH.nil
  go_simp
  refine (peak_lit _ _ 3 ⟨10, 30⟩ 9 (by decide +kernel) _ h6).mono ?_
  rintro e w6 ⟨rfl, hb6⟩
  replace hS := cells14_later hS hb6
  replace hB := hB.trans (hb6.mono hB.size)
  clear hb6 h6
  go_wp2_with fail
  refine hK.out _ _ hS (fun hHeld => ?_)
  clear hK K
  try simp only [Act.put, List.setIfInBounds_toArray, List.set_cons_zero, List.set_cons_succ]
  refine wpAnyH_take (i := 63) (oi := { dst := some 106, op := Op.binOp BinOp.eql 3 (Operand.tmp 105) (Operand.const (Value.int IntKind.i64 9)) 3, type := 4, pos := _, after := _, guard := some (59, true) }) (v := ?v63) rfl (by kernel_rfl) (by kernel_rfl) (by kernel_rfl) (fun _ _ _ h => h) (Or.inl ⟨by rfl, ?h63⟩) hS ?r63
  case h63 => (intro W hSw; go_simp; try with_reducible rfl)
  try simp only [Act.put, List.setIfInBounds_toArray, List.set_cons_zero, List.set_cons_succ]
  refine wpAnyH_take (i := 64) (oi := { dst := some 107, op := Op.pick (Operand.tmp 102) (Operand.tmp 106) (Operand.const (Value.bool false)), type := 4, pos := _, after := _, guard := none }) (v := ?v64) rfl (by kernel_rfl) (by kernel_rfl) (by kernel_rfl) (fun _ _ _ h => h) (Or.inl ⟨by rfl, ?h64⟩) hS ?r64
  case h64 => (intro W hSw; go_simp; try with_reducible rfl)
  try simp only [Act.put, List.setIfInBounds_toArray, List.set_cons_zero, List.set_cons_succ]
  refine wpAnyH_take (i := 65) (oi := { dst := some 108, op := Op.move (Operand.tmp 107), type := 4, pos := _, after := _, guard := none }) (v := ?v65) rfl (by kernel_rfl) (by kernel_rfl) (by kernel_rfl) (fun _ _ _ h => h) (Or.inl ⟨by rfl, ?h65⟩) hS ?r65
  case h65 => (intro W hSw; go_simp; try with_reducible rfl)
  try simp only [Act.put, List.setIfInBounds_toArray, List.set_cons_zero, List.set_cons_succ]
  refine wpAnyH_take (i := 67) (oi := { dst := some 110, op := Op.load 28 (Operand.tmp 13), type := 28, pos := _, after := _, guard := some (65, true) }) (v := ?v67) rfl (by kernel_rfl) (by kernel_rfl) (by kernel_rfl) (fun _ _ _ h => h) (Or.inl ⟨by rfl, ?h67⟩) hS ?r67
  case h67 => (intro W hSw; obtain ⟨y0, y1, y2, y3, y4, y5, y6, y7, y8, y9, y10, y11, y12, y13⟩ := hSw; go_simp; try with_reducible rfl)
  try simp only [Act.put, List.setIfInBounds_toArray, List.set_cons_zero, List.set_cons_succ]
  refine wpAnyH_ready (rs := [66]) (by kernel_rfl) (by simp) ?_
  refine AllReadyH.cons (o := { dst := some 109, op := Op.call { callee := Callee.value (Operand.func 27), args := #[], argTypes := #[] }, type := 22, pos := _, after := _, guard := some (65, true) }) rfl (fun K hK => ?_) AllReadyH.nil
  go_simp
  refine (three_any _).mono ?_
  rintro e w6 ⟨A6, c6, rfl, h6, hb6⟩
  obtain ⟨b6, off6, rfl, hcc⟩ := id h6 (by decide)
  obtain ⟨x0, x1, x2, x3, x4, x5⟩ := hcc 1 (by decide)
  simp only [threeL, List.getElem_cons_succ, List.getElem_cons_zero, Nat.one_mul] at x0 x1 x2 x3 x4 x5
  replace hS := cells14_later hS hb6
  replace hB := hB.trans (hb6.mono hB.size)
  clear hb6 hcc
  go_wp2_with fail
  refine hK.out _ _ hS (fun hHeld => ?_)
  clear hK K
  try simp only [Act.put, List.setIfInBounds_toArray, List.set_cons_zero, List.set_cons_succ]
  refine wpAnyH_ready (rs := [68]) (by kernel_rfl) (by simp) ?_
  refine AllReadyH.cons (o := { dst := some 111, op := Op.call { callee := Callee.value (Operand.func 18), args := #[Operand.tmp 109, Operand.const (Value.int IntKind.i64 3), Operand.tmp 110], argTypes := #[22, 3, 28] }, type := 3, pos := _, after := _, guard := some (65, true) }) rfl (fun K hK => ?_) AllReadyH.nil
  go_simp
  refine (fresh_lit _ _ 3 ⟨10, 30⟩ 3 (by decide +kernel) _ h6).mono ?_
  rintro e w6 ⟨rfl, hb6⟩
  replace hS := cells14_later hS hb6
  replace hB := hB.trans (hb6.mono hB.size)
  clear hb6 h6
  go_wp2_with fail
  refine hK.out _ _ hS (fun hHeld => ?_)
  clear hK K
  try simp only [Act.put, List.setIfInBounds_toArray, List.set_cons_zero, List.set_cons_succ]
  refine wpAnyH_take (i := 69) (oi := { dst := some 112, op := Op.binOp BinOp.eql 3 (Operand.tmp 111) (Operand.const (Value.int IntKind.i64 3)) 3, type := 4, pos := _, after := _, guard := some (65, true) }) (v := ?v69) rfl (by kernel_rfl) (by kernel_rfl) (by kernel_rfl) (fun _ _ _ h => h) (Or.inl ⟨by rfl, ?h69⟩) hS ?r69
  case h69 => (intro W hSw; go_simp; try with_reducible rfl)
  try simp only [Act.put, List.setIfInBounds_toArray, List.set_cons_zero, List.set_cons_succ]
  refine wpAnyH_take (i := 70) (oi := { dst := some 113, op := Op.pick (Operand.tmp 108) (Operand.tmp 112) (Operand.const (Value.bool false)), type := 4, pos := _, after := _, guard := none }) (v := ?v70) rfl (by kernel_rfl) (by kernel_rfl) (by kernel_rfl) (fun _ _ _ h => h) (Or.inl ⟨by rfl, ?h70⟩) hS ?r70
  case h70 => (intro W hSw; go_simp; try with_reducible rfl)
  try simp only [Act.put, List.setIfInBounds_toArray, List.set_cons_zero, List.set_cons_succ]
  refine wpAnyH_take (i := 71) (oi := { dst := some 114, op := Op.move (Operand.tmp 113), type := 4, pos := _, after := _, guard := none }) (v := ?v71) rfl (by kernel_rfl) (by kernel_rfl) (by kernel_rfl) (fun _ _ _ h => h) (Or.inl ⟨by rfl, ?h71⟩) hS ?r71
  case h71 => (intro W hSw; go_simp; try with_reducible rfl)
  try simp only [Act.put, List.setIfInBounds_toArray, List.set_cons_zero, List.set_cons_succ]
  refine wpAnyH_ready (rs := [72]) (by kernel_rfl) (by simp) ?_
  refine AllReadyH.cons (o := { dst := some 115, op := Op.call { callee := Callee.value (Operand.func 27), args := #[], argTypes := #[] }, type := 22, pos := _, after := _, guard := some (71, true) }) rfl (fun K hK => ?_) AllReadyH.nil
  go_simp
  refine (three_any _).mono ?_
  rintro e w6 ⟨A6, c6, rfl, h6, hb6⟩
  obtain ⟨b6, off6, rfl, hcc⟩ := id h6 (by decide)
  obtain ⟨x0, x1, x2, x3, x4, x5⟩ := hcc 1 (by decide)
  simp only [threeL, List.getElem_cons_succ, List.getElem_cons_zero, Nat.one_mul] at x0 x1 x2 x3 x4 x5
  replace hS := cells14_later hS hb6
  replace hB := hB.trans (hb6.mono hB.size)
  clear hb6 hcc
  go_wp2_with fail
  refine hK.out _ _ hS (fun hHeld => ?_)
  clear hK K
  try simp only [Act.put, List.setIfInBounds_toArray, List.set_cons_zero, List.set_cons_succ]
  refine wpAnyH_ready (rs := [73]) (by kernel_rfl) (by simp) ?_
  refine AllReadyH.cons (o := { dst := some 116, op := Op.call { callee := Callee.value (Operand.func 12), args := #[Operand.tmp 115], argTypes := #[22] }, type := 24, pos := _, after := _, guard := some (71, true) }) rfl (fun K hK => ?_) AllReadyH.nil
  go_simp
  refine (right_lit _ _ 0 (by decide +kernel) _ h6).mono ?_
  rintro e w6 ⟨rfl, hb6⟩
  replace hS := cells14_later hS hb6
  replace hB := hB.trans (hb6.mono hB.size)
  clear hb6 h6
  go_wp2_with fail
  refine hK.out _ _ hS (fun hHeld => ?_)
  clear hK K
  try simp only [Act.put, List.setIfInBounds_toArray, List.set_cons_zero, List.set_cons_succ]
  refine wpAnyH_take (i := 74) (oi := { dst := some 117, op := Op.binOp BinOp.eql 24 (Operand.tmp 116) (Operand.const (Value.int IntKind.i64 0)) 24, type := 4, pos := _, after := _, guard := some (71, true) }) (v := ?v74) rfl (by kernel_rfl) (by kernel_rfl) (by kernel_rfl) (fun _ _ _ h => h) (Or.inl ⟨by rfl, ?h74⟩) hS ?r74
  case h74 => (intro W hSw; go_simp; try with_reducible rfl)
  try simp only [Act.put, List.setIfInBounds_toArray, List.set_cons_zero, List.set_cons_succ]
  refine wpAnyH_take (i := 75) (oi := { dst := some 118, op := Op.pick (Operand.tmp 114) (Operand.tmp 117) (Operand.const (Value.bool false)), type := 4, pos := _, after := _, guard := none }) (v := ?v75) rfl (by kernel_rfl) (by kernel_rfl) (by kernel_rfl) (fun _ _ _ h => h) (Or.inl ⟨by rfl, ?h75⟩) hS ?r75
  case h75 => (intro W hSw; go_simp; try with_reducible rfl)
  try simp only [Act.put, List.setIfInBounds_toArray, List.set_cons_zero, List.set_cons_succ]
  refine wpAnyH_take (i := 76) (oi := { dst := some 0, op := Op.assign (Operand.tmp 118), type := 4, pos := _, after := _, guard := none }) (v := ?v76) rfl (by kernel_rfl) (by kernel_rfl) (by kernel_rfl) (fun _ _ _ h => h) (Or.inl ⟨by rfl, ?h76⟩) hS ?r76
  case h76 => (intro W hSw; go_simp; try with_reducible rfl)
  try simp only [Act.put, List.setIfInBounds_toArray, List.set_cons_zero, List.set_cons_succ]
  refine wpAnyH_done (by kernel_rfl) ?_ _
  go_wp2
  go_ret
  exact ⟨rfl, hB⟩
end Go.Proofs.Ytjnokdpliocmmaa
