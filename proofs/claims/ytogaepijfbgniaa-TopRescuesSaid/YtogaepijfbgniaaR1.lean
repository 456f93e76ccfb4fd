/- Contracts of package route: searches, Right, clash. -/
import Derived.Test.YtogaepijfbgniaaW2
import Derived.Test.YtogaepijfbgniaaW4
namespace Go.Proofs.Ytogaepijfbgniaa
open Go.RowKit Go.Shelf Go.Deep
set_option linter.unusedVariables false
/-- a task without winch and clashes -/
structure Tk where
  run : Int
  seconds : Int
def Tk.val (x : Tk) : Value := .agg #[.int .i64 x.run, .int .i64 x.seconds, .bool false, .slice none 0 0]
def Tasks (w : World) (A : Option Addr) (l : List Tk) : Prop :=
  0 < l.length → ∃ b off, A = some ⟨b, off, none⟩ ∧ ∀ i (h : i < l.length), w.cell? ⟨b, off + i * 4, none⟩ = some (.int .i64 (l[i]).run) ∧ w.cell? ⟨b, off + i * 4 + 1, none⟩ = some (.int .i64 (l[i]).seconds) ∧ w.cell? ⟨b, off + i * 4 + 2, none⟩ = some (.bool false) ∧ w.cell? ⟨b, off + i * 4 + 3, none⟩ = some (.slice none 0 0)
theorem Tasks.below {w w' : World} {A : Option Addr} {l : List Tk} (h : Tasks w A l) (hb : Below w.heap.size w w') : Tasks w' A l := fun hn => by
  obtain ⟨b, off, rfl, hc⟩ := h hn
  exact ⟨b, off, rfl, fun i hi => ⟨cell_later hb (hc i hi).1, cell_later hb (hc i hi).2.1, cell_later hb (hc i hi).2.2.1, cell_later hb (hc i hi).2.2.2⟩⟩
theorem Tasks.take {w : World} {A : Option Addr} {l : List Tk} (h : Tasks w A l) (k : Nat) : Tasks w A (l.take k) := fun hn => by
  simp at hn
  obtain ⟨b, off, rfl, hc⟩ := h (by omega)
  refine ⟨b, off, rfl, fun i hi => ?_⟩
  simp at hi
  rw [List.getElem_take]
  exact hc i (by omega)
theorem Tasks.at {w : World} {A : Option Addr} {l : List Tk} (h : Tasks w A l) {k : Nat} (hk : k < l.length) : ∃ b off, A = some ⟨b, off, none⟩ ∧ w.cell? ⟨b, off + k * 4, none⟩ = some (.int .i64 (l[k]).run) ∧ w.cell? ⟨b, off + k * 4 + 1, none⟩ = some (.int .i64 (l[k]).seconds) ∧ w.cell? ⟨b, off + k * 4 + 2, none⟩ = some (.bool false) ∧ w.cell? ⟨b, off + k * 4 + 3, none⟩ = some (.slice none 0 0) := by
  obtain ⟨b, off, rfl, hc⟩ := h (by omega)
  exact ⟨b, off, rfl, hc k hk⟩
theorem Tk.slice_to (A : Option Addr) (n c k : Nat) (hk : k ≤ n) (hc : n ≤ c) (w : World) : (Instr.slice 39 (.slice A n c) none (some (.int .i64 (k : Int))) none).run Try.prog w = .ok (.slice A k c) w := by
  have h1 : k ≤ c := by omega
  go_simp
theorem find1_any (x : Tk) (n : Int) (p : Nat) (w : World) (hp : w.cell? ⟨p, 0, none⟩ = some (.int .i64 n)) : Calls Try.prog 35 #[x.val, .pointer (some ⟨p, 0, none⟩)] w fun e w' => e = .returned (.bool (x.run == n)) ∧ Below w.heap.size w w' := by
  have hlt := World.block_lt_of_cell? _ _ hp
  simp only at hlt
  have hp' : (w.alloc (.cells #[.int .i64 x.run, .int .i64 x.seconds, .bool false, .slice none 0 0] 38)).cell? ⟨p, 0, none⟩ = some (.int .i64 n) := cell_later (below_alloc _ _) hp
  unfold Tk.val
  go_enter Try.func35, Try.ntmps35
  go_wp2
  go_ret
  exact ⟨rfl, below_alloc _ _⟩
set_option maxHeartbeats 1000000 in
theorem IndexTask_any (A : Option Addr) (c : Nat) (l : List Tk) (g : Nat) (f : Tk → Bool) (caps : Array Value) (w : World) (hm : l.length ≤ 1000000000000000) (h : Tasks w A l) (heg : ∀ args w, (callFunc g args).run Try.prog w = .ok (.enter g args) w)
    (hf : ∀ (x : Tk) W, Below w.heap.size w W → Calls Try.prog g (#[x.val] ++ caps) W fun e w' => e = .returned (.bool (f x)) ∧ Below W.heap.size W w') :
    Calls Try.prog 34 #[.slice A l.length c, .func (Fn.func g) #[] caps] w fun e w' => e = .returned (.int .i64 (idxOf l f)) ∧ Below w.heap.size w w' := by
  go_enter Try.func34, Try.ntmps34
  go_wp2
  have hf := fun x W hW => Lib.hid (hf x W hW)
  go_loopw [8] (fun i wr => ∃ k : Nat, k ≤ l.length ∧ i = .int .i64 k ∧ (∀ x ∈ l.take k, f x = false) ∧ Below w.heap.size w wr) (fun i _ => l.length - (intOf i).toNat)
  case atStart => exact ⟨0, Nat.zero_le _, rfl, fun x hx => by simp at hx, Below.refl _ _⟩
  case round =>
    obtain ⟨k, hk, rfl, hno, hb⟩ := hrel
    have Hno := Lib.hid hno
    clear hno
    by_cases hlt : k < l.length
    · obtain ⟨b, off, rfl, h0, h1, h2, h3⟩ := (h.below hb).at hlt
      have hat := idx_at l f hlt
      have Hat := Lib.hid hat
      clear hat
      have htk : l.take (k + 1) = l.take k ++ [l[k]] := List.take_succ_eq_append_getElem hlt
      have Htk := Lib.hid htk
      clear htk
      generalize hx : l[k] = x at *
      have Hx := Lib.hid hx
      clear hx
      have hfx := hf x _ hb
      clear hf
      unfold Tk.val at hfx
      go_wp2_with fail
      refine (hfx).out.mono ?_
      rintro e w1 ⟨rfl, hb1⟩
      have hbb := hb.trans (hb1.mono hb.size)
      clear hb1 h0 h1 h2 h3 hfx
      by_cases he : f x = true
      · have He := Lib.hid he
        rw [he]
        clear he
        go_wp2
        go_ret
        exact ⟨ret_int (Hat.out Hno.out He.out).symm, hbb⟩
      · have he' : f x = false := by simpa using he
        have He := Lib.hid he'
        rw [he']
        clear he he'
        go_wp2
        go_roundw
        case rel =>
          refine ⟨k + 1, by omega, by go_num, ?_, hbb⟩
          rw [Htk.out]
          intro y hy
          rcases List.mem_append.1 hy with h | h
          · exact Hno.out y h
          · simp at h; subst h; exact He.out
        case measure => simp [intOf]; omega
    · have hke : k = l.length := by omega
      subst hke
      have hn := Hno.out
      rw [List.take_length] at hn
      have Hn := Lib.hid (idx_none l f hn)
      clear hn
      go_wp2
      go_ret
      exact ⟨ret_int Hn.out.symm, hb⟩
theorem find_any (A : Option Addr) (c : Nat) (l : List Tk) (n : Int) (w : World) (hm : l.length ≤ 1000000) (h : Tasks w A l) :
    Calls Try.prog 30 #[.slice A l.length c, .int .i64 n] w fun e w' => e = .returned (.int .i64 (idxOf l fun x => x.run == n)) ∧ Below w.heap.size w w' := by
  have hB := Blk.new w #[.int .i64 n] 3
  have hka := below_alloc w (.cells #[.int .i64 n] 3)
  have h1 := h.below hka
  have q := fun W (hW : Below (w.alloc (.cells #[.int .i64 n] 3)).heap.size (w.alloc (.cells #[.int .i64 n] 3)) W) => find1_any
  have hq := Lib.hid (IndexTask_any A c l 35 (fun x => x.run == n) #[.pointer (some ⟨w.heap.size, 0, none⟩)] (w.alloc (.cells #[.int .i64 n] 3)) (by omega) h1 (enters_of Try.func35 (by kernel_rfl) rfl) (fun x W' hW' => find1_any x n w.heap.size W' (cell_later hW' (hB.cell 0 (v := .int .i64 n) rfl))))
  have HA := Lib.hid hka
  clear q h h1 hB hka
  obtain ⟨ix, hix⟩ : ∃ ix, ix = idxOf l fun x => x.run == n := ⟨_, rfl⟩
  rw [← hix] at hq ⊢
  clear hix
  go_enter Try.func30, Try.ntmps30
  go_wp2_with fail
  refine hq.out.mono ?_
  rintro e w1 ⟨rfl, hb⟩
  go_wp2
  go_ret
  exact ⟨rfl, HA.out.trans (hb.mono HA.out.size)⟩
set_option maxHeartbeats 1000000 in
/-- the library's search for an int -/
theorem Index_any (A : Option Addr) (c : Nat) (l : List Int) (n : Int) (w : World) (hm : l.length ≤ 1000000000000000) (h : Ints w A l) :
    Calls Try.prog 33 #[.slice A l.length c, .int .i64 n] w fun e w' => e = .returned (.int .i64 (idxOf l fun y => n == y)) ∧ w' = w := by
  go_enter Try.func33, Try.ntmps33
  go_wp2
  go_loopw [8] (fun i wr => ∃ k : Nat, k ≤ l.length ∧ i = .int .i64 k ∧ (∀ y ∈ l.take k, (n == y) = false) ∧ wr = w) (fun i _ => l.length - (intOf i).toNat)
  case atStart => exact ⟨0, Nat.zero_le _, rfl, fun x hx => by simp at hx, rfl⟩
  case round =>
    obtain ⟨k, hk, rfl, hno, rfl⟩ := hrel
    have Hno := Lib.hid hno
    clear hno
    by_cases hlt : k < l.length
    · obtain ⟨b, off, rfl, hc⟩ := h (by omega)
      have h0 := hc k hlt
      clear hc
      have hat := idx_at l (fun y => n == y) hlt
      have Hat := Lib.hid hat
      clear hat
      have htk : l.take (k + 1) = l.take k ++ [l[k]] := List.take_succ_eq_append_getElem hlt
      have Htk := Lib.hid htk
      clear htk
      generalize l[k] = x at *
      have hkl : (k : Int) < (l.length : Int) := by omega
      cases he : (n == x)
      · have He := Lib.hid he
        go_wp2
        go_roundw
        case rel =>
          refine ⟨k + 1, by omega, by go_num, ?_, trivial⟩
          rw [Htk.out]
          intro y hy
          rcases List.mem_append.1 hy with h | h
          · exact Hno.out y h
          · simp at h; subst h; exact He.out
        case measure => simp [intOf]; omega
      · have He := Lib.hid he
        go_wp2
        go_ret
        exact ⟨ret_int (Hat.out Hno.out He.out).symm, rfl⟩
    · have hke : k = l.length := by omega
      subst hke
      have hn := Hno.out
      rw [List.take_length] at hn
      have Hn := Lib.hid (idx_none l (fun y => n == y) hn)
      clear hn
      go_wp2
      go_ret
      exact ⟨ret_int Hn.out.symm, rfl⟩
theorem Contains_any (A : Option Addr) (c : Nat) (l : List Int) (n : Int) (w : World) (hm : l.length ≤ 1000000000000000) (h : Ints w A l) :
    Calls Try.prog 25 #[.slice A l.length c, .int .i64 n] w fun e w' => e = .returned (.bool (l.any fun y => n == y)) ∧ w' = w := by
  have hq := Index_any A c l n w hm h
  have hd := idx_neg l fun y => n == y
  have Hd := Lib.hid hd
  have Hq := Lib.hid hq
  clear hd hq
  generalize (idxOf l fun y => n == y) = i at *
  go_enter Try.func25, Try.ntmps25
  go_wp2_with fail
  refine Hq.out.mono ?_
  rintro e w1 ⟨rfl, rfl⟩
  go_wp2
  go_ret
  exact ⟨by rw [← Hd.out]; rfl, rfl⟩
theorem clash_any (x y : Tk) (w : World) : Calls Try.prog 20 #[x.val, y.val] w fun e w' => e = .returned (.bool false) ∧ Below w.heap.size w w' := by
  have q := fun n W => Lib.hid (Contains_any none 0 [] n W (by simp) (Ints.nil _ _))
  simp only [List.length_nil, List.any_nil] at q
  have hb := (below_alloc w (.cells #[.int .i64 x.run, .int .i64 x.seconds, .bool false, .slice none 0 0] 38))
  have hb2 := hb.alloc hb.size (.cells #[.int .i64 y.run, .int .i64 y.seconds, .bool false, .slice none 0 0] 38)
  have HB := Lib.hid hb2
  clear hb hb2
  unfold Tk.val
  go_enter Try.func20, Try.ntmps20
  go_wp2_with fail
  refine (q _ _).out.mono ?_
  rintro e w1 ⟨rfl, rfl⟩
  go_wp2_with fail
  refine (q _ _).out.mono ?_
  rintro e w1 ⟨rfl, rfl⟩
  go_wp2
  go_ret
  exact ⟨rfl, HB.out⟩
end Go.Proofs.Ytogaepijfbgniaa
