/- Contracts: the searches in the lists, with their tests. -/
import Derived.Test.YtogaepijfbgniaaTypes
import Derived.Laws.EntriesVeiled
import Derived.Shelf.Abstract
namespace Go.Proofs.Ytogaepijfbgniaa
open Go.RowKit Go.Shelf
set_option linter.unusedVariables false
/-- the first index at which a test of the kind f holds -/
def idxOf {α : Type} (l : List α) (f : α → Bool) : Int := match l.findIdx? f with
  | some i => i
  | none => -1
theorem idx_at {α : Type} (l : List α) (f : α → Bool) {k : Nat} (hk : k < l.length) (hno : ∀ x ∈ l.take k, f x = false) (h : f l[k] = true) : idxOf l f = k := by
  unfold idxOf
  have : l.findIdx? f = some k := by
    rw [List.findIdx?_eq_some_iff_getElem]
    refine ⟨hk, h, fun j hj => ?_⟩
    have := hno l[j] (by
      rw [List.mem_take_iff_getElem]
      exact ⟨j, by omega, rfl⟩)
    simp [this]
  rw [this]
theorem idx_none {α : Type} (l : List α) (f : α → Bool) (hno : ∀ x ∈ l, f x = false) : idxOf l f = -1 := by
  unfold idxOf
  have : l.findIdx? f = none := by
    rw [List.findIdx?_eq_none_iff]
    exact hno
  rw [this]
theorem idx_neg {α : Type} (l : List α) (f : α → Bool) : decide (0 ≤ idxOf l f) = l.any f := by
  unfold idxOf
  cases h : l.findIdx? f with
  | none =>
    rw [List.findIdx?_eq_none_iff] at h
    rw [Bool.eq_iff_iff]
    simp
    intro x hx
    exact h x hx
  | some i =>
    have := List.findIdx?_eq_some_iff_getElem.1 h
    obtain ⟨hi, hf, _⟩ := this
    rw [Bool.eq_iff_iff]
    simp
    exact ⟨_, List.getElem_mem hi, hf⟩
theorem idx_lt {α : Type} (l : List α) (f : α → Bool) : idxOf l f < (l.length : Int) ∧ -1 ≤ idxOf l f := by
  unfold idxOf
  cases h : l.findIdx? f with
  | none => simp; omega
  | some i =>
    obtain ⟨hi, _⟩ := List.findIdx?_eq_some_iff_getElem.1 h
    simp; omega
theorem Valid1_any (x : Sec) (n : Int) (p : Nat) (w : World) (hp : w.cell? ⟨p, 1, none⟩ = some (.int .i64 n)) : Calls Try.prog 16 #[x.val, .pointer (some ⟨p, 0, none⟩)] w fun e w' => e = .returned (.bool (x.id == n)) ∧ Below w.heap.size w w' := by
  have hlt := World.block_lt_of_cell? _ _ hp
  simp only at hlt
  have hp' : (w.alloc (.cells #[.int .i64 x.id, .int .i64 x.people, .int .i64 x.seconds] 33)).cell? ⟨p, 1, none⟩ = some (.int .i64 n) := cell_later (below_alloc _ _) hp
  unfold Sec.val
  go_enter Try.func16, Try.ntmps16
  go_wp2
  go_ret
  exact ⟨rfl, below_alloc _ _⟩
theorem Left1_any (x : Job) (n t : Int) (p q : Nat) (w : World) (hp : w.cell? ⟨p, 0, none⟩ = some (.int .i64 n)) (hq : w.cell? ⟨q, 0, none⟩ = some (.int .i64 t)) : Calls Try.prog 18 #[x.val, .pointer (some ⟨p, 0, none⟩), .pointer (some ⟨q, 0, none⟩)] w fun e w' => e = .returned (.bool (x.sec == n && decide (x.to_ ≤ t))) ∧ Below w.heap.size w w' := by
  have hlt := World.block_lt_of_cell? _ _ hp
  simp only at hlt
  have hlt2 := World.block_lt_of_cell? _ _ hq
  simp only at hlt2
  have hp' : (w.alloc (.cells #[.int .i64 x.team, .int .i64 x.sec, .int .i64 x.from_, .int .i64 x.to_] 35)).cell? ⟨p, 0, none⟩ = some (.int .i64 n) := cell_later (below_alloc _ _) hp
  have hq' : (w.alloc (.cells #[.int .i64 x.team, .int .i64 x.sec, .int .i64 x.from_, .int .i64 x.to_] 35)).cell? ⟨q, 0, none⟩ = some (.int .i64 t) := cell_later (below_alloc _ _) hq
  unfold Job.val
  cases h1 : (x.sec == n)
  · go_enter Try.func18, Try.ntmps18
    go_wp2
    go_ret
    exact ⟨rfl, below_alloc _ _⟩
  · go_enter Try.func18, Try.ntmps18
    go_wp2
    go_ret
    exact ⟨rfl, below_alloc _ _⟩

set_option maxHeartbeats 1000000 in
/-- the library's search, whatever the test (g: the test's function, f: what it tells) -/
theorem IndexSec_any (A : Option Addr) (c : Nat) (l : List Sec) (g : Nat) (f : Sec → Bool) (caps : Array Value) (w : World) (hm : l.length ≤ 1000000000000000) (h : Secs w A l) (heg : ∀ args w, (callFunc g args).run Try.prog w = .ok (.enter g args) w)
    (hf : ∀ (x : Sec) W, Below w.heap.size w W → Calls Try.prog g (#[x.val] ++ caps) W fun e w' => e = .returned (.bool (f x)) ∧ Below W.heap.size W w') :
    Calls Try.prog 15 #[.slice A l.length c, .func (Fn.func g) #[] caps] w fun e w' => e = .returned (.int .i64 (idxOf l f)) ∧ Below w.heap.size w w' := by
  go_enter Try.func15, Try.ntmps15
  go_wp2
  have hf := fun x W hW => Lib.hid (hf x W hW)
  go_loopw [8] (fun i wr => ∃ k : Nat, k ≤ l.length ∧ i = .int .i64 k ∧ (∀ x ∈ l.take k, f x = false) ∧ Below w.heap.size w wr) (fun i _ => l.length - (intOf i).toNat)
  case atStart => exact ⟨0, Nat.zero_le _, rfl, fun x hx => by simp at hx, Below.refl _ _⟩
  case round =>
    obtain ⟨k, hk, rfl, hno, hb⟩ := hrel
    have Hno := Lib.hid hno
    clear hno
    by_cases hlt : k < l.length
    · obtain ⟨b, off, rfl, hc⟩ := h (by omega)
      obtain ⟨h0, h1, h2⟩ := hc k hlt
      have h0' := cell_later hb h0
      have h1' := cell_later hb h1
      have h2' := cell_later hb h2
      clear h0 h1 h2 hc
      have hat := idx_at l f hlt
      have Hat := Lib.hid hat
      clear hat
      have htk : l.take (k + 1) = l.take k ++ [l[k]] := List.take_succ_eq_append_getElem hlt
      have Htk := Lib.hid htk
      clear htk
      generalize hx : l[k] = x at *
      have Hx := Lib.hid hx
      clear hx
      have hfx := hf x _ hb
      clear hf
      unfold Sec.val at hfx
      go_wp2_with fail
      refine (hfx).out.mono ?_
      rintro e w1 ⟨rfl, hb1⟩
      have hbb := hb.trans (hb1.mono hb.size)
      clear hb1 h0' h1' h2' hfx
      by_cases he : f x = true
      · have He := Lib.hid he
        rw [he]
        clear he
        go_wp2
        go_ret
        exact ⟨ret_int (Hat.out Hno.out He.out).symm, hbb⟩
      · have he' : f x = false := by simpa using he
        have He := Lib.hid he'
        rw [he']
        clear he he'
        go_wp2
        go_roundw
        case rel =>
          refine ⟨k + 1, by omega, by go_num, ?_, hbb⟩
          rw [Htk.out]
          intro y hy
          rcases List.mem_append.1 hy with h | h
          · exact Hno.out y h
          · simp at h; subst h; exact He.out
        case measure => simp [intOf]; omega
    · have hke : k = l.length := by omega
      subst hke
      have hn := Hno.out
      rw [List.take_length] at hn
      have Hn := Lib.hid (idx_none l f hn)
      clear hn
      go_wp2
      go_ret
      exact ⟨ret_int Hn.out.symm, hb⟩
set_option maxHeartbeats 1000000 in
/-- the library's search, whatever the test (g: the test's function, f: what it tells) -/
theorem IndexJob_any (A : Option Addr) (c : Nat) (l : List Job) (g : Nat) (f : Job → Bool) (caps : Array Value) (w : World) (hm : l.length ≤ 1000000000000000) (h : Jobs w A l) (heg : ∀ args w, (callFunc g args).run Try.prog w = .ok (.enter g args) w)
    (hf : ∀ (x : Job) W, Below w.heap.size w W → Calls Try.prog g (#[x.val] ++ caps) W fun e w' => e = .returned (.bool (f x)) ∧ Below W.heap.size W w') :
    Calls Try.prog 29 #[.slice A l.length c, .func (Fn.func g) #[] caps] w fun e w' => e = .returned (.int .i64 (idxOf l f)) ∧ Below w.heap.size w w' := by
  go_enter Try.func29, Try.ntmps29
  go_wp2
  have hf := fun x W hW => Lib.hid (hf x W hW)
  go_loopw [8] (fun i wr => ∃ k : Nat, k ≤ l.length ∧ i = .int .i64 k ∧ (∀ x ∈ l.take k, f x = false) ∧ Below w.heap.size w wr) (fun i _ => l.length - (intOf i).toNat)
  case atStart => exact ⟨0, Nat.zero_le _, rfl, fun x hx => by simp at hx, Below.refl _ _⟩
  case round =>
    obtain ⟨k, hk, rfl, hno, hb⟩ := hrel
    have Hno := Lib.hid hno
    clear hno
    by_cases hlt : k < l.length
    · obtain ⟨b, off, rfl, hc⟩ := h (by omega)
      obtain ⟨h0, h1, h2, h3⟩ := hc k hlt
      have h0' := cell_later hb h0
      have h1' := cell_later hb h1
      have h2' := cell_later hb h2
      have h3' := cell_later hb h3
      clear h0 h1 h2 h3 hc
      have hat := idx_at l f hlt
      have Hat := Lib.hid hat
      clear hat
      have htk : l.take (k + 1) = l.take k ++ [l[k]] := List.take_succ_eq_append_getElem hlt
      have Htk := Lib.hid htk
      clear htk
      generalize hx : l[k] = x at *
      have Hx := Lib.hid hx
      clear hx
      have hfx := hf x _ hb
      clear hf
      unfold Job.val at hfx
      go_wp2_with fail
      refine (hfx).out.mono ?_
      rintro e w1 ⟨rfl, hb1⟩
      have hbb := hb.trans (hb1.mono hb.size)
      clear hb1 h0' h1' h2' h3' hfx
      by_cases he : f x = true
      · have He := Lib.hid he
        rw [he]
        clear he
        go_wp2
        go_ret
        exact ⟨ret_int (Hat.out Hno.out He.out).symm, hbb⟩
      · have he' : f x = false := by simpa using he
        have He := Lib.hid he'
        rw [he']
        clear he he'
        go_wp2
        go_roundw
        case rel =>
          refine ⟨k + 1, by omega, by go_num, ?_, hbb⟩
          rw [Htk.out]
          intro y hy
          rcases List.mem_append.1 hy with h | h
          · exact Hno.out y h
          · simp at h; subst h; exact He.out
        case measure => simp [intOf]; omega
    · have hke : k = l.length := by omega
      subst hke
      have hn := Hno.out
      rw [List.take_length] at hn
      have Hn := Lib.hid (idx_none l f hn)
      clear hn
      go_wp2
      go_ret
      exact ⟨ret_int Hn.out.symm, hb⟩
theorem ContainsJob_any (A : Option Addr) (c : Nat) (l : List Job) (g : Nat) (f : Job → Bool) (caps : Array Value) (w : World) (hm : l.length ≤ 1000000000000000) (h : Jobs w A l) (heg : ∀ args w, (callFunc g args).run Try.prog w = .ok (.enter g args) w)
    (hf : ∀ (x : Job) W, Below w.heap.size w W → Calls Try.prog g (#[x.val] ++ caps) W fun e w' => e = .returned (.bool (f x)) ∧ Below W.heap.size W w') :
    Calls Try.prog 17 #[.slice A l.length c, .func (Fn.func g) #[] caps] w fun e w' => e = .returned (.bool (l.any f)) ∧ Below w.heap.size w w' := by
  have hq := IndexJob_any A c l g f caps w hm h heg hf
  have hd := idx_neg l f
  have Hd := Lib.hid hd
  have Hq := Lib.hid hq
  clear hd hq
  generalize idxOf l f = i at *
  go_enter Try.func17, Try.ntmps17
  go_wp2_with fail
  refine Hq.out.mono ?_
  rintro e w1 ⟨rfl, hb⟩
  go_wp2
  go_ret
  exact ⟨by rw [← Hd.out]; rfl, hb⟩

end Go.Proofs.Ytogaepijfbgniaa
