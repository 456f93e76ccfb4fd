/- Contracts: the reference's Draws, accepted, Same. -/
import Derived.Test.YthhjnplegdmidaaW3
namespace Go.Proofs.Ythhjnplegdmidaa
open Go.RowKit
set_option linter.unusedVariables false
def flowOk (d : Draw) : Bool := decide (0 ≤ d.flow ∧ d.flow ≤ 100000)
def posN (ds : List Draw) : Nat := (ds.filter fun d => decide (0 < d.flow)).length
/-- the draws are accepted -/
def drawsB (ds : List Draw) : Bool := ds.all flowOk && decide (posN ds ≤ 64)
theorem posN_succ {ds : List Draw} {k : Nat} (hk : k < ds.length) : posN (ds.take (k + 1)) = posN (ds.take k) + if 0 < ds[k].flow then 1 else 0 := by
  unfold posN
  rw [List.take_succ_eq_append_getElem hk, List.filter_append, List.length_append]
  by_cases h : 0 < ds[k].flow <;> simp [h]
theorem posN_le (ds : List Draw) : posN ds ≤ ds.length := List.length_filter_le _ _
theorem draws_bad {ds : List Draw} {k : Nat} (hk : k < ds.length) (h : flowOk ds[k] = false) : drawsB ds = false := by
  unfold drawsB
  have : ds.all flowOk = false := by
    rw [List.all_eq_false]
    exact ⟨ds[k], List.getElem_mem hk, by simp [h]⟩
  rw [this]; rfl
theorem draws_good {ds : List Draw} (h : ∀ x ∈ ds, flowOk x = true) : drawsB ds = decide (posN ds ≤ 64) := by
  unfold drawsB
  rw [List.all_eq_true.2 h]; rfl
set_option maxHeartbeats 2000000 in
theorem Draws_any (A : Option Addr) (c : Nat) (ds : List Draw) (w : World) (hm : ds.length ≤ 1000000000000000) (h : Draws w A ds) : Calls Try.prog 29 #[.slice A ds.length c] w fun e w' => e = .returned (.bool (drawsB ds)) ∧ w = w' := by
  go_enter Try.func29, Try.ntmps29
  go_wp2
  go_loop [3, 4] (fun n i => ∃ k : Nat, k ≤ ds.length ∧ i = .int .i64 k ∧ n = .int .i64 (posN (ds.take k)) ∧ ∀ x ∈ ds.take k, flowOk x = true) (fun _ i => ds.length - (intOf i).toNat)
  case atStart => exact ⟨0, Nat.zero_le _, rfl, rfl, fun x hx => by simp at hx⟩
  case round =>
    obtain ⟨k, hk, rfl, rfl, hall⟩ := hrel
    have Hall := Lib.hid hall
    clear hall
    have hpl := posN_le (ds.take k)
    rw [List.length_take] at hpl
    have hpl2 : posN (ds.take k) ≤ k := by omega
    clear hpl
    by_cases hlt : k < ds.length
    · obtain ⟨b, off, rfl, hc⟩ := h (by omega)
      obtain ⟨h0, h1⟩ := hc k hlt
      clear hc h0
      have hps := posN_succ hlt
      have hbad := draws_bad hlt
      have htk : ds.take (k + 1) = ds.take k ++ [ds[k]] := List.take_succ_eq_append_getElem hlt
      have Hps := Lib.hid hps
      have Hbad := Lib.hid hbad
      have Htk := Lib.hid htk
      clear hps hbad htk
      generalize ds[k] = x at *
      obtain ⟨nd, fl⟩ := x
      simp only at h1 Hps
      generalize posN (ds.take k) = pn at *
      have ho : fl < 0 ∨ 0 ≤ fl ∧ (100000 < fl ∨ fl ≤ 100000 ∧ (0 < fl ∨ fl ≤ 0)) := by omega
      rcases ho with ho | ⟨ho, h2 | ⟨h2, h3 | h3⟩⟩
      · have hf := Lib.hid (Hbad.out (by simp [flowOk]; omega))
        clear Hbad
        go_wp2
        go_ret
        exact ⟨by rw [hf.out]; rfl, rfl⟩
      · have hf := Lib.hid (Hbad.out (by simp [flowOk]; omega))
        clear Hbad
        go_wp2
        go_ret
        exact ⟨by rw [hf.out]; rfl, rfl⟩
      · have hok : Hid (flowOk ⟨nd, fl⟩ = true) := Lib.hid (by simp [flowOk]; omega)
        clear Hbad
        go_wp2
        go_round
        case rel =>
          refine ⟨k + 1, by omega, by go_num, by rw [Hps.out, if_pos h3]; go_num, ?_⟩
          rw [Htk.out]
          intro y hy
          rcases List.mem_append.1 hy with hy | hy
          · exact Hall.out y hy
          · simp at hy; subst hy; exact hok.out
        case measure => simp [intOf]; omega
      · have hok : Hid (flowOk ⟨nd, fl⟩ = true) := Lib.hid (by simp [flowOk]; omega)
        clear Hbad
        go_wp2
        go_round
        case rel =>
          refine ⟨k + 1, by omega, by go_num, by rw [Hps.out, if_neg (by omega)]; rfl, ?_⟩
          rw [Htk.out]
          intro y hy
          rcases List.mem_append.1 hy with hy | hy
          · exact Hall.out y hy
          · simp at hy; subst hy; exact hok.out
        case measure => simp [intOf]; omega
    · have hke : k = ds.length := by omega
      subst hke
      have hall := Hall.out
      rw [List.take_length] at hall
      rw [List.take_length]
      have Hg := Lib.hid (draws_good hall)
      clear hall Hall
      generalize posN ds = pn at *
      by_cases hp : pn ≤ 64
      · go_wp2
        go_ret
        exact ⟨by rw [Hg.out]; simp; omega, rfl⟩
      · go_wp2
        go_ret
        exact ⟨by rw [Hg.out]; simp; omega, rfl⟩
/-- everything is accepted -/
def accB (l : List Pipe) (ds : List Draw) (root : Int) : Bool := decide (l.length ≤ 64) && decide (rightOf l = 0) && decide (ds.length ≤ 200) && drawsB ds && decide (-10000000 ≤ root ∧ root ≤ 10000000)
set_option maxHeartbeats 2000000 in
theorem accepted_any (A C : Option Addr) (c d : Nat) (l : List Pipe) (ds : List Draw) (root : Int) (w : World) (hm : l.length ≤ 1000000000000000) (hd : ds.length ≤ 1000000000000000) (h : Pipes w A l) (hds : Draws w C ds) :
    Calls Try.prog 13 #[.slice A l.length c, .slice C ds.length d, .int .i64 root] w fun e w' => e = .returned (.bool (accB l ds root)) ∧ Below w.heap.size w w' := by
  have q1 := fun W hW => Lib.hid (refRight_any A c l W (by omega) hW)
  have q2 := fun W hW => Lib.hid (Draws_any C d ds W (by omega) hW)
  by_cases a1 : l.length ≤ 64
  · by_cases a2 : rightOf l = 0
    · have a2' : (rightOf l == 0) = true := by simpa using a2
      by_cases a3 : ds.length ≤ 200
      · have ha : accB l ds root = (drawsB ds && decide (-10000000 ≤ root ∧ root ≤ 10000000)) := by unfold accB; simp [a1, a2, a3]
        have Ha := Lib.hid ha
        clear ha a2
        generalize rightOf l = r at *
        generalize drawsB ds = db at *
        cases db
        · go_enter Try.func13, Try.ntmps13
          go_wp2_with fail
          refine (q1 _ h).out.mono ?_
          rintro e w1 ⟨rfl, hb1⟩
          go_wp2_with fail
          refine (q2 _ (hds.below hb1)).out.mono ?_
          rintro e w2 ⟨rfl, rfl⟩
          go_wp2
          go_ret
          exact ⟨by rw [Ha.out]; simp, hb1⟩
        · have ho : root < -10000000 ∨ -10000000 ≤ root ∧ (10000000 < root ∨ root ≤ 10000000) := by omega
          rcases ho with ho | ⟨ho, ho2 | ho2⟩
          all_goals
            go_enter Try.func13, Try.ntmps13
            go_wp2_with fail
            refine (q1 _ h).out.mono ?_
            rintro e w1 ⟨rfl, hb1⟩
            go_wp2_with fail
            refine (q2 _ (hds.below hb1)).out.mono ?_
            rintro e w2 ⟨rfl, rfl⟩
            go_wp2
            go_ret
            exact ⟨by rw [Ha.out]; simp; omega, hb1⟩
      · have ha : accB l ds root = false := by unfold accB; simp [a3]
        have Ha := Lib.hid ha
        clear ha a2
        generalize rightOf l = r at *
        go_enter Try.func13, Try.ntmps13
        go_wp2_with fail
        refine (q1 _ h).out.mono ?_
        rintro e w1 ⟨rfl, hb1⟩
        go_wp2
        go_ret
        exact ⟨by rw [Ha.out]; simp, hb1⟩
    · have a2' : (rightOf l == 0) = false := by simpa using a2
      have ha : accB l ds root = false := by unfold accB; simp [a2]
      have Ha := Lib.hid ha
      clear ha a2
      generalize rightOf l = r at *
      go_enter Try.func13, Try.ntmps13
      go_wp2_with fail
      refine (q1 _ h).out.mono ?_
      rintro e w1 ⟨rfl, hb1⟩
      go_wp2
      go_ret
      exact ⟨by rw [Ha.out]; simp, hb1⟩
  · have ha : accB l ds root = false := by unfold accB; simp [a1]
    have Ha := Lib.hid ha
    clear ha
    go_enter Try.func13, Try.ntmps13
    go_wp2
    go_ret
    exact ⟨by rw [Ha.out]; rfl, Below.refl _ _⟩
theorem Same_eq (A C : Option Addr) (c d : Nat) (l : List Int) (w : World) (hm : l.length ≤ 1000000000000000) (hA : Ints w A l) (hC : Ints w C l) :
    Calls Try.prog 14 #[.slice A l.length c, .slice C l.length d] w fun e w' => e = .returned (.bool true) ∧ ∃ n, w' = w.drewN n := by
  go_enter Try.func14, Try.ntmps14
  go_wp2
  go_loopw [5] (fun i wr => ∃ (k n : Nat), k ≤ l.length ∧ i = .int .i64 k ∧ wr = w.drewN n) (fun i _ => l.length - (intOf i).toNat)
  case atStart => exact ⟨0, 0, Nat.zero_le _, rfl, rfl⟩
  case round =>
    obtain ⟨k, n, hk, rfl, rfl⟩ := hrel
    by_cases hlt : k < l.length
    · obtain ⟨b, o, rfl, hcA⟩ := hA (by omega)
      obtain ⟨b', o', rfl, hcC⟩ := hC (by omega)
      have ha := hcA k hlt
      have hc := hcC k hlt
      clear hcA hcC
      generalize l[k] = p at *
      have hne : (p != p) = false := by simp
      go_wp2_with fail
      go_quiet (fail)
      go_wp2
      go_roundw
      case rel => exact ⟨k + 1, _, by omega, by go_num, rfl⟩
      case measure => simp [intOf]; omega
    · go_wp2
      go_ret
      exact ⟨rfl, _, rfl⟩
end Go.Proofs.Ythhjnplegdmidaa
