/- Contracts: Path, and the reference's Path. -/
import Derived.Test.YthhjnplegdmidaaW13
import Derived.Test.YthhjnplegdmidaaPlain8
namespace Go.Proofs.Ythhjnplegdmidaa
open Go.RowKit
set_option linter.unusedVariables false
set_option linter.unusedSimpArgs false
theorem Reverse_nil (w : World) : Calls Try.prog 33 #[.slice none 0 0] w fun e w' => (∃ v, e = .returned v) ∧ w = w' := by
  go_enter Try.func33, Try.ntmps33
  go_wp2
  go_loop [2, 3] (fun s t => s = .int .i64 0 ∧ t = .int .i64 (-1)) (fun _ _ => 0)
  case atStart => exact ⟨rfl, rfl⟩
  case round =>
    obtain ⟨rfl, rfl⟩ := hrel
    go_wp2
    go_end0
    exact ⟨⟨_, rfl⟩, rfl⟩
/-- any row of the call's own is reversed -/
theorem Reverse_own (v : Value) (B : Nat) (l : List Int) (w : World) (hsz : l.length ≤ 1000000000000) (hB : B ≤ w.heap.size) (hown : OwnI w B 3 v l) :
    Calls Try.prog 33 #[v] w fun e w' => (∃ v, e = .returned v) ∧ OwnI w' B 3 v l.reverse ∧ Below B w w' := by
  rcases hown.2 with ⟨rfl, h0⟩ | ⟨g, cap, cur, rfl, h1, h2⟩
  · have : l = [] := List.eq_nil_of_length_eq_zero h0
    subst this
    refine (Reverse_nil w).mono ?_
    rintro e w' ⟨he, rfl⟩
    exact ⟨he, by simpa using hown, Below.refl _ _⟩
  · refine (Reverse_any g cap B l.toArray w hsz hown).mono ?_
    rintro e w' ⟨he, ho, hg⟩
    refine ⟨he, by simpa using ho, (Below.refl _ _).grown hg hB (fun k hk => by cases hk; exact h1)⟩
def PathPost (w : World) (out : List Int) (ok : Bool) (e : Ending) (w' : World) : Prop := ∃ A c, e = .returned (.tuple #[.slice A out.length c, .bool ok]) ∧ Ints w' A out ∧ Below w.heap.size w w'
set_option maxHeartbeats 4000000 in
theorem Path_any (A : Option Addr) (c : Nat) (l : List Pipe) (n0 : Int) (w : World) (hm : l.length ≤ 64) (hcap : l.length ≤ c) (hg : Good l) (h : Pipes w A l) :
    Calls Try.prog 19 #[.slice A l.length c, .int .i64 n0] w (PathPost w (pathOf l n0) (known l n0)) := by
  have hst := Lib.hid (pinv_start l n0)
  go_enter Try.func19, Try.ntmps19
  go_wp2
  go_loopw [0, 1, 6] (fun lv nv ov wr => ∃ (m : Nat) (nd : Int) (out : List Int), m ≤ l.length ∧ lv = .slice A m c ∧ nv = .int .i64 nd ∧ out.length + m ≤ l.length ∧ Hid (PInv l n0 m nd out) ∧ OwnI wr w.heap.size 3 ov out ∧ Below w.heap.size w wr) (fun lv _ _ _ => match lv with | .slice _ m _ => m | _ => 0)
  case atStart => exact ⟨l.length, n0, [], Nat.le_refl _, rfl, rfl, by simp, hst, OwnI.nil _ _ _, Below.refl _ _⟩
  case round =>
    clear hst
    obtain ⟨m, nd, out, hml, rfl, rfl, hol, hinv, hown, hb⟩ := hrel
    by_cases hn : nd = 0
    · subst hn
      obtain ⟨hk, hp⟩ := pinv_root hg hinv.out hml
      have HK := Lib.hid hk
      have HP := Lib.hid hp
      have hrev := Lib.hid (Reverse_own _ w.heap.size out wr (by omega) hb.size hown)
      clear hk hp hinv hown
      go_wp2_with fail
      refine hrev.out.mono ?_
      rintro e w2 ⟨⟨v2, rfl⟩, ho2, hb2⟩
      obtain ⟨A', c', rfl, hi⟩ := ho2.form
      have hbb := hb.trans hb2
      have HI := Lib.hid hi
      clear hrev ho2 hi hb2 hb
      go_wp2
      go_ret2
      rw [HK.out, HP.out]
      exact ⟨A', c', by rw [List.length_reverse]; rfl, HI.out, hbb⟩
    · have hn' : (nd != 0) = true := by simpa using hn
      have hlen : (l.take m).length = m := by simp; omega
      have hfi := find_any A c (l.take m) nd wr (by omega) ((h.take m).below hb)
      rw [hlen] at hfi
      have HO := Lib.hid hown
      clear hown hlen
      cases hf : (l.take m).findIdx? fun p => p.to_ == nd with
      | none =>
        have hi : idxOf (l.take m) (fun q => q.to_ == nd) = -1 := by unfold idxOf; rw [hf]
        obtain ⟨hk, hp⟩ := pinv_none hg hinv.out hn hf
        rw [hi] at hfi
        have HK := Lib.hid hk
        have HP := Lib.hid hp
        have Hfi := Lib.hid hfi
        clear hk hp hinv hf hi hfi hn
        go_wp2_with fail
        refine Hfi.out.mono ?_
        rintro e w1 ⟨rfl, hb1⟩
        have hbb := hb.trans (hb1.mono hb.size)
        clear hb hb1 Hfi HO
        go_wp2
        go_ret2
        rw [HK.out, HP.out]
        exact ⟨none, 0, rfl, Ints.nil _ _, hbb⟩
      | some i =>
        obtain ⟨hil, hft, hfr⟩ := List.findIdx?_eq_some_iff_getElem.1 hf
        have him : i < m := by simp at hil; omega
        have hill : i < l.length := by omega
        rw [List.getElem_take] at hft
        have hft' : l[i].to_ = nd := by simpa using hft
        have hi : idxOf (l.take m) (fun q => q.to_ == nd) = i := by unfold idxOf; rw [hf]
        rw [hi] at hfi
        have hst := Lib.hid (pinv_step hg hinv.out him hml hft')
        have Hfi := Lib.hid hfi
        have hs := Pipe.slice_to A m c i (by omega) (by omega)
        clear hinv hf hi hfi hn hft hft' hfr hil
        obtain ⟨b, off, rfl, hcc⟩ := h (by omega)
        obtain ⟨g0, g1, g2, g3, g4⟩ := hcc i hill
        have G1 := Lib.hid g1
        replace g0 := cell_later hb g0
        clear g1
        have him' : (i : Int) < (m : Int) := by omega
        have hi0 : (0 : Int) ≤ (i : Int) := by omega
        clear g2 g3 g4 hcc
        generalize l[i].id = pid at *
        generalize l[i].from_ = pfr at *
        go_wp2_with fail
        refine Hfi.out.mono ?_
        rintro e w1 ⟨rfl, hb1⟩
        have k0 := cell_later hb1 g0
        have hbb := hb.trans (hb1.mono hb.size)
        have ho1 := HO.out.grown hb1
        clear hb hb1 Hfi HO g0
        go_wp2_with (at_builtin; refine wpList_push w w1 rfl (.tmp 15) (.tmp 21) _ rfl w.heap.size 3 Try.underlying30 info3 _ out rfl (by exact ho1) pid rfl (by exact hbb) (by omega) hbb.size ?_; intro gg cap1 w6 hown3 hbw3 hg1 hat1)
        have k2 := cell_later hbw3 G1.out
        clear hg1 hat1 ho1 k0 hbb G1
        go_wp2_with fail
        go_quiet (fail)
        go_wp2
        go_roundw
        case rel => exact ⟨i, pfr, out ++ [pid], by omega, rfl, rfl, by simp; omega, hst, hown3, hbw3.trans (below_dn (Below.refl _ _) _)⟩
        case measure => omega
end Go.Proofs.Ythhjnplegdmidaa
