/- Contracts: Test (both). -/
import Derived.Test.YtgmkfjgkpakhfaaW2
import Derived.Test.YtgmkfjgkpakhfaaW5
import Derived.Test.YtgmkfjgkpakhfaaPlain3
namespace Go.Proofs.Ytgmkfjgkpakhfaa
open Go.RowKit
set_option linter.unusedVariables false
theorem OwnR.pos {w : World} {B T k n c : Nat} {A : Option Addr} {rows : List (List Int)} (h : OwnR w B T k (.slice A n c) rows) (hn : 0 < n) : ∃ g, A = some ⟨g, 0, none⟩ ∧ B ≤ g ∧ ∀ off, w.frozen? ⟨g, off, none⟩ = false := by
  rcases h.own.2 with ⟨e, _⟩ | ⟨g, cap, cur, e, hb, hg, _⟩
  · injection e with e1 e2 e3; omega
  · injection e with e1 e2 e3
    exact ⟨g, e1, hb, fun off => by simp [World.frozen?, hg]⟩
def TestPost (w : World) (q : List Brake × Int) (e : Ending) (w' : World) : Prop := ∃ A c, e = .returned (.tuple #[.slice A q.1.length c, .int .i64 q.2]) ∧ Brakes w' A q.1 ∧ Below w.heap.size w w'
theorem brakes_set {w : World} {g : Nat} {l : List Brake} {k : Nat} (hk : k < l.length) (m t : Int) (h : Brakes w (some ⟨g, 0, none⟩) l) : Brakes ((w.setCell ⟨g, k * 5 + 3, none⟩ (.int .i64 t)).setCell ⟨g, k * 5 + 4, none⟩ (.int .i64 m)) (some ⟨g, 0, none⟩) (setF l k m t) := fun hn => by
  obtain ⟨b, off, e, hc⟩ := h (by rw [setF_length] at hn; omega)
  injection e with e
  injection e with e1 e2
  subst e1
  subst e2
  refine ⟨_, _, rfl, fun i hi => ?_⟩
  rw [setF_length] at hi
  obtain ⟨h0, h1, h2, h3, h4⟩ := hc i hi
  rw [setF_at hi]
  simp only [Nat.zero_add] at h0 h1 h2 h3 h4 ⊢
  have oth : ∀ {W : World} {p q : Nat} {u v : Value}, p ≠ q → W.cell? ⟨g, q, none⟩ = some v → (W.setCell ⟨g, p, none⟩ u).cell? ⟨g, q, none⟩ = some v := fun {W p q u v} hne hh =>
    (World.cell?_setCell_other (w := W) (v := u) (a := ⟨g, p, none⟩) (b := ⟨g, q, none⟩) (fun e => hne (by injection e))).trans hh
  have far : ∀ {o : Nat} {v : Value}, k * 5 + 3 ≠ o → k * 5 + 4 ≠ o → w.cell? ⟨g, o, none⟩ = some v → ((w.setCell ⟨g, k * 5 + 3, none⟩ (.int .i64 t)).setCell ⟨g, k * 5 + 4, none⟩ (.int .i64 m)).cell? ⟨g, o, none⟩ = some v :=
    fun n1 n2 hh => oth n2 (oth n1 hh)
  by_cases hik : k = i
  · subst hik
    rw [if_pos rfl]
    exact ⟨far (by omega) (by omega) h0, far (by omega) (by omega) h1, far (by omega) (by omega) h2, oth (by omega) (World.cell?_setCell_same _ _ _ h3), World.cell?_setCell_same _ _ _ (oth (by omega) h4)⟩
  · rw [if_neg hik]
    exact ⟨far (by omega) (by omega) h0, far (by omega) (by omega) h1, far (by omega) (by omega) h2, far (by omega) (by omega) h3, far (by omega) (by omega) h4⟩
set_option maxHeartbeats 1000000 in
theorem Test_any (A : Option Addr) (c : Nat) (l : List Brake) (id m t : Int) (w : World) (hm : l.length ≤ 8) (h : Brakes w A l) :
    Calls Try.prog 13 #[.slice A l.length c, .int .i64 id, .int .i64 m, .int .i64 t] w (TestPost w (testOf l id m t)) := by
  have hge := findF_ge l id
  have hfi := fun W (hW : Below w.heap.size w W) => Lib.hid (find_any A c l id W (by omega) (h.below hW))
  have hw := fun (n a b : Int) W => Lib.hid (within_any n a b W)
  by_cases hf : findF l id < 0
  · have hr := Lib.hid (testOf_none (m := m) (t := t) hf)
    generalize findF l id = fi at *
    clear hge
    go_enter Try.func13, Try.ntmps13
    go_wp2_with fail
    refine (hfi _ (Below.refl _ _)).out.mono ?_
    rintro e w1 ⟨rfl, hb⟩
    go_wp2
    go_ret2
    rw [hr.out]
    exact ⟨_, _, rfl, Brakes.nil _ _, hb⟩
  · obtain ⟨k, hk⟩ : ∃ k : Nat, findF l id = k := ⟨(findF l id).toNat, by omega⟩
    have hkl : k < l.length := by omega
    by_cases hr : 0 ≤ m ∧ m ≤ 10000000 ∧ 0 ≤ t ∧ t ≤ 20000000
    · have ht := testOf_at hkl hk hr
      rw [hk] at hfi
      clear hk hge hf
      have w1t : inW m 0 10000000 = true := by simp [inW]; omega
      have w2t : inW t 0 20000000 = true := by simp [inW]; omega
      have q1 := fun W => hw m 0 10000000 W
      have q2 := fun W => hw t 0 20000000 W
      rw [w1t] at q1
      rw [w2t] at q2
      clear hw w1t w2t hr
      have hcl := fun W (hW : Below w.heap.size w W) => Lib.hid (Clone_any A c l W hm (h.below hW))
      obtain ⟨b, off, rfl, hc⟩ := h (by omega)
      obtain ⟨h0, h1, h2, h3, h4⟩ := hc k hkl
      clear h0 h1 h2 h4 hc
      by_cases hlt : t < l[k].tested
      · rw [if_pos hlt] at ht
        have Ht := Lib.hid ht
        clear ht hcl
        go_enter Try.func13, Try.ntmps13
        go_wp2_with fail
        refine (hfi _ (Below.refl _ _)).out.mono ?_
        rintro e w1 ⟨rfl, hb⟩
        have h3' := cell_later hb h3
        clear hfi h3
        go_wp2_with fail
        refine (q1 _).out.mono ?_
        rintro e w1 ⟨rfl, rfl⟩
        go_wp2_with fail
        refine (q2 _).out.mono ?_
        rintro e w1 ⟨rfl, rfl⟩
        go_wp2
        go_ret2
        rw [Ht.out]
        exact ⟨_, _, rfl, Brakes.nil _ _, hb⟩
      · rw [if_neg hlt] at ht
        have Ht := Lib.hid ht
        clear ht
        have hset := fun W g (hx : Brakes W (some ⟨g, 0, none⟩) l) => Lib.hid (brakes_set hkl m t hx)
        have hsl := Lib.hid (setF_length l k m t)
        go_enter Try.func13, Try.ntmps13
        go_wp2_with fail
        refine (hfi _ (Below.refl _ _)).out.mono ?_
        rintro e w1 ⟨rfl, hb⟩
        have h3' := cell_later hb h3
        clear hfi h3
        go_wp2_with fail
        refine (q1 _).out.mono ?_
        rintro e w1 ⟨rfl, rfl⟩
        go_wp2_with fail
        refine (q2 _).out.mono ?_
        rintro e w1 ⟨rfl, rfl⟩
        go_wp2_with fail
        refine (hcl _ hb).out.mono ?_
        rintro e w2 ⟨A2, c2, rfl, hown, hb2⟩
        have hb3 := hb.trans (hb2.mono hb.size)
        obtain ⟨g, rfl, hg, hfz⟩ := hown.pos (by omega)
        have hbr := Brakes.of_src hown.src
        obtain ⟨b', off', e', hc'⟩ := hbr (by omega)
        injection e' with e'
        injection e' with e1 e2
        subst e1
        subst e2
        obtain ⟨i0, i1, i2, i3, i4⟩ := hc' k hkl
        simp only [Nat.zero_add] at i3 i4
        have f3 := hfz (k * 5 + 3)
        have f4 := hfz (k * 5 + 4)
        clear i0 i1 i2 hc' hfz hown hcl h3' hlt
        generalize l[k].tested = u3 at *
        generalize l[k].measured = u4 at *
        have Hset := hset w2 g hbr
        clear hset hbr
        go_wp2
        go_ret2
        rw [Ht.out]
        exact ⟨some ⟨g, 0, none⟩, c2, congrArg (fun n => Ending.returned (.tuple #[.slice (some ⟨g, 0, none⟩) n c2, .int .i64 0])) hsl.out.symm, Hset.out, (hb3.setCell (Nat.le_trans hb.size hg) _).setCell (Nat.le_trans hb.size hg) _⟩
    · have hr' := Lib.hid (testOf_range hf hr)
      have ho : inW m 0 10000000 = false ∨ inW m 0 10000000 = true ∧ inW t 0 20000000 = false := by
        simp only [inW, decide_eq_true_eq, decide_eq_false_iff_not]; omega
      rw [hk] at hfi
      clear hk hge hf hr
      go_enter Try.func13, Try.ntmps13
      go_wp2_with fail
      refine (hfi _ (Below.refl _ _)).out.mono ?_
      rintro e w1 ⟨rfl, hb⟩
      go_wp2_with fail
      refine (hw _ _ _ _).out.mono ?_
      rintro e w1 ⟨rfl, rfl⟩
      rcases ho with ho | ⟨ho, ho2⟩
      · rw [ho]
        go_wp2
        go_ret2
        rw [hr'.out]
        exact ⟨_, _, rfl, Brakes.nil _ _, hb⟩
      · rw [ho]
        go_wp2_with fail
        refine (hw _ _ _ _).out.mono ?_
        rintro e w1 ⟨rfl, rfl⟩
        rw [ho2]
        go_wp2
        go_ret2
        rw [hr'.out]
        exact ⟨_, _, rfl, Brakes.nil _ _, hb⟩
end Go.Proofs.Ytgmkfjgkpakhfaa
