/- Contracts: Right (both). -/
import Derived.Test.YtjnokdpliocmmaaW1
import Derived.Test.YtjnokdpliocmmaaSeen
import Derived.Test.YtjnokdpliocmmaaPlain2
namespace Go.Proofs.Ytjnokdpliocmmaa
open Go.RowKit Go.Maps
set_option linter.unusedVariables false
theorem owns_below {w w' : World} {b n : Nat} {D : DataW Unit} (h : w.ownsMap Try.prog 56 (plainElem Try.prog 4) b n D) (hb : Below w.heap.size w w') : w'.ownsMap Try.prog 56 (plainElem Try.prog 4) b n D := by
  have hlt := h.lt
  obtain ⟨es, clock, hh, r⟩ := h
  exact ⟨es, clock, (hb.block b hlt).trans hh, r⟩
theorem inR_I {x : Obs} (h : inR x = true) : I64 x.station ∧ I64 x.at_ := by
  simp only [inR, decide_eq_true_eq] at h
  unfold I64
  omega
set_option maxHeartbeats 2000000 in
theorem Right_any (A : Option Addr) (c : Nat) (l : List Obs) (w : World) (hm : l.length ≤ 1000000000000000) (h : Obss w A l) : Calls Try.prog 12 #[.slice A l.length c] w fun e w' => e = .returned (.int .i64 (rightOf l)) ∧ Below w.heap.size w w' := by
  have hmm := @run_makeMap Try.prog
  by_cases hl : l.length ≤ 1000
  · have hro : rightOf l = rightGo [] l := by rw [rightOf, if_neg (by omega)]
    have Hro := Lib.hid hro
    clear hro
    go_enter Try.func12, Try.ntmps12
    go_wp2
    clear hmm
    go_loopw [13] (fun i wr => ∃ (k : Nat) (D : DataW Unit), k ≤ l.length ∧ i = .int .i64 k ∧ rightGo [] l = rightGo (l.take k) (l.drop k) ∧ Below w.heap.size w wr ∧ Seen D (l.take k) ∧ wr.ownsMap Try.prog 56 (plainElem Try.prog 4) w.heap.size k D) (fun i _ => l.length - (intOf i).toNat)
    case atStart => exact ⟨0, _, Nat.zero_le _, rfl, rfl, (Below.refl _ _).alloc (Nat.le_refl _) _, seen_nil, World.ownsMap_made _ _ _ _⟩
    case round =>
      obtain ⟨k, D, hk, rfl, he, hb, hS, hown⟩ := hrel
      by_cases hlt : k < l.length
      · rw [rightGo_step hlt] at he
        have hin := fun W => Lib.hid (inRange_any l[k] W)
        have hso : k = 0 ∧ sooner (l.take k) l[k] = false ∨ ∃ m, ∃ hm : m < l.length, k = m + 1 ∧ sooner (l.take k) l[k] = decide (l[k].at_ < l[m].at_) := by
          cases k with
          | zero => exact .inl ⟨rfl, rfl⟩
          | succ m => exact .inr ⟨m, by omega, rfl, sooner_succ (by omega) _⟩
        have Hso := Lib.hid hso
        obtain ⟨b, off, rfl, hc⟩ := h (by omega)
        obtain ⟨h0, h1, h2, h3, h4, h5⟩ := hc k hlt
        have hprev := fun (m : Nat) (hm : m < l.length) => (hc m hm).2.1
        have Hprev := Lib.hid hprev
        have h0' := cell_later hb h0
        have h1' := cell_later hb h1
        have h2' := cell_later hb h2
        have h3' := cell_later hb h3
        have h4' := cell_later hb h4
        have h5' := cell_later hb h5
        have htk : l.take (k + 1) = l.take k ++ [l[k]] := List.take_succ_eq_append_getElem hlt
        have Htk := Lib.hid htk
        have HS := Lib.hid hS
        have HO := Lib.hid hown
        clear h0 h1 h2 h3 h4 h5 hc hprev hso htk hS hown
        generalize hx : l[k] = x at *
        clear hx
        cases hi : inR x
        · rw [errAt, hi] at he
          rw [hi] at hin
          have He := Lib.hid he
          clear he hi
          go_wp2_with fail
          refine (hin _).out.mono ?_
          rintro e w1 ⟨rfl, hb1⟩
          go_wp2
          go_ret
          refine ⟨?_, (hb.alloc hb.size _).trans (hb1.mono (Nat.le_trans hb.size (by simp)))⟩
          rw [Hro.out, He.out]; rfl
        · have hI := inR_I hi
          rw [errAt, hi] at he
          rw [hi] at hin
          have He := Lib.hid he
          clear he hi
          go_wp2_with fail
          refine (hin _).out.mono ?_
          rintro e w1 ⟨rfl, hb1⟩
          have hb2 := (hb.alloc hb.size (.cells #[.int .i64 x.station, .int .i64 x.at_, .int .i64 x.gust, .int .i64 x.temp, .int .i64 x.hum, .int .i64 x.snow] 30)).trans (hb1.mono (Nat.le_trans hb.size (by simp)))
          have HO2 := Lib.hid (owns_below (HO.out.alloc _) hb1)
          have o0 : w1.cell? ⟨wr.heap.size, 0, none⟩ = some (.int .i64 x.station) := cell_later hb1 (by go_simp)
          have o1 : w1.cell? ⟨wr.heap.size, 1, none⟩ = some (.int .i64 x.at_) := cell_later hb1 (by go_simp)
          clear h0' h1' h2' h3' h4' h5' hin HO
          rcases Hso.out with ⟨hk0, hs⟩ | ⟨m, hml, hkm, hs⟩
          · subst hk0
            rw [hs] at He
            clear Hso hs Hprev
            go_wp2_with fail
            go_quiet (fail)
            have q0 : (w1.drewN nq).cell? ⟨wr.heap.size, 0, none⟩ = some (.int .i64 x.station) := o0
            have q1 : (w1.drewN nq).cell? ⟨wr.heap.size, 1, none⟩ = some (.int .i64 x.at_) := o1
            have hbq := below_dn hb2 nq
            have HOq : (w1.drewN nq).ownsMap Try.prog 56 (plainElem Try.prog 4) w.heap.size 0 D := HO2.out
            replace HOq := Lib.hid HOq
            clear o0 o1 hb2 HO2 hb1
            generalize w1.drewN nq = wq at *
            have hlo := seen_twice HS.out (HOq.out.alloc (.cells #[.int .i64 x.station, .int .i64 x.at_] 56)) x hI.1 hI.2
            have hbq2 := hbq.alloc hbq.size (.cells #[.int .i64 x.station, .int .i64 x.at_] 56)
            obtain ⟨tw, htw⟩ : ∃ tw, twice (l.take (0)) x = tw := ⟨_, rfl⟩
            rw [htw] at hlo He
            clear htw
            cases tw
            · obtain ⟨w3, D3, hst, hS3, hO3, hg3⟩ := seen_store HS.out (HOq.out.alloc (.cells #[.int .i64 x.station, .int .i64 x.at_] 56)) (by omega) x hI.1 hI.2
              have hb3 := hbq2.grown hg3 hbq2.size (fun j hj => by cases hj; exact Nat.le_refl _)
              have HS3 := Lib.hid hS3
              have HO3 := Lib.hid hO3
              clear hS3 hO3 hg3 HS HOq hbq2
              go_wp2
              go_roundw
              case rel => exact ⟨0 + 1, D3, by omega, by go_num, He.out, hb3, by rw [Htk.out]; exact HS3.out, HO3.out⟩
              case measure => simp [intOf]; omega
            · go_wp2
              go_ret
              refine ⟨?_, hbq2⟩
              rw [Hro.out, He.out]; rfl
          · have hp := cell_later hb2 (Hprev.out m hml)
            clear Hso Hprev
            subst hkm
            by_cases hso : x.at_ < l[m].at_
            · rw [decide_eq_true hso] at hs
              rw [hs] at He
              clear hs
              generalize l[m].at_ = am at *
              go_wp2_with fail
              go_quiet (fail)
              go_wp2
              go_ret
              refine ⟨?_, below_dn hb2 _⟩
              rw [Hro.out, He.out]; rfl
            rw [decide_eq_false hso] at hs
            rw [hs] at He
            have hso' : l[m].at_ ≤ x.at_ := by omega
            clear hs hso
            generalize l[m].at_ = am at *
            go_wp2_with fail
            go_quiet (fail)
            have q0 : (w1.drewN nq).cell? ⟨wr.heap.size, 0, none⟩ = some (.int .i64 x.station) := o0
            have q1 : (w1.drewN nq).cell? ⟨wr.heap.size, 1, none⟩ = some (.int .i64 x.at_) := o1
            have hbq := below_dn hb2 nq
            have HOq : (w1.drewN nq).ownsMap Try.prog 56 (plainElem Try.prog 4) w.heap.size (m + 1) D := HO2.out
            replace HOq := Lib.hid HOq
            clear o0 o1 hb2 HO2 hb1
            generalize w1.drewN nq = wq at *
            have hlo := seen_twice HS.out (HOq.out.alloc (.cells #[.int .i64 x.station, .int .i64 x.at_] 56)) x hI.1 hI.2
            have hbq2 := hbq.alloc hbq.size (.cells #[.int .i64 x.station, .int .i64 x.at_] 56)
            obtain ⟨tw, htw⟩ : ∃ tw, twice (l.take (m + 1)) x = tw := ⟨_, rfl⟩
            rw [htw] at hlo He
            clear htw
            cases tw
            · obtain ⟨w3, D3, hst, hS3, hO3, hg3⟩ := seen_store HS.out (HOq.out.alloc (.cells #[.int .i64 x.station, .int .i64 x.at_] 56)) (by omega) x hI.1 hI.2
              have hb3 := hbq2.grown hg3 hbq2.size (fun j hj => by cases hj; exact Nat.le_refl _)
              have HS3 := Lib.hid hS3
              have HO3 := Lib.hid hO3
              clear hS3 hO3 hg3 HS HOq hbq2
              go_wp2
              go_roundw
              case rel => exact ⟨m + 1 + 1, D3, by omega, by go_num, He.out, hb3, by rw [Htk.out]; exact HS3.out, HO3.out⟩
              case measure => simp [intOf]; omega
            · go_wp2
              go_ret
              refine ⟨?_, hbq2⟩
              rw [Hro.out, He.out]; rfl
      · have hke : k = l.length := by omega
        subst hke
        rw [rightGo_end] at he
        have He := Lib.hid he
        clear he
        go_wp2
        go_ret
        exact ⟨by rw [Hro.out, He.out]; rfl, hb⟩
  · go_enter Try.func12, Try.ntmps12
    go_wp2
    go_ret
    exact ⟨by rw [rightOf, if_pos (by omega)]; rfl, Below.refl _ _⟩
end Go.Proofs.Ytjnokdpliocmmaa
