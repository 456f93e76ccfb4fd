/- Contracts: the reference's Right. -/
import Derived.Test.YtjnokdpliocmmaaW1
import Derived.Test.YtjnokdpliocmmaaPlain2
import Derived.Deep.DeepCutAuto
namespace Go.Proofs.Ytjnokdpliocmmaa
open Go.RowKit
set_option linter.unusedVariables false
theorem inR_out {x : Obs} (h : inR x = false) : x.station < 1 ∨ 1 ≤ x.station ∧ (9999 < x.station ∨ x.station ≤ 9999 ∧ (x.at_ < 0 ∨ 0 ≤ x.at_ ∧ (20000000 < x.at_ ∨ x.at_ ≤ 20000000 ∧ (x.gust < 0 ∨ 0 ≤ x.gust ∧ (100000 < x.gust ∨ x.gust ≤ 100000 ∧ (x.temp < -600 ∨ -600 ≤ x.temp ∧ (600 < x.temp ∨ x.temp ≤ 600 ∧ (x.hum < 0 ∨ 0 ≤ x.hum ∧ (1000 < x.hum ∨ x.hum ≤ 1000 ∧ (x.snow < 0 ∨ 0 ≤ x.snow ∧ 2000 < x.snow)))))))))) := by
  simp only [inR, decide_eq_false_iff_not] at h
  omega
theorem inR_in {x : Obs} (h : inR x = true) : (1 ≤ x.station ∧ x.station ≤ 9999) ∧ (0 ≤ x.at_ ∧ x.at_ ≤ 20000000) ∧ (0 ≤ x.gust ∧ x.gust ≤ 100000) ∧ (-600 ≤ x.temp ∧ x.temp ≤ 600) ∧ (0 ≤ x.hum ∧ x.hum ≤ 1000) ∧ (0 ≤ x.snow ∧ x.snow ≤ 2000) := by
  simp only [inR, decide_eq_true_eq] at h
  omega
theorem twice_mono {l : List Obs} {x : Obs} {j k : Nat} (hjk : j ≤ k) (h : twice (l.take j) x = true) : twice (l.take k) x = true := by
  unfold twice at *
  rw [List.any_eq_true] at *
  obtain ⟨y, hy, hp⟩ := h
  refine ⟨y, ?_, hp⟩
  rw [show l.take j = (l.take k).take j by rw [List.take_take, Nat.min_eq_left hjk]] at hy
  exact List.mem_of_mem_take hy
set_option maxHeartbeats 4000000 in
set_option maxRecDepth 100000 in
theorem refRight_any (A : Option Addr) (c : Nat) (l : List Obs) (w : World) (hm : l.length ≤ 1000000000000000) (h : Obss w A l) : Calls Try.prog 13 #[.slice A l.length c] w fun e w' => e = .returned (.int .i64 (rightOf l)) ∧ Below w.heap.size w w' := by
  by_cases hl : l.length ≤ 1000
  · have hro : rightOf l = rightGo [] l := by rw [rightOf, if_neg (by omega)]
    have Hro := Lib.hid hro
    clear hro
    go_enter Try.func13, Try.ntmps13
    go_wp2
    go_loopw [3] (fun i wr => ∃ (k : Nat), k ≤ l.length ∧ i = .int .i64 k ∧ rightGo [] l = rightGo (l.take k) (l.drop k) ∧ Below w.heap.size w wr) (fun i _ => l.length - (intOf i).toNat)
    case atStart => exact ⟨0, Nat.zero_le _, rfl, rfl, Below.refl _ _⟩
    case round =>
      obtain ⟨k, hk, rfl, he, hb⟩ := hrel
      by_cases hlt : k < l.length
      · rw [rightGo_step hlt] at he
        have hso : k = 0 ∧ sooner (l.take k) l[k] = false ∨ ∃ m, ∃ hm : m < l.length, k = m + 1 ∧ sooner (l.take k) l[k] = decide (l[k].at_ < l[m].at_) := by
          cases k with
          | zero => exact .inl ⟨rfl, rfl⟩
          | succ m => exact .inr ⟨m, by omega, rfl, sooner_succ (by omega) _⟩
        have Hso := Lib.hid hso
        obtain ⟨b, off, rfl, hc⟩ := h (by omega)
        obtain ⟨h0, h1, h2, h3, h4, h5⟩ := hc k hlt
        have h0' := cell_later hb h0
        have h1' := cell_later hb h1
        have h2' := cell_later hb h2
        have h3' := cell_later hb h3
        have h4' := cell_later hb h4
        have h5' := cell_later hb h5
        clear h0 h1 h2 h3 h4 h5 hso
        have HC := Lib.hid hc
        clear hc
        generalize hx : l[k] = x at *
        clear hx
        go_upto_region 7 with (fail)
        have o0 : (wr.alloc (.cells #[.int .i64 x.station, .int .i64 x.at_, .int .i64 x.gust, .int .i64 x.temp, .int .i64 x.hum, .int .i64 x.snow] 30)).cell? ⟨wr.heap.size, 0, none⟩ = some (.int .i64 x.station) := by go_simp
        have o1 : (wr.alloc (.cells #[.int .i64 x.station, .int .i64 x.at_, .int .i64 x.gust, .int .i64 x.temp, .int .i64 x.hum, .int .i64 x.snow] 30)).cell? ⟨wr.heap.size, 1, none⟩ = some (.int .i64 x.at_) := by go_simp
        have o2 : (wr.alloc (.cells #[.int .i64 x.station, .int .i64 x.at_, .int .i64 x.gust, .int .i64 x.temp, .int .i64 x.hum, .int .i64 x.snow] 30)).cell? ⟨wr.heap.size, 2, none⟩ = some (.int .i64 x.gust) := by go_simp
        have o3 : (wr.alloc (.cells #[.int .i64 x.station, .int .i64 x.at_, .int .i64 x.gust, .int .i64 x.temp, .int .i64 x.hum, .int .i64 x.snow] 30)).cell? ⟨wr.heap.size, 3, none⟩ = some (.int .i64 x.temp) := by go_simp
        have o4 : (wr.alloc (.cells #[.int .i64 x.station, .int .i64 x.at_, .int .i64 x.gust, .int .i64 x.temp, .int .i64 x.hum, .int .i64 x.snow] 30)).cell? ⟨wr.heap.size, 4, none⟩ = some (.int .i64 x.hum) := by go_simp
        have o5 : (wr.alloc (.cells #[.int .i64 x.station, .int .i64 x.at_, .int .i64 x.gust, .int .i64 x.temp, .int .i64 x.hum, .int .i64 x.snow] 30)).cell? ⟨wr.heap.size, 5, none⟩ = some (.int .i64 x.snow) := by go_simp
        have hbo := hb.alloc hb.size (.cells #[.int .i64 x.station, .int .i64 x.at_, .int .i64 x.gust, .int .i64 x.temp, .int .i64 x.hum, .int .i64 x.snow] 30)
        clear h0' h1' h2' h3' h4' h5' hb
        generalize (wr.alloc (.cells #[.int .i64 x.station, .int .i64 x.at_, .int .i64 x.gust, .int .i64 x.temp, .int .i64 x.hum, .int .i64 x.snow] 30)) = wo at *
        go_cut [76] (fun s wx => s = .bool (!inR x) ∧ wo = wx)
        case first =>
          cases hi : inR x
          · have ho := inR_out hi
            have Hi := Lib.hid hi
            clear hi he Hso HC h
            rcases ho with ho | ⟨p1, ho | ⟨p2, ho | ⟨p3, ho | ⟨p4, ho | ⟨p5, ho | ⟨p6, ho | ⟨p7, ho | ⟨p8, ho | ⟨p9, ho | ⟨p10, ho | ⟨p11, ho⟩⟩⟩⟩⟩⟩⟩⟩⟩⟩⟩
            all_goals
              go_wp2
              go_meet
              exact ⟨by rw [Hi.out]; first | done | (congr 1 <;> first | (simp; done) | (simp; omega)), rfl⟩
          · obtain ⟨⟨r1, r2⟩, ⟨r3, r4⟩, ⟨r5, r6⟩, ⟨r7, r8⟩, ⟨r9, r10⟩, r11, r12⟩ := inR_in hi
            have Hi := Lib.hid hi
            clear hi he Hso HC h
            go_wp2
            go_meet
            exact ⟨by rw [Hi.out]; first | done | (congr 1 <;> first | (simp; done) | (simp; omega)), rfl⟩
        case rest =>
          obtain ⟨rfl, rfl⟩ := hcut
          clear o2 o3 o4 o5
          cases hi : inR x
          · rw [errAt, hi] at he
            have He := Lib.hid he
            clear he hi
            go_wp2
            go_ret
            refine ⟨?_, hbo⟩
            rw [Hro.out, He.out]; rfl
          · rw [errAt, hi] at he
            have He := Lib.hid he
            clear he hi
            have hp := fun (m : Nat) (hm : m < l.length) => cell_later hbo (HC.out m hm).2.1
            have HP := Lib.hid hp
            clear hp
            rcases Hso.out with ⟨hk0, hs⟩ | ⟨m, hml, hkm, hs⟩
            · subst hk0
              rw [hs] at He
              clear Hso hs
              go_wp2_with fail
              go_quiet (fail)
              have q0 : (wo.drewN nq).cell? ⟨wr.heap.size, 0, none⟩ = some (.int .i64 x.station) := o0
              have q1 : (wo.drewN nq).cell? ⟨wr.heap.size, 1, none⟩ = some (.int .i64 x.at_) := o1
              have hbq := below_dn hbo nq
              clear o0 o1 hbo HP
              generalize wo.drewN nq = wq at *
              go_wp2_with fail
              have htw : twice (l.take 0) x = false := rfl
              rw [htw] at He
              clear htw
              refine wp_loop_rounds 1 ?_
              rw [rounds_succ]
              go_wp2
              go_roundw
              case rel => exact ⟨0 + 1, by omega, by go_num, He.out, hbq⟩
              case measure => simp [intOf]; omega
            · have hp := HP.out m hml
              clear Hso
              subst hkm
              by_cases hso : x.at_ < l[m].at_
              · rw [decide_eq_true hso] at hs
                rw [hs] at He
                clear hs
                generalize l[m].at_ = am at *
                go_wp2_with fail
                go_quiet (fail)
                go_wp2
                go_ret
                refine ⟨?_, below_dn hbo _⟩
                rw [Hro.out, He.out]; rfl
              rw [decide_eq_false hso] at hs
              rw [hs] at He
              have hso' : l[m].at_ ≤ x.at_ := by omega
              clear hs hso
              generalize l[m].at_ = am at *
              go_wp2_with fail
              go_quiet (fail)
              have q0 : (wo.drewN nq).cell? ⟨wr.heap.size, 0, none⟩ = some (.int .i64 x.station) := o0
              have q1 : (wo.drewN nq).cell? ⟨wr.heap.size, 1, none⟩ = some (.int .i64 x.at_) := o1
              have hbq := below_dn hbo nq
              clear o0 o1 hbo HP
              generalize wo.drewN nq = wq at *
              go_wp2_with fail
              go_loopw [5] (fun i wx => ∃ (j : Nat), j ≤ (m + 1) ∧ i = .int .i64 j ∧ twice (l.take j) x = false ∧ ∃ n, wx = wq.drewN n) (fun i _ => (m + 1) - (intOf i).toNat)
              case atStart => exact ⟨0, Nat.zero_le _, rfl, rfl, 0, rfl⟩
              case round =>
                obtain ⟨j, hj, rfl, htw, n, rfl⟩ := hrel
                by_cases hlj : j < (m + 1)
                · have hsu := @twice_succ l j (by omega) x
                  rw [htw, Bool.false_or] at hsu
                  have g0 : wq.cell? ⟨b, off + j * 6, none⟩ = some (.int .i64 l[j].station) := cell_later hbq (HC.out j (by omega)).1
                  have g1 : wq.cell? ⟨b, off + j * 6 + 1, none⟩ = some (.int .i64 l[j].at_) := cell_later hbq (HC.out j (by omega)).2.1
                  have Hsu := Lib.hid hsu
                  have Htw := Lib.hid htw
                  have hmono := fun (h : twice (l.take (j + 1)) x = true) => twice_mono (l := l) (x := x) (j := j + 1) (k := (m + 1)) (by omega) h
                  have Hmono := Lib.hid hmono
                  clear hsu htw hmono
                  have hji : (j : Int) < (l.length : Int) := by omega
                  have hj0 : (0 : Int) ≤ (j : Int) := by omega
                  generalize l[j].station = sj at *
                  generalize l[j].at_ = aj at *
                  by_cases hh : sj = x.station
                  · subst hh
                    by_cases hg : aj = x.at_
                    · subst hg
                      have hT := Hmono.out (by rw [Hsu.out]; simp)
                      rw [hT] at He
                      clear hT
                      go_wp2_with fail
                      go_quiet (fail)
                      go_wp2
                      go_ret
                      refine ⟨?_, below_dn (below_dn hbq _) _⟩
                      rw [Hro.out, He.out]; rfl
                    · have hg' : (aj == x.at_) = false := by simpa using hg
                      have hT : Hid (twice (l.take (j + 1)) x = false) := Lib.hid (by rw [Hsu.out]; simp [hg])
                      clear hg
                      go_wp2_with fail
                      go_quiet (fail)
                      go_wp2
                      go_roundw
                      case rel => exact ⟨j + 1, by omega, by go_num, hT.out, _, rfl⟩
                      case measure => simp [intOf]; omega
                  · have hh' : (sj == x.station) = false := by simpa using hh
                    have hT : Hid (twice (l.take (j + 1)) x = false) := Lib.hid (by rw [Hsu.out]; simp [hh])
                    clear hh
                    go_wp2_with fail
                    go_quiet (fail)
                    go_wp2
                    go_roundw
                    case rel => exact ⟨j + 1, by omega, by go_num, hT.out, _, rfl⟩
                    case measure => simp [intOf]; omega
                · have hje : j = (m + 1) := by omega
                  subst hje
                  rw [htw] at He
                  clear htw
                  go_wp2
                  go_roundw
                  case rel => exact ⟨m + 1 + 1, by omega, by go_num, He.out, below_dn hbq _⟩
                  case measure => simp [intOf]; omega
      · have hke : k = l.length := by omega
        subst hke
        rw [rightGo_end] at he
        have He := Lib.hid he
        clear he
        go_wp2
        go_ret
        exact ⟨by rw [Hro.out, He.out]; rfl, hb⟩
  · go_enter Try.func13, Try.ntmps13
    go_wp2
    go_ret
    exact ⟨by rw [rightOf, if_pos (by omega)]; rfl, Below.refl _ _⟩
end Go.Proofs.Ytjnokdpliocmmaa
