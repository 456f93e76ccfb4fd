/- Contracts: the reference's Last; Peak, Fresh (both). -/
import Derived.Test.YtjnokdpliocmmaaW1
import Derived.Test.YtjnokdpliocmmaaPlain2
import Derived.Test.YtjnokdpliocmmaaAbove
namespace Go.Proofs.Ytjnokdpliocmmaa
open Go.RowKit
set_option linter.unusedVariables false
theorem peakStep_no {s : Int} {p : Itv} {m : Int × Bool} {x : Obs} (h : countsOf x s p = false) : peakStep s p m x = m := by simp [peakStep, h]
theorem peakStep_first {s : Int} {p : Itv} {m : Int} {x : Obs} (h : countsOf x s p = true) : peakStep s p (m, false) x = (x.gust, true) := by simp [peakStep, h]
theorem peakStep_more {s : Int} {p : Itv} {m : Int} {x : Obs} (h : countsOf x s p = true) (hg : m < x.gust) : peakStep s p (m, true) x = (x.gust, true) := by simp [peakStep, h, hg]
theorem peakStep_less {s : Int} {p : Itv} {m : Int} {x : Obs} (h : countsOf x s p = true) (hg : x.gust ≤ m) : peakStep s p (m, true) x = (m, true) := by
  have : ¬ m < x.gust := by omega
  simp [peakStep, h, this]
set_option maxHeartbeats 2000000 in
theorem Peak_any (A : Option Addr) (c : Nat) (l : List Obs) (s : Int) (p : Itv) (w : World) (hm : l.length ≤ 1000000000000000) (h : Obss w A l) :
    Calls Try.prog 16 #[.slice A l.length c, .int .i64 s, p.val] w fun e w' => e = .returned (.int .i64 (peakOf l s p)) ∧ Below w.heap.size w w' := by
  unfold Itv.val
  go_enter Try.func16, Try.ntmps16
  go_wp2
  have p0 : (w.alloc (.cells #[.int .i64 p.from_, .int .i64 p.to_] 28)).cell? ⟨w.heap.size, 0, none⟩ = some (.int .i64 p.from_) := by go_simp
  have p1 : (w.alloc (.cells #[.int .i64 p.from_, .int .i64 p.to_] 28)).cell? ⟨w.heap.size, 1, none⟩ = some (.int .i64 p.to_) := by go_simp
  have hbw := below_alloc w (.cells #[.int .i64 p.from_, .int .i64 p.to_] 28)
  have hr := h.below hbw
  obtain ⟨W1, hW1⟩ : ∃ W1, w.alloc (.cells #[.int .i64 p.from_, .int .i64 p.to_] 28) = W1 := ⟨_, rfl⟩
  rw [hW1] at p0 p1 hbw hr ⊢
  clear hW1
  go_loopw [7, 8, 13] (fun mo fo i wr => ∃ k : Nat, k ≤ l.length ∧ i = .int .i64 k ∧ mo = .int .i64 (peakGo (l.take k) s p).1 ∧ fo = .bool (peakGo (l.take k) s p).2 ∧ Below W1.heap.size W1 wr) (fun _ _ i _ => l.length - (intOf i).toNat)
  case atStart => exact ⟨0, Nat.zero_le _, rfl, rfl, rfl, Below.refl _ _⟩
  case round =>
    obtain ⟨k, hk, rfl, rfl, rfl, HB⟩ := hrel
    by_cases hlt : k < l.length
    · have hst := peakGo_succ hlt s p
      clear h
      obtain ⟨b, off, rfl, hc⟩ := hr (by omega)
      obtain ⟨h0, h1, h2, h3, h4, h5⟩ := hc k hlt
      have h0' := cell_later HB h0
      have h1' := cell_later HB h1
      have h2' := cell_later HB h2
      have h3' := cell_later HB h3
      have h4' := cell_later HB h4
      have h5' := cell_later HB h5
      have p0' := cell_later HB p0
      have p1' := cell_later HB p1
      have hct := fun W => Lib.hid (counts_any l[k] s p W)
      clear h0 h1 h2 h3 h4 h5 hc hr
      generalize l[k] = x at *
      unfold Obs.val Itv.val at hct
      generalize peakGo (l.take k) s p = q at *
      obtain ⟨m, f⟩ := q
      simp only
      cases hcn : countsOf x s p
      · rw [hcn] at hct
        rw [peakStep_no hcn] at hst
        have Hst := Lib.hid hst
        clear hst hcn
        have p0b : (wr.alloc (.cells #[.int .i64 x.station, .int .i64 x.at_, .int .i64 x.gust, .int .i64 x.temp, .int .i64 x.hum, .int .i64 x.snow] 30)).cell? ⟨w.heap.size, 0, none⟩ = some (.int .i64 p.from_) := cell_later (below_alloc _ _) p0'
        have p1b : (wr.alloc (.cells #[.int .i64 x.station, .int .i64 x.at_, .int .i64 x.gust, .int .i64 x.temp, .int .i64 x.hum, .int .i64 x.snow] 30)).cell? ⟨w.heap.size, 1, none⟩ = some (.int .i64 p.to_) := cell_later (below_alloc _ _) p1'
        go_wp2_with fail
        refine (hct _).out.mono ?_
        rintro e w1 ⟨rfl, hb1⟩
        have o2 : w1.cell? ⟨wr.heap.size, 2, none⟩ = some (.int .i64 x.gust) := cell_later hb1 (by go_simp)
        have o5 : w1.cell? ⟨wr.heap.size, 5, none⟩ = some (.int .i64 x.snow) := cell_later hb1 (by go_simp)
        have HBX := (HB.alloc HB.size (.cells #[.int .i64 x.station, .int .i64 x.at_, .int .i64 x.gust, .int .i64 x.temp, .int .i64 x.hum, .int .i64 x.snow] 30)).trans (hb1.mono (Nat.le_trans HB.size (by simp)))
        clear hb1 hct
        go_wp2
        go_roundw
        case rel => exact ⟨k + 1, by omega, by go_num, by rw [Hst.out], by rw [Hst.out], HBX⟩
        case measure => simp [intOf]; omega
      · rw [hcn] at hct
        cases f
        · rw [peakStep_first hcn] at hst
          have Hst := Lib.hid hst
          clear hst hcn
          have p0b : (wr.alloc (.cells #[.int .i64 x.station, .int .i64 x.at_, .int .i64 x.gust, .int .i64 x.temp, .int .i64 x.hum, .int .i64 x.snow] 30)).cell? ⟨w.heap.size, 0, none⟩ = some (.int .i64 p.from_) := cell_later (below_alloc _ _) p0'
          have p1b : (wr.alloc (.cells #[.int .i64 x.station, .int .i64 x.at_, .int .i64 x.gust, .int .i64 x.temp, .int .i64 x.hum, .int .i64 x.snow] 30)).cell? ⟨w.heap.size, 1, none⟩ = some (.int .i64 p.to_) := cell_later (below_alloc _ _) p1'
          go_wp2_with fail
          refine (hct _).out.mono ?_
          rintro e w1 ⟨rfl, hb1⟩
          have o2 : w1.cell? ⟨wr.heap.size, 2, none⟩ = some (.int .i64 x.gust) := cell_later hb1 (by go_simp)
          have o5 : w1.cell? ⟨wr.heap.size, 5, none⟩ = some (.int .i64 x.snow) := cell_later hb1 (by go_simp)
          have HBX := (HB.alloc HB.size (.cells #[.int .i64 x.station, .int .i64 x.at_, .int .i64 x.gust, .int .i64 x.temp, .int .i64 x.hum, .int .i64 x.snow] 30)).trans (hb1.mono (Nat.le_trans HB.size (by simp)))
          clear hb1 hct
          go_wp2
          go_roundw
          case rel => exact ⟨k + 1, by omega, by go_num, by rw [Hst.out], by rw [Hst.out], HBX⟩
          case measure => simp [intOf]; omega
        · by_cases hg : m < x.gust
          · rw [peakStep_more hcn hg] at hst
            have Hst := Lib.hid hst
            clear hst hcn
            have p0b : (wr.alloc (.cells #[.int .i64 x.station, .int .i64 x.at_, .int .i64 x.gust, .int .i64 x.temp, .int .i64 x.hum, .int .i64 x.snow] 30)).cell? ⟨w.heap.size, 0, none⟩ = some (.int .i64 p.from_) := cell_later (below_alloc _ _) p0'
            have p1b : (wr.alloc (.cells #[.int .i64 x.station, .int .i64 x.at_, .int .i64 x.gust, .int .i64 x.temp, .int .i64 x.hum, .int .i64 x.snow] 30)).cell? ⟨w.heap.size, 1, none⟩ = some (.int .i64 p.to_) := cell_later (below_alloc _ _) p1'
            go_wp2_with fail
            refine (hct _).out.mono ?_
            rintro e w1 ⟨rfl, hb1⟩
            have o2 : w1.cell? ⟨wr.heap.size, 2, none⟩ = some (.int .i64 x.gust) := cell_later hb1 (by go_simp)
            have o5 : w1.cell? ⟨wr.heap.size, 5, none⟩ = some (.int .i64 x.snow) := cell_later hb1 (by go_simp)
            have HBX := (HB.alloc HB.size (.cells #[.int .i64 x.station, .int .i64 x.at_, .int .i64 x.gust, .int .i64 x.temp, .int .i64 x.hum, .int .i64 x.snow] 30)).trans (hb1.mono (Nat.le_trans HB.size (by simp)))
            clear hb1 hct
            go_wp2
            go_roundw
            case rel => exact ⟨k + 1, by omega, by go_num, by rw [Hst.out], by rw [Hst.out], HBX⟩
            case measure => simp [intOf]; omega
          · have hg' : x.gust ≤ m := by omega
            clear hg
            rw [peakStep_less hcn hg'] at hst
            have Hst := Lib.hid hst
            clear hst hcn
            have p0b : (wr.alloc (.cells #[.int .i64 x.station, .int .i64 x.at_, .int .i64 x.gust, .int .i64 x.temp, .int .i64 x.hum, .int .i64 x.snow] 30)).cell? ⟨w.heap.size, 0, none⟩ = some (.int .i64 p.from_) := cell_later (below_alloc _ _) p0'
            have p1b : (wr.alloc (.cells #[.int .i64 x.station, .int .i64 x.at_, .int .i64 x.gust, .int .i64 x.temp, .int .i64 x.hum, .int .i64 x.snow] 30)).cell? ⟨w.heap.size, 1, none⟩ = some (.int .i64 p.to_) := cell_later (below_alloc _ _) p1'
            go_wp2_with fail
            refine (hct _).out.mono ?_
            rintro e w1 ⟨rfl, hb1⟩
            have o2 : w1.cell? ⟨wr.heap.size, 2, none⟩ = some (.int .i64 x.gust) := cell_later hb1 (by go_simp)
            have o5 : w1.cell? ⟨wr.heap.size, 5, none⟩ = some (.int .i64 x.snow) := cell_later hb1 (by go_simp)
            have HBX := (HB.alloc HB.size (.cells #[.int .i64 x.station, .int .i64 x.at_, .int .i64 x.gust, .int .i64 x.temp, .int .i64 x.hum, .int .i64 x.snow] 30)).trans (hb1.mono (Nat.le_trans HB.size (by simp)))
            clear hb1 hct
            go_wp2
            go_roundw
            case rel => exact ⟨k + 1, by omega, by go_num, by rw [Hst.out], by rw [Hst.out], HBX⟩
            case measure => simp [intOf]; omega
    · have hke : k = l.length := by omega
      subst hke
      rw [List.take_length]
      go_wp2
      go_ret
      exact ⟨rfl, hbw.trans (HB.mono hbw.size)⟩
set_option maxHeartbeats 2000000 in
theorem refPeak_any (A : Option Addr) (c : Nat) (l : List Obs) (s : Int) (p : Itv) (w : World) (hm : l.length ≤ 1000000000000000) (h : Obss w A l) :
    Calls Try.prog 17 #[.slice A l.length c, .int .i64 s, p.val] w fun e w' => e = .returned (.int .i64 (peakOf l s p)) ∧ Below w.heap.size w w' := by
  unfold Itv.val
  go_enter Try.func17, Try.ntmps17
  go_wp2
  have p0 : (w.alloc (.cells #[.int .i64 p.from_, .int .i64 p.to_] 28)).cell? ⟨w.heap.size, 0, none⟩ = some (.int .i64 p.from_) := by go_simp
  have p1 : (w.alloc (.cells #[.int .i64 p.from_, .int .i64 p.to_] 28)).cell? ⟨w.heap.size, 1, none⟩ = some (.int .i64 p.to_) := by go_simp
  have hbw := below_alloc w (.cells #[.int .i64 p.from_, .int .i64 p.to_] 28)
  have hr := h.below hbw
  obtain ⟨W1, hW1⟩ : ∃ W1, w.alloc (.cells #[.int .i64 p.from_, .int .i64 p.to_] 28) = W1 := ⟨_, rfl⟩
  rw [hW1] at p0 p1 hbw hr ⊢
  clear hW1
  go_loopw [7, 8, 9] (fun mo fo i wr => ∃ k : Nat, k ≤ l.length ∧ i = .int .i64 k ∧ mo = .int .i64 (peakGo (l.take k) s p).1 ∧ fo = .bool (peakGo (l.take k) s p).2 ∧ Below W1.heap.size W1 wr) (fun _ _ i _ => l.length - (intOf i).toNat)
  case atStart => exact ⟨0, Nat.zero_le _, rfl, rfl, rfl, Below.refl _ _⟩
  case round =>
    obtain ⟨k, hk, rfl, rfl, rfl, HB⟩ := hrel
    by_cases hlt : k < l.length
    · have hst := peakGo_succ hlt s p
      clear h
      obtain ⟨b, off, rfl, hc⟩ := hr (by omega)
      obtain ⟨h0, h1, h2, h3, h4, h5⟩ := hc k hlt
      have h0' := cell_later HB h0
      have h1' := cell_later HB h1
      have h2' := cell_later HB h2
      have h3' := cell_later HB h3
      have h4' := cell_later HB h4
      have h5' := cell_later HB h5
      have p0' := cell_later HB p0
      have p1' := cell_later HB p1
      have hct := fun W => Lib.hid (refWithin_any l[k] s p W)
      clear h0 h1 h2 h3 h4 h5 hc hr
      generalize l[k] = x at *
      unfold Obs.val Itv.val at hct
      generalize peakGo (l.take k) s p = q at *
      obtain ⟨m, f⟩ := q
      simp only
      cases hcn : countsOf x s p
      · rw [hcn] at hct
        rw [peakStep_no hcn] at hst
        have Hst := Lib.hid hst
        clear hst hcn
        go_wp2_with fail
        have h0a := fun y => above_cell (w := wr) h0' y
        have h1a := fun y => above_cell (w := wr) h1' y
        have h2a := fun y => above_cell (w := wr) h2' y
        have h3a := fun y => above_cell (w := wr) h3' y
        have h4a := fun y => above_cell (w := wr) h4' y
        have h5a := fun y => above_cell (w := wr) h5' y
        have p0a := fun y => above_cell (w := wr) p0' y
        have p1a := fun y => above_cell (w := wr) p1' y
        have M : (k : Int) < l.length := by omega
        refine wp_region_above (by kernel_rfl) (by kernel_rfl) ?_
        repeat (go_big_quiet_step ((go_at_call 31; exact above_call (hct _).out)))
        refine wpQuiet_nil ?_
        rintro _ ⟨y, rfl⟩
        obtain ⟨y, hy⟩ := y
        have HBX := HB.trans (hy.mono HB.size)
        have h2y := cell_later hy h2'
        have h5y := cell_later hy h5'
        clear h0a h1a h2a h3a h4a h5a p0a p1a h0' h1' h2' h3' h4' h5' p0' p1' hct
        go_wp2
        go_roundw
        case rel => exact ⟨k + 1, by omega, by go_num, by rw [Hst.out], by rw [Hst.out], HBX⟩
        case measure => simp [intOf]; omega
      · rw [hcn] at hct
        cases f
        · rw [peakStep_first hcn] at hst
          have Hst := Lib.hid hst
          clear hst hcn
          go_wp2_with fail
          have h0a := fun y => above_cell (w := wr) h0' y
          have h1a := fun y => above_cell (w := wr) h1' y
          have h2a := fun y => above_cell (w := wr) h2' y
          have h3a := fun y => above_cell (w := wr) h3' y
          have h4a := fun y => above_cell (w := wr) h4' y
          have h5a := fun y => above_cell (w := wr) h5' y
          have p0a := fun y => above_cell (w := wr) p0' y
          have p1a := fun y => above_cell (w := wr) p1' y
          have M : (k : Int) < l.length := by omega
          refine wp_region_above (by kernel_rfl) (by kernel_rfl) ?_
          repeat (go_big_quiet_step ((go_at_call 31; exact above_call (hct _).out)))
          refine wpQuiet_nil ?_
          rintro _ ⟨y, rfl⟩
          obtain ⟨y, hy⟩ := y
          have HBX := HB.trans (hy.mono HB.size)
          have h2y := cell_later hy h2'
          have h5y := cell_later hy h5'
          clear h0a h1a h2a h3a h4a h5a p0a p1a h0' h1' h2' h3' h4' h5' p0' p1' hct
          go_wp2
          go_roundw
          case rel => exact ⟨k + 1, by omega, by go_num, by rw [Hst.out], by rw [Hst.out], HBX⟩
          case measure => simp [intOf]; omega
        · by_cases hg : m < x.gust
          · rw [peakStep_more hcn hg] at hst
            have Hst := Lib.hid hst
            clear hst hcn
            go_wp2_with fail
            have h0a := fun y => above_cell (w := wr) h0' y
            have h1a := fun y => above_cell (w := wr) h1' y
            have h2a := fun y => above_cell (w := wr) h2' y
            have h3a := fun y => above_cell (w := wr) h3' y
            have h4a := fun y => above_cell (w := wr) h4' y
            have h5a := fun y => above_cell (w := wr) h5' y
            have p0a := fun y => above_cell (w := wr) p0' y
            have p1a := fun y => above_cell (w := wr) p1' y
            have M : (k : Int) < l.length := by omega
            refine wp_region_above (by kernel_rfl) (by kernel_rfl) ?_
            repeat (go_big_quiet_step ((go_at_call 31; exact above_call (hct _).out)))
            refine wpQuiet_nil ?_
            rintro _ ⟨y, rfl⟩
            obtain ⟨y, hy⟩ := y
            have HBX := HB.trans (hy.mono HB.size)
            have h2y := cell_later hy h2'
            have h5y := cell_later hy h5'
            clear h0a h1a h2a h3a h4a h5a p0a p1a h0' h1' h2' h3' h4' h5' p0' p1' hct
            go_wp2
            go_roundw
            case rel => exact ⟨k + 1, by omega, by go_num, by rw [Hst.out], by rw [Hst.out], HBX⟩
            case measure => simp [intOf]; omega
          · have hg' : x.gust ≤ m := by omega
            clear hg
            rw [peakStep_less hcn hg'] at hst
            have Hst := Lib.hid hst
            clear hst hcn
            go_wp2_with fail
            have h0a := fun y => above_cell (w := wr) h0' y
            have h1a := fun y => above_cell (w := wr) h1' y
            have h2a := fun y => above_cell (w := wr) h2' y
            have h3a := fun y => above_cell (w := wr) h3' y
            have h4a := fun y => above_cell (w := wr) h4' y
            have h5a := fun y => above_cell (w := wr) h5' y
            have p0a := fun y => above_cell (w := wr) p0' y
            have p1a := fun y => above_cell (w := wr) p1' y
            have M : (k : Int) < l.length := by omega
            refine wp_region_above (by kernel_rfl) (by kernel_rfl) ?_
            repeat (go_big_quiet_step ((go_at_call 31; exact above_call (hct _).out)))
            refine wpQuiet_nil ?_
            rintro _ ⟨y, rfl⟩
            obtain ⟨y, hy⟩ := y
            have HBX := HB.trans (hy.mono HB.size)
            have h2y := cell_later hy h2'
            have h5y := cell_later hy h5'
            clear h0a h1a h2a h3a h4a h5a p0a p1a h0' h1' h2' h3' h4' h5' p0' p1' hct
            go_wp2
            go_roundw
            case rel => exact ⟨k + 1, by omega, by go_num, by rw [Hst.out], by rw [Hst.out], HBX⟩
            case measure => simp [intOf]; omega
    · have hke : k = l.length := by omega
      subst hke
      rw [List.take_length]
      go_wp2
      go_ret
      exact ⟨rfl, hbw.trans (HB.mono hbw.size)⟩
set_option maxHeartbeats 2000000 in
theorem Fresh_any (A : Option Addr) (c : Nat) (l : List Obs) (s : Int) (p : Itv) (w : World) (hm : l.length ≤ 1000000) (hsn : snowB l) (h : Obss w A l) :
    Calls Try.prog 18 #[.slice A l.length c, .int .i64 s, p.val] w fun e w' => e = .returned (.int .i64 (freshOf l s p)) ∧ Below w.heap.size w w' := by
  unfold Itv.val
  go_enter Try.func18, Try.ntmps18
  go_wp2
  have p0 : (w.alloc (.cells #[.int .i64 p.from_, .int .i64 p.to_] 28)).cell? ⟨w.heap.size, 0, none⟩ = some (.int .i64 p.from_) := by go_simp
  have p1 : (w.alloc (.cells #[.int .i64 p.from_, .int .i64 p.to_] 28)).cell? ⟨w.heap.size, 1, none⟩ = some (.int .i64 p.to_) := by go_simp
  have hbw := below_alloc w (.cells #[.int .i64 p.from_, .int .i64 p.to_] 28)
  have hr := h.below hbw
  obtain ⟨W1, hW1⟩ : ∃ W1, w.alloc (.cells #[.int .i64 p.from_, .int .i64 p.to_] 28) = W1 := ⟨_, rfl⟩
  rw [hW1] at p0 p1 hbw hr ⊢
  clear hW1
  go_loopw [7, 12] (fun mo i wr => ∃ k : Nat, k ≤ l.length ∧ i = .int .i64 k ∧ mo = .int .i64 (freshOf (l.take k) s p) ∧ Below W1.heap.size W1 wr) (fun _ i _ => l.length - (intOf i).toNat)
  case atStart => exact ⟨0, Nat.zero_le _, rfl, rfl, Below.refl _ _⟩
  case round =>
    obtain ⟨k, hk, rfl, rfl, HB⟩ := hrel
    by_cases hlt : k < l.length
    · have hst := freshOf_succ hlt s p
      clear h
      obtain ⟨b, off, rfl, hc⟩ := hr (by omega)
      obtain ⟨h0, h1, h2, h3, h4, h5⟩ := hc k hlt
      have h0' := cell_later HB h0
      have h1' := cell_later HB h1
      have h2' := cell_later HB h2
      have h3' := cell_later HB h3
      have h4' := cell_later HB h4
      have h5' := cell_later HB h5
      have p0' := cell_later HB p0
      have p1' := cell_later HB p1
      have hct := fun W => Lib.hid (counts_any l[k] s p W)
      clear h0 h1 h2 h3 h4 h5 hc hr
      have hbd := freshOf_bd (snowB_take hsn k) s p
      rw [List.length_take, Nat.min_eq_left hk] at hbd
      have hx := hsn _ (List.getElem_mem hlt)
      clear hsn
      generalize l[k] = x at *
      unfold Obs.val Itv.val at hct
      generalize freshOf (l.take k) s p = q at *
      cases hcn : countsOf x s p
      · rw [hcn] at hct hst
        have Hst := Lib.hid hst
        clear hst hcn
        have p0b : (wr.alloc (.cells #[.int .i64 x.station, .int .i64 x.at_, .int .i64 x.gust, .int .i64 x.temp, .int .i64 x.hum, .int .i64 x.snow] 30)).cell? ⟨w.heap.size, 0, none⟩ = some (.int .i64 p.from_) := cell_later (below_alloc _ _) p0'
        have p1b : (wr.alloc (.cells #[.int .i64 x.station, .int .i64 x.at_, .int .i64 x.gust, .int .i64 x.temp, .int .i64 x.hum, .int .i64 x.snow] 30)).cell? ⟨w.heap.size, 1, none⟩ = some (.int .i64 p.to_) := cell_later (below_alloc _ _) p1'
        go_wp2_with fail
        refine (hct _).out.mono ?_
        rintro e w1 ⟨rfl, hb1⟩
        have o2 : w1.cell? ⟨wr.heap.size, 2, none⟩ = some (.int .i64 x.gust) := cell_later hb1 (by go_simp)
        have o5 : w1.cell? ⟨wr.heap.size, 5, none⟩ = some (.int .i64 x.snow) := cell_later hb1 (by go_simp)
        have HBX := (HB.alloc HB.size (.cells #[.int .i64 x.station, .int .i64 x.at_, .int .i64 x.gust, .int .i64 x.temp, .int .i64 x.hum, .int .i64 x.snow] 30)).trans (hb1.mono (Nat.le_trans HB.size (by simp)))
        clear hb1 hct
        go_wp2
        go_roundw
        case rel => exact ⟨k + 1, by omega, by go_num, by rw [Hst.out]; simp, HBX⟩
        case measure => simp [intOf]; omega
      · rw [hcn] at hct hst
        have Hst := Lib.hid hst
        clear hst hcn
        have p0b : (wr.alloc (.cells #[.int .i64 x.station, .int .i64 x.at_, .int .i64 x.gust, .int .i64 x.temp, .int .i64 x.hum, .int .i64 x.snow] 30)).cell? ⟨w.heap.size, 0, none⟩ = some (.int .i64 p.from_) := cell_later (below_alloc _ _) p0'
        have p1b : (wr.alloc (.cells #[.int .i64 x.station, .int .i64 x.at_, .int .i64 x.gust, .int .i64 x.temp, .int .i64 x.hum, .int .i64 x.snow] 30)).cell? ⟨w.heap.size, 1, none⟩ = some (.int .i64 p.to_) := cell_later (below_alloc _ _) p1'
        go_wp2_with fail
        refine (hct _).out.mono ?_
        rintro e w1 ⟨rfl, hb1⟩
        have o2 : w1.cell? ⟨wr.heap.size, 2, none⟩ = some (.int .i64 x.gust) := cell_later hb1 (by go_simp)
        have o5 : w1.cell? ⟨wr.heap.size, 5, none⟩ = some (.int .i64 x.snow) := cell_later hb1 (by go_simp)
        have HBX := (HB.alloc HB.size (.cells #[.int .i64 x.station, .int .i64 x.at_, .int .i64 x.gust, .int .i64 x.temp, .int .i64 x.hum, .int .i64 x.snow] 30)).trans (hb1.mono (Nat.le_trans HB.size (by simp)))
        clear hb1 hct
        go_wp2
        go_roundw
        case rel => exact ⟨k + 1, by omega, by go_num, by rw [Hst.out]; simp, HBX⟩
        case measure => simp [intOf]; omega
    · have hke : k = l.length := by omega
      subst hke
      rw [List.take_length]
      go_wp2
      go_ret
      exact ⟨rfl, hbw.trans (HB.mono hbw.size)⟩
set_option maxHeartbeats 2000000 in
theorem refFresh_any (A : Option Addr) (c : Nat) (l : List Obs) (s : Int) (p : Itv) (w : World) (hm : l.length ≤ 1000000) (hsn : snowB l) (h : Obss w A l) :
    Calls Try.prog 19 #[.slice A l.length c, .int .i64 s, p.val] w fun e w' => e = .returned (.int .i64 (freshOf l s p)) ∧ Below w.heap.size w w' := by
  unfold Itv.val
  go_enter Try.func19, Try.ntmps19
  go_wp2
  have p0 : (w.alloc (.cells #[.int .i64 p.from_, .int .i64 p.to_] 28)).cell? ⟨w.heap.size, 0, none⟩ = some (.int .i64 p.from_) := by go_simp
  have p1 : (w.alloc (.cells #[.int .i64 p.from_, .int .i64 p.to_] 28)).cell? ⟨w.heap.size, 1, none⟩ = some (.int .i64 p.to_) := by go_simp
  have hbw := below_alloc w (.cells #[.int .i64 p.from_, .int .i64 p.to_] 28)
  have hr := h.below hbw
  obtain ⟨W1, hW1⟩ : ∃ W1, w.alloc (.cells #[.int .i64 p.from_, .int .i64 p.to_] 28) = W1 := ⟨_, rfl⟩
  rw [hW1] at p0 p1 hbw hr ⊢
  clear hW1
  go_loopw [7, 8] (fun mo i wr => ∃ k : Nat, k ≤ l.length ∧ i = .int .i64 k ∧ mo = .int .i64 (freshOf (l.take k) s p) ∧ Below W1.heap.size W1 wr) (fun _ i _ => l.length - (intOf i).toNat)
  case atStart => exact ⟨0, Nat.zero_le _, rfl, rfl, Below.refl _ _⟩
  case round =>
    obtain ⟨k, hk, rfl, rfl, HB⟩ := hrel
    by_cases hlt : k < l.length
    · have hst := freshOf_succ hlt s p
      clear h
      obtain ⟨b, off, rfl, hc⟩ := hr (by omega)
      obtain ⟨h0, h1, h2, h3, h4, h5⟩ := hc k hlt
      have h0' := cell_later HB h0
      have h1' := cell_later HB h1
      have h2' := cell_later HB h2
      have h3' := cell_later HB h3
      have h4' := cell_later HB h4
      have h5' := cell_later HB h5
      have p0' := cell_later HB p0
      have p1' := cell_later HB p1
      have hct := fun W => Lib.hid (refWithin_any l[k] s p W)
      clear h0 h1 h2 h3 h4 h5 hc hr
      have hbd := freshOf_bd (snowB_take hsn k) s p
      rw [List.length_take, Nat.min_eq_left hk] at hbd
      have hx := hsn _ (List.getElem_mem hlt)
      clear hsn
      generalize l[k] = x at *
      unfold Obs.val Itv.val at hct
      generalize freshOf (l.take k) s p = q at *
      cases hcn : countsOf x s p
      · rw [hcn] at hct hst
        have Hst := Lib.hid hst
        clear hst hcn
        go_wp2_with fail
        have h0a := fun y => above_cell (w := wr) h0' y
        have h1a := fun y => above_cell (w := wr) h1' y
        have h2a := fun y => above_cell (w := wr) h2' y
        have h3a := fun y => above_cell (w := wr) h3' y
        have h4a := fun y => above_cell (w := wr) h4' y
        have h5a := fun y => above_cell (w := wr) h5' y
        have p0a := fun y => above_cell (w := wr) p0' y
        have p1a := fun y => above_cell (w := wr) p1' y
        have M : (k : Int) < l.length := by omega
        refine wp_region_above (by kernel_rfl) (by kernel_rfl) ?_
        repeat (go_big_quiet_step ((go_at_call 31; exact above_call (hct _).out)))
        refine wpQuiet_nil ?_
        rintro _ ⟨y, rfl⟩
        obtain ⟨y, hy⟩ := y
        have HBX := HB.trans (hy.mono HB.size)
        have h2y := cell_later hy h2'
        have h5y := cell_later hy h5'
        clear h0a h1a h2a h3a h4a h5a p0a p1a h0' h1' h2' h3' h4' h5' p0' p1' hct
        go_wp2
        go_roundw
        case rel => exact ⟨k + 1, by omega, by go_num, by rw [Hst.out]; simp, HBX⟩
        case measure => simp [intOf]; omega
      · rw [hcn] at hct hst
        have Hst := Lib.hid hst
        clear hst hcn
        go_wp2_with fail
        have h0a := fun y => above_cell (w := wr) h0' y
        have h1a := fun y => above_cell (w := wr) h1' y
        have h2a := fun y => above_cell (w := wr) h2' y
        have h3a := fun y => above_cell (w := wr) h3' y
        have h4a := fun y => above_cell (w := wr) h4' y
        have h5a := fun y => above_cell (w := wr) h5' y
        have p0a := fun y => above_cell (w := wr) p0' y
        have p1a := fun y => above_cell (w := wr) p1' y
        have M : (k : Int) < l.length := by omega
        refine wp_region_above (by kernel_rfl) (by kernel_rfl) ?_
        repeat (go_big_quiet_step ((go_at_call 31; exact above_call (hct _).out)))
        refine wpQuiet_nil ?_
        rintro _ ⟨y, rfl⟩
        obtain ⟨y, hy⟩ := y
        have HBX := HB.trans (hy.mono HB.size)
        have h2y := cell_later hy h2'
        have h5y := cell_later hy h5'
        clear h0a h1a h2a h3a h4a h5a p0a p1a h0' h1' h2' h3' h4' h5' p0' p1' hct
        go_wp2
        go_roundw
        case rel => exact ⟨k + 1, by omega, by go_num, by rw [Hst.out]; simp, HBX⟩
        case measure => simp [intOf]; omega
    · have hke : k = l.length := by omega
      subst hke
      rw [List.take_length]
      go_wp2
      go_ret
      exact ⟨rfl, hbw.trans (HB.mono hbw.size)⟩
end Go.Proofs.Ytjnokdpliocmmaa
