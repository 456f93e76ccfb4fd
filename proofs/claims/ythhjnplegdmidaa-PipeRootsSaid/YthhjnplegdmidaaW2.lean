/- Contracts: Right (both). -/
import Derived.Test.YthhjnplegdmidaaW1
import Derived.Test.YthhjnplegdmidaaAbove
import Derived.Deep.DeepCutAuto

namespace Go.Proofs.Ythhjnplegdmidaa
open Go.RowKit Go.Shelf
set_option linter.unusedVariables false
def inR1 (p : Pipe) : Bool := decide (1 ≤ p.id ∧ p.id ≤ 9999 ∧ 1 ≤ p.to_ ∧ p.to_ ≤ 9999)
def inR2 (p : Pipe) : Bool := decide (0 ≤ p.loss ∧ p.loss ≤ 100000 ∧ -100000 ≤ p.rise ∧ p.rise ≤ 100000)
theorem inR_parts (p : Pipe) : inR p = (inR1 p && inR2 p) := by
  unfold inR inR1 inR2
  rw [Bool.eq_iff_iff]
  simp
  omega
set_option maxHeartbeats 4000000 in
set_option maxRecDepth 100000 in
theorem Right_any (A : Option Addr) (c : Nat) (l : List Pipe) (w : World) (hm : l.length ≤ 1000000000000000) (hcap : l.length ≤ c) (h : Pipes w A l) : Calls Try.prog 11 #[.slice A l.length c] w fun e w' => e = .returned (.int .i64 (rightOf l)) ∧ Below w.heap.size w w' := by
  by_cases hl : l.length ≤ 64
  · have hro : rightOf l = rightGo [] l := by rw [rightOf, if_neg (by omega)]
    have Hro := Lib.hid hro
    clear hro
    go_enter Try.func11, Try.ntmps11
    go_wp2
    go_loopw [10] (fun i wr => ∃ (k : Nat), k ≤ l.length ∧ i = .int .i64 k ∧ rightGo [] l = rightGo (l.take k) (l.drop k) ∧ Below w.heap.size w wr) (fun i _ => l.length - (intOf i).toNat)
    case atStart => exact ⟨0, Nat.zero_le _, rfl, rfl, Below.refl _ _⟩
    case round =>
      obtain ⟨k, hk, rfl, he, hb⟩ := hrel
      by_cases hlt : k < l.length
      · rw [rightGo_step hlt] at he
        have htk := h.take k
        have hlen : (l.take k).length = k := by simp; omega
        have hs := Pipe.slice_to A l.length c k (by omega) hcap
        have hcon := fun (y : Pipe) p W (hW : Below w.heap.size w W) hp hp2 => Lib.hid (Contains_any A c (l.take k) y p W (by simp; omega) (htk.below hW) hp hp2)
        have hfin := fun n W (hW : Below w.heap.size w W) => Lib.hid (find_any A c (l.take k) n W (by simp; omega) (htk.below hW))
        rw [hlen] at hcon hfin
        obtain ⟨b, off, rfl, hc⟩ := h (by omega)
        obtain ⟨h0, h1, h2, h3, h4⟩ := hc k hlt
        have h0' := cell_later hb h0
        have h1' := cell_later hb h1
        have h2' := cell_later hb h2
        have h3' := cell_later hb h3
        have h4' := cell_later hb h4
        clear h0 h1 h2 h3 h4 htk hlen
        have HC := Lib.hid hc
        clear hc
        generalize hx : l[k] = x at *
        clear hx
        go_upto_region 6 with (fail)
        have o0 : (wr.alloc (.cells #[.int .i64 x.id, .int .i64 x.from_, .int .i64 x.to_, .int .i64 x.loss, .int .i64 x.rise] 45)).cell? ⟨wr.heap.size, 0, none⟩ = some (.int .i64 x.id) := by go_simp
        have o1 : (wr.alloc (.cells #[.int .i64 x.id, .int .i64 x.from_, .int .i64 x.to_, .int .i64 x.loss, .int .i64 x.rise] 45)).cell? ⟨wr.heap.size, 1, none⟩ = some (.int .i64 x.from_) := by go_simp
        have o2 : (wr.alloc (.cells #[.int .i64 x.id, .int .i64 x.from_, .int .i64 x.to_, .int .i64 x.loss, .int .i64 x.rise] 45)).cell? ⟨wr.heap.size, 2, none⟩ = some (.int .i64 x.to_) := by go_simp
        have o3 : (wr.alloc (.cells #[.int .i64 x.id, .int .i64 x.from_, .int .i64 x.to_, .int .i64 x.loss, .int .i64 x.rise] 45)).cell? ⟨wr.heap.size, 3, none⟩ = some (.int .i64 x.loss) := by go_simp
        have o4 : (wr.alloc (.cells #[.int .i64 x.id, .int .i64 x.from_, .int .i64 x.to_, .int .i64 x.loss, .int .i64 x.rise] 45)).cell? ⟨wr.heap.size, 4, none⟩ = some (.int .i64 x.rise) := by go_simp
        have hbo := hb.alloc hb.size (.cells #[.int .i64 x.id, .int .i64 x.from_, .int .i64 x.to_, .int .i64 x.loss, .int .i64 x.rise] 45)
        clear h0' h1' h2' h3' h4' hb
        have hlw : wr.heap.size < (wr.alloc (.cells #[.int .i64 x.id, .int .i64 x.from_, .int .i64 x.to_, .int .i64 x.loss, .int .i64 x.rise] 45)).heap.size := by simp
        obtain ⟨wo, hwo⟩ : ∃ wo, wr.alloc (.cells #[.int .i64 x.id, .int .i64 x.from_, .int .i64 x.to_, .int .i64 x.loss, .int .i64 x.rise] 45) = wo := ⟨_, rfl⟩
        rw [hwo] at hbo hlw o0 o1 o2 o3 o4 ⊢
        clear hwo
        go_cut [32] (fun s wx => s = .bool (!inR1 x) ∧ wo = wx)
        case first =>
          have ho : x.id < 1 ∨ 1 ≤ x.id ∧ (9999 < x.id ∨ x.id ≤ 9999 ∧ (x.to_ < 1 ∨ 1 ≤ x.to_ ∧ (9999 < x.to_ ∨ x.to_ ≤ 9999))) := by omega
          have hd : ∀ b, decide (1 ≤ x.id ∧ x.id ≤ 9999 ∧ 1 ≤ x.to_ ∧ x.to_ ≤ 9999) = b → inR1 x = b := fun b h => h
          have Hd := Lib.hid hd
          clear hd he HC h
          rcases ho with ho | ⟨p1, ho | ⟨p2, ho | ⟨p3, ho | ho⟩⟩⟩
          · go_wp2
            go_meet
            exact ⟨by rw [Hd.out false (by simp; omega)]; simp, rfl⟩
          · go_wp2
            go_meet
            exact ⟨by rw [Hd.out false (by simp; omega)]; simp, rfl⟩
          · go_wp2
            go_meet
            exact ⟨by rw [Hd.out false (by simp; omega)]; simp, rfl⟩
          · go_wp2
            go_meet
            exact ⟨by rw [Hd.out false (by simp; omega)]; simp, rfl⟩
          · go_wp2
            go_meet
            exact ⟨by rw [Hd.out true (by simp; omega)]; simp; omega, rfl⟩
        case rest =>
        obtain ⟨rfl, rfl⟩ := hcut
        cases hi : inR1 x
        · have hi2 : inR x = false := by rw [inR_parts, hi]; rfl
          rw [errAt, hi2] at he
          have He := Lib.hid he
          clear he hi hi2
          go_wp2
          go_ret
          refine ⟨?_, hbo⟩
          rw [Hro.out, He.out]; rfl
        · go_upto_region 8 with (fail)
          go_cut [50] (fun s wx => s = .bool (!inR2 x) ∧ wo = wx)
          case first =>
            have ho : x.loss < 0 ∨ 0 ≤ x.loss ∧ (100000 < x.loss ∨ x.loss ≤ 100000 ∧ (x.rise < -100000 ∨ -100000 ≤ x.rise ∧ (100000 < x.rise ∨ x.rise ≤ 100000))) := by omega
            have hd : ∀ b, decide (0 ≤ x.loss ∧ x.loss ≤ 100000 ∧ -100000 ≤ x.rise ∧ x.rise ≤ 100000) = b → inR2 x = b := fun b h => h
            have Hd := Lib.hid hd
            clear hd he HC h hi
            rcases ho with ho | ⟨p1, ho | ⟨p2, ho | ⟨p3, ho | ho⟩⟩⟩
            · go_wp2
              go_meet
              exact ⟨by rw [Hd.out false (by simp; omega)]; simp, rfl⟩
            · go_wp2
              go_meet
              exact ⟨by rw [Hd.out false (by simp; omega)]; simp, rfl⟩
            · go_wp2
              go_meet
              exact ⟨by rw [Hd.out false (by simp; omega)]; simp, rfl⟩
            · go_wp2
              go_meet
              exact ⟨by rw [Hd.out false (by simp; omega)]; simp, rfl⟩
            · go_wp2
              go_meet
              exact ⟨by rw [Hd.out true (by simp; omega)]; simp; omega, rfl⟩
          case rest =>
          obtain ⟨rfl, rfl⟩ := hcut
          cases hi2 : inR2 x
          · have hi3 : inR x = false := by rw [inR_parts, hi, hi2]; rfl
            rw [errAt, hi3] at he
            have He := Lib.hid he
            clear he hi hi2 hi3
            go_wp2
            go_ret
            refine ⟨?_, hbo⟩
            rw [Hro.out, He.out]; rfl
          · have hi3 : inR x = true := by rw [inR_parts, hi, hi2]; rfl
            rw [errAt, hi3] at he
            have htw : ((l.take k).any fun q => clash q x) = twice (l.take k) x := rfl
            clear hi hi2 hi3
            replace hcon := fun W hW hp hp2 => hcon x wr.heap.size W hW hp hp2
            rw [htw] at hcon
            clear htw
            have hfi := fun W hW => hfin x.from_ W hW
            have hneg : decide (idxOf (l.take k) (fun q => q.to_ == x.from_) < 0) = !((l.take k).any fun q => q.to_ == x.from_) := by
              rw [← idx_neg]
              rw [Bool.eq_iff_iff]
              simp
            have hkn : known (l.take k) x.from_ = (decide (x.from_ = 0) || !decide (idxOf (l.take k) (fun q => q.to_ == x.from_) < 0)) := by
              rw [hneg]
              unfold known
              rw [Bool.not_not]
              congr 2
            rw [hkn] at he
            have He := Lib.hid he
            clear he hneg hkn hfin
            generalize idxOf (l.take k) (fun q => q.to_ == x.from_) = fi at *
            generalize twice (l.take k) x = tw at *
            go_wp2_with fail
            refine (hcon _ hbo o0 o2).out.mono ?_
            rintro e w1 ⟨rfl, hb1⟩
            replace o1 := cell_later hb1 o1
            have hb2 := hbo.trans (hb1.mono hbo.size)
            clear o0 o2 o3 o4 hbo hb1 hcon
            cases tw
            · by_cases hz : x.from_ = 0
              · have hz' : (x.from_ != 0) = false := by simp [hz]
                have Hz := Lib.hid hz
                clear hz
                go_wp2_with fail
                go_quiet (fail)
                go_wp2
                go_roundw
                case rel =>
                  refine ⟨k + 1, by omega, by go_num, ?_, below_dn hb2 _⟩
                  rw [He.out, Hz.out]; rfl
                case measure => simp [intOf]; omega
              · have hz' : (x.from_ != 0) = true := by simp [hz]
                have Hz := Lib.hid hz
                clear hz
                go_wp2_with fail
                have o1a := fun y => above_cell o1 y
                have hf2 := fun (y : Above w1) => Lib.hid (hfi _ (hb2.trans (y.kept.mono hb2.size)))
                have hs2 := hs
                clear hfi o1
                refine wp_region_above (by kernel_rfl) (by kernel_rfl) ?_
                repeat (go_big_quiet_step ((go_at_call 28; exact above_call (hf2 _).out.out)))
                refine wpQuiet_nil ?_
                rintro _ ⟨y, rfl⟩
                have hb3 := hb2.trans (y.kept.mono hb2.size)
                by_cases hfn : fi < 0
                · have hH := Lib.hid hfn
                  go_wp2
                  go_ret
                  refine ⟨?_, hb3⟩
                  rw [Hro.out, He.out]
                  simp [Hz.out, hH.out]
                · have hfn' : 0 ≤ fi := by omega
                  have hH := Lib.hid hfn
                  clear hfn
                  go_wp2
                  go_roundw
                  case rel =>
                    refine ⟨k + 1, by omega, by go_num, ?_, hb3⟩
                    rw [He.out]
                    simp [hH.out]
                  case measure => simp [intOf]; omega
            · go_wp2
              go_ret
              refine ⟨?_, hb2⟩
              rw [Hro.out, He.out]; rfl
      · have hke : k = l.length := by omega
        subst hke
        rw [rightGo_end] at he
        have He := Lib.hid he
        clear he
        go_wp2
        go_ret
        exact ⟨by rw [Hro.out, He.out]; rfl, hb⟩
  · go_enter Try.func11, Try.ntmps11
    go_wp2
    go_ret
    exact ⟨by rw [rightOf, if_pos (by omega)]; rfl, Below.refl _ _⟩
end Go.Proofs.Ythhjnplegdmidaa
