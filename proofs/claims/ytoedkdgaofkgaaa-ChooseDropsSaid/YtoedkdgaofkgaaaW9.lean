/- Contract: the reference's Best. -/
import Derived.Test.YtoedkdgaofkgaaaW5
import Derived.Test.YtoedkdgaofkgaaaW4
import Derived.Test.YtoedkdgaofkgaaaRefPlain
namespace Go.Proofs.Ytoedkdgaofkgaaa
open Go.RowKit
set_option linter.unusedVariables false
def RefBestPost (w : World) (l : List Item) (best : List Int) (e : Ending) (w' : World) : Prop :=
  ∃ A c, e = .returned (.tuple #[.slice A best.length c, .int .i64 (rightOf l)]) ∧ Ints w' A best ∧ Below w.heap.size w w'
theorem below_dn {B : Nat} {a w : World} (h : Below B a w) (n : Nat) : Below B a (w.drewN n) := h.trans ⟨rfl, rfl, rfl, Nat.le_refl _, fun _ _ => rfl⟩
set_option maxHeartbeats 1000000 in
theorem refBest_any (A : Option Addr) (c : Nat) (l : List Item) (a b : Int) (w : World) (hm : l.length ≤ 1000000000000000) (h : Items w A l) :
    Calls Try.prog 19 #[.slice A l.length c, .int .i64 a, .int .i64 b] w (RefBestPost w l (refBestF l a b)) := by
  have hright := Lib.hid (refRight_any A c l w hm h)
  by_cases hr : rightOf l = 0
  · have hr0 := Lib.hid hr
    have hb : refBestF l a b = (refF l a b (2 ^ l.length)).best := by rw [refBestF, if_pos hr]
    have hl12 : l.length ≤ 12 := by
      unfold rightOf at hr; split at hr
      · omega
      · omega
    have hl : itemsB l = true := by
      unfold rightOf at hr; rw [if_neg (by omega)] at hr; split at hr
      · assumption
      · omega
    have HB := Lib.hid hb
    clear hb
    rw [hr] at hright
    clear hr
    have hl' := Lib.hid hl; clear hl
    have h' := Lib.hid h; clear h
    go_enter Try.func19, Try.ntmps19
    go_wp2_with fail
    refine (hright.out).mono ?_
    rintro e w' ⟨rfl, rfl⟩
    clear hright
    go_wp2_with fail
    go_loop [9, 10] (fun x i => ∃ (k p : Nat), k ≤ l.length ∧ i = .int .i64 k ∧ x = .int .i64 p ∧ 2 ^ k = p) (fun _ i => l.length - (intOf i).toNat)
    case atStart => exact ⟨0, 1, Nat.zero_le _, rfl, rfl, rfl⟩
    case round =>
      obtain ⟨k, p, hk, rfl, rfl, hp⟩ := hrel
      have hp4 : p ≤ 4096 := by
        have := Nat.pow_le_pow_right (show 0 < 2 by omega) (show k ≤ 12 by omega)
        omega
      have Hp := Lib.hid hp; clear hp
      by_cases hlt : k < l.length
      · go_wp2
        go_round
        case rel => exact ⟨k + 1, 2 * p, by omega, by go_num, by go_num, by rw [Nat.pow_succ, Hp.out]; omega⟩
        case measure => simp [intOf]; omega
      · go_wp2_with fail
        have hke : k = l.length := by omega
        have hpl : 2 ^ l.length = p := by rw [← hke]; exact Hp.out
        have Hpl := Lib.hid hpl; clear hpl Hp hke
        go_loopw [11, 12, 13, 14] (fun x y z i wr => ∃ (A' : Option Addr) (c' n : Nat) (st : RefSt), n ≤ p ∧ i = .int .i64 n ∧ x = .slice A' st.best.length c' ∧ y = .int .i64 st.most ∧ z = .bool st.found ∧ refF l a b n = st ∧ Ints wr A' st.best ∧ Below w.heap.size w wr) (fun _ _ _ i _ => p - (intOf i).toNat)
        case atStart => exact ⟨none, 0, 0, ⟨[], 0, false⟩, Nat.zero_le _, rfl, rfl, rfl, rfl, rfl, Ints.nil _ _, Below.refl _ _⟩
        case round =>
          obtain ⟨A', c', n, st, hn, rfl, rfl, rfl, rfl, hst, hi, hb⟩ := hrel
          have hbl := refF_length l a b n
          rw [hst] at hbl
          have Hst := Lib.hid hst; clear hst
          by_cases hlt2 : n < p
          · have hi' := Lib.hid hi; clear hi
            obtain ⟨best, most, found⟩ := st
            go_wp2_with fail
            refine (subset_any 12 n (by omega) (by omega) _).mono ?_
            rintro e w1 ⟨C, d, rfl, hiC, hb1⟩
            have hchl : (ints (bitsF 12 0 n)).length ≤ 12 := sub_length n
            have hsub : sub n = ints (bitsF 12 0 n) := rfl
            have hfit := Lib.hid (refFits_any A C c d l (ints (bitsF 12 0 n)) a b w1 hm hl'.out (by omega) ((h'.out.below hb).below hb1) hiC)
            have hneed := fun x => Lib.hid (refNeed_any A C c d l (ints (bitsF 12 0 n)) (w1.drewN x) hm hl'.out (by omega) ((h'.out.below hb).below (below_dn hb1 x)) hiC)
            have hno := @refF_no l a b n
            have hstay := @refF_stay l a b n
            have htake := @refF_take l a b n
            have hiA := hi'.out.below hb1
            have hless := fun x => Lib.hid (Less_any C A' d c' (ints (bitsF 12 0 n)) best (w1.drewN x) (by omega) (by omega) hiC hiA)
            have hb2 := hb.trans (hb1.mono hb.size)
            rw [Hst.out, hsub] at hno hstay htake
            unfold refTakes valOf at hstay htake
            clear hsub hi' Hst
            generalize ints (bitsF 12 0 n) = ch at *
            have HiC := Lib.hid hiC; clear hiC
            have HiA := Lib.hid hiA; clear hiA
            have Hno := Lib.hid hno; clear hno
            have Hstay := Lib.hid hstay; clear hstay
            have Htake := Lib.hid htake; clear htake
            go_wp2_with fail
            refine hfit.out.mono ?_
            rintro e w2 ⟨rfl, n1, rfl⟩
            clear hfit
            cases hf : fitsOf l ch a b
            · have Hf := Lib.hid (Hno.out hf); clear hf Hstay Htake Hno
              go_wp2
              go_roundw
              case rel => exact ⟨A', c', n + 1, ⟨best, most, found⟩, by omega, by go_num, rfl, rfl, rfl, Hf.out, HiA.out, below_dn hb2 _⟩
              case measure => simp [intOf]; omega
            · have Hs := Lib.hid (Hstay.out hf)
              have Ht := Lib.hid (Htake.out hf)
              clear hf Hstay Htake Hno
              go_wp2_with fail
              refine (hneed _).out.mono ?_
              rintro e w2 ⟨rfl, n2, rfl⟩
              clear hneed
              unfold NeedV
              have hq := Lib.hid (rfl : (needOf l ch).2.2.1 = (needOf l ch).2.2.1)
              generalize (needOf l ch).2.2.1 = q at *
              clear hq
              cases found
              · have Ht2 := Lib.hid (Ht.out (by simp)); clear Ht Hs
                go_wp2
                go_roundw
                case rel => exact ⟨C, d, n + 1, ⟨ch, q, true⟩, by omega, by go_num, rfl, rfl, rfl, Ht2.out, HiC.out, below_dn hb2 _⟩
                case measure => simp [intOf]; omega
              · by_cases h1 : most < q
                · have Ht2 := Lib.hid (Ht.out (by simp [h1])); clear Ht Hs
                  go_wp2
                  go_roundw
                  case rel => exact ⟨C, d, n + 1, ⟨ch, q, true⟩, by omega, by go_num, rfl, rfl, rfl, Ht2.out, HiC.out, below_dn hb2 _⟩
                  case measure => simp [intOf]; omega
                · by_cases h2 : q = most
                  · have h2b : (q == most) = true := by simp [h2]
                    cases hls : lessOf ch best
                    · have Ht2 := Lib.hid (Hs.out (by simp [h1, hls])); clear Ht Hs
                      have h2' := Lib.hid h2; clear h2
                      rw [hls] at hless
                      clear hls
                      go_wp2_with (go_at_call 21; refine (hless _).out.mono ?_; rintro e w2 ⟨rfl, n3, rfl⟩)
                      go_roundw
                      case rel => exact ⟨A', c', n + 1, ⟨best, most, true⟩, by omega, by go_num, rfl, rfl, rfl, Ht2.out, HiA.out, below_dn hb2 _⟩
                      case measure => simp [intOf]; omega
                    · have Ht2 := Lib.hid (Ht.out (by simp [h2, hls])); clear Ht Hs
                      have h2' := Lib.hid h2; clear h2
                      rw [hls] at hless
                      clear hls
                      go_wp2_with (go_at_call 21; refine (hless _).out.mono ?_; rintro e w2 ⟨rfl, n3, rfl⟩)
                      go_roundw
                      case rel => exact ⟨C, d, n + 1, ⟨ch, q, true⟩, by omega, by go_num, rfl, rfl, rfl, Ht2.out, HiC.out, below_dn hb2 _⟩
                      case measure => simp [intOf]; omega
                  · have h2b : (q == most) = false := by simp [h2]
                    have Ht2 := Lib.hid (Hs.out (by simp [h1, h2])); clear Ht Hs h2
                    go_wp2
                    go_roundw
                    case rel => exact ⟨A', c', n + 1, ⟨best, most, true⟩, by omega, by go_num, rfl, rfl, rfl, Ht2.out, HiA.out, below_dn hb2 _⟩
                    case measure => simp [intOf]; omega
          · have hnp : n = p := by omega
            subst hnp
            go_wp2
            go_ret2
            rw [HB.out, Hpl.out, Hst.out]
            exact ⟨A', c', by rw [hr0.out]; rfl, hi, hb⟩
  · have hr0 := Lib.hid hr
    have hb : refBestF l a b = [] := by rw [refBestF, if_neg hr]
    have HB := Lib.hid hb
    clear hb
    have hne : (rightOf l != 0) = true := by simpa using hr
    generalize hrr : rightOf l = r at *
    have Hrr := Lib.hid hrr; clear hrr hr
    go_enter Try.func19, Try.ntmps19
    go_wp2_with fail
    refine (hright.out).mono ?_
    rintro e w1 ⟨rfl, rfl⟩
    clear hright
    go_wp2
    go_ret2
    rw [HB.out]
    exact ⟨none, 0, by rw [Hrr.out]; rfl, Ints.nil _ _, Below.refl _ _⟩
end Go.Proofs.Ytoedkdgaofkgaaa
