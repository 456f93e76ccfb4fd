/- Contracts: the reference's Right. -/
import Derived.Test.YthhjnplegdmidaaW2
namespace Go.Proofs.Ythhjnplegdmidaa
open Go.RowKit Go.Shelf
set_option linter.unusedVariables false
theorem twice_succ {l : List Pipe} {k : Nat} (hk : k < l.length) (x : Pipe) : twice (l.take (k + 1)) x = (twice (l.take k) x || decide (l[k].id = x.id ∨ l[k].to_ = x.to_)) := by
  unfold twice
  rw [List.take_succ_eq_append_getElem hk, List.any_append]
  simp
theorem known_succ {l : List Pipe} {k : Nat} (hk : k < l.length) (n : Int) : known (l.take (k + 1)) n = (known (l.take k) n || decide (l[k].to_ = n)) := by
  unfold known
  rw [List.take_succ_eq_append_getElem hk, List.any_append]
  simp [Bool.or_assoc]
theorem twice_mono {l : List Pipe} {x : Pipe} {j k : Nat} (hjk : j ≤ k) (h : twice (l.take j) x = true) : twice (l.take k) x = true := by
  unfold twice at *
  rw [List.any_eq_true] at *
  obtain ⟨y, hy, hp⟩ := h
  refine ⟨y, ?_, hp⟩
  rw [show l.take j = (l.take k).take j by rw [List.take_take, Nat.min_eq_left hjk]] at hy
  exact List.mem_of_mem_take hy
set_option maxHeartbeats 8000000 in
set_option maxRecDepth 100000 in
theorem refRight_any (A : Option Addr) (c : Nat) (l : List Pipe) (w : World) (hm : l.length ≤ 1000000000000000) (h : Pipes w A l) : Calls Try.prog 12 #[.slice A l.length c] w fun e w' => e = .returned (.int .i64 (rightOf l)) ∧ Below w.heap.size w w' := by
  by_cases hl : l.length ≤ 64
  · have hro : rightOf l = rightGo [] l := by rw [rightOf, if_neg (by omega)]
    have Hro := Lib.hid hro
    clear hro
    go_enter Try.func12, Try.ntmps12
    go_wp2
    go_loopw [3] (fun i wr => ∃ (k : Nat), k ≤ l.length ∧ i = .int .i64 k ∧ rightGo [] l = rightGo (l.take k) (l.drop k) ∧ Below w.heap.size w wr) (fun i _ => l.length - (intOf i).toNat)
    case atStart => exact ⟨0, Nat.zero_le _, rfl, rfl, Below.refl _ _⟩
    case round =>
      obtain ⟨k, hk, rfl, he, hb⟩ := hrel
      by_cases hlt : k < l.length
      · rw [rightGo_step hlt] at he
        obtain ⟨b, off, rfl, hc⟩ := h (by omega)
        obtain ⟨h0, h1, h2, h3, h4⟩ := hc k hlt
        have h0' := cell_later hb h0
        have h1' := cell_later hb h1
        have h2' := cell_later hb h2
        have h3' := cell_later hb h3
        have h4' := cell_later hb h4
        clear h0 h1 h2 h3 h4
        have HC := Lib.hid hc
        clear hc
        generalize hx : l[k] = x at *
        clear hx
        go_upto_region 7 with (fail)
        have o0 : (wr.alloc (.cells #[.int .i64 x.id, .int .i64 x.from_, .int .i64 x.to_, .int .i64 x.loss, .int .i64 x.rise] 45)).cell? ⟨wr.heap.size, 0, none⟩ = some (.int .i64 x.id) := by go_simp
        have o1 : (wr.alloc (.cells #[.int .i64 x.id, .int .i64 x.from_, .int .i64 x.to_, .int .i64 x.loss, .int .i64 x.rise] 45)).cell? ⟨wr.heap.size, 1, none⟩ = some (.int .i64 x.from_) := by go_simp
        have o2 : (wr.alloc (.cells #[.int .i64 x.id, .int .i64 x.from_, .int .i64 x.to_, .int .i64 x.loss, .int .i64 x.rise] 45)).cell? ⟨wr.heap.size, 2, none⟩ = some (.int .i64 x.to_) := by go_simp
        have o3 : (wr.alloc (.cells #[.int .i64 x.id, .int .i64 x.from_, .int .i64 x.to_, .int .i64 x.loss, .int .i64 x.rise] 45)).cell? ⟨wr.heap.size, 3, none⟩ = some (.int .i64 x.loss) := by go_simp
        have o4 : (wr.alloc (.cells #[.int .i64 x.id, .int .i64 x.from_, .int .i64 x.to_, .int .i64 x.loss, .int .i64 x.rise] 45)).cell? ⟨wr.heap.size, 4, none⟩ = some (.int .i64 x.rise) := by go_simp
        have hbo := hb.alloc hb.size (.cells #[.int .i64 x.id, .int .i64 x.from_, .int .i64 x.to_, .int .i64 x.loss, .int .i64 x.rise] 45)
        clear h0' h1' h2' h3' h4' hb
        have hlw : wr.heap.size < (wr.alloc (.cells #[.int .i64 x.id, .int .i64 x.from_, .int .i64 x.to_, .int .i64 x.loss, .int .i64 x.rise] 45)).heap.size := by simp
        obtain ⟨wo, hwo⟩ : ∃ wo, wr.alloc (.cells #[.int .i64 x.id, .int .i64 x.from_, .int .i64 x.to_, .int .i64 x.loss, .int .i64 x.rise] 45) = wo := ⟨_, rfl⟩
        rw [hwo] at hbo hlw o0 o1 o2 o3 o4 ⊢
        clear hwo
        go_cut [57] (fun s wx => s = .bool (!inR x) ∧ wo = wx)
        case first =>
          have ho : x.id < 1 ∨ 1 ≤ x.id ∧ (9999 < x.id ∨ x.id ≤ 9999 ∧ (x.to_ < 1 ∨ 1 ≤ x.to_ ∧ (9999 < x.to_ ∨ x.to_ ≤ 9999 ∧ (x.loss < 0 ∨ 0 ≤ x.loss ∧ (100000 < x.loss ∨ x.loss ≤ 100000 ∧ (x.rise < -100000 ∨ -100000 ≤ x.rise ∧ (100000 < x.rise ∨ x.rise ≤ 100000))))))) := by omega
          have hd : ∀ b, decide (1 ≤ x.id ∧ x.id ≤ 9999 ∧ 1 ≤ x.to_ ∧ x.to_ ≤ 9999 ∧ 0 ≤ x.loss ∧ x.loss ≤ 100000 ∧ -100000 ≤ x.rise ∧ x.rise ≤ 100000) = b → inR x = b := fun b h => h
          have Hd := Lib.hid hd
          clear hd he HC h
          rcases ho with ho | ⟨q0, ho | ⟨q1, ho | ⟨q2, ho | ⟨q3, ho | ⟨q4, ho | ⟨q5, ho | ⟨q6, ho | ho⟩⟩⟩⟩⟩⟩⟩
          · go_wp2
            go_meet
            exact ⟨by rw [Hd.out false (by simp; omega)]; first | done | (simp; done) | (simp; omega), rfl⟩
          · go_wp2
            go_meet
            exact ⟨by rw [Hd.out false (by simp; omega)]; first | done | (simp; done) | (simp; omega), rfl⟩
          · go_wp2
            go_meet
            exact ⟨by rw [Hd.out false (by simp; omega)]; first | done | (simp; done) | (simp; omega), rfl⟩
          · go_wp2
            go_meet
            exact ⟨by rw [Hd.out false (by simp; omega)]; first | done | (simp; done) | (simp; omega), rfl⟩
          · go_wp2
            go_meet
            exact ⟨by rw [Hd.out false (by simp; omega)]; first | done | (simp; done) | (simp; omega), rfl⟩
          · go_wp2
            go_meet
            exact ⟨by rw [Hd.out false (by simp; omega)]; first | done | (simp; done) | (simp; omega), rfl⟩
          · go_wp2
            go_meet
            exact ⟨by rw [Hd.out false (by simp; omega)]; first | done | (simp; done) | (simp; omega), rfl⟩
          · go_wp2
            go_meet
            exact ⟨by rw [Hd.out false (by simp; omega)]; first | done | (simp; done) | (simp; omega), rfl⟩
          · go_wp2
            go_meet
            exact ⟨by rw [Hd.out true (by simp; omega)]; first | done | (simp; done) | (simp; omega), rfl⟩
        case rest =>
        obtain ⟨rfl, rfl⟩ := hcut
        clear o3 o4
        cases hi : inR x
        · rw [errAt, hi] at he
          have He := Lib.hid he
          clear he hi
          go_wp2
          go_ret
          refine ⟨?_, hbo⟩
          rw [Hro.out, He.out]; rfl
        · rw [errAt, hi] at he
          have He := Lib.hid he
          clear he hi
          go_wp2_with fail
          have hk00 : known (l.take 0) x.from_ = (x.from_ == 0) := by
            unfold known
            simp
            rfl
          have Hk00 := Lib.hid hk00
          clear hk00
          go_loopw [5, 6] (fun fr i wx => ∃ (j n : Nat), j ≤ k ∧ i = .int .i64 j ∧ fr = .bool (known (l.take j) x.from_) ∧ twice (l.take j) x = false ∧ wx = wo.drewN n) (fun _ i _ => k - (intOf i).toNat)
          case atStart => exact ⟨0, 0, Nat.zero_le _, rfl, by rw [Hk00.out], rfl, rfl⟩
          case round =>
            clear Hk00
            obtain ⟨j, n, hj, rfl, rfl, htw, rfl⟩ := hrel
            by_cases hlj : j < k
            · have hsu := @twice_succ l j (by omega) x
              rw [htw, Bool.false_or] at hsu
              have hks := @known_succ l j (by omega) x.from_
              obtain ⟨g0, g1, g2, _, _⟩ := HC.out j (by omega)
              replace g0 := cell_later hbo g0
              replace g2 := cell_later hbo g2
              clear g1
              have hmono := fun (h : twice (l.take (j + 1)) x = true) => twice_mono (l := l) (x := x) (j := j + 1) (k := k) (by omega) h
              have Hmono := Lib.hid hmono
              have Hsu := Lib.hid hsu
              have Hks := Lib.hid hks
              have hji : (j : Int) < (l.length : Int) := by omega
              have hj0 : (0 : Int) ≤ (j : Int) := by omega
              clear hsu hks hmono htw
              generalize known (l.take j) x.from_ = kn at *
              generalize l[j].id = qi at *
              generalize l[j].to_ = qt at *
              by_cases hh : qi = x.id
              · subst hh
                have hT := Hmono.out (by rw [Hsu.out]; simp)
                rw [hT] at He
                clear hT
                go_wp2_with fail
                go_quiet (fail)
                go_wp2
                go_ret
                refine ⟨?_, below_dn (below_dn hbo _) _⟩
                rw [Hro.out, He.out]; rfl
              · have hh' : (qi == x.id) = false := by simpa using hh
                by_cases hg : qt = x.to_
                · subst hg
                  have hT := Hmono.out (by rw [Hsu.out]; simp)
                  rw [hT] at He
                  clear hT hh
                  go_wp2_with fail
                  go_quiet (fail)
                  go_wp2
                  go_ret
                  refine ⟨?_, below_dn (below_dn hbo _) _⟩
                  rw [Hro.out, He.out]; rfl
                · have hg' : (qt == x.to_) = false := by simpa using hg
                  have hT : Hid (twice (l.take (j + 1)) x = false) := Lib.hid (by rw [Hsu.out]; simp [hh, hg])
                  clear hh hg Hmono
                  cases kn
                  · have e0 : (qt == x.from_) = known (l.take (j + 1)) x.from_ := by
                      rw [Hks.out, Bool.false_or, Bool.eq_iff_iff]
                      simp
                    have E0 := Lib.hid e0
                    clear e0
                    go_wp2_with fail
                    go_quiet (fail)
                    go_wp2_with fail
                    go_quiet (fail)
                    go_wp2
                    go_roundw
                    case rel => exact ⟨j + 1, _, by omega, by go_num, by rw [← E0.out], hT.out, rfl⟩
                    case measure => simp [intOf]; omega
                  · go_wp2_with fail
                    go_quiet (fail)
                    go_wp2_with fail
                    go_quiet (fail)
                    go_wp2
                    go_roundw
                    case rel => exact ⟨j + 1, _, by omega, by go_num, by rw [Hks.out]; simp, hT.out, rfl⟩
                    case measure => simp [intOf]; omega
            · have hje : j = k := by omega
              subst hje
              rw [htw] at He
              clear htw
              generalize known (l.take j) x.from_ = kn at *
              cases kn
              · go_wp2
                go_ret
                refine ⟨?_, below_dn hbo _⟩
                rw [Hro.out, He.out]; rfl
              · go_wp2
                go_roundw
                case rel => exact ⟨j + 1, by omega, by go_num, He.out, below_dn hbo _⟩
                case measure => simp [intOf]; omega
      · have hke : k = l.length := by omega
        subst hke
        rw [rightGo_end] at he
        have He := Lib.hid he
        clear he
        go_wp2
        go_ret
        exact ⟨by rw [Hro.out, He.out]; rfl, hb⟩
  · go_enter Try.func12, Try.ntmps12
    go_wp2
    go_ret
    exact ⟨by rw [rightOf, if_pos (by omega)]; rfl, Below.refl _ _⟩
end Go.Proofs.Ythhjnplegdmidaa
