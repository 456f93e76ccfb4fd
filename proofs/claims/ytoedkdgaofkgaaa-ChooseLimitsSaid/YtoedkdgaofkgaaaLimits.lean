/- ChooseLimits: with greater limits the best choice is worth at least as much; no condition. -/
import Derived.Test.YtoedkdgaofkgaaaLaw0
import Derived.Test.YtoedkdgaofkgaaaLaw3
import Derived.Deep.QuietTactic
import Derived.BigQuiet
namespace Go.Proofs.Ytoedkdgaofkgaaa.chooseLimits
open Go.RowKit Go.ChangeShapes Go.WideShapes Go.ChangeAt
set_option linter.unusedVariables false
theorem limit_facts {l : List Item} (hr : rightOf l = 0) {a b a' b' : Int} (ha : a ≤ a') (hb : b ≤ b') : ∃ (x y : List Int) (p q v p' q' v' : Int), bestF l a b = x ∧ bestF l a' b' = y ∧ x.length ≤ 12 ∧ y.length ≤ 12 ∧ needOf l x = (p, q, v, true) ∧ needOf l y = (p', q', v', true) ∧ v ≤ v' := by
  have e : ∀ a b, bestF l a b = bestOf l a b := fun a b => by rw [bestF, if_pos hr]; rfl
  have hlen : ∀ a b, (bestOf l a b).length ≤ 12 := fun a b => by
    have := refF_length l a b (2 ^ l.length)
    rw [← best_eq_ref hr] at this
    exact this
  have hn : ∀ a b, needOf l (bestOf l a b) = (sumOf (itA l) (bestOf l a b), sumOf (itB l) (bestOf l a b), sumOf (itV l) (bestOf l a b), true) := fun a b => by
    rw [needOf_eq, if_pos (bestOf_valid hr a b)]
  have hlaw := limits_law hr ha hb
  rw [valOf_eq (bestOf_valid hr a b), valOf_eq (bestOf_valid hr a' b')] at hlaw
  exact ⟨_, _, _, _, _, _, _, _, e a b, e a' b', hlen a b, hlen a' b', hn a b, hn a' b', hlaw⟩
set_option maxHeartbeats 1000000 in
theorem walk (A : Option Addr) (c : Nat) (l : List Item) (a b m0 m1 : Int) (w : World) (_hm : l.length ≤ maxLen) (h : Items w A l) (hr : l.length * Try.prog.bytesOf 42 ≤ reachBytes)
    (_ha : (Lit.int .i64 a).wf = true) (_hb : (Lit.int .i64 b).wf = true) (hm0 : (Lit.int .u16 m0).wf = true) (hm1 : (Lit.int .u16 m1).wf = true) : Calls Try.prog 8 #[.slice A l.length c, .agg #[.int .i64 a, .int .i64 b], .agg #[.int .u16 m0, .int .u16 m1]] w fun e w' => e = .returned (.bool true) ∧ Below w.heap.size w w' := by
  have hl := len_ok hr
  have g0 : 0 ≤ m0 ∧ m0 ≤ 65535 := by simpa [Lit.wf, IntKind.min, IntKind.max, IntKind.signed, IntKind.bits] using hm0
  have g1 : 0 ≤ m1 ∧ m1 ≤ 65535 := by simpa [Lit.wf, IntKind.min, IntKind.max, IntKind.signed, IntKind.bits] using hm1
  clear hr _hm _ha _hb hm0 hm1
  have k0 : ((w.alloc (.cells #[.int .i64 a, .int .i64 b] 36)).alloc (.cells #[.int .u16 m0, .int .u16 m1] 39)).cell? ⟨w.heap.size, 0, none⟩ = some (.int .i64 a) := by go_simp
  have k1 : ((w.alloc (.cells #[.int .i64 a, .int .i64 b] 36)).alloc (.cells #[.int .u16 m0, .int .u16 m1] 39)).cell? ⟨w.heap.size, 1, none⟩ = some (.int .i64 b) := by go_simp
  have k2 : ((w.alloc (.cells #[.int .i64 a, .int .i64 b] 36)).alloc (.cells #[.int .u16 m0, .int .u16 m1] 39)).cell? ⟨w.heap.size + 1, 0, none⟩ = some (.int .u16 m0) := by go_simp
  have k3 : ((w.alloc (.cells #[.int .i64 a, .int .i64 b] 36)).alloc (.cells #[.int .u16 m0, .int .u16 m1] 39)).cell? ⟨w.heap.size + 1, 1, none⟩ = some (.int .u16 m1) := by go_simp
  have hbase : Below w.heap.size w ((w.alloc (.cells #[.int .i64 a, .int .i64 b] 36)).alloc (.cells #[.int .u16 m0, .int .u16 m1] 39)) := ((Below.refl _ _).alloc (Nat.le_refl _) _).alloc (by simp) _
  have HB := Lib.hid hbase; clear hbase
  by_cases hin : -1000000 ≤ a ∧ -1000000 ≤ b ∧ a ≤ 1099511627776 ∧ b ≤ 1099511627776
  · obtain ⟨i1, i2, i3, i4⟩ := hin
    by_cases hr0 : rightOf l = 0
    · obtain ⟨h12, hit⟩ := right_ok hr0
      obtain ⟨x, y, p, q, v, p', q', v', e1, e2, l1, l2, n1, n2, hle⟩ := limit_facts hr0 (show a ≤ a + m0 by omega) (show b ≤ b + m1 by omega)
      have hbest1 := fun W (hW : Items W A l) => Lib.hid (Best_any A c l a b W (by omega) hW)
      have hbest2 := fun W (hW : Items W A l) => Lib.hid (Best_any A c l (a + m0) (b + m1) W (by omega) hW)
      have hneed1 := fun A2 c2 W (hW : Items W A l) (hW2 : Ints W A2 x) => Lib.hid (Need_any A A2 c c2 l x W (by omega) hit (by omega) hW hW2)
      have hneed2 := fun A2 c2 W (hW : Items W A l) (hW2 : Ints W A2 y) => Lib.hid (Need_any A A2 c c2 l y W (by omega) hit (by omega) hW hW2)
      unfold BestPost at hbest1 hbest2
      rw [e1, hr0] at hbest1
      rw [e2, hr0] at hbest2
      rw [n1] at hneed1
      rw [n2] at hneed2
      clear e1 e2 hr0 n1 n2
      go_enter Try.func8, Try.ntmps8
      go_wp2_with fail
      refine (alive_any _).mono ?_
      rintro e w1 ⟨rfl, hb1⟩
      have hb := HB.out.trans (hb1.mono HB.out.size)
      have k0' := cell_later hb1 k0
      have k1' := cell_later hb1 k1
      have k2' := cell_later hb1 k2
      have k3' := cell_later hb1 k3
      clear hb1 k0 k1 k2 k3
      go_wp2_with fail
      go_quiet (fail)
      have hb' := below_dn hb nq
      clear hb
      go_wp2_with fail
      refine (hbest1 _ (h.below hb')).out.mono ?_
      rintro e w2 ⟨A2, c2, rfl, hi2, hb2⟩
      have hbb := hb'.trans (hb2.mono hb'.size)
      have k2'' := cell_later hb2 k2'
      have k3'' := cell_later hb2 k3'
      clear k0' k1' k2' k3' hb' hb2
      go_wp2_with fail
      refine (hbest2 _ (h.below hbb)).out.mono ?_
      rintro e w3 ⟨A3, c3, rfl, hi3, hb3⟩
      have hi2' := hi2.below hb3
      have hb4 := hbb.trans (hb3.mono hbb.size)
      clear k2'' k3'' hbb hb3 hi2
      go_wp2_with fail
      refine (hneed1 _ _ _ (h.below hb4) hi2').out.mono ?_
      rintro e w4 ⟨rfl, rfl⟩
      unfold NeedV
      go_wp2_with fail
      refine (hneed2 _ _ _ (h.below hb4) hi3).out.mono ?_
      rintro e w4 ⟨rfl, rfl⟩
      unfold NeedV
      go_wp2
      go_ret
      exact ⟨by simp, hb4⟩
    · have hne : (rightOf l != 0) = true := by simpa using hr0
      have hbest1 := fun W (hW : Items W A l) => Lib.hid (Best_any A c l a b W (by omega) hW)
      have hbest2 := fun W (hW : Items W A l) => Lib.hid (Best_any A c l (a + m0) (b + m1) W (by omega) hW)
      unfold BestPost at hbest1 hbest2
      rw [bestF, if_neg hr0] at hbest1 hbest2
      clear hr0
      go_enter Try.func8, Try.ntmps8
      go_wp2_with fail
      refine (alive_any _).mono ?_
      rintro e w1 ⟨rfl, hb1⟩
      have hb := HB.out.trans (hb1.mono HB.out.size)
      have k0' := cell_later hb1 k0
      have k1' := cell_later hb1 k1
      have k2' := cell_later hb1 k2
      have k3' := cell_later hb1 k3
      clear hb1 k0 k1 k2 k3
      go_wp2_with fail
      go_quiet (fail)
      have hb' := below_dn hb nq
      clear hb
      go_wp2_with fail
      refine (hbest1 _ (h.below hb')).out.mono ?_
      rintro e w2 ⟨A2, c2, rfl, hi2, hb2⟩
      have hbb := hb'.trans (hb2.mono hb'.size)
      have k2'' := cell_later hb2 k2'
      have k3'' := cell_later hb2 k3'
      clear k0' k1' k2' k3' hb' hb2
      go_wp2_with fail
      refine (hbest2 _ (h.below hbb)).out.mono ?_
      rintro e w3 ⟨A3, c3, rfl, hi3, hb3⟩
      have hb4 := hbb.trans (hb3.mono hbb.size)
      clear k2'' k3'' hbb hb3 hi2
      go_wp2
      go_ret
      exact ⟨by simp, hb4⟩
  · by_cases ha : a < -1000000 <;> by_cases hb : b < -1000000 <;> by_cases ha2 : a > 1099511627776 <;> by_cases hb2 : b > 1099511627776
    all_goals first
      | omega
      | (go_enter Try.func8, Try.ntmps8
         go_wp2_with fail
         refine (alive_any _).mono ?_
         rintro e w1 ⟨rfl, hb1⟩
         have hb := HB.out.trans (hb1.mono HB.out.size)
         have k0' := cell_later hb1 k0
         have k1' := cell_later hb1 k1
         clear hb1 k0 k1 k2 k3
         go_wp2_with fail
         go_quiet (fail)
         go_wp2
         go_ret
         exact ⟨rfl, below_dn hb _⟩)

set_option maxRecDepth 100000 in
theorem lifted (os : Os) (started : os.Started) (H : Type) (enc : TypeId × Value → H) :
    ReturnsInHanded {} Try.checked os 8 .any (Rows.chooseLimitsSpec.pre6 enc Try.prog Try.f8 Rows.chooseLimitsRow.domain false) (Rows.chooseLimitsSpec.post enc Try.prog Try.f8 false true false false) := by
  refine returnsInHanded_of_change_sized (C := Try.checked) own started (by kernel_rfl) Try.func8
    (ChangeSpec.witness6 (enc := enc) (C := Try.checked) false ⟨#[], #[.slice none 0 0, .agg #[.int .i64 0, .int .i64 0], .agg #[.int .u16 0, .int .u16 0]], []⟩ 8 (by kernel_rfl) (by kernel_rfl) (by kernel_rfl) (by kernel_rfl)) ?_
  intro W base args ds gs before hval0 hW hcnd hsz0 _
  have hval : ∀ (j : Nat) t v, Try.f8.params[j]? = some t → args[j]? = some v → Value.okWide Try.prog W .any base t v := hval0
  refine law_post laidOut (by kernel_rfl) Try.underlying4 rfl rfl hW (fun hn => ?_) ?_
  · match ds, hn with
    | [_, _, _], _ => rfl
  obtain ⟨p, q, hA0, hV, rfl, _, _⟩ := hW
  have hA : DataW.TrodAll enc Try.prog W 0 (fun _ => true) true Try.f8.params.toList args.toList ds p := hA0
  obtain ⟨rfl, rfl⟩ := trodVars_none hV
  have hsz : (DataW.weightsEach Try.prog (Try.f8.params.toList ++ []) (ds ++ [])).all (· ≤ reachBytes) = true := hsz0
  rw [Try.params8] at hA hval hsz
  obtain ⟨v0, vs0, d0, ds0, p0, q0, hargs, rfl, rfl, h0, r0⟩ := trodAll_cons hA
  obtain ⟨v1, vs1, d1, ds1, p1, q1, rfl, rfl, rfl, h1, r1⟩ := trodAll_cons r0
  obtain ⟨v2, vs2, d2, ds2, p2, q2, rfl, rfl, rfl, h2, r2⟩ := trodAll_cons r1
  obtain ⟨rfl, rfl, rfl⟩ := trodAll_nil r2
  obtain rfl : args = #[v0, v1, v2] := by cases args; simp_all
  obtain ⟨A0, c0, l0, rfl, hm0, hi0, hL0⟩ := open_items (hval 0 22 v0 rfl rfl) h0
  obtain ⟨x1, y1, rfl, w1, z1⟩ := open_arr2 Try.underlying36 Try.underlying3 (by kernel_rfl) (by kernel_rfl) (hval 1 36 v1 rfl rfl) h1
  obtain ⟨x2, y2, rfl, w2, z2⟩ := open_arr2 Try.underlying39 Try.underlying38 (by kernel_rfl) (by kernel_rfl) (hval 2 39 v2 rfl rfl) h2
  exact walk A0 c0 l0 x1 y1 x2 y2 W hm0 hi0 (hL0.reach hsz (j := 0) rfl rfl Try.underlying22) w1 z1 w2 z2
theorem over : Rows.chooseLimitsRow.holds Try.pinned (OpenSpec.ofChange Rows.chooseLimitsSpec) :=
  OpenClaim.holds_of_wide 8 Try.f8 rfl rfl rfl rfl rfl rfl rfl ⟨rfl, rfl, rfl, rfl, rfl⟩ rfl rfl rfl rfl rfl (by kernel_rfl) Try.func8 (by kernel_rfl)
    (of_decide_eq_true (by kernel_rfl)) (by unfold Func.isWrapper; first | (rw [if_pos (by decide +kernel)]; kernel_rfl) | (rw [if_neg (by decide +kernel)]; exact ⟨rfl, rfl⟩))
    (fun os started H enc _ => lifted os started H enc)
theorem proved : Rows.ChooseLimitsSaid := over
#print axioms proved
end Go.Proofs.Ytoedkdgaofkgaaa.chooseLimits
