/- ChooseBest: no choice that fits (at most 40 indices) is worth more than the best one, and none that is worth as much precedes it; no condition. -/
import Derived.Test.YtoedkdgaofkgaaaLaw0
import Derived.Test.YtoedkdgaofkgaaaLaw3
import Derived.Deep.QuietTactic
import Derived.BigQuiet
namespace Go.Proofs.Ytoedkdgaofkgaaa.chooseBest
open Go.RowKit Go.ChangeShapes Go.WideShapes Go.ChangeAt
set_option linter.unusedVariables false
theorem quiet_of_eq {P : Program} {f : FuncId} {args : Array Value} {w : World} {n : Nat} {v : Value}
    (h : Calls P f args (w.drewN n) fun e w' => e = .returned v ∧ w.drewN n = w') : Calls P f args (w.drewN n) fun e w'' => e = .returned v ∧ ∃ m, w'' = w.drewN m :=
  h.mono fun _ _ ⟨he, hm⟩ => ⟨he, n, hm.symm⟩
/-- what Best is, told to the walk -/
theorem best_facts {l : List Item} (hr : rightOf l = 0) (a b : Int) : ∃ (x : List Int) (p q v : Int), bestF l a b = x ∧ x.length ≤ 12 ∧ needOf l x = (p, q, v, true) ∧ fitsOf l x a b = (!(decide (a < 0) || decide (b < 0))) ∧
    ∀ c, fitsOf l c a b = true → ∃ p' q' v', needOf l c = (p', q', v', true) ∧ (v' < v ∨ (v' = v ∧ lessOf c x = false)) := by
  have e : bestF l a b = bestOf l a b := by rw [bestF, if_pos hr]; rfl
  have hlen : (bestOf l a b).length ≤ 12 := by
    have := refF_length l a b (2 ^ l.length)
    rw [← best_eq_ref hr] at this
    exact this
  have hv := bestOf_valid hr a b
  have hn := needOf_eq l (bestOf l a b)
  rw [if_pos hv] at hn
  refine ⟨bestOf l a b, _, _, _, e, hlen, hn, ?_, ?_⟩
  · by_cases hab : 0 ≤ a ∧ 0 ≤ b
    · have B : IsBest l a b (bestOf l a b) := (best_spec hr).1 hab
      rw [B.fits]; simp; omega
    · have e2 : bestOf l a b = [] := (best_spec hr).2 hab
      rw [e2]
      cases hf : fitsOf l [] a b
      · simp; omega
      · exact absurd ((fits_nil l a b).1 hf) hab
  · intro c hc
    have hvc := ((fitsOf_eq _ _ _ _).1 hc).1
    have hnc := needOf_eq l c
    rw [if_pos hvc] at hnc
    have hab := fits_pos (right_ok hr).2 hc
    have B : IsBest l a b (bestOf l a b) := (best_spec hr).1 hab
    have h1 := B.most c hc
    have h2 := B.least c hc
    rw [valOf_eq hvc, valOf_eq hv] at h1 h2
    refine ⟨_, _, _, hnc, ?_⟩
    by_cases h3 : sumOf (itV l) c = sumOf (itV l) (bestOf l a b)
    · exact .inr ⟨h3, h2 h3⟩
    · exact .inl (by omega)
set_option maxHeartbeats 1000000 in
theorem walk (A : Option Addr) (c : Nat) (l : List Item) (a b : Int) (C : Option Addr) (d : Nat) (ch : List Int) (w : World) (_hm : l.length ≤ maxLen) (h : Items w A l) (hr : l.length * Try.prog.bytesOf 42 ≤ reachBytes)
    (_ha : (Lit.int .i64 a).wf = true) (_hb : (Lit.int .i64 b).wf = true) (hmc : ch.length ≤ maxLen) (hi : Ints w C ch) (_hx : ∀ x ∈ ch, I64 x) : Calls Try.prog 7 #[.slice A l.length c, .agg #[.int .i64 a, .int .i64 b], .slice C ch.length d] w fun e w' => e = .returned (.bool true) ∧ Below w.heap.size w w' := by
  have hl := len_ok hr
  unfold maxLen at hmc
  clear hr _hm _hx _ha _hb
  by_cases h40 : 40 < ch.length
  · go_enter Try.func7, Try.ntmps7
    go_wp2_with (go_at_call 11; refine (alive_any _).mono ?_; rintro e w1 ⟨rfl, hb1⟩)
    go_ret
    exact ⟨rfl, (below_alloc _ _).trans (hb1.mono (by simp))⟩
  clear hmc
  have k0 : (w.alloc (.cells #[.int .i64 a, .int .i64 b] 36)).cell? ⟨w.heap.size, 0, none⟩ = some (.int .i64 a) := by go_simp
  have k1 : (w.alloc (.cells #[.int .i64 a, .int .i64 b] 36)).cell? ⟨w.heap.size, 1, none⟩ = some (.int .i64 b) := by go_simp
  by_cases hr0 : rightOf l = 0
  · obtain ⟨h12, hit⟩ := right_ok hr0
    obtain ⟨x, p, q, v, hbx, hxl, hxn, hxf, hall⟩ := best_facts hr0 a b
    have hbest := fun W (hW : Items W A l) => Lib.hid (Best_any A c l a b W (by omega) hW)
    have hneed := fun A2 c2 W (hW : Items W A l) (hW2 : Ints W A2 x) => Lib.hid (Need_any A A2 c c2 l x W (by omega) hit (by omega) hW hW2)
    have hfits := fun A2 c2 W (hW : Items W A l) (hW2 : Ints W A2 x) => Lib.hid (Fits_any A A2 c c2 l x a b W (by omega) hit (by omega) hW hW2)
    have hless := fun A2 c2 W (hW : Ints W C ch) (hW2 : Ints W A2 x) => Lib.hid (Less_any C A2 d c2 ch x W (by omega) (by omega) hW hW2)
    unfold BestPost at hbest
    rw [hbx, hr0] at hbest
    rw [hxn] at hneed
    rw [hxf] at hfits
    have Hall := Lib.hid hall
    clear hbx hr0 hxn hxf hall
    by_cases ha : a < 0 <;> by_cases hb0 : b < 0
    all_goals
      simp only [ha, hb0, decide_true, decide_false, Bool.or_true, Bool.or_false, Bool.not_true, Bool.not_false] at hfits
      go_enter Try.func7, Try.ntmps7
      go_wp2_with fail
      refine (alive_any _).mono ?_
      rintro e w1 ⟨rfl, hb1⟩
      have hb := (below_alloc w (.cells #[.int .i64 a, .int .i64 b] 36)).trans (hb1.mono (by simp))
      have k0' := cell_later hb1 k0
      have k1' := cell_later hb1 k1
      clear hb1
      go_wp2_with fail
      refine (hbest w1 (h.below hb)).out.mono ?_
      rintro e w2 ⟨A2, c2, rfl, hi2, hb2⟩
      have k0'' := cell_later hb2 k0'
      have k1'' := cell_later hb2 k1'
      have hbb := hb.trans (hb2.mono hb.size)
      clear k0' k1' hb hb2
      go_wp2_with fail
      refine (hneed A2 c2 w2 (h.below hbb) hi2).out.mono ?_
      rintro e w2 ⟨rfl, rfl⟩
      unfold NeedV
      go_wp2_with fail
      go_quiet ((go_at_call 16; exact quiet_of_eq (hfits A2 c2 _ (h.below (below_dn hbb _)) hi2).out))
      go_wp2_with fail
      cases hfc : fitsOf l ch a b
      · refine (Fits_any A C c d l ch a b _ (by omega) hit (by omega) (h.below (below_dn hbb _)) (hi.below (below_dn hbb _))).mono ?_
        rintro e w2 ⟨rfl, rfl⟩
        rw [hfc]
        clear hfc
        go_wp2
        go_ret
        exact ⟨rfl, below_dn hbb _⟩
      · obtain ⟨p', q', v', hn', hcmp⟩ := Hall.out ch hfc
        refine (Fits_any A C c d l ch a b _ (by omega) hit (by omega) (h.below (below_dn hbb _)) (hi.below (below_dn hbb _))).mono ?_
        rintro e w2 ⟨rfl, rfl⟩
        rw [hfc]
        clear hfc
        have Hn := Lib.hid hn'
        clear hn'
        have Hcmp := Lib.hid hcmp
        clear hcmp
        go_wp2_with fail
        refine (Need_any A C c d l ch _ (by omega) hit (by omega) (h.below (below_dn hbb _)) (hi.below (below_dn hbb _))).mono ?_
        rintro e w2 ⟨rfl, rfl⟩
        rw [Hn.out]
        unfold NeedV
        rcases Hcmp.out with hlt | ⟨heq, hls⟩
        · go_wp2
          go_ret
          exact ⟨rfl, below_dn hbb _⟩
        · subst heq
          have hle := fun k => (hless A2 c2 (w2.drewN k) (hi.below (below_dn hbb _)) hi2).out
          rw [hls] at hle
          have Hle := Lib.hid hle
          clear hle hls Hcmp
          go_wp2_with fail
          refine (Hle.out _).mono ?_
          rintro e w2 ⟨rfl, n2, rfl⟩
          go_wp2
          go_ret
          exact ⟨rfl, below_dn hbb _⟩
  · have hne : (rightOf l != 0) = true := by simpa using hr0
    have hbest := fun W (hW : Items W A l) => Lib.hid (Best_any A c l a b W (by omega) hW)
    unfold BestPost at hbest
    rw [bestF, if_neg hr0] at hbest
    clear hr0
    go_enter Try.func7, Try.ntmps7
    go_wp2_with fail
    refine (alive_any _).mono ?_
    rintro e w1 ⟨rfl, hb1⟩
    have hb := (below_alloc w (.cells #[.int .i64 a, .int .i64 b] 36)).trans (hb1.mono (by simp))
    have k0' := cell_later hb1 k0
    have k1' := cell_later hb1 k1
    clear hb1
    go_wp2_with fail
    refine (hbest w1 (h.below hb)).out.mono ?_
    rintro e w2 ⟨A2, c2, rfl, hi2, hb2⟩
    have hbb := hb.trans (hb2.mono hb.size)
    clear k0' k1' hb hb2
    go_wp2
    go_ret
    exact ⟨by simp, hbb⟩

set_option maxRecDepth 100000 in
theorem lifted (os : Os) (started : os.Started) (H : Type) (enc : TypeId × Value → H) :
    ReturnsInHanded {} Try.checked os 7 .any (Rows.chooseBestSpec.pre6 enc Try.prog Try.f7 Rows.chooseBestRow.domain false) (Rows.chooseBestSpec.post enc Try.prog Try.f7 false true false false) := by
  refine returnsInHanded_of_change_sized (C := Try.checked) own started (by kernel_rfl) Try.func7
    (ChangeSpec.witness6 (enc := enc) (C := Try.checked) false ⟨#[], #[.slice none 0 0, .agg #[.int .i64 0, .int .i64 0], .slice none 0 0], []⟩ 8 (by kernel_rfl) (by kernel_rfl) (by kernel_rfl) (by kernel_rfl)) ?_
  intro W base args ds gs before hval0 hW hcnd hsz0 _
  have hval : ∀ (j : Nat) t v, Try.f7.params[j]? = some t → args[j]? = some v → Value.okWide Try.prog W .any base t v := hval0
  refine law_post laidOut (by kernel_rfl) Try.underlying4 rfl rfl hW (fun hn => ?_) ?_
  · match ds, hn with
    | [_, _, _], _ => rfl
  obtain ⟨p, q, hA0, hV, rfl, _, _⟩ := hW
  have hA : DataW.TrodAll enc Try.prog W 0 (fun _ => true) true Try.f7.params.toList args.toList ds p := hA0
  obtain ⟨rfl, rfl⟩ := trodVars_none hV
  have hsz : (DataW.weightsEach Try.prog (Try.f7.params.toList ++ []) (ds ++ [])).all (· ≤ reachBytes) = true := hsz0
  rw [Try.params7] at hA hval hsz
  obtain ⟨v0, vs0, d0, ds0, p0, q0, hargs, rfl, rfl, h0, r0⟩ := trodAll_cons hA
  obtain ⟨v1, vs1, d1, ds1, p1, q1, rfl, rfl, rfl, h1, r1⟩ := trodAll_cons r0
  obtain ⟨v2, vs2, d2, ds2, p2, q2, rfl, rfl, rfl, h2, r2⟩ := trodAll_cons r1
  obtain ⟨rfl, rfl, rfl⟩ := trodAll_nil r2
  obtain rfl : args = #[v0, v1, v2] := by cases args; simp_all
  obtain ⟨A0, c0, l0, rfl, hm0, hi0, hL0⟩ := open_items (hval 0 22 v0 rfl rfl) h0
  obtain ⟨x1, y1, rfl, w1, z1⟩ := open_arr2 Try.underlying36 Try.underlying3 (by kernel_rfl) (by kernel_rfl) (hval 1 36 v1 rfl rfl) h1
  obtain ⟨A2, c2, l2, rfl, hm2, hi2, hx2, hL2⟩ := open_intsl Try.underlying27 Try.underlying3 (by kernel_rfl) (hval 2 27 v2 rfl rfl) h2
  exact walk A0 c0 l0 x1 y1 A2 c2 l2 W hm0 hi0 (hL0.reach hsz (j := 0) rfl rfl Try.underlying22) w1 z1 hm2 hi2 hx2
theorem over : Rows.chooseBestRow.holds Try.pinned (OpenSpec.ofChange Rows.chooseBestSpec) :=
  OpenClaim.holds_of_wide 7 Try.f7 rfl rfl rfl rfl rfl rfl rfl ⟨rfl, rfl, rfl, rfl, rfl⟩ rfl rfl rfl rfl rfl (by kernel_rfl) Try.func7 (by kernel_rfl)
    (of_decide_eq_true (by kernel_rfl)) (by unfold Func.isWrapper; first | (rw [if_pos (by decide +kernel)]; kernel_rfl) | (rw [if_neg (by decide +kernel)]; exact ⟨rfl, rfl⟩))
    (fun os started H enc _ => lifted os started H enc)
theorem proved : Rows.ChooseBestSaid := over
#print axioms proved
end Go.Proofs.Ytoedkdgaofkgaaa.chooseBest
