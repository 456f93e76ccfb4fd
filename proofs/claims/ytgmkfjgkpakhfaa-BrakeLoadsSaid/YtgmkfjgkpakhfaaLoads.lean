/- BrakeLoads: brakes that are enough for a load are enough for smaller ones, and never for more than all brakes of a kind; no condition. -/
import Derived.Test.YtgmkfjgkpakhfaaLaw0
import Derived.Test.YtgmkfjgkpakhfaaPlain4
namespace Go.Proofs.Ytgmkfjgkpakhfaa.brakeLoads
open Go.RowKit Go.ChangeShapes Go.WideShapes Go.ChangeAt
set_option linter.unusedVariables false
set_option maxHeartbeats 4000000 in
theorem walk (A : Option Addr) (c : Nat) (l : List Brake) (ld t less : Int) (w : World) (_hm : l.length ≤ c ∧ c ≤ maxLen) (h : Brakes w A l ∧ ∀ x ∈ l, x.I) (_hr : l.length * Try.prog.bytesOf 32 ≤ reachBytes) (hld : (Lit.int .i64 ld).wf = true) (ht : (Lit.int .i64 t).wf = true) (hless : (Lit.int .u16 less).wf = true) : Calls Try.prog 9 #[.slice A l.length c, .int .i64 ld, .int .i64 t, .int .u16 less] w fun e w' => e = .returned (.bool true) ∧ Below w.heap.size w w' := by
  have hI : AllI l := h.2
  have h := h.1
  have ht := i64_of_wf ht
  have hld := i64_of_wf hld
  have hless : 0 ≤ less ∧ less ≤ 65535 := by
    simpa [Lit.wf, IntKind.min, IntKind.max, IntKind.signed, IntKind.bits] using hless
  by_cases h8 : 8 < l.length
  · go_enter Try.func9, Try.ntmps9
    go_wp2_with (go_at_call 10; refine (alive_any _).mono ?_; rintro e w1 ⟨rfl, hb1⟩)
    go_ret
    exact ⟨rfl, hb1⟩
  · go_enter Try.func9, Try.ntmps9
    go_wp2_with fail
    refine (alive_any _).mono ?_
    rintro e w1 ⟨rfl, hb1⟩
    go_wp2_with fail
    refine (Right_any A c l w1 (by omega) _hm.1 (h.below hb1)).mono ?_
    rintro e w2 ⟨rfl, hb2⟩
    have hb := hb1.trans (hb2.mono hb1.size)
    clear hb1 hb2 _hm _hr
    by_cases hr : rightOf l = 0
    · have hr' : (rightOf l != 0) = false := by simp [hr]
      by_cases hlo : ld < -1000000000
      · clear hr
        go_wp2
        go_ret
        exact ⟨rfl, hb⟩
      · have hme := right_meas hr
        have hin := right_in hr
        have hbd := sums_bd hme
        have hle := force_le hin t
        have hall := force_all hin t
        have hE := fun (a : Int) W (hW : Below w.heap.size w W) => Lib.hid (Enough_any A c l a t W (by omega) (h.below hW) hI ht hme)
        have hF := fun (a : Int) W (hW : Below w.heap.size w W) => Lib.hid (Force_any A c l a t W (by omega) (h.below hW) hI ht hme)
        have hD := fun W (hW : Below w.heap.size w W) => Lib.hid (Due_any A c l t W (by omega) (h.below hW) hI ht)
        have S1 := fun (k : Nat) (hk : k < l.length) => Lib.hid (servOf_succ hk)
        have S2 := fun (k : Nat) (hk : k < l.length) => Lib.hid (safeOf_succ hk)
        have BD := fun (k : Nat) => Lib.hid (sums_bd (measB_take hme k))
        have hmm := fun (k : Nat) (hk : k < l.length) => Lib.hid (hme _ (List.getElem_mem hk))
        have hdl := dueOf_length l t
        have HALL := Lib.hid hall
        have HLE := Lib.hid hle
        have z1 : servOf (l.take 0) = 0 := rfl
        have z2 : safeOf (l.take 0) = 0 := rfl
        have hq : enoughOf l ld t = true → ld ≤ forceOf l 0 t ∧ ld ≤ forceOf l 1 t := enough_le
        have hq2 : enoughOf l ld t = true → enoughOf l (ld - less) t = true := fun hh => enough_less hh (by omega)
        have HQ := Lib.hid hq
        have HQ2 := Lib.hid hq2
        clear hq hq2 hall hle hbd hme hin hI hr
        go_wp2_with fail
        refine (hE _ _ hb).out.mono ?_
        rintro e w3 ⟨rfl, hb3⟩
        have hb4 := hb.trans (hb3.mono hb.size)
        clear hb3 hb
        have key : ∃ q : Bool, enoughOf l ld t = q ∧ (q = true → enoughOf l (ld - less) t = true ∧ ld ≤ forceOf l 0 t ∧ ld ≤ forceOf l 1 t) := ⟨_, rfl, fun hh => ⟨HQ2.out hh, HQ.out hh⟩⟩
        obtain ⟨q, hqe, hqq⟩ := key
        rw [hqe]
        have hwr : IntKind.i64.wrap (ld - less) = ld - less := IntWalk.i64_in _ (by unfold I64 at hld; omega)
        clear HQ HQ2 hqe
        cases q
        · have HQQ := Lib.hid hqq
          have HK := Lib.hid (show (false = true) → ld ≤ forceOf l 0 t ∧ ld ≤ forceOf l 1 t from fun hh => (hqq hh).2)
          have hbz := hb4
          clear hqq hwr hb4 hE hld hless
          go_wp2_with fail
          go_loopw [10, 11, 12] (fun a b i wr => ∃ (k : Nat) (p s : Int), k ≤ l.length ∧ a = .int .i64 p ∧ b = .int .i64 s ∧ i = .int .i64 k ∧ servOf (l.take k) = p ∧ safeOf (l.take k) = s ∧ Below w.heap.size w wr) (fun _ _ i _ => l.length - (intOf i).toNat)
          case atStart => exact ⟨0, 0, 0, Nat.zero_le _, rfl, rfl, rfl, z1, z2, hbz⟩
          case round =>
            obtain ⟨k, p, s, hk, rfl, rfl, rfl, hp, hs, hb⟩ := hrel
            have hbd := (BD k).out
            rw [hp, hs] at hbd
            have hp0 : 0 ≤ p ∧ p ≤ 80000000 := by
              have : (l.take k).length ≤ 8 := by simp; omega
              omega
            have hs0 : 0 ≤ s ∧ s ≤ 80000000 := by
              have : (l.take k).length ≤ 8 := by simp; omega
              omega
            clear hbd
            by_cases hlt : k < l.length
            · have e1 := (S1 k hlt).out
              have e2 := (S2 k hlt).out
              rw [hp] at e1
              rw [hs] at e2
              have hmk := (hmm k hlt).out
              obtain ⟨b, off, rfl, hc⟩ := h (by omega)
              obtain ⟨h0, h1, h2, h3, h4⟩ := hc k hlt
              have h1' := cell_later hb h1
              have h4' := cell_later hb h4
              clear h0 h1 h2 h3 h4 hc hp hs hD hF z1 z2 HALL HLE hdl hbz
              generalize l[k] = x at *
              by_cases hkd : x.kind = 0
              · rw [if_pos hkd] at e1 e2
                have hkd' : (x.kind == 0) = true := by simp [hkd]
                have E1 := Lib.hid e1
                have E2 := Lib.hid e2
                clear e1 e2 hkd
                have hw1 : IntKind.i64.wrap (p + x.measured) = p + x.measured := IntWalk.i64_in _ (by omega)
                go_wp2
                go_roundw
                case rel => exact ⟨k + 1, p + x.measured, s, by omega, by go_num, rfl, by go_num, E1.out, by rw [E2.out]; omega, hb⟩
                case measure => simp [intOf]; omega
              · rw [if_neg hkd] at e1 e2
                have hkd' : (x.kind == 0) = false := by simp [hkd]
                have E1 := Lib.hid e1
                have E2 := Lib.hid e2
                clear e1 e2 hkd
                have hw1 : IntKind.i64.wrap (s + x.measured) = s + x.measured := IntWalk.i64_in _ (by omega)
                go_wp2
                go_roundw
                case rel => exact ⟨k + 1, p, s + x.measured, by omega, rfl, by go_num, by go_num, by rw [E1.out]; omega, E2.out, hb⟩
                case measure => simp [intOf]; omega
            · have hke : k = l.length := by omega
              subst hke
              rw [List.take_length] at hp hs
              have hle := HLE.out
              rw [hp, hs] at hle
              skip
              clear z1 z2 HLE S1 S2 BD hmm HK hlt
              have hall := HALL.out
              rw [hp, hs] at hall
              have hall := Lib.hid hall
              clear HALL hbz
              generalize hP0 : forceOf l 0 t = f0 at *
              generalize hP1 : forceOf l 1 t = f1 at *
              have hd := fun W hW => hD W hW
              have hf0 := fun W hW => hF 0 W hW
              have hf1 := fun W hW => hF 1 W hW
              rw [hP0] at hf0
              rw [hP1] at hf1
              clear hD hF
              go_wp2_with fail
              refine (hd _ hb).out.mono ?_
              rintro e w5 ⟨A5, c5, rfl, _, hb5⟩
              have hb7 := hb.trans (hb5.mono hb.size)
              clear hb5 hb hd
              by_cases hn : (dueOf l t).length = 0
              · have ha := hall.out hn
                obtain ⟨ha0, ha1⟩ := ha
                rw [hn]
                have hne0 : (f0 != p) = false := by simp [ha0]
                have hne1 : (f1 != s) = false := by simp [ha1]
                clear ha0 ha1 hall hn hdl
                go_wp2_with fail
                refine (hf0 _ hb7).out.mono ?_
                rintro e w6 ⟨rfl, hb8⟩
                have hb9 := hb7.trans (hb8.mono hb7.size)
                clear hb8 hb7 hf0
                go_wp2_with fail
                refine (hf1 _ hb9).out.mono ?_
                rintro e w7 ⟨rfl, hb10⟩
                have hb11 := hb9.trans (hb10.mono hb9.size)
                clear hb10 hb9 hf1
                go_wp2
                go_ret
                exact ⟨by simp <;> omega, hb11⟩
              · have hn' : (((dueOf l t).length : Int) == 0) = false := by rw [beq_eq_false_iff_ne]; omega
                clear hn hall
                generalize (dueOf l t).length = n at *
                go_wp2
                go_ret
                exact ⟨by simp <;> omega, hb7⟩
        · have HQQ := Lib.hid (hqq rfl)
          have hE2 := fun W hW => hE (ld - less) W hW
          rw [HQQ.out.1] at hE2
          clear hqq
          go_wp2_with fail
          refine (hE2 _ hb4).out.mono ?_
          rintro e w4 ⟨rfl, hb5⟩
          have hb6 := hb4.trans (hb5.mono hb4.size)
          have HK := Lib.hid (show (true = true) → ld ≤ forceOf l 0 t ∧ ld ≤ forceOf l 1 t from fun _ => HQQ.out.2)
          have hbz := hb6
          clear hb6 hb5 hb4 hE hE2 HQQ hwr hld hless
          go_wp2_with fail
          go_loopw [10, 11, 12] (fun a b i wr => ∃ (k : Nat) (p s : Int), k ≤ l.length ∧ a = .int .i64 p ∧ b = .int .i64 s ∧ i = .int .i64 k ∧ servOf (l.take k) = p ∧ safeOf (l.take k) = s ∧ Below w.heap.size w wr) (fun _ _ i _ => l.length - (intOf i).toNat)
          case atStart => exact ⟨0, 0, 0, Nat.zero_le _, rfl, rfl, rfl, z1, z2, hbz⟩
          case round =>
            obtain ⟨k, p, s, hk, rfl, rfl, rfl, hp, hs, hb⟩ := hrel
            have hbd := (BD k).out
            rw [hp, hs] at hbd
            have hp0 : 0 ≤ p ∧ p ≤ 80000000 := by
              have : (l.take k).length ≤ 8 := by simp; omega
              omega
            have hs0 : 0 ≤ s ∧ s ≤ 80000000 := by
              have : (l.take k).length ≤ 8 := by simp; omega
              omega
            clear hbd
            by_cases hlt : k < l.length
            · have e1 := (S1 k hlt).out
              have e2 := (S2 k hlt).out
              rw [hp] at e1
              rw [hs] at e2
              have hmk := (hmm k hlt).out
              obtain ⟨b, off, rfl, hc⟩ := h (by omega)
              obtain ⟨h0, h1, h2, h3, h4⟩ := hc k hlt
              have h1' := cell_later hb h1
              have h4' := cell_later hb h4
              clear h0 h1 h2 h3 h4 hc hp hs hD hF z1 z2 HALL HLE hdl hbz
              generalize l[k] = x at *
              by_cases hkd : x.kind = 0
              · rw [if_pos hkd] at e1 e2
                have hkd' : (x.kind == 0) = true := by simp [hkd]
                have E1 := Lib.hid e1
                have E2 := Lib.hid e2
                clear e1 e2 hkd
                have hw1 : IntKind.i64.wrap (p + x.measured) = p + x.measured := IntWalk.i64_in _ (by omega)
                go_wp2
                go_roundw
                case rel => exact ⟨k + 1, p + x.measured, s, by omega, by go_num, rfl, by go_num, E1.out, by rw [E2.out]; omega, hb⟩
                case measure => simp [intOf]; omega
              · rw [if_neg hkd] at e1 e2
                have hkd' : (x.kind == 0) = false := by simp [hkd]
                have E1 := Lib.hid e1
                have E2 := Lib.hid e2
                clear e1 e2 hkd
                have hw1 : IntKind.i64.wrap (s + x.measured) = s + x.measured := IntWalk.i64_in _ (by omega)
                go_wp2
                go_roundw
                case rel => exact ⟨k + 1, p, s + x.measured, by omega, rfl, by go_num, by go_num, by rw [E1.out]; omega, E2.out, hb⟩
                case measure => simp [intOf]; omega
            · have hke : k = l.length := by omega
              subst hke
              rw [List.take_length] at hp hs
              have hle := HLE.out
              rw [hp, hs] at hle
              have hfin := HK.out trivial
              have hlp : ld ≤ p := by omega
              have hls : ld ≤ s := by omega
              clear z1 z2 HLE S1 S2 BD hmm HK hlt
              have hall := HALL.out
              rw [hp, hs] at hall
              have hall := Lib.hid hall
              clear HALL hbz
              generalize hP0 : forceOf l 0 t = f0 at *
              generalize hP1 : forceOf l 1 t = f1 at *
              have hd := fun W hW => hD W hW
              have hf0 := fun W hW => hF 0 W hW
              have hf1 := fun W hW => hF 1 W hW
              rw [hP0] at hf0
              rw [hP1] at hf1
              clear hD hF
              go_wp2_with fail
              refine (hd _ hb).out.mono ?_
              rintro e w5 ⟨A5, c5, rfl, _, hb5⟩
              have hb7 := hb.trans (hb5.mono hb.size)
              clear hb5 hb hd
              by_cases hn : (dueOf l t).length = 0
              · have ha := hall.out hn
                obtain ⟨ha0, ha1⟩ := ha
                rw [hn]
                have hne0 : (f0 != p) = false := by simp [ha0]
                have hne1 : (f1 != s) = false := by simp [ha1]
                clear ha0 ha1 hall hn hdl
                go_wp2_with fail
                refine (hf0 _ hb7).out.mono ?_
                rintro e w6 ⟨rfl, hb8⟩
                have hb9 := hb7.trans (hb8.mono hb7.size)
                clear hb8 hb7 hf0
                go_wp2_with fail
                refine (hf1 _ hb9).out.mono ?_
                rintro e w7 ⟨rfl, hb10⟩
                have hb11 := hb9.trans (hb10.mono hb9.size)
                clear hb10 hb9 hf1
                go_wp2
                go_ret
                exact ⟨by simp <;> omega, hb11⟩
              · have hn' : (((dueOf l t).length : Int) == 0) = false := by rw [beq_eq_false_iff_ne]; omega
                clear hn hall
                generalize (dueOf l t).length = n at *
                go_wp2
                go_ret
                exact ⟨by simp <;> omega, hb7⟩
    · have hr' : (rightOf l != 0) = true := by simp [hr]
      clear hr
      go_wp2
      go_ret
      exact ⟨rfl, hb⟩

set_option maxRecDepth 100000 in
theorem lifted (os : Os) (started : os.Started) (H : Type) (enc : TypeId × Value → H) :
    ReturnsInHanded {} Try.checked os 9 .any (Rows.brakeLoadsSpec.pre6 enc Try.prog Try.f9 Rows.brakeLoadsRow.domain false) (Rows.brakeLoadsSpec.post enc Try.prog Try.f9 false true false false) := by
  refine returnsInHanded_of_change_sized (C := Try.checked) own started (by kernel_rfl) Try.func9
    (ChangeSpec.witness6 (enc := enc) (C := Try.checked) false ⟨#[], #[.slice none 0 0, .int .i64 0, .int .i64 0, .int .u16 0], []⟩ 8 (by kernel_rfl) (by kernel_rfl) (by kernel_rfl) (by kernel_rfl)) ?_
  intro W base args ds gs before hval0 hW hcnd hsz0 _
  have hval : ∀ (j : Nat) t v, Try.f9.params[j]? = some t → args[j]? = some v → Value.okWide Try.prog W .any base t v := hval0
  refine law_post laidOut (by kernel_rfl) Try.underlying4 rfl rfl hW (fun hn => ?_) ?_
  · match ds, hn with
    | [_, _, _, _], _ => rfl
  obtain ⟨p, q, hA0, hV, rfl, _, _⟩ := hW
  have hA : DataW.TrodAll enc Try.prog W 0 (fun _ => true) true Try.f9.params.toList args.toList ds p := hA0
  obtain ⟨rfl, rfl⟩ := trodVars_none hV
  have hsz : (DataW.weightsEach Try.prog (Try.f9.params.toList ++ []) (ds ++ [])).all (· ≤ reachBytes) = true := hsz0
  rw [Try.params9] at hA hval hsz
  obtain ⟨v0, vs0, d0, ds0, p0, q0, hargs, rfl, rfl, h0, r0⟩ := trodAll_cons hA
  obtain ⟨v1, vs1, d1, ds1, p1, q1, rfl, rfl, rfl, h1, r1⟩ := trodAll_cons r0
  obtain ⟨v2, vs2, d2, ds2, p2, q2, rfl, rfl, rfl, h2, r2⟩ := trodAll_cons r1
  obtain ⟨v3, vs3, d3, ds3, p3, q3, rfl, rfl, rfl, h3, r3⟩ := trodAll_cons r2
  obtain ⟨rfl, rfl, rfl⟩ := trodAll_nil r3
  obtain rfl : args = #[v0, v1, v2, v3] := by cases args; simp_all
  obtain ⟨A0, c0, l0, rfl, hm0, hi0, hL0⟩ := open_brakes (hval 0 22 v0 rfl rfl) h0
  obtain ⟨x1, rfl, w1⟩ := open_i Try.underlying3 (hval 1 3 v1 rfl rfl) h1
  obtain ⟨x2, rfl, w2⟩ := open_i Try.underlying3 (hval 2 3 v2 rfl rfl) h2
  obtain ⟨x3, rfl, w3⟩ := open_i Try.underlying43 (hval 3 43 v3 rfl rfl) h3
  exact walk A0 c0 l0 x1 x2 x3 W hm0 hi0 (hL0.reach hsz (j := 0) rfl rfl Try.underlying22) w1 w2 w3
theorem over : Rows.brakeLoadsRow.holds Try.pinned (OpenSpec.ofChange Rows.brakeLoadsSpec) :=
  OpenClaim.holds_of_wide 9 Try.f9 rfl rfl rfl rfl rfl rfl rfl ⟨rfl, rfl, rfl, rfl, rfl⟩ rfl rfl rfl rfl rfl (by kernel_rfl) Try.func9 (by kernel_rfl)
    (of_decide_eq_true (by kernel_rfl)) (by unfold Func.isWrapper; first | (rw [if_pos (by decide +kernel)]; kernel_rfl) | (rw [if_neg (by decide +kernel)]; exact ⟨rfl, rfl⟩))
    (fun os started H enc _ => lifted os started H enc)
theorem proved : Rows.BrakeLoadsSaid := over
#print axioms proved
end Go.Proofs.Ytgmkfjgkpakhfaa.brakeLoads
