/- BrakeExpires: a test of a brake counts for one week and no longer, and changes no other brake; no condition. -/
import Derived.Test.YtgmkfjgkpakhfaaLaw0
import Derived.Test.YtgmkfjgkpakhfaaPlain4
import Derived.Deep.QuietTactic
import Derived.BigQuiet
import Derived.Test.YtgmkfjgkpakhfaaAbove
import Derived.Deep.DeepCutAuto
namespace Go.Proofs.Ytgmkfjgkpakhfaa.brakeExpires
open Go.RowKit Go.ChangeShapes Go.WideShapes Go.ChangeAt
set_option linter.unusedVariables false
structure Tried where
  id : Int
  m : Int
  t : Int
  later : Int
def Tried.val (o : Tried) : Value := .agg #[.int .i64 o.id, .int .i64 o.m, .int .i64 o.t, .int .i64 o.later]
def Tried.I (o : Tried) : Prop := I64 o.id ∧ I64 o.m ∧ I64 o.t ∧ I64 o.later
theorem open_tried {H : Type} {enc : TypeId × Value → H} {w : World} {base : Nat} {spare : Nat → Bool} {held : Bool} {r : Reach} {b0 : Nat} {v : Value} {d : DataW H} {p : List MemPlace} (hv : Value.okWide Try.prog w r b0 41 v) (h : DataW.Trod enc Try.prog w base spare held 41 v d p) :
    ∃ x : Tried, v = x.val ∧ x.I := by
  obtain ⟨l, hl, rfl, hI⟩ := open_agg (fs := _) Try.underlying41 (by kernel_rfl) (by kernel_rfl) (by kernel_rfl) hv h
  match l, hl with
  | [a0, a1, a2, a3], _ => exact ⟨⟨a0, a1, a2, a3⟩, rfl, hI a0 (by simp), hI a1 (by simp), hI a2 (by simp), hI a3 (by simp)⟩
theorem neq_eq (b : Bool) : (b != b) = false := by cases b <;> rfl
set_option maxRecDepth 100000 in
set_option maxHeartbeats 4000000 in
theorem walk (A : Option Addr) (c : Nat) (l : List Brake) (o : Tried) (w : World) (_hm : l.length ≤ c ∧ c ≤ maxLen) (h : Brakes w A l ∧ ∀ x ∈ l, x.I) (_hr : l.length * Try.prog.bytesOf 32 ≤ reachBytes) (hoI : o.I) : Calls Try.prog 8 #[.slice A l.length c, o.val] w fun e w' => e = .returned (.bool true) ∧ Below w.heap.size w w' := by
  have hI : AllI l := h.2
  have h := h.1
  obtain ⟨id, m, t, later⟩ := o
  obtain ⟨_, _, _, hlI⟩ := hoI
  unfold Tried.val
  have HB := below_alloc w (.cells #[.int .i64 id, .int .i64 m, .int .i64 t, .int .i64 later] 41)
  have k0 : (w.alloc (.cells #[.int .i64 id, .int .i64 m, .int .i64 t, .int .i64 later] 41)).cell? ⟨w.heap.size, 0, none⟩ = some (.int .i64 id) := by go_simp
  have k1 : (w.alloc (.cells #[.int .i64 id, .int .i64 m, .int .i64 t, .int .i64 later] 41)).cell? ⟨w.heap.size, 1, none⟩ = some (.int .i64 m) := by go_simp
  have k2 : (w.alloc (.cells #[.int .i64 id, .int .i64 m, .int .i64 t, .int .i64 later] 41)).cell? ⟨w.heap.size, 2, none⟩ = some (.int .i64 t) := by go_simp
  have k3 : (w.alloc (.cells #[.int .i64 id, .int .i64 m, .int .i64 t, .int .i64 later] 41)).cell? ⟨w.heap.size, 3, none⟩ = some (.int .i64 later) := by go_simp
  by_cases h8 : 8 < l.length
  · go_enter Try.func8, Try.ntmps8
    go_wp2_with (go_at_call 10; refine (alive_any _).mono ?_; rintro e w1 ⟨rfl, hb1⟩)
    go_ret
    exact ⟨rfl, HB.trans (hb1.mono HB.size)⟩
  · go_enter Try.func8, Try.ntmps8
    go_wp2_with fail
    refine (alive_any _).mono ?_
    rintro e w1 ⟨rfl, hb1⟩
    have hb := HB.trans (hb1.mono HB.size)
    replace k0 := cell_later hb1 k0
    replace k1 := cell_later hb1 k1
    replace k2 := cell_later hb1 k2
    replace k3 := cell_later hb1 k3
    clear hb1 HB
    go_wp2_with fail
    refine (Right_any A c l w1 (by omega) _hm.1 (h.below hb)).mono ?_
    rintro e w2 ⟨rfl, hb2⟩
    replace k0 := cell_later hb2 k0
    replace k1 := cell_later hb2 k1
    replace k2 := cell_later hb2 k2
    replace k3 := cell_later hb2 k3
    have hbb := hb.trans (hb2.mono hb.size)
    clear hb2 hb _hm _hr
    by_cases hr : rightOf l = 0
    · have hr' : (rightOf l != 0) = false := by simp [hr]
      have hT := fun W (hW : Below w.heap.size w W) => Lib.hid (Test_any A c l id m t W (by omega) (h.below hW))
      by_cases he : (testOf l id m t).2 = 0
      · obtain ⟨k, hk, hf, hto, hm0, hm1, ht0, ht1⟩ := test_ok he
        rw [hto] at hT
        have hki := findF_id hk hf
        have hids := fun (i : Nat) (hi : i < l.length) => Lib.hid (show i ≠ k → l[i].id ≠ id from fun hne hh => hne (right_ids hr hi hk (hh.trans hki.symm)))
        have hin := fun (i : Nat) (hi : i < l.length) => Lib.hid (right_in hr _ (List.getElem_mem hi))
        have hsl := setF_length l k m t
        have hat := fun (i : Nat) (hi : i < l.length) => Lib.hid (setF_at (i := k) (m := m) (t := t) hi)
        have hII := fun (i : Nat) (hi : i < l.length) => Lib.hid (hI _ (List.getElem_mem hi))
        clear hr he hf hto
        go_wp2_with fail
        refine (hT _ hbb).out.mono ?_
        rintro e w3 ⟨A3, c3, rfl, hx, hb3⟩
        replace k0 := cell_later hb3 k0
        replace k1 := cell_later hb3 k1
        replace k2 := cell_later hb3 k2
        replace k3 := cell_later hb3 k3
        have hb4 := hbb.trans (hb3.mono hbb.size)
        clear hb3 hbb hT
        have hx := Lib.hid hx
        have HSL := Lib.hid hsl
        rw [hsl]
        clear hsl
        go_wp2_with fail
        have hlen : (setF l k m t).length = l.length := HSL.out
        go_loopw [7, 8] (fun a i wr => ∃ (j : Nat), j ≤ l.length ∧ i = .int .i64 j ∧ a = .int .i64 (if k < j then 1 else 0) ∧ Below w3.heap.size w3 wr) (fun _ i _ => l.length - (intOf i).toNat)
        case atStart => exact ⟨0, Nat.zero_le _, rfl, by simp, Below.refl _ _⟩
        case round =>
          obtain ⟨j, hj, rfl, rfl, hbr⟩ := hrel
          have hbw := hb4.trans (hbr.mono hb4.size)
          have k0' := cell_later hbr k0
          have k1' := cell_later hbr k1
          have k2' := cell_later hbr k2
          have k3' := cell_later hbr k3
          by_cases hlt : j < l.length
          · obtain ⟨b, off, rfl, hc⟩ := h (by omega)
            obtain ⟨h0, h1, h2, h3, h4⟩ := hc j hlt
            obtain ⟨b2, off2, rfl, hc2⟩ := hx.out (by omega)
            obtain ⟨g0, g1, g2, g3, g4⟩ := hc2 j (by omega)
            rw [(hat j hlt).out] at g0 g1 g2 g3 g4
            have h0' := cell_later hbw h0
            have h1' := cell_later hbw h1
            have h2' := cell_later hbw h2
            have h3' := cell_later hbw h3
            have h4' := cell_later hbw h4
            have g0' := cell_later hbr g0
            have g1' := cell_later hbr g1
            have g2' := cell_later hbr g2
            have g3' := cell_later hbr g3
            have g4' := cell_later hbr g4
            clear h0 h1 h2 h3 h4 g0 g1 g2 g3 g4 hc hc2 k0 k1 k2 k3 hat hx HSL hlen
            have hid := hids j hlt
            have hiI := (hII j hlt).out
            have hinj := (hin j hlt).out
            clear hids hII hin
            by_cases hjk : k = j
            · subst hjk
              rw [if_pos rfl] at g0' g1' g2' g3' g4'
              simp only [Nat.lt_irrefl, if_false]
              have hxid : (l[k].id != id) = false := by rw [hki]; simp
              have hvI : Brake.I { l[k] with tested := t, measured := m } := ⟨hiI.1, hiI.2.1, hiI.2.2.1, (show I64 t by unfold I64; omega), (show I64 m by unfold I64; omega)⟩
              have hv := fun W => Valid_any { l[k] with tested := t, measured := m } later W hvI hlI
              have hvs := valid_set l[k] m t later ht0
              rw [hvs] at hv
              unfold Brake.val at hv
              have hfr : 1 ≤ l[k].force ∧ l[k].force ≤ 10000000 := by simp only [inR, decide_eq_true_eq] at hinj; omega
              clear hid hki hvI hiI hinj hvs hI
              generalize l[k] = x at *
              have w1e : IntKind.i64.wrap (10 * m) = 10 * m := IntWalk.i64_in _ (by omega)
              have w2e : IntKind.i64.wrap (9 * x.force) = 9 * x.force := IntWalk.i64_in _ (by omega)
              have w3e : IntKind.i64.wrap (t + 604800) = t + 604800 := IntWalk.i64_in _ (by omega)
              have e2 : (x.force != x.force) = false := by simp
              have e1 : (x.kind != x.kind) = false := by simp
              have e3 : (t != t) = false := by simp
              have e4 : (m != m) = false := by simp
              have M : l.length - (k + 1) < l.length - k := by omega
              replace hv := fun W => Lib.hid (hv W)
              have HBR := Lib.hid hbr
              go_wp2_with fail
              go_quiet (fail)
              go_wp2_with fail
              go_quiet (fail)
              go_upto_region 19 with (fail)
              clear h3' h4' hbw hbr w1e w2e hb4 hxid hfr
              go_cut [9, 10] (fun s u wx => s = .bool (decide (9 * x.force ≤ 10 * m)) ∧ u = .bool (decide (t ≤ later) && decide (later < t + 604800)) ∧ ∃ n, wx = wr.drewN n)
              case first =>
                have ho : later < t ∨ t ≤ later ∧ (later < t + 604800 ∨ t + 604800 ≤ later) := by omega
                rcases ho with ho | ⟨ho, ho2 | ho2⟩
                all_goals
                  go_wp2
                  go_meet
                  refine ⟨?_, ?_, _, rfl⟩
                  · first | rfl | (congr 1; rw [Bool.eq_iff_iff]; simp; done)
                  · congr 1
                    rw [Bool.eq_iff_iff]
                    simp
                    try omega
              case rest =>
                obtain ⟨rfl, rfl, nn, rfl⟩ := hcut
                generalize (decide (t ≤ later) && decide (later < t + 604800)) = cc at *
                have ec : (cc != cc) = false := neq_eq cc
                clear w3e hm0 hm1 ht0 ht1 hlt hj h8 hr'
                generalize decide (9 * x.force ≤ 10 * m) = ss at *
                cases ss
                all_goals
                  simp only [Bool.true_and, Bool.false_and] at hv
                  go_wp2_with fail
                  have k0a := fun x => above_cell (w := wr.drewN nn) k0' x
                  have k1a := fun x => above_cell (w := wr.drewN nn) k1' x
                  have k2a := fun x => above_cell (w := wr.drewN nn) k2' x
                  have k3a := fun x => above_cell (w := wr.drewN nn) k3' x
                  have h0a := fun x => above_cell (w := wr.drewN nn) h0' x
                  have h1a := fun x => above_cell (w := wr.drewN nn) h1' x
                  have h2a := fun x => above_cell (w := wr.drewN nn) h2' x
                  have g0a := fun x => above_cell (w := wr.drewN nn) g0' x
                  have g1a := fun x => above_cell (w := wr.drewN nn) g1' x
                  have g2a := fun x => above_cell (w := wr.drewN nn) g2' x
                  have g3a := fun x => above_cell (w := wr.drewN nn) g3' x
                  have g4a := fun x => above_cell (w := wr.drewN nn) g4' x
                  clear k0' k1' k2' k3' h0' h1' h2' g0' g1' g2' g3' g4'
                  refine wp_region_above (by kernel_rfl) (by kernel_rfl) ?_
                  repeat (go_big_quiet_step ((go_at_call 16; exact above_call (hv _).out)))
                  refine wpQuiet_nil ?_
                  rintro _ ⟨y, rfl⟩
                  obtain ⟨y, hy⟩ := y
                  go_wp2
                  go_roundw
                  case rel => exact ⟨k + 1, hk, by go_num, by rw [if_pos (by omega)], (below_dn HBR.out _).trans (hy.mono HBR.out.size)⟩
                  case measure => simp [intOf]; omega
            · rw [if_neg hjk] at g0' g1' g2' g3' g4'
              have hne := hid.out (fun hh => hjk hh.symm)
              have hxid : (l[j].id != id) = true := by simp [hne]
              have hns := l[j].neq_self
              have hcnt : (if k < j + 1 then (1 : Int) else 0) = if k < j then 1 else 0 := by
                by_cases hh : k < j
                · rw [if_pos hh, if_pos (by omega)]
                · rw [if_neg hh, if_neg (by omega)]
              have HC := Lib.hid hcnt
              generalize (if k < j then (1 : Int) else 0) = n at *
              clear hid hne hiI hinj hki hI hcnt
              generalize l[j] = x at *
              go_wp2_with fail
              go_quiet (fail)
              go_wp2_with fail
              go_quiet (fail)
              go_wp2
              go_roundw
              case rel => exact ⟨j + 1, by omega, by go_num, by rw [HC.out], below_dn hbr _⟩
              case measure => simp [intOf]; omega
          · have hke : j = l.length := by omega
            subst hke
            rw [if_pos hk]
            go_wp2
            go_ret
            exact ⟨rfl, hbw⟩
      · have hne : ((testOf l id m t).2 != 0) = true := by simpa using he
        have hq := test_err he
        clear he hr
        generalize testOf l id m t = q at *
        obtain ⟨q1, q2⟩ := q
        simp only at hq hne
        subst hq
        go_wp2_with fail
        refine (hT _ hbb).out.mono ?_
        rintro e w3 ⟨A3, c3, rfl, hx, hb3⟩
        have hb4 := hbb.trans (hb3.mono hbb.size)
        simp only [List.length_nil]
        go_wp2
        go_ret
        exact ⟨rfl, hb4⟩
    · have hr' : (rightOf l != 0) = true := by simp [hr]
      clear hr
      go_wp2
      go_ret
      exact ⟨rfl, hbb⟩

set_option maxRecDepth 100000 in
theorem lifted (os : Os) (started : os.Started) (H : Type) (enc : TypeId × Value → H) :
    ReturnsInHanded {} Try.checked os 8 .any (Rows.brakeExpiresSpec.pre6 enc Try.prog Try.f8 Rows.brakeExpiresRow.domain false) (Rows.brakeExpiresSpec.post enc Try.prog Try.f8 false true false false) := by
  refine returnsInHanded_of_change_sized (C := Try.checked) own started (by kernel_rfl) Try.func8
    (ChangeSpec.witness6 (enc := enc) (C := Try.checked) false ⟨#[], #[.slice none 0 0, Tried.val ⟨0, 0, 0, 0⟩], []⟩ 8 (by kernel_rfl) (by kernel_rfl) (by kernel_rfl) (by kernel_rfl)) ?_
  intro W base args ds gs before hval0 hW hcnd hsz0 _
  have hval : ∀ (j : Nat) t v, Try.f8.params[j]? = some t → args[j]? = some v → Value.okWide Try.prog W .any base t v := hval0
  refine law_post laidOut (by kernel_rfl) Try.underlying4 rfl rfl hW (fun hn => ?_) ?_
  · match ds, hn with
    | [_, _], _ => rfl
  obtain ⟨p, q, hA0, hV, rfl, _, _⟩ := hW
  have hA : DataW.TrodAll enc Try.prog W 0 (fun _ => true) true Try.f8.params.toList args.toList ds p := hA0
  obtain ⟨rfl, rfl⟩ := trodVars_none hV
  have hsz : (DataW.weightsEach Try.prog (Try.f8.params.toList ++ []) (ds ++ [])).all (· ≤ reachBytes) = true := hsz0
  rw [Try.params8] at hA hval hsz
  obtain ⟨v0, vs0, d0, ds0, p0, q0, hargs, rfl, rfl, h0, r0⟩ := trodAll_cons hA
  obtain ⟨v1, vs1, d1, ds1, p1, q1, rfl, rfl, rfl, h1, r1⟩ := trodAll_cons r0
  obtain ⟨rfl, rfl, rfl⟩ := trodAll_nil r1
  obtain rfl : args = #[v0, v1] := by cases args; simp_all
  obtain ⟨A0, c0, l0, rfl, hm0, hi0, hL0⟩ := open_brakes (hval 0 22 v0 rfl rfl) h0
  obtain ⟨x1, rfl, w1⟩ := open_tried (hval 1 41 v1 rfl rfl) h1
  exact walk A0 c0 l0 x1 W hm0 hi0 (hL0.reach hsz (j := 0) rfl rfl Try.underlying22) w1
theorem over : Rows.brakeExpiresRow.holds Try.pinned (OpenSpec.ofChange Rows.brakeExpiresSpec) :=
  OpenClaim.holds_of_wide 8 Try.f8 rfl rfl rfl rfl rfl rfl rfl ⟨rfl, rfl, rfl, rfl, rfl⟩ rfl rfl rfl rfl rfl (by kernel_rfl) Try.func8 (by kernel_rfl)
    (of_decide_eq_true (by kernel_rfl)) (by unfold Func.isWrapper; first | (rw [if_pos (by decide +kernel)]; kernel_rfl) | (rw [if_neg (by decide +kernel)]; exact ⟨rfl, rfl⟩))
    (fun os started H enc _ => lifted os started H enc)
theorem proved : Rows.BrakeExpiresSaid := over
#print axioms proved
end Go.Proofs.Ytgmkfjgkpakhfaa.brakeExpires
