/- PipeAdds: for accepted pipes and draws what flows in a pipe is what is drawn at its end, and what flows on; no condition. -/
import Derived.Test.YthhjnplegdmidaaLaw0
import Derived.Test.YthhjnplegdmidaaW17
namespace Go.Proofs.Ythhjnplegdmidaa.pipeAdds
open Go.RowKit Go.ChangeShapes Go.WideShapes Go.ChangeAt
set_option linter.unusedVariables false
theorem outAt_succ {l : List Pipe} {k : Nat} (hk : k < l.length) (fs : List Int) (n : Int) : outAt l fs n (k + 1) = outAt l fs n k + if l[k].from_ = n then fs.getD k 0 else 0 := by
  rw [outAt]
  have : l.getD k Pipe.zero = l[k] := by simp [List.getD, hk]
  rw [this]
theorem allAt_succ {l : List Pipe} {k : Nat} (hk : k < l.length) (ds : List Draw) : allAt l ds (k + 1) = allAt l ds k + sumAt ds l[k].to_ := by
  rw [allAt]
  have : l.getD k Pipe.zero = l[k] := by simp [List.getD, hk]
  rw [this]
set_option maxRecDepth 100000 in
set_option maxHeartbeats 4000000 in
theorem walk (A : Option Addr) (c : Nat) (l : List Pipe) (C : Option Addr) (d : Nat) (ds : List Draw) (w : World) (_hm : l.length ≤ c ∧ c ≤ maxLen) (h : Pipes w A l ∧ ∀ x ∈ l, x.I) (hr : l.length * Try.prog.bytesOf 45 ≤ reachBytes)
    (_hm2 : ds.length ≤ d ∧ d ≤ maxLen) (h2 : Draws w C ds ∧ ∀ x ∈ ds, x.I) (hr2 : ds.length * Try.prog.bytesOf 42 ≤ reachBytes) :
    Calls Try.prog 8 #[.slice A l.length c, .slice C ds.length d] w fun e w' => e = .returned (.bool true) ∧ Below w.heap.size w w' := by
  have h := h.1
  have h2 := h2.1
  have hr := len_ok hr
  have hr2 := len_ok2 hr2
  clear _hm _hm2
  cases ha : accB l ds 0 with
  | false =>
    have HA := Lib.hid ha
    clear ha
    go_enter Try.func8, Try.ntmps8
    go_wp2_with fail
    refine (alive_any _).mono ?_
    rintro e w1 ⟨rfl, hb1⟩
    go_wp2_with fail
    refine (accepted_any A C c d l ds 0 w1 (by omega) (by omega) (h.below hb1) (h2.below hb1)).mono ?_
    rintro e w2 ⟨rfl, hb2⟩
    rw [HA.out]
    have hb := hb1.trans (hb2.mono hb1.size)
    clear hb1 hb2 HA
    go_wp2
    go_ret
    exact ⟨rfl, hb⟩
  | true =>
    obtain ⟨hg, hl, hd, hp, ht, hro, hfl⟩ := acc_use ha
    have HA := Lib.hid ha
    clear ha hro
    have hfb : ∀ x ∈ flowsOf l ds, 0 ≤ x ∧ x ≤ 20000000 := fun x hx => by have := flowsR_bd hp x hx; omega
    have hout := Lib.hid (fun n k => outAt_bd (l := l) (by omega) hfb n k)
    have hall := Lib.hid (fun k => allAt_bd (l := l) (ds := ds) (m := 20000000) (by omega) (fun n => by have := sumAt_bd hp n; omega) k)
    have HFB := Lib.hid hfb
    have hnode := Lib.hid (fun k hk => flow_node hg ds k hk)
    have hend := Lib.hid (flow_all hg ds)
    clear hfb hfl
    go_enter Try.func8, Try.ntmps8
    go_wp2_with fail
    refine (alive_any _).mono ?_
    rintro e w1 ⟨rfl, hb1⟩
    go_wp2_with fail
    refine (accepted_any A C c d l ds 0 w1 (by omega) (by omega) (h.below hb1) (h2.below hb1)).mono ?_
    rintro e w2 ⟨rfl, hb2⟩
    rw [HA.out]
    have hb := hb1.trans (hb2.mono hb1.size)
    clear hb1 hb2 HA
    go_wp2_with fail
    refine (Flows_any A C c d l ds w2 hl (by omega) hg (h.below hb) (h2.below hb) hp (by omega)).mono ?_
    rintro e w3 ⟨A3, c3, rfl, hi3, hb3⟩
    have hbb := hb.trans (hb3.mono hb.size)
    have HI := Lib.hid hi3
    have HH := Lib.hid h
    have HH2 := Lib.hid h2
    clear hb3 hi3 hb h h2
    go_wp2_with fail
    go_loopw [6, 7, 8] (fun fv av i wr => ∃ k : Nat, k ≤ l.length ∧ i = .int .i64 k ∧ fv = .int .i64 (outAt l (flowsOf l ds) 0 k) ∧ av = .int .i64 (allAt l ds k) ∧ Below w.heap.size w wr ∧ Below w3.heap.size w3 wr) (fun _ _ i _ => l.length - (intOf i).toNat)
    case atStart => exact ⟨0, Nat.zero_le _, rfl, rfl, rfl, hbb, Below.refl _ _⟩
    case round =>
      clear hbb
      obtain ⟨k, hk, rfl, rfl, rfl, hb, hb3⟩ := hrel
      have ha1 := hall.out k
      have ho1 := hout.out 0 k
      obtain ⟨W1, hW1⟩ : ∃ W1 : World, W1 = wr := ⟨_, rfl⟩
      rw [← hW1] at hb hb3 ⊢
      clear hW1
      by_cases hlt : k < l.length
      · have hno := hnode.out k hlt
        have HA1 := Lib.hid (allAt_succ hlt ds)
        have HO1 := Lib.hid (outAt_succ hlt (flowsOf l ds) 0)
        have hkfl : k < (flowsOf l ds).length := by rw [flowsOf_length]; exact hlt
        have hgd : (flowsOf l ds).getD k 0 = (flowsOf l ds)[k] := by simp [List.getD, hkfl]
        have hsb : ∀ j, 0 ≤ sumAt (ds.take j) l[k].to_ ∧ sumAt (ds.take j) l[k].to_ ≤ 20000000 := fun j => by
          have h1 := sumAt_bd (tot_take hp j).1 l[k].to_
          have h2 := (tot_take hp j).2
          omega
        have HSB := Lib.hid hsb
        have hss := Lib.hid (fun j (hj : j < ds.length) => sumAt_succ hj l[k].to_)
        have hos := Lib.hid (fun j (hj : j < l.length) => outAt_succ hj (flowsOf l ds) l[k].to_)
        have hob := Lib.hid (fun j => hout.out l[k].to_ j)
        obtain ⟨fb, foff, rfl, hfc⟩ := HI.out (by omega)
        obtain ⟨bp, op, rfl, hcp⟩ := HH.out (by omega)
        obtain ⟨g0, g1, g2, g3, g4⟩ := hcp k hlt
        replace g1 := cell_later hb g1
        replace g2 := cell_later hb g2
        have f0 := cell_later hb3 (hfc k hkfl)
        have hkf := HFB.out _ (List.getElem_mem hkfl)
        rw [hgd] at hno HO1
        have HNO := Lib.hid hno
        have HCP := Lib.hid (fun j hj => cell_later hb (hcp j hj).2.1)
        have HFC := Lib.hid (fun j hj => cell_later hb3 (hfc j hj))
        clear hno hsb g0 g3 g4 hgd hcp hfc
        generalize l[k].to_ = tt at *
        generalize l[k].from_ = fr at *
        generalize (flowsOf l ds)[k] = F at *
        go_wp2_with fail
        go_loopw [9, 10] (fun sv jv wx => ∃ (j m : Nat), j ≤ ds.length ∧ jv = .int .i64 j ∧ sv = .int .i64 (sumAt (ds.take j) tt) ∧ wx = W1.drewN m) (fun _ jv _ => ds.length - (intOf jv).toNat)
        case atStart => exact ⟨0, 0, Nat.zero_le _, rfl, by simp [sumAt], rfl⟩
        case round =>
          obtain ⟨j, m, hj, rfl, rfl, rfl⟩ := hrel
          have hsj := HSB.out j
          by_cases hjl : j < ds.length
          · have hs := hss.out j hjl
            have hsj1 := HSB.out (j + 1)
            obtain ⟨bd, od, rfl, hcd⟩ := HH2.out (by omega)
            obtain ⟨d0, d1⟩ := hcd j hjl
            replace d0 := cell_later hb d0
            replace d1 := cell_later hb d1
            clear hcd
            generalize ds[j].node = nd at *
            generalize ds[j].flow = fl at *
            by_cases hnd : tt = nd
            · have hnd' : (nd == tt) = true := by simp [hnd]
              rw [if_pos hnd] at hs
              have hfl : 0 ≤ sumAt (ds.take j) tt + fl ∧ sumAt (ds.take j) tt + fl ≤ 20000000 := by rw [← hs]; exact hsj1
              have HS := Lib.hid hs
              clear hs hsj1 hnd
              generalize sumAt (ds.take j) tt = sj at *
              go_wp2_with fail
              go_quiet (fail)
              go_wp2
              go_roundw
              case rel => exact ⟨j + 1, _, by omega, by go_num, by rw [HS.out], rfl⟩
              case measure => simp [intOf]; omega
            · have hnd' : (nd == tt) = false := by simp; exact fun h => hnd h.symm
              rw [if_neg hnd, Int.add_zero] at hs
              have HS := Lib.hid hs
              clear hs hsj1 hnd
              generalize sumAt (ds.take j) tt = sj at *
              go_wp2_with fail
              go_quiet (fail)
              go_wp2
              go_roundw
              case rel => exact ⟨j + 1, _, by omega, by go_num, by rw [HS.out], rfl⟩
              case measure => simp [intOf]; omega
          · have hje : j = ds.length := by omega
            subst hje
            rw [List.take_length] at hsj ⊢
            clear hss HSB
            obtain ⟨S, hS⟩ : ∃ S, S = sumAt ds tt := ⟨_, rfl⟩
            rw [← hS] at hsj HNO HA1 ⊢
            clear hS
            go_wp2_with fail
            go_loopw [9, 11] (fun sv jv wx => ∃ (j m : Nat), j ≤ l.length ∧ jv = .int .i64 j ∧ sv = .int .i64 (S + outAt l (flowsOf l ds) tt j) ∧ wx = W1.drewN m) (fun _ jv _ => l.length - (intOf jv).toNat)
            case atStart => exact ⟨0, _, Nat.zero_le _, rfl, by simp [outAt], rfl⟩
            case round =>
              obtain ⟨j, m2, hj, rfl, rfl, rfl⟩ := hrel
              have hoj := hob.out j
              by_cases hjl : j < l.length
              · have hs := hos.out j hjl
                have hoj1 := hob.out (j + 1)
                have hjfl : j < (flowsOf l ds).length := by rw [flowsOf_length]; exact hjl
                have hgd : (flowsOf l ds).getD j 0 = (flowsOf l ds)[j] := by simp [List.getD, hjfl]
                rw [hgd] at hs
                have k1 := HCP.out j hjl
                have k2 := HFC.out j hjfl
                have hfj := HFB.out _ (List.getElem_mem hjfl)
                clear hgd
                generalize l[j].from_ = nd at *
                generalize (flowsOf l ds)[j] = fl at *
                have hoj2 : outAt l (flowsOf l ds) tt j ≤ 1280000000 := by omega
                by_cases hnd : nd = tt
                · have hnd' : (nd == tt) = true := by simp [hnd]
                  rw [if_pos hnd] at hs
                  have HS := Lib.hid hs
                  clear hs hoj1 hnd hjfl
                  generalize outAt l (flowsOf l ds) tt j = oj at *
                  go_wp2_with fail
                  go_quiet (fail)
                  go_wp2
                  go_roundw
                  case rel => exact ⟨j + 1, _, by omega, by go_num, by rw [HS.out]; go_num, rfl⟩
                  case measure => simp [intOf]; omega
                · have hnd' : (nd == tt) = false := by simpa using hnd
                  rw [if_neg hnd, Int.add_zero] at hs
                  have HS := Lib.hid hs
                  clear hs hoj1 hnd hjfl
                  generalize outAt l (flowsOf l ds) tt j = oj at *
                  go_wp2_with fail
                  go_quiet (fail)
                  go_wp2
                  go_roundw
                  case rel => exact ⟨j + 1, _, by omega, by go_num, by rw [HS.out], rfl⟩
                  case measure => simp [intOf]; omega
              · have hje : j = l.length := by omega
                subst hje
                rw [← HNO.out]
                have ha2 : allAt l ds k + S ≤ 1400000000 := by omega
                have ho2 : outAt l (flowsOf l ds) 0 k ≤ 1280000000 := by omega
                clear hos hob HNO HCP HFC hoj hj
                generalize allAt l ds k = AK at *
                generalize outAt l (flowsOf l ds) 0 k = OK at *
                by_cases hfr : fr = 0
                · have hfr' : (fr == 0) = true := by simp [hfr]
                  have HO2 := Lib.hid (HO1.out.trans (by rw [if_pos hfr]))
                  clear HO1 hfr
                  go_wp2
                  go_roundw
                  case rel => exact ⟨k + 1, by omega, by go_num, by rw [HO2.out], by rw [HA1.out], below_dn hb _, below_dn hb3 _⟩
                  case measure => simp [intOf]; omega
                · have hfr' : (fr == 0) = false := by simpa using hfr
                  have HO2 := Lib.hid (HO1.out.trans (by rw [if_neg hfr, Int.add_zero]))
                  clear HO1 hfr
                  go_wp2
                  go_roundw
                  case rel => exact ⟨k + 1, by omega, by go_num, by rw [HO2.out], by rw [HA1.out], below_dn hb _, below_dn hb3 _⟩
                  case measure => simp [intOf]; omega
      · have hke : k = l.length := by omega
        subst hke
        rw [hend.out]
        clear hend hnode hout hall HI HH HH2 HFB
        go_wp2
        go_ret
        exact ⟨by simp, hb⟩

set_option maxRecDepth 100000 in
theorem lifted (os : Os) (started : os.Started) (H : Type) (enc : TypeId × Value → H) :
    ReturnsInHanded {} Try.checked os 8 .any (Rows.pipeAddsSpec.pre6 enc Try.prog Try.f8 Rows.pipeAddsRow.domain false) (Rows.pipeAddsSpec.post enc Try.prog Try.f8 false true false false) := by
  refine returnsInHanded_of_change_sized (C := Try.checked) own started (by kernel_rfl) Try.func8
    (ChangeSpec.witness6 (enc := enc) (C := Try.checked) false ⟨#[], #[.slice none 0 0, .slice none 0 0], []⟩ 8 (by kernel_rfl) (by kernel_rfl) (by kernel_rfl) (by kernel_rfl)) ?_
  intro W base args ds gs before hval0 hW hcnd hsz0 _
  have hval : ∀ (j : Nat) t v, Try.f8.params[j]? = some t → args[j]? = some v → Value.okWide Try.prog W .any base t v := hval0
  refine law_post laidOut (by kernel_rfl) Try.underlying4 rfl rfl hW (fun hn => ?_) ?_
  · match ds, hn with
    | [_, _], _ => rfl
  obtain ⟨p, q, hA0, hV, rfl, _, _⟩ := hW
  have hA : DataW.TrodAll enc Try.prog W 0 (fun _ => true) true Try.f8.params.toList args.toList ds p := hA0
  obtain ⟨rfl, rfl⟩ := trodVars_none hV
  have hsz : (DataW.weightsEach Try.prog (Try.f8.params.toList ++ []) (ds ++ [])).all (· ≤ reachBytes) = true := hsz0
  rw [Try.params8] at hA hval hsz
  obtain ⟨v0, vs0, d0, ds0, p0, q0, hargs, rfl, rfl, h0, r0⟩ := trodAll_cons hA
  obtain ⟨v1, vs1, d1, ds1, p1, q1, rfl, rfl, rfl, h1, r1⟩ := trodAll_cons r0
  obtain ⟨rfl, rfl, rfl⟩ := trodAll_nil r1
  obtain rfl : args = #[v0, v1] := by cases args; simp_all
  obtain ⟨A0, c0, l0, rfl, hm0, hi0, hL0⟩ := open_pipes (hval 0 22 v0 rfl rfl) h0
  obtain ⟨A1, c1, l1, rfl, hm1, hi1, hL1⟩ := open_draws (hval 1 27 v1 rfl rfl) h1
  exact walk A0 c0 l0 A1 c1 l1 W hm0 hi0 (hL0.reach hsz (j := 0) rfl rfl Try.underlying22) hm1 hi1 (hL1.reach hsz (j := 1) rfl rfl Try.underlying27)
theorem over : Rows.pipeAddsRow.holds Try.pinned (OpenSpec.ofChange Rows.pipeAddsSpec) :=
  OpenClaim.holds_of_wide 8 Try.f8 rfl rfl rfl rfl rfl rfl rfl ⟨rfl, rfl, rfl, rfl, rfl⟩ rfl rfl rfl rfl rfl (by kernel_rfl) Try.func8 (by kernel_rfl)
    (of_decide_eq_true (by kernel_rfl)) (by unfold Func.isWrapper; first | (rw [if_pos (by decide +kernel)]; kernel_rfl) | (rw [if_neg (by decide +kernel)]; exact ⟨rfl, rfl⟩))
    (fun os started H enc _ => lifted os started H enc)
theorem proved : Rows.PipeAddsSaid := over
#print axioms proved
end Go.Proofs.Ythhjnplegdmidaa.pipeAdds
