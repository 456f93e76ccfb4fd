/- PipeMonotone: for accepted pipes, draws and root: drawing less at any node lowers no pressure, and makes no other pressure too low; no condition. -/
import Derived.Test.YthhjnplegdmidaaLaw0
import Derived.Test.YthhjnplegdmidaaW17
namespace Go.Proofs.Ythhjnplegdmidaa.pipeMonotone
open Go.RowKit Go.ChangeShapes Go.WideShapes Go.ChangeAt
set_option linter.unusedVariables false
set_option maxRecDepth 100000 in
set_option maxHeartbeats 4000000 in
theorem walk (A : Option Addr) (c : Nat) (l : List Pipe) (C : Option Addr) (d : Nat) (ds : List Draw) (E : Option Addr) (q : Nat) (need : List Draw) (root : Int) (L : Option Addr) (f : Nat) (less : List Int) (w : World) (_hm : l.length ≤ c ∧ c ≤ maxLen) (h : Pipes w A l ∧ ∀ x ∈ l, x.I) (hr : l.length * Try.prog.bytesOf 45 ≤ reachBytes)
    (_hm2 : ds.length ≤ d ∧ d ≤ maxLen) (h2 : Draws w C ds ∧ ∀ x ∈ ds, x.I) (hr2 : ds.length * Try.prog.bytesOf 42 ≤ reachBytes) (_hm3 : need.length ≤ q ∧ q ≤ maxLen) (h3 : Draws w E need ∧ ∀ x ∈ need, x.I) (hr3 : need.length * Try.prog.bytesOf 42 ≤ reachBytes)
    (_h1 : (Lit.int .i64 root).wf = true) (_hm4 : less.length ≤ f ∧ f ≤ maxLen) (h4 : U16s w L less ∧ ∀ x ∈ less, 0 ≤ x ∧ x ≤ 65535) (hr4 : less.length * Try.prog.bytesOf 43 ≤ reachBytes) :
    Calls Try.prog 7 #[.slice A l.length c, .slice C ds.length d, .slice E need.length q, .int .i64 root, .slice L less.length f] w fun e w' => e = .returned (.bool true) ∧ Below w.heap.size w w' := by
  have h := h.1
  have h2 := h2.1
  have h3 := h3.1
  have hlb := Lib.hid h4.2
  have h4 := h4.1
  have hr := len_ok hr
  have hr2 := len_ok2 hr2
  have hr3 := len_ok2 hr3
  have hr4 := len_ok3 hr4
  clear _hm _hm2 _hm3 _h1 _hm4
  cases ha : accB l ds root with
  | false =>
    have HA := Lib.hid ha
    clear ha
    go_enter Try.func7, Try.ntmps7
    go_wp2_with fail
    refine (alive_any _).mono ?_
    rintro e w1 ⟨rfl, hb1⟩
    go_wp2_with fail
    refine (accepted_any A C c d l ds root w1 (by omega) (by omega) (h.below hb1) (h2.below hb1)).mono ?_
    rintro e w2 ⟨rfl, hb2⟩
    rw [HA.out]
    have hb := hb1.trans (hb2.mono hb1.size)
    clear hb1 hb2 HA
    go_wp2
    go_ret
    exact ⟨rfl, hb⟩
  | true =>
    obtain ⟨hg, hl, hd, hp, ht, hro, hfl⟩ := acc_use ha
    have HA := Lib.hid ha
    have HFL := Lib.hid hfl
    clear ha hfl
    by_cases hn : 100 < need.length
    · go_enter Try.func7, Try.ntmps7
      go_wp2_with fail
      refine (alive_any _).mono ?_
      rintro e w1 ⟨rfl, hb1⟩
      go_wp2_with fail
      refine (accepted_any A C c d l ds root w1 (by omega) (by omega) (h.below hb1) (h2.below hb1)).mono ?_
      rintro e w2 ⟨rfl, hb2⟩
      rw [HA.out]
      have hb := hb1.trans (hb2.mono hb1.size)
      clear hb1 hb2 HA
      go_wp2
      go_ret
      exact ⟨rfl, hb⟩
    · go_enter Try.func7, Try.ntmps7
      go_wp2_with fail
      refine (alive_any _).mono ?_
      rintro e w1 ⟨rfl, hb1⟩
      go_wp2_with fail
      refine (accepted_any A C c d l ds root w1 (by omega) (by omega) (h.below hb1) (h2.below hb1)).mono ?_
      rintro e w2 ⟨rfl, hb2⟩
      rw [HA.out]
      have hb := hb1.trans (hb2.mono hb1.size)
      clear hb1 hb2 HA
      have hs := (h2.below hb).src.alloc (.cells #[] 42)
      have RL := Lib.hid (Draw.row_len ds)
      have m1 := Lib.hid (show ds.length = (ds.map Draw.row).length by simp)
      have t1 := Lib.hid (show ([] : List (List Int)).length + (ds.map Draw.row).length = ds.length by simp)
      have n1 := Lib.hid (show ([] : List (List Int)).length + (ds.map Draw.row).length ≤ maxLen by simp [maxLen]; omega)
      have n2 := Lib.hid (show (([] : List (List Int)).length + (ds.map Draw.row).length) * 16 ≤ 140737488355328 by simp; omega)
      have hbk := hb.alloc hb.size (.cells #[] 42)
      go_wp2_with (at_builtin; refine wpList_append_rows _ (by rfl) (.tmp 31) (.tmp 32) 27 (by rfl) w.heap.size 42 (.agg #[.int .i64 0, .int .i64 0]) 2 16 Try.underlying27 Draw.info rfl (Nat.zero_lt_succ _) (.slice (some ⟨w2.heap.size, 0, none⟩) 0 0) [] (by rfl) (OwnR.made w2 w.heap.size 42 2 hb.size) C d ds.length (ds.map Draw.row) (by rfl) m1.out RL.out hs n1.out n2.out hbk.size ds.length (ds.map Draw.row) t1.out rfl ?_)
      intro A3 c3 w3 own3 hg3 hat3
      have hb3 : Below w.heap.size w w3 := hbk.grown hg3 hbk.size (fun k hk => by simp [Value.ownBlock] at hk; subst hk; exact hb.size)
      have hdr := Lib.hid (Draws.of_src own3.src)
      have hpos : Hid (0 < ds.length → ∃ g, A3 = some ⟨g, 0, none⟩ ∧ FewIs w3 w.heap.size g ds) := Lib.hid (fun hp => by
        rcases own3.own.2 with ⟨e, h0⟩ | ⟨g, cap, cur, e, hbb, hgg, _⟩
        · rw [List.length_map] at h0; omega
        · injection e with e1 e2 e3
          subst e1
          exact ⟨g, rfl, hbb, Draws.of_src own3.src, fun off => by simp [World.frozen?, hgg]⟩)
      clear hg3 hat3 own3 hs RL m1 t1 n1 n2 hbk hb
      have hdr0 : Hid (Draws w3 A3 (fewK ds less 0)) := by rw [fewK_zero]; exact hdr
      have hpos0 : Hid (0 < ds.length → ∃ g, A3 = some ⟨g, 0, none⟩ ∧ FewIs w3 w.heap.size g (fewK ds less 0)) := by rw [fewK_zero]; exact hpos
      clear hdr hpos
      have HC := Lib.hid h4
      clear h4
      go_wp2_with fail
      go_loopw [12] (fun i wr => ∃ k : Nat, k ≤ ds.length ∧ k ≤ less.length ∧ i = .int .i64 k ∧ Below w.heap.size w wr ∧ Hid (Draws wr A3 (fewK ds less k)) ∧ Hid (0 < ds.length → ∃ g, A3 = some ⟨g, 0, none⟩ ∧ FewIs wr w.heap.size g (fewK ds less k))) (fun i _ => ds.length - (intOf i).toNat)
      case atStart => exact ⟨0, Nat.zero_le _, Nat.zero_le _, rfl, hb3, hdr0, hpos0⟩
      case round =>
        clear hb3 hdr0 hpos0
        obtain ⟨k, hk, hk2, rfl, hb, hdr, hpos⟩ := hrel
        by_cases hgo : k < ds.length ∧ k < less.length
        · obtain ⟨hk3, hk4⟩ := hgo
          obtain ⟨g, rfl, hfew⟩ := hpos.out (by omega)
          have hst := fewK_step ds less hk3 hk4
          have hlk : k < (fewK ds less k).length := by rw [fewK_length]; exact hk3
          have hat := fewK_at ds less hk3
          have hfb := HFL.out ds[k] (List.getElem_mem hk3)
          have hub := hlb.out less[k] (List.getElem_mem hk4)
          obtain ⟨f1, f2, f3⟩ := hfew
          obtain ⟨b0, o0, e0, hc0⟩ := f2 (by omega)
          injection e0 with e0
          injection e0 with e1 e2
          subst e1
          subst e2
          obtain ⟨c0, c1⟩ := hc0 k hlk
          rw [hat] at c0 c1
          have hfw : FewIs wr.drew w.heap.size g (fewK ds less k) := ⟨f1, f2, f3⟩
          have hset := hfw.set hlk (max 0 (ds[k].flow - less[k]))
          rw [hat, hst] at hset
          have hmx : max 0 (ds[k].flow - less[k]) = if less[k] < ds[k].flow then ds[k].flow - less[k] else 0 := by split <;> omega
          rw [hmx] at hset
          have HSET := Lib.hid hset
          have f4 := f3 (k * 2 + 1)
          have HBS := Lib.hid (hb.drew.setCell (p := ⟨g, k * 2 + 1, none⟩) f1 (.int .i64 (if less[k] < ds[k].flow then ds[k].flow - less[k] else 0)))
          obtain ⟨bl, ol, rfl, hcl⟩ := HC.out (by omega)
          have u0 := cell_later hb (hcl k hk4)
          simp only [Nat.zero_add] at c0 c1
          clear hmx hst hat f2 f3 hfw hset hc0 hcl hpos hdr hlk c0
          generalize ds[k].flow = fl at *
          generalize less[k] = le at *
          go_wp2_with fail
          go_still_tail 16, (by kernel_rfl)
          go_wp2
          go_roundw
          case rel => exact ⟨k + 1, by omega, by omega, by go_num, HBS.out, Lib.hid HSET.out.2.1, Lib.hid (fun _ => ⟨g, rfl, HSET.out⟩)⟩
          case measure => simp [intOf]; omega
        · have hld := leD_few (k := k) hp (fun x hx => (hlb.out x hx).1)
          have hfl := fewK_length ds less k
          have hdw := hdr.out
          have ho : ¬ k < ds.length ∨ k < ds.length ∧ ¬ k < less.length := by omega
          clear hpos hdr hgo hk hk2 hlb HFL HC
          generalize fewK ds less k = fw at *
          have hpw := leD_pos hld
          have htw := leD_tot hld
          have hsub := low_sub hg hld root need
          have hmono := fun n => press_mono hg hld root n
          have hpf := fun W n h1 h2 => Lib.hid (Pressure_any A A3 c c3 l fw root n W hl (by omega) hg h1 h2 hpw (by omega) (by omega))
          have hpd := fun W n h1 h2 => Lib.hid (Pressure_any A C c d l ds root n W hl (by omega) hg h1 h2 hp (by omega) (by omega))
          have hlf := fun W h1 h2 h3 => Lib.hid (Low_any A A3 E c c3 q l fw need root W hl (by omega) (by omega) hg h1 h2 h3 hpw (by omega) (by omega))
          have hll := fun W h1 h2 h3 => Lib.hid (Low_any A C E c d q l ds need root W hl (by omega) (by omega) hg h1 h2 h3 hp (by omega) (by omega))
          have hl1 := lowOf_len l (flowsOf l fw) root need
          have hl2 := lowOf_len l (flowsOf l ds) root need
          rw [hfl] at hpf hlf
          have HSUB := Lib.hid (List.isSublist_iff_sublist.2 hsub)
          have HMONO := Lib.hid hmono
          clear hsub hmono hld hpw htw hfl
          have hloop : Hid (∀ n, known l n = true → ∃ a b, pressOf l (flowsOf l ds) root n = (a, true) ∧ pressOf l (flowsOf l fw) root n = (b, true) ∧ a ≤ b) := Lib.hid (fun n hk => by
            have := HMONO.out n
            unfold pressOf at this ⊢
            simp only [hk, if_pos] at this ⊢
            exact ⟨_, _, rfl, rfl, this.2⟩)
          clear HMONO
          have HPF := Lib.hid hpf
          have HPD := Lib.hid hpd
          have HLF := Lib.hid hlf
          have HLL := Lib.hid hll
          have HH := Lib.hid h
          have HH2 := Lib.hid h2
          have HH3 := Lib.hid h3
          clear hpf hpd hlf hll h h2 h3
          rcases ho with ho | ⟨ho, ho2⟩
          all_goals
            go_wp2_with fail
            obtain ⟨W4, hW4⟩ : ∃ W4 : World, W4 = wr := ⟨_, rfl⟩
            rw [← hW4] at hb hdw ⊢
            clear hW4
            go_loopw [13] (fun i wx => ∃ (m : Nat) (z : Int), m ≤ l.length + 1 ∧ z = (m : Int) - 1 ∧ i = .int .i64 z ∧ Below w.heap.size w wx ∧ Below W4.heap.size W4 wx) (fun i _ => ((l.length : Int) - intOf i).toNat)
            case atStart => exact ⟨0, _, by omega, rfl, rfl, hb, Below.refl _ _⟩
            case round =>
              obtain ⟨m, z, hm, hz, rfl, hbx, hb4⟩ := hrel
              by_cases hzl : z < (l.length : Int)
              · obtain ⟨n, hn, hz2⟩ : ∃ n, known l n = true ∧ ((m = 0 ∧ n = 0) ∨ ∃ (_ : 0 < m) (hj : m - 1 < l.length), n = l[m - 1].to_) := by
                  by_cases h0 : m = 0
                  · exact ⟨0, known_zero l, .inl ⟨h0, rfl⟩⟩
                  · exact ⟨l[m - 1].to_, known_to (by omega), .inr ⟨by omega, by omega, rfl⟩⟩
                obtain ⟨a, b, e1, e2, hab⟩ := hloop.out n hn
                have q1 := fun W h1 h2 => Lib.hid ((HPD.out W n h1 h2).out)
                have q2 := fun W h1 h2 => Lib.hid ((HPF.out W n h1 h2).out)
                rw [e1] at q1
                rw [e2] at q2
                have Q1 := Lib.hid q1
                have Q2 := Lib.hid q2
                clear q1 q2 e1 e2 hn
                rcases hz2 with ⟨rfl, rfl⟩ | ⟨hm0, hj, rfl⟩
                · obtain rfl : z = -1 := by omega
                  clear hz
                  go_wp2_with fail
                  refine (Q1.out _ (HH.out.below hbx) (HH2.out.below hbx)).out.mono ?_
                  rintro e w5 ⟨rfl, hb5⟩
                  have hbx5 := hbx.trans (hb5.mono hbx.size)
                  have hb45 := hb4.trans (hb5.mono hb4.size)
                  clear hb5
                  go_wp2_with fail
                  refine (Q2.out _ (HH.out.below hbx5) (hdw.below hb45)).out.mono ?_
                  rintro e w6 ⟨rfl, hb6⟩
                  have hbx6 := hbx5.trans (hb6.mono hbx5.size)
                  have hb46 := hb45.trans (hb6.mono hb45.size)
                  clear hb6 hbx5 hb45 hbx hb4 Q1 Q2
                  go_wp2
                  go_roundw
                  case rel => exact ⟨1, 0, by omega, by omega, by first | rfl | go_num, hbx6, hb46⟩
                  case measure => first | (simp [intOf]; done) | (simp [intOf]; omega)
                · obtain ⟨j, rfl⟩ : ∃ j, m = j + 1 := ⟨m - 1, by omega⟩
                  obtain rfl : z = (j : Int) := by omega
                  simp only [Nat.add_sub_cancel] at hj Q1 Q2
                  obtain ⟨bp, op, rfl, hcp⟩ := HH.out (by omega)
                  obtain ⟨g0, g1, g2, g3, g4⟩ := hcp j hj
                  have g2' := cell_later hbx g2
                  clear g0 g1 g2 g3 g4 hcp hz
                  generalize l[j].to_ = nd at *
                  go_wp2_with fail
                  refine (Q1.out _ (HH.out.below hbx) (HH2.out.below hbx)).out.mono ?_
                  rintro e w5 ⟨rfl, hb5⟩
                  have hbx5 := hbx.trans (hb5.mono hbx.size)
                  have hb45 := hb4.trans (hb5.mono hb4.size)
                  clear hb5
                  go_wp2_with fail
                  refine (Q2.out _ (HH.out.below hbx5) (hdw.below hb45)).out.mono ?_
                  rintro e w6 ⟨rfl, hb6⟩
                  have hbx6 := hbx5.trans (hb6.mono hbx5.size)
                  have hb46 := hb45.trans (hb6.mono hb45.size)
                  clear hb6 hbx5 hb45 hbx hb4 Q1 Q2 g2'
                  go_wp2
                  go_roundw
                  case rel => exact ⟨j + 2, (j : Int) + 1, by omega, by omega, by first | rfl | go_num, hbx6, hb46⟩
                  case measure => simp [intOf]; omega
              · obtain rfl : z = (l.length : Int) := by omega
                clear hloop HPF HPD hz
                go_wp2_with fail
                refine (HLF.out _ (HH.out.below hbx) (hdw.below hb4) (HH3.out.below hbx)).out.mono ?_
                rintro e w5 ⟨A5, c5, rfl, hi5, hb5⟩
                have hbx5 := hbx.trans (hb5.mono hbx.size)
                go_wp2_with fail
                refine (HLL.out _ (HH.out.below hbx5) (HH2.out.below hbx5) (HH3.out.below hbx5)).out.mono ?_
                rintro e w6 ⟨A6, c6, rfl, hi6, hb6⟩
                have hbx6 := hbx5.trans (hb6.mono hbx5.size)
                have hi5' := hi5.below hb6
                clear hb5 hb6 hi5 hbx hbx5 hb4
                generalize lowOf l (flowsOf l fw) root need = la at *
                generalize lowOf l (flowsOf l ds) root need = lb at *
                have hpa := Lib.hid (part_any A5 A6 c5 c6 la lb w6 (by omega) (by omega) hi5' hi6)
                rw [HSUB.out] at hpa
                clear hi5' hi6 HSUB
                go_wp2_with fail
                refine hpa.out.mono ?_
                rintro e w7 ⟨rfl, hb7⟩
                have hbx7 := hbx6.trans (hb7.mono hbx6.size)
                clear hpa hb7
                go_wp2
                go_ret
                exact ⟨rfl, hbx7⟩

set_option maxRecDepth 100000 in
theorem lifted (os : Os) (started : os.Started) (H : Type) (enc : TypeId × Value → H) :
    ReturnsInHanded {} Try.checked os 7 .any (Rows.pipeMonotoneSpec.pre6 enc Try.prog Try.f7 Rows.pipeMonotoneRow.domain false) (Rows.pipeMonotoneSpec.post enc Try.prog Try.f7 false true false false) := by
  refine returnsInHanded_of_change_sized (C := Try.checked) own started (by kernel_rfl) Try.func7
    (ChangeSpec.witness6 (enc := enc) (C := Try.checked) false ⟨#[], #[.slice none 0 0, .slice none 0 0, .slice none 0 0, .int .i64 0, .slice none 0 0], []⟩ 8 (by kernel_rfl) (by kernel_rfl) (by kernel_rfl) (by kernel_rfl)) ?_
  intro W base args ds gs before hval0 hW hcnd hsz0 _
  have hval : ∀ (j : Nat) t v, Try.f7.params[j]? = some t → args[j]? = some v → Value.okWide Try.prog W .any base t v := hval0
  refine law_post laidOut (by kernel_rfl) Try.underlying4 rfl rfl hW (fun hn => ?_) ?_
  · match ds, hn with
    | [_, _, _, _, _], _ => rfl
  obtain ⟨p, q, hA0, hV, rfl, _, _⟩ := hW
  have hA : DataW.TrodAll enc Try.prog W 0 (fun _ => true) true Try.f7.params.toList args.toList ds p := hA0
  obtain ⟨rfl, rfl⟩ := trodVars_none hV
  have hsz : (DataW.weightsEach Try.prog (Try.f7.params.toList ++ []) (ds ++ [])).all (· ≤ reachBytes) = true := hsz0
  rw [Try.params7] at hA hval hsz
  obtain ⟨v0, vs0, d0, ds0, p0, q0, hargs, rfl, rfl, h0, r0⟩ := trodAll_cons hA
  obtain ⟨v1, vs1, d1, ds1, p1, q1, rfl, rfl, rfl, h1, r1⟩ := trodAll_cons r0
  obtain ⟨v2, vs2, d2, ds2, p2, q2, rfl, rfl, rfl, h2, r2⟩ := trodAll_cons r1
  obtain ⟨v3, vs3, d3, ds3, p3, q3, rfl, rfl, rfl, h3, r3⟩ := trodAll_cons r2
  obtain ⟨v4, vs4, d4, ds4, p4, q4, rfl, rfl, rfl, h4, r4⟩ := trodAll_cons r3
  obtain ⟨rfl, rfl, rfl⟩ := trodAll_nil r4
  obtain rfl : args = #[v0, v1, v2, v3, v4] := by cases args; simp_all
  obtain ⟨A0, c0, l0, rfl, hm0, hi0, hL0⟩ := open_pipes (hval 0 22 v0 rfl rfl) h0
  obtain ⟨A1, c1, l1, rfl, hm1, hi1, hL1⟩ := open_draws (hval 1 27 v1 rfl rfl) h1
  obtain ⟨A2, c2, l2, rfl, hm2, hi2, hL2⟩ := open_draws (hval 2 27 v2 rfl rfl) h2
  obtain ⟨x3, rfl, w3⟩ := open_i Try.underlying3 (hval 3 3 v3 rfl rfl) h3
  obtain ⟨A4, c4, l4, rfl, hm4, hi4, hL4⟩ := open_less (hval 4 40 v4 rfl rfl) h4
  exact walk A0 c0 l0 A1 c1 l1 A2 c2 l2 x3 A4 c4 l4 W hm0 hi0 (hL0.reach hsz (j := 0) rfl rfl Try.underlying22) hm1 hi1 (hL1.reach hsz (j := 1) rfl rfl Try.underlying27) hm2 hi2 (hL2.reach hsz (j := 2) rfl rfl Try.underlying27) w3 hm4 hi4 (hL4.reach hsz (j := 4) rfl rfl Try.underlying40)
theorem over : Rows.pipeMonotoneRow.holds Try.pinned (OpenSpec.ofChange Rows.pipeMonotoneSpec) :=
  OpenClaim.holds_of_wide 7 Try.f7 rfl rfl rfl rfl rfl rfl rfl ⟨rfl, rfl, rfl, rfl, rfl⟩ rfl rfl rfl rfl rfl (by kernel_rfl) Try.func7 (by kernel_rfl)
    (of_decide_eq_true (by kernel_rfl)) (by unfold Func.isWrapper; first | (rw [if_pos (by decide +kernel)]; kernel_rfl) | (rw [if_neg (by decide +kernel)]; exact ⟨rfl, rfl⟩))
    (fun os started H enc _ => lifted os started H enc)
theorem proved : Rows.PipeMonotoneSaid := over
#print axioms proved
end Go.Proofs.Ythhjnplegdmidaa.pipeMonotone
