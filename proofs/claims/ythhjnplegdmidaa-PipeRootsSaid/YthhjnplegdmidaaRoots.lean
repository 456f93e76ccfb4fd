/- PipeRoots: for accepted pipes and draws: if the pressure at the root increases, so does every one, by as much, and each is that at the beginning of its pipe less what is lost; no condition. -/
import Derived.Test.YthhjnplegdmidaaLaw0
import Derived.Test.YthhjnplegdmidaaW17
namespace Go.Proofs.Ythhjnplegdmidaa.pipeRoots
open Go.RowKit Go.ChangeShapes Go.WideShapes Go.ChangeAt
set_option linter.unusedVariables false
theorem press_known {l : List Pipe} {n : Int} (h : known l n = true) (fs : List Int) (root : Int) : pressOf l fs root n = (pR fs root l.reverse n, true) := by
  unfold pressOf
  rw [if_pos h]
set_option maxRecDepth 100000 in
set_option maxHeartbeats 4000000 in
theorem walk (A : Option Addr) (c : Nat) (l : List Pipe) (C : Option Addr) (d : Nat) (ds : List Draw) (root by_ : Int) (w : World) (_hm : l.length ≤ c ∧ c ≤ maxLen) (h : Pipes w A l ∧ ∀ x ∈ l, x.I) (hr : l.length * Try.prog.bytesOf 45 ≤ reachBytes)
    (_hm2 : ds.length ≤ d ∧ d ≤ maxLen) (h2 : Draws w C ds ∧ ∀ x ∈ ds, x.I) (hr2 : ds.length * Try.prog.bytesOf 42 ≤ reachBytes) (_h1 : (Lit.int .i64 root).wf = true) (hby : (Lit.int .u16 by_).wf = true) :
    Calls Try.prog 9 #[.slice A l.length c, .slice C ds.length d, .int .i64 root, .int .u16 by_] w fun e w' => e = .returned (.bool true) ∧ Below w.heap.size w w' := by
  have h := h.1
  have h2 := h2.1
  have hr := len_ok hr
  have hr2 := len_ok2 hr2
  have hby := u16_of_wf hby
  clear _hm _hm2 _h1
  cases ha : accB l ds root with
  | false =>
    have HA := Lib.hid ha
    clear ha
    go_enter Try.func9, Try.ntmps9
    go_wp2_with fail
    refine (alive_any _).mono ?_
    rintro e w1 ⟨rfl, hb1⟩
    go_wp2_with fail
    refine (accepted_any A C c d l ds root w1 (by omega) (by omega) (h.below hb1) (h2.below hb1)).mono ?_
    rintro e w2 ⟨rfl, hb2⟩
    rw [HA.out]
    have hb := hb1.trans (hb2.mono hb1.size)
    clear hb1 hb2 HA
    go_wp2
    go_ret
    exact ⟨rfl, hb⟩
  | true =>
    obtain ⟨hg, hl, hd, hp, ht, hro, hfl⟩ := acc_use ha
    have HA := Lib.hid ha
    clear ha hfl
    by_cases hn : 10000000 < root + by_
    · go_enter Try.func9, Try.ntmps9
      go_wp2_with fail
      refine (alive_any _).mono ?_
      rintro e w1 ⟨rfl, hb1⟩
      go_wp2_with fail
      refine (accepted_any A C c d l ds root w1 (by omega) (by omega) (h.below hb1) (h2.below hb1)).mono ?_
      rintro e w2 ⟨rfl, hb2⟩
      rw [HA.out]
      have hb := hb1.trans (hb2.mono hb1.size)
      clear hb1 hb2 HA
      go_wp2
      go_ret
      exact ⟨rfl, hb⟩
    · have HP := Lib.hid (fun W n x hW hx => Pressure_any A C c d l ds x n W hl (by omega) hg (h.below hW) (h2.below hW) hp (by omega) hx)
      go_enter Try.func9, Try.ntmps9
      go_wp2_with fail
      refine (alive_any _).mono ?_
      rintro e w1 ⟨rfl, hb1⟩
      go_wp2_with fail
      refine (accepted_any A C c d l ds root w1 (by omega) (by omega) (h.below hb1) (h2.below hb1)).mono ?_
      rintro e w2 ⟨rfl, hb2⟩
      rw [HA.out]
      have hb := hb1.trans (hb2.mono hb1.size)
      clear hb1 hb2 HA
      go_wp2_with fail
      refine (Flows_any A C c d l ds w2 hl (by omega) hg (h.below hb) (h2.below hb) hp (by omega)).mono ?_
      rintro e w3 ⟨A3, c3, rfl, hi3, hb3⟩
      have hbb := hb.trans (hb3.mono hb.size)
      have HI := Lib.hid hi3
      have HH := Lib.hid h
      clear hb3 hi3 hb h h2
      go_wp2_with fail
      go_loopw [10] (fun i wr => ∃ k : Nat, k ≤ l.length ∧ i = .int .i64 k ∧ Below w.heap.size w wr ∧ Below w3.heap.size w3 wr) (fun i _ => l.length - (intOf i).toNat)
      case atStart => exact ⟨0, Nat.zero_le _, rfl, hbb, Below.refl _ _⟩
      case round =>
        clear hbb
        obtain ⟨k, hk, rfl, hb, hb3⟩ := hrel
        by_cases hlt : k < l.length
        · have hkt := known_to hlt
          have hkf := known_from hg hlt
          have e1 := press_known hkt (flowsOf l ds) root
          have e2 := press_known hkt (flowsOf l ds) (root + by_)
          have e3 := press_known hkf (flowsOf l ds) root
          have ex := pR_pipe hg (flowsOf l ds) root hlt
          rw [pR_add] at e2
          have hfb : ∀ x ∈ flowsOf l ds, 0 ≤ x ∧ x ≤ 1000000000000 := fun x hx => by have := flowsR_bd hp x hx; omega
          have hpi := fun p (hp : p ∈ l) => pipe_bd (good_in hg p hp)
          have hin := hpi l[k] (List.getElem_mem hlt)
          have hdb := drop_bd hin.1 hin.2 hfb k (pR (flowsOf l ds) root l.reverse l[k].from_)
          have b1 := pR_bd (root := root) hfb l.reverse (fun p hp => hpi p (by simpa using hp)) l[k].from_
          have b2 := pR_bd (root := root) hfb l.reverse (fun p hp => hpi p (by simpa using hp)) l[k].to_
          rw [List.length_reverse] at b1 b2
          have hkfl : k < (flowsOf l ds).length := by rw [flowsOf_length]; exact hlt
          have hgd : (flowsOf l ds).getD k 0 = (flowsOf l ds)[k] := by simp [List.getD, hkfl]
          unfold dropAt at hdb
          rw [hgd] at hdb ex
          have b1' : -7000000000000000 ≤ pR (flowsOf l ds) root l.reverse l[k].from_ ∧ pR (flowsOf l ds) root l.reverse l[k].from_ ≤ 7000000000000000 := by omega
          have b2' : -7000000000000000 ≤ pR (flowsOf l ds) root l.reverse l[k].to_ ∧ pR (flowsOf l ds) root l.reverse l[k].to_ ≤ 7000000000000000 := by omega
          have q1 := fun W hW => HP.out W l[k].to_ root hW (by omega)
          have q2 := fun W hW => HP.out W l[k].to_ (root + by_) hW (by omega)
          have q3 := fun W hW => HP.out W l[k].from_ root hW (by omega)
          rw [e1] at q1
          rw [e2] at q2
          rw [e3] at q3
          have Q1 := Lib.hid q1
          have Q2 := Lib.hid q2
          have Q3 := Lib.hid q3
          clear q1 q2 q3 e1 e2 e3 hkt hkf b1 b2 hgd hfb hpi HP
          obtain ⟨fb, foff, rfl, hfc⟩ := HI.out (by omega)
          obtain ⟨bp, op, rfl, hcp⟩ := HH.out (by omega)
          obtain ⟨g0, g1, g2, g3, g4⟩ := hcp k hlt
          have F0 := Lib.hid (hfc k hkfl)
          have G1 := Lib.hid (cell_later hb g1)
          have G2 := Lib.hid (cell_later hb g2)
          have G3 := Lib.hid (cell_later hb g3)
          have G4 := Lib.hid (cell_later hb g4)
          clear g0 g1 g2 g3 g4 hfc hcp HH HI
          generalize pR (flowsOf l ds) root l.reverse l[k].from_ = CF at *
          generalize pR (flowsOf l ds) root l.reverse l[k].to_ = X at *
          generalize l[k].from_ = fr at *
          generalize l[k].to_ = tt at *
          generalize (flowsOf l ds)[k] = F at *
          generalize l[k].loss = LO at *
          generalize l[k].rise = RI at *
          have EX := Lib.hid ex
          clear ex
          have x2 := G2.out
          go_wp2_with fail
          refine (Q1.out wr hb).mono ?_
          rintro e w5 ⟨rfl, hb5⟩
          have B5 := hb.trans (hb5.mono hb.size)
          have B35 := hb3.trans (hb5.mono hb3.size)
          replace G1 := Lib.hid (cell_later hb5 G1.out)
          replace G2 := Lib.hid (cell_later hb5 G2.out)
          replace G3 := Lib.hid (cell_later hb5 G3.out)
          replace G4 := Lib.hid (cell_later hb5 G4.out)
          clear hb5 x2 hb hb3
          have x2 := G2.out
          go_wp2_with fail
          refine (Q2.out w5 B5).mono ?_
          rintro e w6 ⟨rfl, hb6⟩
          have B6 := B5.trans (hb6.mono B5.size)
          have B36 := B35.trans (hb6.mono B35.size)
          replace G1 := Lib.hid (cell_later hb6 G1.out)
          replace G3 := Lib.hid (cell_later hb6 G3.out)
          replace G4 := Lib.hid (cell_later hb6 G4.out)
          clear hb6 x2 G2 B5 B35
          have x1 := G1.out
          go_wp2_with fail
          refine (Q3.out w6 B6).mono ?_
          rintro e w7 ⟨rfl, hb7⟩
          have B7 := B6.trans (hb7.mono B6.size)
          have B37 := B36.trans (hb7.mono B36.size)
          have x3 := cell_later hb7 G3.out
          have x4 := cell_later hb7 G4.out
          have x5 := cell_later B37 F0.out
          clear hb7 x1 G1 G3 G4 F0 B6 B36 Q1 Q2 Q3
          have hki : (k : Int) < (l.length : Int) := by omega
          have hk0 : (0 : Int) ≤ (k : Int) := by omega
          have n2 : (X + by_ != X + by_) = false := by simp
          have n1 : (X != CF - RI - (LO * F).tdiv 1000) = false := by rw [← EX.out]; simp
          go_wp2_with fail
          go_quiet (fail)
          go_wp2
          go_roundw
          case rel => exact ⟨k + 1, by omega, by go_num, below_dn B7 _, below_dn B37 _⟩
          case measure => simp [intOf]; omega
        · have hke : k = l.length := by omega
          subst hke
          clear HP HI HH
          go_wp2
          go_ret
          exact ⟨rfl, hb⟩

set_option maxRecDepth 100000 in
theorem lifted (os : Os) (started : os.Started) (H : Type) (enc : TypeId × Value → H) :
    ReturnsInHanded {} Try.checked os 9 .any (Rows.pipeRootsSpec.pre6 enc Try.prog Try.f9 Rows.pipeRootsRow.domain false) (Rows.pipeRootsSpec.post enc Try.prog Try.f9 false true false false) := by
  refine returnsInHanded_of_change_sized (C := Try.checked) own started (by kernel_rfl) Try.func9
    (ChangeSpec.witness6 (enc := enc) (C := Try.checked) false ⟨#[], #[.slice none 0 0, .slice none 0 0, .int .i64 0, .int .u16 0], []⟩ 8 (by kernel_rfl) (by kernel_rfl) (by kernel_rfl) (by kernel_rfl)) ?_
  intro W base args ds gs before hval0 hW hcnd hsz0 _
  have hval : ∀ (j : Nat) t v, Try.f9.params[j]? = some t → args[j]? = some v → Value.okWide Try.prog W .any base t v := hval0
  refine law_post laidOut (by kernel_rfl) Try.underlying4 rfl rfl hW (fun hn => ?_) ?_
  · match ds, hn with
    | [_, _, _, _], _ => rfl
  obtain ⟨p, q, hA0, hV, rfl, _, _⟩ := hW
  have hA : DataW.TrodAll enc Try.prog W 0 (fun _ => true) true Try.f9.params.toList args.toList ds p := hA0
  obtain ⟨rfl, rfl⟩ := trodVars_none hV
  have hsz : (DataW.weightsEach Try.prog (Try.f9.params.toList ++ []) (ds ++ [])).all (· ≤ reachBytes) = true := hsz0
  rw [Try.params9] at hA hval hsz
  obtain ⟨v0, vs0, d0, ds0, p0, q0, hargs, rfl, rfl, h0, r0⟩ := trodAll_cons hA
  obtain ⟨v1, vs1, d1, ds1, p1, q1, rfl, rfl, rfl, h1, r1⟩ := trodAll_cons r0
  obtain ⟨v2, vs2, d2, ds2, p2, q2, rfl, rfl, rfl, h2, r2⟩ := trodAll_cons r1
  obtain ⟨v3, vs3, d3, ds3, p3, q3, rfl, rfl, rfl, h3, r3⟩ := trodAll_cons r2
  obtain ⟨rfl, rfl, rfl⟩ := trodAll_nil r3
  obtain rfl : args = #[v0, v1, v2, v3] := by cases args; simp_all
  obtain ⟨A0, c0, l0, rfl, hm0, hi0, hL0⟩ := open_pipes (hval 0 22 v0 rfl rfl) h0
  obtain ⟨A1, c1, l1, rfl, hm1, hi1, hL1⟩ := open_draws (hval 1 27 v1 rfl rfl) h1
  obtain ⟨x2, rfl, w2⟩ := open_i Try.underlying3 (hval 2 3 v2 rfl rfl) h2
  obtain ⟨x3, rfl, w3⟩ := open_i Try.underlying43 (hval 3 43 v3 rfl rfl) h3
  exact walk A0 c0 l0 A1 c1 l1 x2 x3 W hm0 hi0 (hL0.reach hsz (j := 0) rfl rfl Try.underlying22) hm1 hi1 (hL1.reach hsz (j := 1) rfl rfl Try.underlying27) w2 w3
theorem over : Rows.pipeRootsRow.holds Try.pinned (OpenSpec.ofChange Rows.pipeRootsSpec) :=
  OpenClaim.holds_of_wide 9 Try.f9 rfl rfl rfl rfl rfl rfl rfl ⟨rfl, rfl, rfl, rfl, rfl⟩ rfl rfl rfl rfl rfl (by kernel_rfl) Try.func9 (by kernel_rfl)
    (of_decide_eq_true (by kernel_rfl)) (by unfold Func.isWrapper; first | (rw [if_pos (by decide +kernel)]; kernel_rfl) | (rw [if_neg (by decide +kernel)]; exact ⟨rfl, rfl⟩))
    (fun os started H enc _ => lifted os started H enc)
theorem proved : Rows.PipeRootsSaid := over
#print axioms proved
end Go.Proofs.Ythhjnplegdmidaa.pipeRoots
