/- Contracts: the reference's find and Valid. -/
import Derived.Test.YtidlbhheakhkhaaW10
namespace Go.Proofs.Ytidlbhheakhkhaa
open Go.RowKit Go.Deep Go.Shelf
set_option linter.unusedVariables false
theorem find_need (l : List Sec) (n : Int) : secOf (needOf l) n = l.find? fun s => s.people != 0 && s.id == n := by
  unfold secOf needOf
  rw [List.find?_filter]
  congr 1
  funext a
  by_cases h1 : a.people = 0 <;> by_cases h2 : a.id = n <;> simp [h1, h2]
theorem find_at {l : List Sec} {f : Sec → Bool} {k : Nat} (hk : k < l.length) (hno : ∀ x ∈ l.take k, f x = false) (h : f l[k] = true) : l.find? f = some l[k] := by
  rw [List.find?_eq_some_iff_getElem]
  refine ⟨h, k, hk, rfl, fun j hj => ?_⟩
  have := hno l[j] (by rw [List.mem_take_iff_getElem]; exact ⟨j, by omega, rfl⟩)
  simp [this]
def FindPost (w : World) (r : Option Sec) (e : Ending) (w' : World) : Prop := ∃ s : Sec, e = .returned (.tuple #[s.val, .bool r.isSome]) ∧ (∀ q, r = some q → s = q) ∧ Below w.heap.size w w'
set_option maxHeartbeats 2000000 in
theorem find_any (A : Option Addr) (c : Nat) (l : List Sec) (n : Int) (w : World) (hm : l.length ≤ 1000000) (h : Secs w A l) :
    Calls Try.prog 33 #[.slice A l.length c, .int .i64 n] w (FindPost w (secOf (needOf l) n)) := by
  rw [find_need]
  have hB0 := Blk.new w #[.int .i64 0, .int .i64 0, .int .i64 0] 39
  have hbA := below_alloc w (.cells #[.int .i64 0, .int .i64 0, .int .i64 0] 39)
  have HB := Lib.hid (And.intro hB0 hbA)
  have h1 := h.below hbA
  have H0 := Lib.hid h
  clear hB0 hbA h
  go_enter Try.func33, Try.ntmps33
  go_wp2_with fail
  generalize w.alloc (.cells #[.int .i64 0, .int .i64 0, .int .i64 0] 39) = w1 at *
  go_loopw [6] (fun i wr => ∃ k : Nat, k ≤ l.length ∧ i = .int .i64 k ∧ (∀ x ∈ l.take k, (x.people != 0 && x.id == n) = false) ∧ w1 = wr) (fun i _ => l.length - (intOf i).toNat)
  case atStart => exact ⟨0, Nat.zero_le _, rfl, fun x hx => by simp at hx, rfl⟩
  case round =>
    obtain ⟨k, hk, rfl, hno, rfl⟩ := hrel
    have Hno := Lib.hid hno
    clear hno
    have f0 := HB.out.1.frozen 0
    have f1 := HB.out.1.frozen 1
    have f2 := HB.out.1.frozen 2
    have c0 := HB.out.1.cell 0 (v := .int .i64 0) rfl
    have c1 := HB.out.1.cell 1 (v := .int .i64 0) rfl
    have c2 := HB.out.1.cell 2 (v := .int .i64 0) rfl
    by_cases hlt : k < l.length
    · obtain ⟨b, off, rfl, hc⟩ := h1 (by omega)
      obtain ⟨g0, g1, g2⟩ := hc k hlt
      have hlt2 : b ≠ w.heap.size := by
        obtain ⟨_, _, e, q⟩ := H0.out (by omega)
        injection e with e
        injection e with e1 e2
        subst e1
        have := World.block_lt_of_cell? _ _ (q k hlt).1
        simp only at this
        omega
      have hat := fun hh => find_at (f := fun s => s.people != 0 && s.id == n) hlt Hno.out hh
      have Hat := Lib.hid hat
      have htk : l.take (k + 1) = l.take k ++ [l[k]] := List.take_succ_eq_append_getElem hlt
      have Htk := Lib.hid htk
      clear hat htk hc
      generalize l[k] = x at *
      cases h3 : (x.id == n)
      · have hf : (x.people != 0 && x.id == n) = false := by rw [h3]; simp
        have Hf := Lib.hid hf
        clear hf Hat
        go_wp2
        go_roundw
        case rel =>
          refine ⟨k + 1, by omega, by go_num, ?_, trivial⟩
          rw [Htk.out]
          intro y hy
          rcases List.mem_append.1 hy with h | h
          · exact Hno.out y h
          · simp at h; subst h; exact Hf.out
        case measure => simp [intOf]; omega
      · cases h4 : (x.people != 0)
        · have hf : (x.people != 0 && x.id == n) = false := by rw [h4]; simp
          have Hf := Lib.hid hf
          clear hf Hat
          go_wp2
          go_roundw
          case rel =>
            refine ⟨k + 1, by omega, by go_num, ?_, trivial⟩
            rw [Htk.out]
            intro y hy
            rcases List.mem_append.1 hy with h | h
            · exact Hno.out y h
            · simp at h; subst h; exact Hf.out
          case measure => simp [intOf]; omega
        · have hf : (x.people != 0 && x.id == n) = true := by rw [h4, h3]; rfl
          have Hfi := Lib.hid (Hat.out hf)
          clear hf Hat Hno Htk
          go_wp2
          refine bodyPost_ret (v := .tuple #[.agg #[.int .i64 x.id, .int .i64 x.people, .int .i64 x.seconds], .bool true]) ?_ rfl ?_
          · rw [results_cell_tmp rfl]
            go_simp
          · rw [Hfi.out]
            exact ⟨x, rfl, fun q hq => by injection hq, ((HB.out.2.setCell (Nat.le_refl _) _).setCell (Nat.le_refl _) _).setCell (Nat.le_refl _) _⟩
    · have hke : k = l.length := by omega
      subst hke
      have hn := Hno.out
      rw [List.take_length] at hn
      have hfi : (l.find? fun s => s.people != 0 && s.id == n) = none := List.find?_eq_none.2 fun x hx => by simp [hn x hx]
      have Hfi := Lib.hid hfi
      clear hn Hno hfi
      go_wp2
      refine bodyPost_ret (v := .tuple #[.agg #[.int .i64 0, .int .i64 0, .int .i64 0], .bool false]) ?_ rfl ?_
      · rw [results_cell_tmp rfl]
        go_simp
      · rw [Hfi.out]
        exact ⟨Sec.zero, rfl, fun q hq => by simp at hq, ((HB.out.2.setCell (Nat.le_refl _) _).setCell (Nat.le_refl _) _).setCell (Nat.le_refl _) _⟩
set_option maxHeartbeats 8000000 in
set_option maxRecDepth 100000 in
theorem refValid_any (A C : Option Addr) (c d : Nat) (l : List Sec) (T : Int) (js : List Job) (hl : l.length ≤ 8) (hm : js.length ≤ 1000000) (hjI : ∀ x ∈ js, x.I) (w : World) (hS : Secs w A l) (hJ : Jobs w C js) :
    Calls Try.prog 18 #[.slice A l.length c, .int .i64 T, .slice C js.length d] w fun e w' => e = .returned (.bool (validOf l T js)) ∧ Below w.heap.size w w' := by
  have q1 := Lib.hid (need_any A c l w (by omega) hS)
  have hnl := need_length l
  have hv : validOf l T js = (decide (js.length = (needOf l).length) && allTo (P3 (needOf l) T) [] js) := valid_ref _ _ _
  have HV := Lib.hid hv
  have HF := Lib.hid (fun n W (hW : Below w.heap.size w W) => find_any A c l n W (by omega) (hS.below hW))
  clear hv hS
  go_enter Try.func18, Try.ntmps18
  go_wp2_with fail
  refine q1.out.mono ?_
  rintro e w1 ⟨A1, c1, rfl, hc1, _, hb1⟩
  clear q1
  generalize needOf l = h at *
  by_cases hlen : js.length = h.length
  · have hvv : validOf l T js = allTo (P3 h T) [] js := by rw [HV.out, decide_eq_true hlen]; simp
    have HVV := Lib.hid hvv
    have hlenI : ((js.length : Int) != (h.length : Int)) = false := by simp [hlen]
    clear hvv hlen HV
    go_wp2_with fail
    go_loopw [7] (fun i wr => ∃ (k : Nat), k ≤ js.length ∧ i = .int .i64 k ∧ allTo (P3 h T) [] js = allTo (P3 h T) (js.take k) (js.drop k) ∧ Below w.heap.size w wr) (fun i _ => js.length - (intOf i).toNat)
    case atStart => exact ⟨0, Nat.zero_le _, rfl, rfl, hb1⟩
    case round =>
      obtain ⟨k, hk, rfl, he, hb⟩ := hrel
      by_cases hlt : k < js.length
      · rw [allTo_step _ hlt] at he
        have He := Lib.hid he
        clear he
        have hxI := hjI _ (List.getElem_mem hlt)
        have Hat := Lib.hid (fun j (hj : j < js.length) W (hW : Below w.heap.size w W) => (hJ.below hW).at hj)
        obtain ⟨b, off, rfl, h0, h1, h2, h3⟩ := (hJ.below hb).at hlt
        generalize js[k] = x at *
        go_upto_region 7 with (fail)
        have hO := Blk.new wr #[.int .i64 x.team, .int .i64 x.sec, .int .i64 x.from_, .int .i64 x.to_] 43
        have hbo := hb.alloc hb.size (.cells #[.int .i64 x.team, .int .i64 x.sec, .int .i64 x.from_, .int .i64 x.to_] 43)
        clear h0 h1 h2 h3 hb
        generalize wr.alloc (.cells #[.int .i64 x.team, .int .i64 x.sec, .int .i64 x.from_, .int .i64 x.to_] 43) = wo at *
        have o1 := hO.cell 1 (v := .int .i64 x.sec) rfl
        have hP : ∀ s, secOf h x.sec = some s → P3 h T (js.take k) x = ((teamOk T x && timeOk s.seconds x) && !(js.take k).any fun b => same1 b x || over1 b x) := fun s hs => by unfold P3 jobOk; rw [hs]
        have hPn : secOf h x.sec = none → P3 h T (js.take k) x = false := fun hs => by unfold P3 jobOk; rw [hs]; rfl
        have hfin : P3 h T (js.take k) x = false → validOf l T js = false := fun hh => by rw [HVV.out, He.out, hh]; simp
        have HP := Lib.hid hP
        have HPN := Lib.hid hPn
        have HFIN := Lib.hid hfin
        clear hP hPn hfin
        have hq := Lib.hid (HF.out x.sec wo hbo)
        generalize secOf h x.sec = r at *
        go_wp2_with fail
        refine hq.out.mono ?_
        rintro e w3 ⟨s, rfl, hsq, hb3⟩
        replace hO := hO.below hb3
        replace hbo := hbo.trans (hb3.mono hbo.size)
        clear hq hb3 o1
        unfold Sec.val
        cases r with
        | none =>
          have hfl := Lib.hid (HFIN.out (HPN.out rfl))
          clear HFIN HP HPN He HVV Hat HF hsq
          have hba := hbo.alloc hbo.size (.cells #[.int .i64 s.id, .int .i64 s.people, .int .i64 s.seconds] 39)
          clear hbo hO
          simp only [Option.isSome_none]
          go_wp2
          go_ret
          exact ⟨by rw [hfl.out]; rfl, hba⟩
        | some q =>
          obtain rfl := hsq q rfl
          have hba := hbo.alloc hbo.size (.cells #[.int .i64 s.id, .int .i64 s.people, .int .i64 s.seconds] 39)
          have hka := below_alloc w3 (.cells #[.int .i64 s.id, .int .i64 s.people, .int .i64 s.seconds] 39)
          have hN := Blk.new w3 #[.int .i64 s.id, .int .i64 s.people, .int .i64 s.seconds] 39
          simp only [Option.isSome_some]
          replace hO := hO.below hka
          clear hbo hsq hka
          go_upto_region 8 with (fail)
          generalize w3.alloc (.cells #[.int .i64 s.id, .int .i64 s.people, .int .i64 s.seconds] 39) = wa at *
          have o0 := hO.cell 0 (v := .int .i64 x.team) rfl
          have o1 := hO.cell 1 (v := .int .i64 x.sec) rfl
          have o2 := hO.cell 2 (v := .int .i64 x.from_) rfl
          have o3 := hO.cell 3 (v := .int .i64 x.to_) rfl
          have s2 := hN.cell 2 (v := .int .i64 s.seconds) rfl
          have hI2 := hxI.2.2.1
          have hI3 := hxI.2.2.2
          unfold I64 at hI2 hI3
          clear hN
          rcases (show x.team < 1 ∨ 1 ≤ x.team ∧ (T < x.team ∨ x.team ≤ T ∧ (x.from_ < 0 ∨ 0 ≤ x.from_ ∧ (x.to_ < x.from_ ∨ x.from_ ≤ x.to_))) by omega) with p1 | ⟨p1, p2 | ⟨p2, p3 | ⟨p3, p4 | p4⟩⟩⟩
          · have hfl := Lib.hid (HFIN.out (by rw [HP.out _ rfl]; unfold teamOk; simp; omega))
            clear HFIN HP HPN He HVV Hat HF hI2 hI3
            go_wp2
            go_ret
            exact ⟨by rw [hfl.out]; rfl, hba⟩
          · have hfl := Lib.hid (HFIN.out (by rw [HP.out _ rfl]; unfold teamOk; simp; omega))
            clear HFIN HP HPN He HVV Hat HF hI2 hI3
            go_wp2
            go_ret
            exact ⟨by rw [hfl.out]; rfl, hba⟩
          · have hfl := Lib.hid (HFIN.out (by rw [HP.out _ rfl]; unfold timeOk; simp; omega))
            clear HFIN HP HPN He HVV Hat HF hI2 hI3
            go_wp2
            go_ret
            exact ⟨by rw [hfl.out]; rfl, hba⟩
          · have hfl := Lib.hid (HFIN.out (by rw [HP.out _ rfl]; unfold timeOk; simp; omega))
            clear HFIN HP HPN He HVV Hat HF hI2 hI3
            have hlw : decide (x.to_ < x.from_) = true := decide_eq_true p4
            have hlw2 : decide (x.from_ < 0) = false := decide_eq_false (by omega)
            clear p4 p3
            go_wp2
            go_ret
            exact ⟨by rw [hfl.out]; rfl, hba⟩
          · have hadw : IntKind.i64.wrap (x.to_ - x.from_) = x.to_ - x.from_ := IntWalk.i64_in _ (by omega)
            cases hh : (x.to_ - x.from_ != s.seconds) with
            | true =>
              have hfl := Lib.hid (HFIN.out (by rw [HP.out _ rfl]; unfold timeOk; simp at hh ⊢; omega))
              clear HFIN HP HPN He HVV Hat HF
              go_wp2
              go_ret
              exact ⟨by rw [hfl.out]; rfl, hba⟩
            | false =>
              have hp1 : P3 h T (js.take k) x = !(js.take k).any fun b => same1 b x || over1 b x := by rw [HP.out _ rfl]; unfold teamOk timeOk; simp at hh ⊢; omega
              have HP1 := Lib.hid hp1
              clear hp1 HP HPN
              go_wp2_with fail
              clear hI2 hI3 p1 p2 p3 p4 hadw hh
              go_loopw [11] (fun i wx => ∃ (j : Nat), j ≤ k ∧ i = .int .i64 j ∧ ((js.take j).any fun b => same1 b x || over1 b x) = false ∧ Below wa.heap.size wa wx) (fun i _ => k - (intOf i).toNat)
              case atStart => exact ⟨0, Nat.zero_le _, rfl, rfl, Below.refl _ _⟩
              case round =>
                obtain ⟨j, hj, rfl, hno, hb⟩ := hrel
                by_cases hlj : j < k
                · have hsu : ((js.take (j + 1)).any fun b => same1 b x || over1 b x) = (((js.take j).any fun b => same1 b x || over1 b x) || (same1 js[j] x || over1 js[j] x)) := by
                    rw [List.take_succ_eq_append_getElem (by omega), List.any_append]; simp
                  rw [hno, Bool.false_or] at hsu
                  have hmono : (same1 js[j] x || over1 js[j] x) = true → ((js.take k).any fun b => same1 b x || over1 b x) = true := fun h => by
                    rw [List.any_eq_true]
                    exact ⟨js[j], by rw [List.mem_take_iff_getElem]; exact ⟨j, by omega, rfl⟩, h⟩
                  obtain ⟨b', off', e, g0, g1, g2, g3⟩ := Hat.out j (by omega) _ (hba.trans (hb.mono hba.size))
                  injection e with e
                  injection e with e1 e2
                  subst e1 e2
                  have Hsu := Lib.hid hsu
                  have Hmono := Lib.hid hmono
                  have hbw := hb.alloc hb.size (.cells #[.int .i64 js[j].team, .int .i64 js[j].sec, .int .i64 js[j].from_, .int .i64 js[j].to_] 43)
                  have hjl : (j : Int) < (js.length : Int) := by omega
                  replace o0 := cell_later hb o0
                  replace o1 := cell_later hb o1
                  replace o2 := cell_later hb o2
                  replace o3 := cell_later hb o3
                  clear hsu hmono hno hb hO s2
                  generalize js[j] = y at *
                  replace o0 := cell_later (below_alloc wr (.cells #[.int .i64 y.team, .int .i64 y.sec, .int .i64 y.from_, .int .i64 y.to_] 43)) o0
                  replace o1 := cell_later (below_alloc wr (.cells #[.int .i64 y.team, .int .i64 y.sec, .int .i64 y.from_, .int .i64 y.to_] 43)) o1
                  replace o2 := cell_later (below_alloc wr (.cells #[.int .i64 y.team, .int .i64 y.sec, .int .i64 y.from_, .int .i64 y.to_] 43)) o2
                  replace o3 := cell_later (below_alloc wr (.cells #[.int .i64 y.team, .int .i64 y.sec, .int .i64 y.from_, .int .i64 y.to_] 43)) o3
                  rcases (show (y.sec == x.sec) = true ∨ (y.sec == x.sec) = false ∧ ((y.team == x.team) = false ∨ (y.team == x.team) = true ∧ (x.to_ ≤ y.from_ ∨ y.from_ < x.to_ ∧ (y.to_ ≤ x.from_ ∨ x.from_ < y.to_))) by
                    cases y.sec == x.sec <;> cases y.team == x.team <;> simp; omega) with hs | ⟨hs, hc | ⟨hc, hc1 | ⟨hc1, hc2 | hc2⟩⟩⟩
                  · have hfl := Lib.hid (HFIN.out (by rw [HP1.out, Hmono.out (by unfold same1; rw [hs]; rfl)]; rfl))
                    have HBQ := Lib.hid (hba.trans (hbw.mono hba.size))
                    clear Hsu Hmono Hat He HFIN HP1 HVV hbw
                    go_wp2
                    go_ret
                    exact ⟨by rw [hfl.out]; rfl, HBQ.out⟩
                  · have hsf := Lib.hid (show ((js.take (j + 1)).any fun b => same1 b x || over1 b x) = false by
                      rw [Hsu.out]; unfold same1 over1; rw [hs, hc]; rfl)
                    clear Hsu Hmono Hat He HFIN HP1 HVV
                    go_wp2
                    go_roundw
                    case rel => exact ⟨j + 1, by omega, by go_num, hsf.out, hbw⟩
                    case measure => simp [intOf]; omega
                  · have hsf := Lib.hid (show ((js.take (j + 1)).any fun b => same1 b x || over1 b x) = false by
                      rw [Hsu.out]; unfold same1 over1; rw [hs, hc, decide_eq_false (by omega : ¬ y.from_ < x.to_)]; rfl)
                    clear Hsu Hmono Hat He HFIN HP1 HVV
                    go_wp2
                    go_roundw
                    case rel => exact ⟨j + 1, by omega, by go_num, hsf.out, hbw⟩
                    case measure => simp [intOf]; omega
                  · have hsf := Lib.hid (show ((js.take (j + 1)).any fun b => same1 b x || over1 b x) = false by
                      rw [Hsu.out]; unfold same1 over1; rw [hs, hc, decide_eq_true hc1, decide_eq_false (by omega : ¬ x.from_ < y.to_)]; rfl)
                    clear Hsu Hmono Hat He HFIN HP1 HVV
                    go_wp2
                    go_roundw
                    case rel => exact ⟨j + 1, by omega, by go_num, hsf.out, hbw⟩
                    case measure => simp [intOf]; omega
                  · have hfl := Lib.hid (HFIN.out (by rw [HP1.out, Hmono.out (by unfold same1 over1; rw [hs, hc, decide_eq_true hc1, decide_eq_true hc2]; rfl)]; rfl))
                    have HBQ := Lib.hid (hba.trans (hbw.mono hba.size))
                    clear Hsu Hmono Hat He HFIN HP1 HVV hbw
                    go_wp2
                    go_ret
                    exact ⟨by rw [hfl.out]; rfl, HBQ.out⟩
                · have hje : j = k := by omega
                  subst hje
                  have hp2 : P3 h T (js.take j) x = true := by rw [HP1.out, hno]; rfl
                  have he2 := He.out
                  rw [hp2, Bool.true_and] at he2
                  have He2 := Lib.hid he2
                  have hbq := hba.trans (hb.mono hba.size)
                  clear hno hp2 he2 He HP1 HFIN Hat hba hb o0 o1 o2 o3 s2 hO
                  go_wp2
                  go_roundw
                  case rel => exact ⟨j + 1, by omega, by go_num, He2.out, hbq⟩
                  case measure => simp [intOf]; omega
      · have hke : k = js.length := by omega
        subst hke
        rw [allTo_end] at he
        have hv2 : validOf l T js = true := by rw [HVV.out, he]
        have HV2 := Lib.hid hv2
        clear hv2 he HVV HF
        go_wp2
        go_ret
        exact ⟨by rw [HV2.out]; rfl, hb⟩
  · have hvv : validOf l T js = false := by rw [HV.out, decide_eq_false hlen]; simp
    have HVV := Lib.hid hvv
    have hlenI : ((js.length : Int) != (h.length : Int)) = true := by simp; omega
    clear hvv hlen HV
    go_wp2
    go_ret
    exact ⟨by rw [HVV.out]; rfl, hb1⟩
end Go.Proofs.Ytidlbhheakhkhaa
