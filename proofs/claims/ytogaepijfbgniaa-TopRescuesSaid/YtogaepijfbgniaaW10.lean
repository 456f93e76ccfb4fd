/- Contracts: Valid. -/
import Derived.Test.YtogaepijfbgniaaW9
import Derived.Test.YtogaepijfbgniaaPlain6
namespace Go.Proofs.Ytogaepijfbgniaa
open Go.RowKit Go.Deep Go.Shelf
set_option linter.unusedVariables false
theorem info4 : (Try.prog.info? 4).map (fun i => (i.zero, i.size, i.bytes)) = some (some (.bool false), 1, 1) := by kernel_rfl
theorem made_bool (n : Nat) : madeCells #[Value.bool false] n = ((List.replicate n false).map Value.bool).toArray := by
  apply Array.ext
  · simp [size_madeCells]
  · intro i h1 h2
    simp [madeCells, Nat.mod_one]
theorem idx_find {α : Type} (h : List α) (f : α → Bool) : (idxOf h f = -1 ∧ h.find? f = none) ∨ ∃ n, ∃ hn : n < h.length, idxOf h f = (n : Int) ∧ h.find? f = some h[n] ∧ f h[n] = true := by
  unfold idxOf
  cases hq : h.findIdx? f with
  | none =>
    left
    rw [List.findIdx?_eq_none_iff] at hq
    exact ⟨rfl, List.find?_eq_none.2 fun x hx => by simp [hq x hx]⟩
  | some n =>
    right
    obtain ⟨hn, hf, hno⟩ := List.findIdx?_eq_some_iff_getElem.1 hq
    refine ⟨n, hn, rfl, ?_, hf⟩
    rw [List.find?_eq_some_iff_getElem]
    exact ⟨hf, n, hn, rfl, fun j hj => by simpa using hno j hj⟩
def ixOf (h : List Sec) (j : Job) : Int := idxOf h fun q => q.id == j.sec
theorem dup_eq (h : List Sec) (x : Job) {n : Nat} (hn : n < h.length) (hx : ixOf h x = (n : Int)) (hid : (h[n].id == x.sec) = true) (pre : List Job) : (pre.any fun j => ixOf h j == (n : Int)) = pre.any fun b => same1 b x := by
  congr 1
  funext b
  unfold same1
  rw [Bool.eq_iff_iff]
  simp only [beq_iff_eq] at hid ⊢
  constructor
  · intro hb
    rcases idx_find h (fun q => q.id == b.sec) with ⟨h1, _⟩ | ⟨m, hm, h1, _, h3⟩
    · unfold ixOf at hb; rw [h1] at hb; omega
    · unfold ixOf at hb
      rw [h1] at hb
      have : m = n := by omega
      subst this
      simp only [beq_iff_eq] at h3
      omega
  · intro hb
    have e : ixOf h b = ixOf h x := by unfold ixOf; rw [hb]
    rw [e, hx]
theorem Jobs.at {w : World} {A : Option Addr} {l : List Job} (h : Jobs w A l) {k : Nat} (hk : k < l.length) : ∃ b off, A = some ⟨b, off, none⟩ ∧ w.cell? ⟨b, off + k * 4, none⟩ = some (.int .i64 (l[k]).team) ∧ w.cell? ⟨b, off + k * 4 + 1, none⟩ = some (.int .i64 (l[k]).sec) ∧ w.cell? ⟨b, off + k * 4 + 2, none⟩ = some (.int .i64 (l[k]).from_) ∧ w.cell? ⟨b, off + k * 4 + 3, none⟩ = some (.int .i64 (l[k]).to_) := by
  obtain ⟨b, off, rfl, hc⟩ := h (by omega)
  exact ⟨b, off, rfl, hc k hk⟩
set_option maxHeartbeats 8000000 in
set_option maxRecDepth 100000 in
theorem Valid_any (A C : Option Addr) (c d : Nat) (l : List Sec) (T : Int) (js : List Job) (hl : l.length ≤ 8) (hm : js.length ≤ 1000000) (hcap : js.length ≤ d) (hjI : ∀ x ∈ js, x.I) (w : World) (hS : Secs w A l) (hJ : Jobs w C js) :
    Calls Try.prog 7 #[.slice A l.length c, .int .i64 T, .slice C js.length d] w fun e w' => e = .returned (.bool (validOf l T js)) ∧ Below w.heap.size w w' := by
  have q1 := Lib.hid (helpless_any A c l w (by omega) hS)
  have hnl := need_length l
  have hv : validOf l T js = validH (needOf l) T js := rfl
  have HV := Lib.hid hv
  clear hv
  have hn8 : (needOf l).length ≤ 8 := by omega
  go_enter Try.func7, Try.ntmps7
  go_wp2_with fail
  refine q1.out.mono ?_
  rintro e w1 ⟨A1, c1, rfl, hc1, hN, hb1⟩
  clear q1 hS
  have hJ1 := hJ.below hb1
  clear hJ
  generalize needOf l = h at *
  by_cases hlen : js.length = h.length
  · have hvv : validH h T js = (allTo (P1 h T) [] js && allTo P2 [] js) := by unfold validH; rw [decide_eq_true hlen]; simp
    have HVV := Lib.hid hvv
    have hlenI : ((js.length : Int) != (h.length : Int)) = false := by simp [hlen]
    have hmk : ∀ W, (Instr.makeSlice 42 (.int .i64 (h.length : Int)) (.int .i64 (h.length : Int))).run Try.prog W = .ok (.slice (some ⟨W.heap.size, 0, none⟩) h.length h.length) (W.alloc (.cells (madeCells #[Value.bool false] h.length) 4)) := fun W => run_make_row' (P := Try.prog) 42 4 (.bool false) 1 Try.underlying42 info4 rfl .i64 .i64 h.length (by omega) (by omega) W
    have hB0 : Blk (w1.alloc (.cells (madeCells #[Value.bool false] h.length) 4)) w1.heap.size ((doneOf (ixOf h) h.length (js.take 0)).map Value.bool).toArray 4 := by
      rw [List.take_zero, done_nil, ← made_bool]
      exact Blk.new w1 _ 4
    have hbA := below_alloc w1 (.cells (madeCells #[Value.bool false] h.length) 4)
    have HA := Lib.hid (And.intro hB0 hbA)
    have HLEN := Lib.hid hlen
    clear hB0 hbA hvv hlen
    go_wp2_with fail
    go_loopw [28] (fun i wr => ∃ (k : Nat), k ≤ js.length ∧ i = .int .i64 k ∧ allTo (P1 h T) [] js = allTo (P1 h T) (js.take k) (js.drop k) ∧ Blk wr w1.heap.size ((doneOf (ixOf h) h.length (js.take k)).map Value.bool).toArray 4 ∧ Below w1.heap.size w1 wr) (fun i _ => js.length - (intOf i).toNat)
    case atStart => exact ⟨0, Nat.zero_le _, rfl, rfl, HA.out.1, HA.out.2⟩
    case round =>
      obtain ⟨k, hk, rfl, he, hB, hb⟩ := hrel
      by_cases hlt : k < js.length
      · rw [allTo_step _ hlt] at he
        have htk : js.take (k + 1) = js.take k ++ [js[k]] := List.take_succ_eq_append_getElem hlt
        have Htk := Lib.hid htk
        have He := Lib.hid he
        clear he htk
        have hxI := hjI _ (List.getElem_mem hlt)
        obtain ⟨b, off, rfl, h0, h1, h2, h3⟩ := (hJ1.below hb).at hlt
        generalize js[k] = x at *
        go_upto_region 8 with (fail)
        have hq0 := hB.lt
        have hO := Blk.new wr #[.int .i64 x.team, .int .i64 x.sec, .int .i64 x.from_, .int .i64 x.to_] 35
        have hbo := hb.alloc hb.size (.cells #[.int .i64 x.team, .int .i64 x.sec, .int .i64 x.from_, .int .i64 x.to_] 35)
        replace hB := hB.alloc (.cells #[.int .i64 x.team, .int .i64 x.sec, .int .i64 x.from_, .int .i64 x.to_] 35)
        clear h0 h1 h2 h3 hb
        generalize wr.alloc (.cells #[.int .i64 x.team, .int .i64 x.sec, .int .i64 x.from_, .int .i64 x.to_] 35) = wo at *
        have o1 : wo.cell? ⟨wr.heap.size, 1, none⟩ = some (.int .i64 x.sec) := hO.cell 1 rfl
        have hq := IndexSec_any A1 c1 h 16 (fun q => q.id == x.sec) #[.pointer (some ⟨wr.heap.size, 0, none⟩)] wo (by omega) (hN.below hbo) (enters_of Try.func16 (by kernel_rfl) rfl) (fun y W' hW' => Valid1_any y x.sec wr.heap.size W' (cell_later hW' o1))
        have Hq := Lib.hid hq
        have hfd := idx_find h fun q => q.id == x.sec
        have HF := Lib.hid hfd
        have hix : ixOf h x = idxOf h fun q => q.id == x.sec := rfl
        have HIX := Lib.hid hix
        clear hq hfd hix
        generalize (idxOf h fun q => q.id == x.sec) = ix at *
        go_wp2_with fail
        refine Hq.out.mono ?_
        rintro e w3 ⟨rfl, hb3⟩
        replace hO := hO.below hb3
        replace hB := hB.below hb3
        replace hbo := hbo.trans (hb3.mono hbo.size)
        clear Hq hb3 o1
        rcases HF.out with ⟨rfl, hfn⟩ | ⟨n, hn, rfl, hfn, hid⟩
        · have hp : P1 h T (js.take k) x = false := by unfold P1 jobOk secOf; rw [hfn]; rfl
          rw [hp] at He
          have hfin : validOf l T js = false := by rw [HV.out, HVV.out, He.out]; simp
          have HFIN := Lib.hid hfin
          clear hfin hp
          go_wp2
          go_ret
          exact ⟨by rw [HFIN.out]; rfl, hb1.trans (hbo.mono hb1.size)⟩
        · have hdn := done_at (ixOf h) hn (js.take k)
          rw [dup_eq h x hn HIX.out hid] at hdn
          have hp : P1 h T (js.take k) x = ((teamOk T x && timeOk h[n].seconds x) && !(js.take k).any fun b => same1 b x) := by unfold P1 jobOk secOf; rw [hfn]
          have hset := done_set (ixOf h) h.length n (js.take k) x HIX.out
          rw [← Htk.out] at hset
          obtain ⟨b2, off2, rfl, hc⟩ := hN (by omega)
          obtain ⟨_, _, s1⟩ := hc n hn
          have hlt2 := World.block_lt_of_cell? _ _ s1
          simp only at hlt2
          have s2 := cell_later hbo s1
          clear hc hid hfn HF s1
          generalize h[n].seconds = se at *
          have HP := Lib.hid hp
          have HSET := Lib.hid hset
          clear hp hset
          have b1 : w3.cell? ⟨w1.heap.size, n, none⟩ = some (.bool ((js.take k).any fun b => same1 b x)) := hB.cell n (by simp [hdn])
          have f1 : w3.frozen? ⟨w1.heap.size, n, none⟩ = false := hB.frozen n
          have o0 : w3.cell? ⟨wr.heap.size, 0, none⟩ = some (.int .i64 x.team) := hO.cell 0 rfl
          have hni : (n : Int) < (h.length : Int) := by omega
          have hn0 : (0 : Int) ≤ (n : Int) := by omega
          clear hdn
          generalize ((js.take k).any fun b => same1 b x) = dp at *
          have hfin : (P1 h T (js.take k) x = false) → validOf l T js = false := fun hh => by rw [HV.out, HVV.out, He.out, hh]; simp
          have HFIN := Lib.hid hfin
          clear hfin
          have hbz := hb1.trans (hbo.mono hb1.size)
          have HBZ := Lib.hid hbz
          cases dp
          · have ho : x.team < 1 ∨ 1 ≤ x.team ∧ (T < x.team ∨ x.team ≤ T) := by omega
            rcases ho with ho | ⟨p1, ho | ho⟩
            · have hfl := Lib.hid (HFIN.out (by rw [HP.out]; unfold teamOk; simp; omega))
              go_wp2
              go_ret
              exact ⟨by rw [hfl.out]; rfl, HBZ.out⟩
            · have hfl := Lib.hid (HFIN.out (by rw [HP.out]; unfold teamOk; simp; omega))
              go_wp2
              go_ret
              exact ⟨by rw [hfl.out]; rfl, HBZ.out⟩
            · have htm : teamOk T x = true := by unfold teamOk; simp; omega
              rw [htm] at HP
              clear htm
              go_upto_region 12 with (fail)
              have hB2 := hB.set n (.bool true)
              rw [set_toArray, ← List.map_set, ← HSET.out] at hB2
              have hO2 := hO.far ⟨w1.heap.size, n, none⟩ (.bool true) (by show wr.heap.size ≠ w1.heap.size; omega)
              have hbo2 := hbo.setCell (p := ⟨w1.heap.size, n, none⟩) (Nat.le_refl _) (.bool true)
              have s3 : (w3.setCell ⟨w1.heap.size, n, none⟩ (.bool true)).cell? ⟨b2, off2 + n * 3 + 2, none⟩ = some (.int .i64 se) := (grown_set w3 ⟨w1.heap.size, n, none⟩ _).cell s2 (by simp; omega)
              clear hB hO hbo s2 b1 f1 o0
              generalize w3.setCell ⟨w1.heap.size, n, none⟩ (.bool true) = w4 at *
              have o2 : w4.cell? ⟨wr.heap.size, 2, none⟩ = some (.int .i64 x.from_) := hO2.cell 2 rfl
              have o3 : w4.cell? ⟨wr.heap.size, 3, none⟩ = some (.int .i64 x.to_) := hO2.cell 3 rfl
              have hI2 := hxI.2.2.1
              have hI3 := hxI.2.2.2
              unfold I64 at hI2 hI3
              have hbz4 := hb1.trans (hbo2.mono hb1.size)
              clear HBZ hO2
              have hot : x.from_ < 0 ∨ 0 ≤ x.from_ ∧ (x.to_ < x.from_ ∨ x.from_ ≤ x.to_) := by omega
              rcases hot with ho1 | ⟨p2, ho1 | ho1⟩
              · have hfl := Lib.hid (HFIN.out (by rw [HP.out]; unfold timeOk; simp; omega))
                clear HFIN HP
                go_quiet (fail)
                go_wp2
                go_ret
                exact ⟨by rw [hfl.out]; rfl, below_dn hbz4 _⟩
              · have hfl := Lib.hid (HFIN.out (by rw [HP.out]; unfold timeOk; simp; omega))
                clear HFIN HP
                have hlw : decide (x.to_ < x.from_) = true := decide_eq_true ho1
                have hlw2 : decide (x.from_ < 0) = false := decide_eq_false (by omega)
                clear ho1 p2 hI2 hI3
                go_quiet (fail)
                go_wp2
                go_ret
                exact ⟨by rw [hfl.out]; rfl, below_dn hbz4 _⟩
              · have hadw : IntKind.i64.wrap (x.to_ - x.from_) = x.to_ - x.from_ := IntWalk.i64_in _ (by omega)
                cases hh : (x.to_ - x.from_ != se) with
                | true =>
                  have hfl := Lib.hid (HFIN.out (by rw [HP.out]; unfold timeOk; simp at hh ⊢; omega))
                  clear HFIN HP
                  go_quiet (fail)
                  go_wp2
                  go_ret
                  exact ⟨by rw [hfl.out]; rfl, below_dn hbz4 _⟩
                | false =>
                  have hp1 : P1 h T (js.take k) x = true := by rw [HP.out]; unfold timeOk; simp at hh ⊢; omega
                  rw [hp1, Bool.true_and] at He
                  clear hp1 HFIN HP HV
                  go_quiet (fail)
                  go_wp2
                  go_roundw
                  case rel => exact ⟨k + 1, by omega, by go_num, He.out, hB2.drewN _, below_dn hbo2 _⟩
                  case measure => simp [intOf]; omega
          · have hfl := Lib.hid (HFIN.out (by rw [HP.out]; simp))
            go_wp2
            go_ret
            exact ⟨by rw [hfl.out]; rfl, HBZ.out⟩
      · have hke : k = js.length := by omega
        subst hke
        rw [allTo_end] at he
        have hv2 : validOf l T js = allTo P2 [] js := by rw [HV.out, HVV.out, he, Bool.true_and]
        have HV2 := Lib.hid hv2
        have hbz := hb1.trans (hb.mono hb1.size)
        have hJ2 := hJ1.below hb
        clear hv2 he HV HVV HA hmk hB hN HLEN hlenI hb
        go_wp2_with fail
        go_loopw [83] (fun i wx => ∃ (k : Nat), k ≤ js.length ∧ i = .int .i64 k ∧ allTo P2 [] js = allTo P2 (js.take k) (js.drop k) ∧ Below wr.heap.size wr wx) (fun i _ => js.length - (intOf i).toNat)
        case atStart => exact ⟨0, Nat.zero_le _, rfl, rfl, Below.refl _ _⟩
        case round =>
          obtain ⟨k, hk, rfl, he, hb⟩ := hrel
          by_cases hlt : k < js.length
          · rw [allTo_step _ hlt] at he
            have hs := Job.slice_to C js.length d k (by omega) hcap
            have hb0 := hbz.trans (hb.mono hbz.size)
            have hJ3 := hJ2.below hb
            obtain ⟨b, off, rfl, h0, h1, h2, h3⟩ := hJ3.at hlt
            have Hat := Lib.hid (fun j (hj : j < js.length) W (hW : Below wr.heap.size wr W) => (hJ3.below hW).at hj)
            generalize js[k] = x at *
            have He := Lib.hid he
            have HBK := Lib.hid hb
            have HBZ := Lib.hid hbz
            clear he hJ2 hJ3 hJ1 hb hbz hb0
            go_upto_region 18 with (fail)
            have hO := Blk.new wr #[.int .i64 x.team, .int .i64 x.sec, .int .i64 x.from_, .int .i64 x.to_] 35
            have hbo := below_alloc wr (.cells #[.int .i64 x.team, .int .i64 x.sec, .int .i64 x.from_, .int .i64 x.to_] 35)
            clear h0 h1 h2 h3
            have hlw : wr.heap.size < (wr.alloc (.cells #[.int .i64 x.team, .int .i64 x.sec, .int .i64 x.from_, .int .i64 x.to_] 35)).heap.size := by simp
            generalize wr.alloc (.cells #[.int .i64 x.team, .int .i64 x.sec, .int .i64 x.from_, .int .i64 x.to_] 35) = wo at *
            go_wp2_with fail
            go_loopw [92] (fun i wx => ∃ (j : Nat), j ≤ k ∧ i = .int .i64 j ∧ ((js.take j).any fun b => over1 b x) = false ∧ Below wo.heap.size wo wx) (fun i _ => k - (intOf i).toNat)
            case atStart => exact ⟨0, Nat.zero_le _, rfl, rfl, Below.refl _ _⟩
            case round =>
              obtain ⟨j, hj, rfl, hno, hb⟩ := hrel
              by_cases hlj : j < k
              · have hsu : ((js.take (j + 1)).any fun b => over1 b x) = (((js.take j).any fun b => over1 b x) || over1 js[j] x) := by
                  rw [List.take_succ_eq_append_getElem (by omega), List.any_append]; simp
                rw [hno, Bool.false_or] at hsu
                have hmono : over1 js[j] x = true → ((js.take k).any fun b => over1 b x) = true := fun h => by
                  rw [List.any_eq_true]
                  exact ⟨js[j], by rw [List.mem_take_iff_getElem]; exact ⟨j, by omega, rfl⟩, h⟩
                obtain ⟨b', off', e, g0, g1, g2, g3⟩ := Hat.out j (by omega) _ (hbo.trans (hb.mono hbo.size))
                injection e with e
                injection e with e1 e2
                subst e1 e2
                have o0 := cell_later hb (hO.cell 0 (v := .int .i64 x.team) rfl)
                have o2 := cell_later hb (hO.cell 2 (v := .int .i64 x.from_) rfl)
                have o3 := cell_later hb (hO.cell 3 (v := .int .i64 x.to_) rfl)
                have Hsu := Lib.hid hsu
                have Hmono := Lib.hid hmono
                have hbw := hb.alloc hb.size (.cells #[.int .i64 js[j].team, .int .i64 js[j].sec, .int .i64 js[j].from_, .int .i64 js[j].to_] 35)
                have hjl : (j : Int) < (js.length : Int) := by omega
                clear hsu hmono hno hb
                generalize js[j] = y at *
                replace o0 := cell_later (below_alloc wr (.cells #[.int .i64 y.team, .int .i64 y.sec, .int .i64 y.from_, .int .i64 y.to_] 35)) o0
                replace o2 := cell_later (below_alloc wr (.cells #[.int .i64 y.team, .int .i64 y.sec, .int .i64 y.from_, .int .i64 y.to_] 35)) o2
                replace o3 := cell_later (below_alloc wr (.cells #[.int .i64 y.team, .int .i64 y.sec, .int .i64 y.from_, .int .i64 y.to_] 35)) o3
                rcases (show (x.team == y.team) = false ∨ (x.team == y.team) = true ∧ (x.to_ ≤ y.from_ ∨ y.from_ < x.to_ ∧ (y.to_ ≤ x.from_ ∨ x.from_ < y.to_)) by
                  cases x.team == y.team <;> simp; omega) with hc | ⟨hc, hc1 | ⟨hc1, hc2 | hc2⟩⟩
                · have hsf := Lib.hid (show ((js.take (j + 1)).any fun b => over1 b x) = false by
                    rw [Hsu.out]; simp [over1] at hc ⊢; intro h; omega)
                  clear Hsu Hmono Hat He
                  go_wp2
                  go_roundw
                  case rel => exact ⟨j + 1, by omega, by go_num, hsf.out, hbw⟩
                  case measure => simp [intOf]; omega
                · have hsf := Lib.hid (show ((js.take (j + 1)).any fun b => over1 b x) = false by
                    rw [Hsu.out]; simp [over1] at hc ⊢; omega)
                  clear Hsu Hmono Hat He
                  go_wp2
                  go_roundw
                  case rel => exact ⟨j + 1, by omega, by go_num, hsf.out, hbw⟩
                  case measure => simp [intOf]; omega
                · have hsf := Lib.hid (show ((js.take (j + 1)).any fun b => over1 b x) = false by
                    rw [Hsu.out]; simp [over1] at hc ⊢; omega)
                  clear Hsu Hmono Hat He
                  go_wp2
                  go_roundw
                  case rel => exact ⟨j + 1, by omega, by go_num, hsf.out, hbw⟩
                  case measure => simp [intOf]; omega
                · have hp2 : P2 (js.take k) x = false := by
                    unfold P2
                    rw [Hmono.out (by simp [over1] at hc ⊢; omega)]
                    rfl
                  rw [hp2, Bool.false_and] at He
                  have hv3 := Lib.hid (HV2.out.trans He.out)
                  have hbq := HBZ.out.trans ((HBK.out.trans ((hbo.trans (hbw.mono hbo.size)).mono HBK.out.size)).mono HBZ.out.size)
                  have HBQ := Lib.hid hbq
                  clear Hsu Hmono Hat He hp2 hbq
                  go_wp2
                  go_ret
                  exact ⟨by rw [hv3.out]; rfl, HBQ.out⟩
              · have hje : j = k := by omega
                subst hje
                have hp2 : P2 (js.take j) x = true := by unfold P2; rw [hno]; rfl
                rw [hp2, Bool.true_and] at He
                clear hno hp2
                go_wp2
                go_roundw
                case rel => exact ⟨j + 1, by omega, by go_num, He.out, HBK.out.trans ((hbo.trans (hb.mono hbo.size)).mono HBK.out.size)⟩
                case measure => simp [intOf]; omega
          · have hke : k = js.length := by omega
            subst hke
            rw [allTo_end] at he
            have hv3 := Lib.hid (HV2.out.trans he)
            clear he
            go_wp2
            go_ret
            exact ⟨by rw [hv3.out]; rfl, hbz.trans (hb.mono hbz.size)⟩
  · have hvv : validH h T js = false := by unfold validH; rw [decide_eq_false hlen]; simp
    rw [← HV.out] at hvv
    have HVV := Lib.hid hvv
    have hlenI : ((js.length : Int) != (h.length : Int)) = true := by simp; omega
    clear hvv hlen
    go_wp2
    go_ret
    exact ⟨by rw [HVV.out]; rfl, hb1⟩
end Go.Proofs.Ytogaepijfbgniaa
