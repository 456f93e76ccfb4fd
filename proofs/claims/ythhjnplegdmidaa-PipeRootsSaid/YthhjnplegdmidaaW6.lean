/- Contracts: Flows. -/
import Derived.Test.YthhjnplegdmidaaW5
import Derived.StillTailTactics
namespace Go.Proofs.Ythhjnplegdmidaa
open Go.RowKit
set_option linter.unusedVariables false
theorem made_zero (n : Nat) : (madeCells #[Value.int .i64 0] n).toList = (List.replicate n (0 : Int)).map (Value.int .i64) := by
  apply List.ext_getElem
  · simp [size_madeCells]
  · intro i h1 h2
    simp [madeCells, Nat.mod_one]
theorem info3 : (Try.prog.info? 3).map (fun i => (i.zero, i.size, i.bytes)) = some (some (.int .i64 0), 1, 8) := by kernel_rfl
theorem tot_take {ds : List Draw} (h : posD ds) (k : Nat) : posD (ds.take k) ∧ tot (ds.take k) ≤ tot ds := by
  refine ⟨fun d hd => h d (List.mem_of_mem_take hd), ?_⟩
  induction ds generalizing k with
  | nil => simp
  | cons d r ih =>
    have h0 := h d (by simp)
    have h1 := fun m => ih (fun e he => h e (by simp [he])) m
    have e2 : ∀ s, tot (d :: s) = d.flow + tot s := fun s => by simp [tot]
    cases k with
    | zero =>
      have := h1 0
      simp only [List.take_zero] at this ⊢
      rw [e2]
      omega
    | succ k =>
      rw [List.take_succ_cons, e2, e2]
      have := h1 k
      omega
theorem flow_tot {ds : List Draw} (h : posD ds) {k : Nat} (hk : k < ds.length) : 0 ≤ ds[k].flow ∧ ds[k].flow ≤ tot ds := by
  have h1 := h ds[k] (List.getElem_mem hk)
  have h2 := sumAt_bd (tot_take h (k + 1)).1 ds[k].node
  have h3 := (tot_take h (k + 1)).2
  have h4 := sumAt_bd (tot_take h k).1 ds[k].node
  have h5 := sumAt_succ hk ds[k].node
  rw [if_pos rfl] at h5
  omega
set_option maxHeartbeats 4000000 in
theorem Flows_any (A C : Option Addr) (c d : Nat) (l : List Pipe) (ds : List Draw) (w : World) (hm : l.length ≤ 64) (hd : ds.length ≤ 1000000) (hg : Good l) (h : Pipes w A l) (hds : Draws w C ds) (hpos : posD ds) (htot : tot ds ≤ 1000000000000) :
    Calls Try.prog 15 #[.slice A l.length c, .slice C ds.length d] w fun e w' => ∃ A' c', e = .returned (.slice A' l.length c') ∧ Ints w' A' (flowsOf l ds) ∧ Below w.heap.size w w' := by
  obtain ⟨i0, hi0, hz0, hz1, hz2⟩ := info_parts info3
  have n1 : i0.bytes * l.length ≤ 281474976710656 := by rw [hz2]; omega
  have n2 : l.length ≤ maxLen := by unfold maxLen; omega
  have N1 := Lib.hid n1
  have N2 := Lib.hid n2
  have HI := Lib.hid (And.intro hi0 (And.intro hz0 hz1))
  have hb0 := below_alloc w (.cells #[.slice A l.length c] 22)
  have p0 : (w.alloc (.cells #[.slice A l.length c] 22)).cell? ⟨w.heap.size, 0, none⟩ = some (.slice A l.length c) := by go_simp
  clear n1 n2 hi0 hz0 hz1 hz2
  go_enter Try.func15, Try.ntmps15
  go_wp2_with (at_make; refine wpList_make_full _ (by rfl) (.tmp 11) (.tmp 11) 30 (by rfl) w.heap.size 3 i0 (.int .i64 0) 1 Try.underlying30 HI.out.1 HI.out.2.1 HI.out.2.2 .i64 .i64 l.length l.length l.length (by rfl) (by rfl) rfl rfl N1.out N2.out (by simp) ?_)
  intro w1 hown hg1
  rw [made_zero] at hown
  have hr : RowIs w1 w.heap.size (w.heap.size + 1) l.length (List.replicate l.length 0) := ⟨by simp, by simpa using hown⟩
  have hb1 : Below w.heap.size w w1 := hb0.grown hg1 hb0.size (fun k hk => by cases hk)
  have q0 : w1.cell? ⟨w.heap.size, 0, none⟩ = some (.slice A l.length c) := hg1.cell p0 (by simp)
  clear hown p0
  go_wp2_with fail
  obtain ⟨G, hG⟩ : ∃ G, G = w.heap.size + 1 := ⟨_, rfl⟩
  obtain ⟨PL, hPL⟩ : ∃ PL, PL = w.heap.size := ⟨_, rfl⟩
  have hr2 := hr.kept (World.grownBy_alloc w1 (.cells #[.slice (some ⟨w.heap.size + 1, 0, none⟩) l.length l.length] 30) none) (by simp)
  have hb2 := hb1.alloc hb1.size (.cells #[.slice (some ⟨w.heap.size + 1, 0, none⟩) l.length l.length] 30)
  have q2 := cell_later (below_alloc w1 (.cells #[.slice (some ⟨w.heap.size + 1, 0, none⟩) l.length l.length] 30)) q0
  have r2 : (w1.alloc (.cells #[.slice (some ⟨w.heap.size + 1, 0, none⟩) l.length l.length] 30)).cell? ⟨w1.heap.size, 0, none⟩ = some (.slice (some ⟨w.heap.size + 1, 0, none⟩) l.length l.length) := by go_simp
  have hlt := hr.lt
  have hpo : w1.heap.size ≠ w.heap.size + 1 := by omega
  have hr0 : RowIs (w1.alloc (.cells #[.slice (some ⟨w.heap.size + 1, 0, none⟩) l.length l.length] 30)) w.heap.size (w.heap.size + 1) l.length (l.map fun p => sumAt (ds.take 0) p.to_) := by
    have e : (l.map fun p => sumAt (ds.take 0) p.to_) = List.replicate l.length 0 := by
      apply List.ext_getElem
      · simp
      · intro i _ _; simp [sumAt]
    rw [e]; exact hr2
  obtain ⟨po, hpo'⟩ : ∃ po, po = w1.heap.size := ⟨_, rfl⟩
  rw [← hpo'] at r2 hpo ⊢
  generalize (w1.alloc (.cells #[.slice (some ⟨w.heap.size + 1, 0, none⟩) l.length l.length] 30)) = W2 at *
  clear hr2 hr hlt q0 hb1 hg1 hb0 hpo' hG hPL
  go_loopw [16] (fun i wr => ∃ k : Nat, k ≤ ds.length ∧ i = .int .i64 k ∧ Below w.heap.size w wr ∧ wr.cell? ⟨w.heap.size, 0, none⟩ = some (.slice A l.length c) ∧ wr.cell? ⟨po, 0, none⟩ = some (.slice (some ⟨w.heap.size + 1, 0, none⟩) l.length l.length) ∧ RowIs wr w.heap.size (w.heap.size + 1) l.length (l.map fun p => sumAt (ds.take k) p.to_)) (fun i _ => ds.length - (intOf i).toNat)
  case atStart => exact ⟨0, Nat.zero_le _, rfl, hb2, q2, r2, hr0⟩
  case round =>
    clear hb2 q2 r2 hr0
    obtain ⟨k, hk, rfl, hb, q, r, hrow⟩ := hrel
    by_cases hlt : k < ds.length
    · have hfl := flow_tot hpos hlt
      have hst : addAt l (l.map fun p => sumAt (ds.take k) p.to_) ds[k].node ds[k].flow = l.map fun p => sumAt (ds.take (k + 1)) p.to_ := by
        rw [addAt_map (good_apart hg)]
        apply List.map_congr_left
        intro p _
        rw [sumAt_succ hlt]
      have hbd : ∀ x ∈ (l.map fun p => sumAt (ds.take k) p.to_), -9000000000000000000 ≤ x + ds[k].flow ∧ x + ds[k].flow ≤ 9000000000000000000 := by
        intro x hx
        obtain ⟨p, _, rfl⟩ := List.mem_map.1 hx
        have h1 := sumAt_bd (tot_take hpos k).1 p.to_
        have h2 := (tot_take hpos k).2
        omega
      have hadd := fun W h1 h2 h3 h4 => Lib.hid (add_any A c l w.heap.size po (w.heap.size + 1) w.heap.size (l.map fun p => sumAt (ds.take k) p.to_) ds[k].node ds[k].flow W (by omega) h1 h2 h3 h4 hbd)
      rw [hst] at hadd
      obtain ⟨b, off, rfl, hc⟩ := hds (by omega)
      obtain ⟨h0, h1⟩ := hc k hlt
      have h0' := cell_later hb h0
      have h1' := cell_later hb h1
      have HR := Lib.hid hrow
      have hps := h.below hb
      clear h0 h1 hc hst hbd hfl hrow
      generalize ds[k] = x at *
      obtain ⟨nd, fl⟩ := x
      simp only at h0' h1' hadd
      have kb := below_alloc wr (.cells #[.int .i64 nd, .int .i64 fl] 42)
      have c1 := hadd (wr.alloc (.cells #[.int .i64 nd, .int .i64 fl] 42)) (cell_later kb q) (hps.below kb) (cell_later kb r) (HR.out.kept (World.grownBy_alloc wr _ none) (by simp))
      have q' := cell_later kb q
      have r' := cell_later kb r
      have hb' := hb.alloc hb.size (.cells #[.int .i64 nd, .int .i64 fl] 42)
      have hrl := HR.out.lt
      clear hadd kb hps
      go_wp2_with fail
      refine c1.out.mono ?_
      rintro e w3 ⟨⟨v, rfl⟩, hr3, hg3⟩
      have q3 := hg3.cell q' (by simp)
      have r3 := hg3.cell r' (by simpa using hpo)
      have hb3 : Below w.heap.size w w3 := hb'.grown hg3 hb'.size (fun j hj => by cases hj; omega)
      replace hr3 := Lib.hid hr3
      clear hg3 hb' q' r' c1 hrl h0' h1' HR q r hb
      go_wp2
      go_roundw
      case rel => exact ⟨k + 1, by omega, by go_num, hb3, q3, r3, hr3.out⟩
      case measure => simp [intOf]; omega
    · have hke : k = ds.length := by omega
      subst hke
      rw [List.take_length] at hrow
      go_wp2_with fail
      have hst := finv_start (l := l) hpos
      go_loopw [9] (fun i wx => ∃ (m : Nat) (z : Int) (out : List Int) (es : List Draw), m ≤ l.length ∧ z = (m : Int) - 1 ∧ i = .int .i64 z ∧ FInv l ds m out es ∧ Below w.heap.size w wx ∧ wx.cell? ⟨w.heap.size, 0, none⟩ = some (.slice A l.length c) ∧ wx.cell? ⟨po, 0, none⟩ = some (.slice (some ⟨w.heap.size + 1, 0, none⟩) l.length l.length) ∧ RowIs wx w.heap.size (w.heap.size + 1) l.length out) (fun i _ => (intOf i + 1).toNat)
      case atStart => exact ⟨l.length, _, _, _, Nat.le_refl _, rfl, rfl, hst, hb, q, r, hrow⟩
      case round =>
        clear hb q r hrow hst
        obtain ⟨m, z, out, es, hm2, hz, rfl, hinv, hb, q, r, hrow⟩ := hrel
        cases m with
        | zero =>
          obtain rfl : z = -1 := by omega
          have he := finv_end hinv
          subst he
          have hi := OwnI.form (v := .slice (some ⟨w.heap.size + 1, 0, none⟩) l.length l.length) (l := flowsOf l ds) (show OwnI wr w.heap.size 3 _ _ by unfold OwnI; rw [flowsOf_length]; exact hrow.2)
          obtain ⟨A', c', e1, hi2⟩ := hi
          rw [flowsOf_length] at e1
          have E1 := Lib.hid e1
          have HI2 := Lib.hid hi2
          clear e1 hi2 hrow hinv hz
          go_wp2
          go_ret
          exact ⟨A', c', congrArg Ending.returned E1.out, HI2.out, hb⟩
        | succ m =>
          have hml : m < l.length := by omega
          have hzm : z = (m : Int) := by omega
          clear hz
          subst hzm
          have hom : m < out.length := by rw [hinv.len]; exact hml
          have hst := finv_step2 hg hml hinv out[m] (List.getElem?_eq_getElem hom)
          have hbdx := finv_bd hpos hinv
          obtain ⟨x0, x1⟩ := hbdx _ (List.getElem_mem hom)
          obtain ⟨b, off, rfl, hc⟩ := h (by omega)
          obtain ⟨g0, g1, g2, g3, g4⟩ := hc m hml
          replace g1 := cell_later hb g1
          clear g0 g2 g3 g4
          have hp := h.below hb
          obtain ⟨o0, o1⟩ := hrow.at hom
          have hadd := fun W h1 h2 h3 h4 => Lib.hid (add_any (some ⟨b, off, none⟩) c l w.heap.size po (w.heap.size + 1) w.heap.size out l[m].from_ out[m] W (by omega) h1 h2 h3 h4 (fun x hx => by have := hbdx x hx; omega))
          have Hst := Lib.hid hst
          have HR := Lib.hid hrow
          clear hst hbdx hinv hrow hc o1
          obtain ⟨xv, hxv⟩ : ∃ xv, out[m] = xv := ⟨_, rfl⟩
          rw [hxv] at hadd o0 x0 x1 Hst
          clear hxv
          generalize l[m].from_ = fr at *
          have hmi : (m : Int) < (l.length : Int) := by omega
          have hm0 : (0 : Int) ≤ (m : Int) := by omega
          have hrl := HR.out.lt
          go_wp2_with fail
          go_still_tail 10, (by kernel_rfl)
          have c1 := hadd wr.drew q (h.below hb.drew) r ⟨HR.out.1, HR.out.2⟩
          have q' : wr.drew.cell? ⟨w.heap.size, 0, none⟩ = some (.slice (some ⟨b, off, none⟩) l.length c) := q
          have r' : wr.drew.cell? ⟨po, 0, none⟩ = some (.slice (some ⟨w.heap.size + 1, 0, none⟩) l.length l.length) := r
          have hb' := hb.drew
          go_wp2_with fail
          refine c1.out.mono ?_
          rintro e w3 ⟨⟨v, rfl⟩, hr3, hg3⟩
          have q3 := hg3.cell q' (by simp)
          have r3 := hg3.cell r' (by simpa using hpo)
          have hb3 : Below w.heap.size w w3 := hb'.grown hg3 hb'.size (fun j hj => by cases hj; omega)
          replace hr3 := Lib.hid hr3
          clear hg3 hb' q' r' c1 hrl HR q r hb hadd hp g1 o0
          go_wp2
          go_roundw
          case rel => exact ⟨m, _, _, _, by omega, by simp, rfl, Hst.out, hb3, q3, r3, hr3.out⟩
          case measure => first | (simp [intOf]; done) | (simp [intOf]; omega)
end Go.Proofs.Ythhjnplegdmidaa
