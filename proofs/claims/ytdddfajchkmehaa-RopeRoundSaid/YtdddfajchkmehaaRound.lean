/- RopeRound: for every right line, after as many motions by Spacing as there are carriers Offset is what it was, everybody has left, and each carrier has passed the lower station once; no condition. -/
import Derived.Test.YtdddfajchkmehaaLaw0
import Derived.Test.YtdddfajchkmehaaPlain4
import Derived.Laws.Rows
import Derived.OwnWalk
import Derived.Deep.DeepCutAuto
namespace Go.Proofs.Ytdddfajchkmehaa.ropeRound
open Go.RowKit Go.ChangeShapes Go.WideShapes Go.ChangeAt
set_option linter.unusedVariables false
theorem info4 : (Try.prog.info? 4).map (fun i => (i.zero, i.size, i.bytes)) = some (some (.bool false), 1, 1) := by kernel_rfl
/-- a row of bools of the call's own -/
def BoolRow (W : World) (B g n : Nat) (l : List Bool) : Prop := l.length = n ∧ W.ownsRow B 4 1 (.slice (some ⟨g, 0, none⟩) n n) n (l.map Value.bool)
theorem BoolRow.at {W : World} {B g n : Nat} {l : List Bool} (h : BoolRow W B g n l) {k : Nat} (hk : k < l.length) : W.cell? ⟨g, k, none⟩ = some (.bool l[k]) ∧ W.frozen? ⟨g, k, none⟩ = false := by
  have hk' : k < n := by rw [← h.1]; exact hk
  refine ⟨?_, World.ownsRow.frozenAt h.2 k⟩
  rw [World.ownsRow.cellAt h.2 k (by omega), List.getElem?_map, List.getElem?_eq_getElem hk]
  rfl
theorem BoolRow.set {W : World} {B g n : Nat} {l : List Bool} (h : BoolRow W B g n l) (k : Nat) (x : Bool) : BoolRow (W.setCell ⟨g, k, none⟩ (.bool x)) B g n (l.set k x) := by
  obtain ⟨h1, _⟩ := World.ownsRow.stored h.2 k (.bool x)
  refine ⟨by rw [List.length_set]; exact h.1, ?_⟩
  rw [List.map_set]
  exact h1
theorem grown_of_below {W W' : World} (h : Below W.heap.size W W') : W.grownBy W' none := by
  obtain ⟨h1, h2, h3, h4, h5⟩ := h
  exact ⟨h1, h2, h3, h4, fun i hi _ => h5 i hi⟩
theorem BoolRow.below {W W' : World} {B g n : Nat} {l : List Bool} (h : BoolRow W B g n l) (hb : Below W.heap.size W W') : BoolRow W' B g n l := ⟨h.1, World.ownsRow.kept h.2 (grown_of_below hb) (.inr (by simp [Value.ownBlock]))⟩
theorem BoolRow.far {W : World} {B g n : Nat} {l : List Bool} (h : BoolRow W B g n l) (p : Addr) (u : Value) (hne : g ≠ p.block) : BoolRow (W.setCell p u) B g n l := ⟨h.1, World.ownsRow.kept h.2 (grown_set W p u) (.inr (by simpa [Value.ownBlock] using hne))⟩
theorem made_false (n : Nat) : (madeCells #[Value.bool false] n).toList = (List.replicate n false).map Value.bool := by
  apply List.ext_getElem
  · simp [size_madeCells]
  · intro i h1 h2
    simp [madeCells, Nat.mod_one]
theorem blk_four {W : World} {p : Nat} {u0 u1 u2 u3 : Value} {t : TypeId} (h : Blk W p #[u0, u1, u2, u3] t) (a b c d : Value) :
    Blk ((((W.setCell ⟨p, 0, none⟩ a).setCell ⟨p, 1, none⟩ b).setCell ⟨p, 2, none⟩ c).setCell ⟨p, 3, none⟩ d) p #[a, b, c, d] t := by
  have h1 := heap_setCell_same W p 0 _ t a h
  have h2 := heap_setCell_same _ p 1 _ t b h1
  have h3 := heap_setCell_same _ p 2 _ t c h2
  have h4 := heap_setCell_same _ p 3 _ t d h3
  exact h4
theorem Blk.far4 {W : World} {B : Nat} {cs : Array Value} {t : TypeId} (h : Blk W B cs t) (p : Nat) (a b c d : Value) (hne : B ≠ p) : Blk ((((W.setCell ⟨p, 0, none⟩ a).setCell ⟨p, 1, none⟩ b).setCell ⟨p, 2, none⟩ c).setCell ⟨p, 3, none⟩ d) B cs t :=
  (((h.far ⟨p, 0, none⟩ a hne).far ⟨p, 1, none⟩ b hne).far ⟨p, 2, none⟩ c hne).far ⟨p, 3, none⟩ d hne
theorem BoolRow.far4 {W : World} {B g n : Nat} {l : List Bool} (h : BoolRow W B g n l) (p : Nat) (a b c d : Value) (hne : g ≠ p) : BoolRow ((((W.setCell ⟨p, 0, none⟩ a).setCell ⟨p, 1, none⟩ b).setCell ⟨p, 2, none⟩ c).setCell ⟨p, 3, none⟩ d) B g n l :=
  (((h.far ⟨p, 0, none⟩ a hne).far ⟨p, 1, none⟩ b hne).far ⟨p, 2, none⟩ c hne).far ⟨p, 3, none⟩ d hne
theorem right_fit16 {x : Line} (h : rightB x 16 = true) : fit x.load 16 := by
  intro y hy
  obtain ⟨k, hk, rfl⟩ := List.mem_iff_getElem.1 hy
  have := (right_use h).2 k hk
  omega
set_option maxRecDepth 100000 in
set_option maxHeartbeats 16000000 in
theorem walk (y : LineIn) (w : World) (hy : y.ok w) : Calls Try.prog 9 #[y.val] w fun e w' => e = .returned (.bool true) ∧ Below w.heap.size w w' := by
  obtain ⟨x, A, c⟩ := y
  obtain ⟨hI, hm, _⟩ := hy
  simp only [LineIn.val] at hI hm ⊢
  unfold maxLen at hm
  have q1 := fun W h => Lib.hid (right1_any x A c hm W h)
  have H0 := Lib.hid hI
  have HB := Lib.hid (Below.refl w.heap.size w)
  have JA := Lib.hid hI
  clear hI
  have ka := below_alloc w (.cells #[.int .i64 x.loop, .int .i64 x.spacing, .int .i64 x.offset, .slice A x.load.length c] 27)
  replace JA := Lib.hid (JA.out.below ka)
  replace HB := Lib.hid (HB.out.trans (ka.mono HB.out.size))
  clear ka
  have k := Blk.new w #[.int .i64 x.loop, .int .i64 x.spacing, .int .i64 x.offset, .slice A x.load.length c] 27
  have Kx := Lib.hid k
  clear k
  cases hgb : goodB x with
  | false =>
    rw [hgb] at q1
    clear hgb
    unfold Line.val at *
    go_enter Try.func9, Try.ntmps9
    go_wp2_with fail
    refine (alive_any _).mono ?_
    rintro e v1 ⟨rfl, hb⟩
    replace Kx := Lib.hid (Kx.out.below hb)
    replace JA := Lib.hid (JA.out.below hb)
    replace HB := Lib.hid (HB.out.trans (hb.mono HB.out.size))
    clear hb
    have xxq0 := Kx.out.cell 0 (v := .int .i64 x.loop) rfl
    have xxq1 := Kx.out.cell 1 (v := .int .i64 x.spacing) rfl
    have xxq2 := Kx.out.cell 2 (v := .int .i64 x.offset) rfl
    have xxq3 := Kx.out.cell 3 (v := .slice A x.load.length c) rfl
    go_wp2_with fail
    refine ((q1 _ JA.out).out).mono ?_
    rintro e v2 ⟨rfl, hb⟩
    clear xxq0 xxq1 xxq2 xxq3
    replace Kx := Lib.hid (Kx.out.below hb)
    replace JA := Lib.hid (JA.out.below hb)
    replace HB := Lib.hid (HB.out.trans (hb.mono HB.out.size))
    clear hb
    have HBB := HB.out
    clear HB
    go_wp2
    go_ret
    exact ⟨rfl, HBB⟩
  | true =>
    obtain ⟨hs, hn, hf, hr⟩ := good_use hgb
    rw [hgb] at q1
    clear hgb
    have hn1 := hs.2.2.1
    have FA : Hid (∀ ad, A = some ad → ad.block < w.heap.size) := Lib.hid (fun ad h => by
      obtain ⟨b, off, e, hc⟩ := H0.out (by omega)
      have := World.block_lt_of_cell? _ _ (hc 0 (by omega))
      rw [e] at h
      cases h
      exact this)
    have q2 := fun W h => Lib.hid (People_any x A c (by omega) hf W h)
    obtain ⟨i0, hi0, hz0, hz1, hz2⟩ := info_parts info4
    have n1 : i0.bytes * x.load.length ≤ 281474976710656 := by rw [hz2]; omega
    have n2 : x.load.length ≤ maxLen := by unfold maxLen; omega
    have N1 := Lib.hid n1
    have N2 := Lib.hid n2
    have HI := Lib.hid (And.intro hi0 (And.intro hz0 hz1))
    clear n1 n2 hi0 hz0 hz1 hz2
    have HT := Lib.hid (fun k => turned_right hr k)
    have HE := Lib.hid (turned_end hr)
    have HP := Lib.hid (fun k => turned_pass hr k)
    have HSP := Lib.hid (fun k => turned_spacing x k)
    have HG := Lib.hid (fun k => gone_people (x := x) k)
    have hpx := people_bd (by omega) (right_fit16 hr)
    have hpx2 : peopleOf x ≤ 3200 := by omega
    clear hs hf hr
    unfold Line.val at *
    go_enter Try.func9, Try.ntmps9
    go_wp2_with fail
    refine (alive_any _).mono ?_
    rintro e v1 ⟨rfl, hb⟩
    replace Kx := Lib.hid (Kx.out.below hb)
    replace JA := Lib.hid (JA.out.below hb)
    replace HB := Lib.hid (HB.out.trans (hb.mono HB.out.size))
    clear hb
    have xxq0 := Kx.out.cell 0 (v := .int .i64 x.loop) rfl
    have xxq1 := Kx.out.cell 1 (v := .int .i64 x.spacing) rfl
    have xxq2 := Kx.out.cell 2 (v := .int .i64 x.offset) rfl
    have xxq3 := Kx.out.cell 3 (v := .slice A x.load.length c) rfl
    go_wp2_with fail
    refine ((q1 _ JA.out).out).mono ?_
    rintro e W2 ⟨rfl, hb⟩
    clear xxq0 xxq1 xxq2 xxq3
    replace Kx := Lib.hid (Kx.out.below hb)
    replace JA := Lib.hid (JA.out.below hb)
    replace HB := Lib.hid (HB.out.trans (hb.mono HB.out.size))
    clear hb
    clear q1
    have xxq0 := Kx.out.cell 0 (v := .int .i64 x.loop) rfl
    have xxq1 := Kx.out.cell 1 (v := .int .i64 x.spacing) rfl
    have xxq2 := Kx.out.cell 2 (v := .int .i64 x.offset) rfl
    have xxq3 := Kx.out.cell 3 (v := .slice A x.load.length c) rfl
    go_upto_region 6 with (fail)
    clear xxq0 xxq1 xxq2 xxq3
    have HY3 : Hid (w.heap.size < W2.heap.size) := Lib.hid (Blk.lt Kx.out)
    have ka := below_alloc W2 (.cells #[.int .i64 x.loop, .int .i64 x.spacing, .int .i64 x.offset, .slice A x.load.length c] 27)
    replace Kx := Lib.hid (Kx.out.below ka)
    replace JA := Lib.hid (JA.out.below ka)
    replace HB := Lib.hid (HB.out.trans (ka.mono HB.out.size))
    clear ka
    have Ky := Lib.hid (Blk.new W2 #[.int .i64 x.loop, .int .i64 x.spacing, .int .i64 x.offset, .slice A x.load.length c] 27)
    have x0 := Kx.out.cell 0 (v := .int .i64 x.loop) rfl
    have x1 := Kx.out.cell 1 (v := .int .i64 x.spacing) rfl
    have x2 := Kx.out.cell 2 (v := .int .i64 x.offset) rfl
    have x3 := Kx.out.cell 3 (v := .slice A x.load.length c) rfl
    have hP3 : w.heap.size < W2.heap.size := HY3.out
    generalize hW3 : W2.alloc (.cells #[.int .i64 x.loop, .int .i64 x.spacing, .int .i64 x.offset, .slice A x.load.length c] 27) = W3 at *
    have hP3b : W2.heap.size < W3.heap.size := by rw [← hW3]; simp
    clear hW3 HY3
    generalize W2.heap.size = P3 at *
    go_wp2_with (at_make; refine wpList_make_full _ (by rfl) (.tmp 19) (.tmp 19) 52 (by rfl) W3.heap.size 4 i0 (.bool false) 1 Try.underlying52 HI.out.1 HI.out.2.1 HI.out.2.2 .i64 .i64 x.load.length x.load.length x.load.length (by rfl) (by rfl) rfl rfl N1.out N2.out (Nat.le_refl _) ?_)
    intro W4 hown hg4
    have hkb : Below W3.heap.size W3 W4 := (Below.refl _ _).grown hg4 (Nat.le_refl _) (fun k hk => by cases hk)
    have SEEN : Hid (BoolRow W4 W3.heap.size W3.heap.size x.load.length (seenRow x 0)) := Lib.hid ⟨seenRow_length _ _, by rw [seenRow_zero, ← made_false]; simpa [Value.cells] using hown⟩
    replace Kx := Lib.hid (Kx.out.below hkb)
    replace Ky := Lib.hid (Ky.out.below hkb)
    replace JA := Lib.hid (JA.out.below hkb)
    replace HB := Lib.hid (HB.out.trans (hkb.mono HB.out.size))
    clear hkb hown hg4 N1 N2 HI x0 x1 x2 x3
    generalize W3.heap.size = G at *
    have FA0 : Hid (∀ ad, A = some ad → ad.block ≠ P3 ∧ ad.block ≠ G) := Lib.hid (fun ad h => by have := FA.out ad h; omega)
    go_wp2_with fail
    go_loopw [4, 6] (fun av iv wr => ∃ (k : Nat) (A' : Option Addr) (c' : Nat), k ≤ x.load.length ∧ iv = .int .i64 k ∧ av = .int .i64 (goneK x k) ∧ Hid (Below w.heap.size w wr) ∧ Hid (LineAt wr w.heap.size x A c) ∧ Hid (Ints wr A x.load) ∧ Hid (LineAt wr P3 (turned x k) A' c') ∧ Hid (Ints wr A' (turned x k).load) ∧ Hid (∀ ad, A' = some ad → ad.block ≠ P3 ∧ ad.block ≠ G) ∧ Hid (BoolRow wr G G x.load.length (seenRow x k))) (fun _ iv _ => x.load.length - (intOf iv).toNat)
    case atStart => exact ⟨0, A, c, Nat.zero_le _, rfl, rfl, HB, Kx, JA, Ky, JA, FA0, SEEN⟩
    case round =>
      clear HB Kx Ky JA FA0 SEEN
      obtain ⟨k, A', c', hk, rfl, rfl, HB, Kx, JA, K3, J3, FX, SEEN⟩ := hrel
      obtain ⟨e1, e2, e3⟩ := HSP.out k
      have hzr := HT.out k
      have hgp := HG.out k
      have hzp := people_bd (by omega) (right_fit16 hzr)
      have hgk : -4000 ≤ goneK x k ∧ goneK x k ≤ 4000 := by omega
      clear hgp
      have x0 := Kx.out.cell 0 (v := .int .i64 x.loop) rfl
      have x1 := Kx.out.cell 1 (v := .int .i64 x.spacing) rfl
      have x2 := Kx.out.cell 2 (v := .int .i64 x.offset) rfl
      have x3 := Kx.out.cell 3 (v := .slice A x.load.length c) rfl
      by_cases hlt : k < x.load.length
      · have hzs := (right_use hzr).1
        have hzf := right_fit (by omega) hzr
        have hpp : passK (turned x k) (turned x k).spacing (turned x k).load.length = (passer x k : Int) := by rw [e1, e3]; exact HP.out k
        have hgo : goneK x (k + 1) = goneK x k + leftK (turned x k) (turned x k).spacing (turned x k).load.length := by rw [e1, e3]; rfl
        have hu : turned x (k + 1) = moved (turned x k) (turned x k).spacing := by rw [e1]; rfl
        have hlk := left_bd (by omega) (right_fit16 hzr) (turned x k).spacing (turned x k).load.length
        have hsl : passer x k < (seenRow x k).length := by rw [seenRow_length]; exact passer_lt hn1 k
        have hsa := seenRow_at hn1 hlt
        have hss := seenRow_step x k
        obtain ⟨s0, s1⟩ := SEEN.out.at hsl
        rw [hsa] at s0
        have qm := fun W h => Lib.hid (Move_any (turned x k) A' c' (turned x k).spacing hzs hzf W h)
        rw [move_yes ⟨by have := hzs.1; omega, Int.le_refl _⟩, hpp] at qm
        unfold MovePost Line.val at qm
        simp only at qm
        have hlk2 : leftK (turned x k) (turned x k).spacing (turned x k).load.length ≤ 4000 := by omega
        have hlk3 := hlk.1
        have hpl := passer_lt hn1 k
        have HGO := Lib.hid hgo
        have HU := Lib.hid hu
        have HSS := Lib.hid hss
        have S0 := Lib.hid s0
        have S1 := Lib.hid s1
        have y0 := K3.out.cell 0 (v := .int .i64 (turned x k).loop) rfl
        have y1 := K3.out.cell 1 (v := .int .i64 (turned x k).spacing) rfl
        have y2 := K3.out.cell 2 (v := .int .i64 (turned x k).offset) rfl
        have y3 := K3.out.cell 3 (v := .slice A' (turned x k).load.length c') rfl
        clear hgo hu hss hsa hlk hpp e1 e2 e3 hzr hzp hzs hzf HT HE HP HSP HG s0 s1 hsl q2
        generalize leftK (turned x k) (turned x k).spacing (turned x k).load.length = lf at *
        generalize moved (turned x k) (turned x k).spacing = u at *
        generalize turned x k = z at *
        go_wp2_with fail
        refine (qm _ J3.out).out.mono ?_
        rintro e w5 ⟨B, b, rfl, hI, hb, hfr⟩
        have hsG := Blk.lt K3.out
        have hsG2 : G < wr.heap.size := by have := World.block_lt_of_cell? _ _ S0.out; exact this
        have FU : Hid (∀ ad, B = some ad → ad.block ≠ P3 ∧ ad.block ≠ G) := Lib.hid (fun ad h => by have := hfr ad h; omega)
        have hw5 := hb.size
        replace Kx := Lib.hid (Kx.out.below hb)
        replace K3 := Lib.hid (K3.out.below hb)
        replace JA := Lib.hid (JA.out.below hb)
        replace SEEN := Lib.hid (SEEN.out.below hb)
        replace S0 := Lib.hid (cell_later hb S0.out)
        replace S1 : Hid (w5.frozen? ⟨G, passer x k, none⟩ = false) := Lib.hid (World.ownsRow.frozenAt SEEN.out.2 _)
        replace HB := Lib.hid (HB.out.trans (hb.mono HB.out.size))
        have JU := Lib.hid hI
        clear x0 x1 x2 x3 y0 y1 y2 y3 hb hI hfr qm J3
        have ka := below_alloc w5 (.cells #[.int .i64 u.loop, .int .i64 u.spacing, .int .i64 u.offset, .slice B u.load.length b] 27)
        have KU := Lib.hid (Blk.new w5 #[.int .i64 u.loop, .int .i64 u.spacing, .int .i64 u.offset, .slice B u.load.length b] 27)
        replace Kx := Lib.hid (Kx.out.below ka)
        replace K3 := Lib.hid (K3.out.below ka)
        replace JA := Lib.hid (JA.out.below ka)
        replace JU := Lib.hid (JU.out.below ka)
        replace SEEN := Lib.hid (SEEN.out.below ka)
        replace S0 := Lib.hid (cell_later ka S0.out)
        replace S1 : Hid ((w5.alloc (.cells #[.int .i64 u.loop, .int .i64 u.spacing, .int .i64 u.offset, .slice B u.load.length b] 27)).frozen? ⟨G, passer x k, none⟩ = false) := Lib.hid (World.ownsRow.frozenAt SEEN.out.2 _)
        replace HB := Lib.hid (HB.out.trans (ka.mono HB.out.size))
        clear ka
        have n1 : w5.heap.size ≠ P3 := by omega
        have n2 : w5.heap.size ≠ G := by omega
        have n3 : w5.heap.size ≠ w.heap.size := by omega
        have n4 : G ≠ P3 := by omega
        have n5 : G ≠ w.heap.size := by omega
        have n6 : P3 ≠ w.heap.size := by omega
        have hpi : ((passer x k : Nat) : Int) < (x.load.length : Int) := by omega
        have hpi0 : (0 : Int) ≤ ((passer x k : Nat) : Int) := by omega
        go_upto_region 11 with (fail)
        generalize w5.alloc (.cells #[.int .i64 u.loop, .int .i64 u.spacing, .int .i64 u.offset, .slice B u.load.length b] 27) = W6 at *
        generalize w5.heap.size = gU at *
        generalize passer x k = p at *
        have s0 := S0.out
        have s1 := S1.out
        clear S0 S1
        go_upto_region 14 with (fail)
        have S7 := (SEEN.out.set p true)
        rw [HSS.out] at S7
        replace SEEN := Lib.hid S7
        clear S7
        replace Kx := Lib.hid (Kx.out.far ⟨G, p, none⟩ (.bool true) (fun h => n5 h.symm))
        replace K3 := Lib.hid (K3.out.far ⟨G, p, none⟩ (.bool true) (fun h => n4 h.symm))
        replace KU := Lib.hid (KU.out.far ⟨G, p, none⟩ (.bool true) n2)
        replace JA := Lib.hid (JA.out.far ⟨G, p, none⟩ (.bool true) (fun ad h => by have := FA.out ad h; simp only; omega))
        replace JU := Lib.hid (JU.out.far ⟨G, p, none⟩ (.bool true) (fun ad h => (FU.out ad h).2))
        replace HB := Lib.hid (HB.out.setCell (p := ⟨G, p, none⟩) (by simp only; omega) (.bool true))
        clear s0 s1
        generalize W6.setCell ⟨G, p, none⟩ (.bool true) = W7 at *
        have y0 := KU.out.cell 0 (v := .int .i64 u.loop) rfl
        have y1 := KU.out.cell 1 (v := .int .i64 u.spacing) rfl
        have y2 := KU.out.cell 2 (v := .int .i64 u.offset) rfl
        have y3 := KU.out.cell 3 (v := .slice B u.load.length b) rfl
        have x0 := K3.out.cell 0 (v := .int .i64 z.loop) rfl
        have x1 := K3.out.cell 1 (v := .int .i64 z.spacing) rfl
        have x2 := K3.out.cell 2 (v := .int .i64 z.offset) rfl
        have x3 := K3.out.cell 3 (v := .slice A' z.load.length c') rfl
        have f0 := Blk.frozen K3.out 0
        have f1 := Blk.frozen K3.out 1
        have f2 := Blk.frozen K3.out 2
        have f3 := Blk.frozen K3.out 3
        go_wp2
        go_roundw
        case rel => exact ⟨k + 1, B, b, by omega, by go_num, by rw [HGO.out], Lib.hid (four_below HB.out (by omega) _ _ _ _), Lib.hid (Blk.far4 Kx.out P3 _ _ _ _ (fun h => n6 h.symm)), Lib.hid (four_ints JA.out (fun ad h => by have := FA.out ad h; omega) _ _ _ _), Lib.hid (by rw [HU.out]; exact blk_four K3.out _ _ _ _), Lib.hid (by rw [HU.out]; exact four_ints JU.out (fun ad h => (FU.out ad h).1) _ _ _ _), FU, Lib.hid (SEEN.out.far4 P3 _ _ _ _ n4)⟩
        case measure => simp [intOf]; omega
      · have hke : k = x.load.length := by omega
        subst hke
        have hzs := (right_use hzr).1
        obtain ⟨t1, t2, t3⟩ := HE.out
        have q3 := fun W h => Lib.hid (People_any (turned x x.load.length) A' c' (by omega) (right_fit (by omega) hzr) W h)
        rw [t2] at q3
        have ho : ((turned x x.load.length).offset == x.offset) = true := by simpa using t1
        rw [t3]
        unfold Line.val at q3
        have y0 := K3.out.cell 0 (v := .int .i64 (turned x x.load.length).loop) rfl
        have y1 := K3.out.cell 1 (v := .int .i64 (turned x x.load.length).spacing) rfl
        have y2 := K3.out.cell 2 (v := .int .i64 (turned x x.load.length).offset) rfl
        have y3 := K3.out.cell 3 (v := .slice A' (turned x x.load.length).load.length c') rfl
        clear t1 t2 t3 HE HT HP HSP HG e1 e2 e3 hzr hzp hzs hgk SEEN
        generalize turned x x.load.length = z at *
        go_wp2_with fail
        refine (q2 _ JA.out).out.mono ?_
        rintro e w8 ⟨rfl, hb⟩
        clear x0 x1 x2 x3 y0 y1 y2 y3
        replace K3 := Lib.hid (K3.out.below hb)
        replace J3 := Lib.hid (J3.out.below hb)
        replace HB := Lib.hid (HB.out.trans (hb.mono HB.out.size))
        clear hb
        have y0 := K3.out.cell 0 (v := .int .i64 z.loop) rfl
        have y1 := K3.out.cell 1 (v := .int .i64 z.spacing) rfl
        have y2 := K3.out.cell 2 (v := .int .i64 z.offset) rfl
        have y3 := K3.out.cell 3 (v := .slice A' z.load.length c') rfl
        go_wp2_with fail
        refine (q3 _ J3.out).out.mono ?_
        rintro e w9 ⟨rfl, hb⟩
        have HBB := HB.out.trans (hb.mono HB.out.size)
        clear hb y0 y1 y2 y3
        go_wp2
        go_ret
        exact ⟨rfl, HBB⟩

set_option maxRecDepth 100000 in
theorem lifted (os : Os) (started : os.Started) (H : Type) (enc : TypeId × Value → H) :
    ReturnsInHanded {} Try.checked os 9 .any (Rows.ropeRoundSpec.pre6 enc Try.prog Try.f9 Rows.ropeRoundRow.domain false) (Rows.ropeRoundSpec.post enc Try.prog Try.f9 false true false false) := by
  refine returnsInHanded_of_change_sized (C := Try.checked) own started (by kernel_rfl) Try.func9
    (ChangeSpec.witness6 (enc := enc) (C := Try.checked) false ⟨#[], #[.agg #[.int .i64 0, .int .i64 0, .int .i64 0, .slice none 0 0]], []⟩ 8 (by kernel_rfl) (by kernel_rfl) (by kernel_rfl) (by kernel_rfl)) ?_
  intro W base args ds gs before hval0 hW hcnd hsz0 _
  have hval : ∀ (j : Nat) t v, Try.f9.params[j]? = some t → args[j]? = some v → Value.okWide Try.prog W .any base t v := hval0
  refine law_post laidOut (by kernel_rfl) Try.underlying4 rfl rfl hW (fun hn => ?_) ?_
  · match ds, hn with
    | [_], _ => rfl
  obtain ⟨p, q, hA0, hV, rfl, _, _⟩ := hW
  have hA : DataW.TrodAll enc Try.prog W 0 (fun _ => true) true Try.f9.params.toList args.toList ds p := hA0
  obtain ⟨rfl, rfl⟩ := trodVars_none hV
  have hsz : (DataW.weightsEach Try.prog (Try.f9.params.toList ++ []) (ds ++ [])).all (· ≤ reachBytes) = true := hsz0
  rw [Try.params9] at hA hval hsz
  obtain ⟨v0, vs0, d0, ds0, p0, q0, hargs, rfl, rfl, h0, r0⟩ := trodAll_cons hA
  obtain ⟨rfl, rfl, rfl⟩ := trodAll_nil r0
  obtain rfl : args = #[v0] := by cases args; simp_all
  obtain ⟨x0, rfl, w0⟩ := open_line (hval 0 27 v0 rfl rfl) h0
  exact walk x0 W w0
theorem over : Rows.ropeRoundRow.holds Try.pinned (OpenSpec.ofChange Rows.ropeRoundSpec) :=
  OpenClaim.holds_of_wide 9 Try.f9 rfl rfl rfl rfl rfl rfl rfl ⟨rfl, rfl, rfl, rfl, rfl⟩ rfl rfl rfl rfl rfl (by kernel_rfl) Try.func9 (by kernel_rfl)
    (of_decide_eq_true (by kernel_rfl)) (by unfold Func.isWrapper; first | (rw [if_pos (by decide +kernel)]; kernel_rfl) | (rw [if_neg (by decide +kernel)]; exact ⟨rfl, rfl⟩))
    (fun os started H enc _ => lifted os started H enc)
theorem proved : Rows.RopeRoundSaid := over
#print axioms proved
end Go.Proofs.Ytdddfajchkmehaa.ropeRound
