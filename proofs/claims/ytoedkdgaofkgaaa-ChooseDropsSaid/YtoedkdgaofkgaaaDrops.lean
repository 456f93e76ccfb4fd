/- ChooseDrops: without an item that was not chosen the same items are chosen; no condition. -/
import Derived.Test.YtoedkdgaofkgaaaLaw0
import Derived.Test.YtoedkdgaofkgaaaLaw3
import Derived.Test.YtoedkdgaofkgaaaRec
import Derived.Deep.QuietTactic
import Derived.BigQuiet
import Derived.Deep.RegionHeld3
namespace Go.Proofs.Ytoedkdgaofkgaaa.chooseDrops
open Go.RowKit Go.ChangeShapes Go.WideShapes Go.ChangeAt
set_option linter.unusedVariables false
theorem info42 : (Try.prog.info? 42).map (fun i => (i.zero, i.size, i.bytes)) = some (some (.agg #[.int .i64 0, .int .i64 0, .int .i64 0]), 3, 24) := by kernel_rfl
def Item.row (x : Item) : List Int := [x.a, x.b, x.v]
theorem row_len (l : List Item) : ∀ r ∈ l.map Item.row, r.length = 3 := fun r hr => by
  obtain ⟨x, _, rfl⟩ := List.mem_map.1 hr; rfl
theorem items_src {w : World} {A : Option Addr} {l : List Item} (h : Items w A l) : Src w A 3 (l.map Item.row) := fun hn => by
  obtain ⟨b, off, rfl, hc⟩ := h (by simpa using hn)
  refine ⟨b, off, rfl, fun i j r x hr hj hx => ?_⟩
  have hi : i < l.length := by
    have := (List.getElem?_eq_some_iff.1 hr).1
    simpa using this
  rw [List.getElem?_map, List.getElem?_eq_getElem hi] at hr
  simp at hr
  subst hr
  obtain ⟨h0, h1, h2⟩ := hc i hi
  match j, hj with
  | 0, _ => simp [Item.row] at hx; subst hx; exact h0
  | 1, _ => simp [Item.row] at hx; subst hx; exact h1
  | 2, _ => simp [Item.row] at hx; subst hx; exact h2
theorem src_items {w : World} {A : Option Addr} {l : List Item} (h : Src w A 3 (l.map Item.row)) : Items w A l := fun hn => by
  obtain ⟨b, off, rfl, hc⟩ := h (by simpa using hn)
  refine ⟨b, off, rfl, fun i hi => ?_⟩
  have hr : (l.map Item.row)[i]? = some (Item.row l[i]) := by rw [List.getElem?_map, List.getElem?_eq_getElem hi]; rfl
  exact ⟨hc i 0 _ _ hr (by omega) rfl, hc i 1 _ _ hr (by omega) rfl, hc i 2 _ _ hr (by omega) rfl⟩
theorem items_take {w : World} {A : Option Addr} {l : List Item} (h : Items w A l) (k : Nat) : Items w A (l.take k) := fun hn => by
  simp at hn
  obtain ⟨b, off, rfl, hc⟩ := h (by omega)
  refine ⟨b, off, rfl, fun i hi => ?_⟩
  simp at hi
  rw [List.getElem_take]
  exact hc i (by omega)
theorem items_drop {w : World} {A : Option Addr} {l : List Item} (h : Items w A l) (k c : Nat) (hc : l.length ≤ c) : Items w (if c = k then A else A.map (fun x => x.add (k * 3))) (l.drop k) := fun hn => by
  simp at hn
  obtain ⟨b, off, rfl, hcell⟩ := h (by omega)
  rw [if_neg (by omega)]
  refine ⟨b, off + k * 3, ?_, fun i hi => ?_⟩
  · simp only [Option.map_some]
    congr 1
    unfold Addr.add
    split
    · rename_i h0; rw [h0]; rfl
    · rfl
  · simp at hi
    have := hcell (k + i) (by omega)
    rw [List.getElem_drop]
    rw [show off + k * 3 + i * 3 = off + (k + i) * 3 by omega]
    exact this
theorem slice_to (A : Option Addr) (n c k : Nat) (hk : k < n) (hc : n ≤ c) (w : World) : (Instr.slice 22 (.slice A n c) none (some (.int .i64 (k : Int))) none).run Try.prog w = .ok (.slice A k c) w := by
  have h1 : k ≤ c := by omega
  go_simp
theorem slice_from (A : Option Addr) (n c k : Nat) (hk : k < n) (w : World) : (Instr.slice 22 (.slice A n c) (some (.int .i64 ((k : Int) + 1))) none none).run Try.prog w = .ok (.slice (if c = k + 1 then A else A.map (fun x => x.add ((k + 1) * 3))) (n - (k + 1)) (c - (k + 1))) w := by
  have h1 : 0 ≤ (k : Int) + 1 := by omega
  have h2 : (k : Int) + 1 ≤ (n : Int) := by omega
  go_simp
theorem trod_cap {H : Type} {enc : TypeId × Value → H} {P : Program} {w : World} {base : Nat} {held : Bool} {t e : TypeId} {A : Option Addr} {n c : Nat} {d : DataW H} {p : List MemPlace} (ht : P.underlying t = some (.slice e)) (h : DataW.Trod enc P w base (fun _ => true) held t (.slice A n c) d p) : n ≤ c := by
  obtain ⟨fuel, hf⟩ := h
  rcases Go.Deep.open_slice ht hf with ⟨hcs, _⟩ | ⟨a, len, cap, m, n', D, Pl, hcs, _, hl, _⟩
  · simp [Value.cells] at hcs
    omega
  · simp [Value.cells] at hcs
    obtain ⟨rfl, rfl, rfl⟩ := hcs
    exact hl
theorem open_items2 {H : Type} {enc : TypeId × Value → H} {w : World} {base : Nat} {held : Bool} {r : Reach} {b0 : Nat} {v : Value} {d : DataW H} {p : List MemPlace} (hv : Value.okWide Try.prog w r b0 22 v) (h : DataW.Trod enc Try.prog w base (fun _ => true) held 22 v d p) :
    ∃ (A : Option Addr) (c : Nat) (l : List Item), v = .slice A l.length c ∧ l.length ≤ maxLen ∧ (Items w A l ∧ l.length ≤ c) ∧ LenIs d l.length := by
  obtain ⟨A, c, l, rfl, hm, hi, hL⟩ := open_items hv h
  exact ⟨A, c, l, rfl, hm, ⟨hi, trod_cap Try.underlying22 h⟩, hL⟩
set_option maxHeartbeats 4000000 in
theorem walk (A : Option Addr) (c : Nat) (l : List Item) (a b at_ : Int) (w : World) (_hm : l.length ≤ maxLen) (hh : Items w A l ∧ l.length ≤ c) (hr : l.length * Try.prog.bytesOf 42 ≤ reachBytes)
    (_ha : (Lit.int .i64 a).wf = true) (_hb : (Lit.int .i64 b).wf = true) (hat : (Lit.int .u8 at_).wf = true) : Calls Try.prog 10 #[.slice A l.length c, .agg #[.int .i64 a, .int .i64 b], .int .u8 at_] w fun e w' => e = .returned (.bool true) ∧ Below w.heap.size w w' := by
  have hl := len_ok hr
  obtain ⟨h, hcap⟩ := hh
  have g0 : 0 ≤ at_ ∧ at_ ≤ 255 := by simpa [Lit.wf, IntKind.min, IntKind.max, IntKind.signed, IntKind.bits] using hat
  clear hr _hm _ha _hb hat
  have k0 : (w.alloc (.cells #[.int .i64 a, .int .i64 b] 36)).cell? ⟨w.heap.size, 0, none⟩ = some (.int .i64 a) := by go_simp
  have k1 : (w.alloc (.cells #[.int .i64 a, .int .i64 b] 36)).cell? ⟨w.heap.size, 1, none⟩ = some (.int .i64 b) := by go_simp
  by_cases hr0 : rightOf l = 0
  · obtain ⟨h12, hit⟩ := right_ok hr0
    have eb : bestF l a b = bestOf l a b := by rw [bestF, if_pos hr0]; rfl
    have hXl : (bestOf l a b).length ≤ 12 := by
      have := refF_length l a b (2 ^ l.length)
      rw [← best_eq_ref hr0] at this
      exact this
    have hXr : ∀ i, i ∈ bestOf l a b → 0 ≤ i ∧ i < l.length := valid_range (bestOf_valid hr0 a b)
    have hbest1 := fun W (hW : Items W A l) => Lib.hid (Best_any A c l a b W (by omega) hW)
    unfold BestPost at hbest1
    rw [eb, hr0] at hbest1
    have hdrop := fun k (hk : k < l.length) (hn : ∀ i, i ∈ bestOf l a b → i ≠ (k : Int)) => drops_law (a := a) (b := b) hr0 hk hn
    have hrw := fun k (hk : k < l.length) => right_without hr0 hk
    have Hdrop := Lib.hid hdrop
    have Hrw := Lib.hid hrw
    clear hdrop hrw eb hr0
    generalize bestOf l a b = X at *
    by_cases hl0 : l.length = 0
    · have hX0 : X = [] := by
        cases X with
        | nil => rfl
        | cons i r => have := hXr i (by simp); omega
      subst hX0
      have hl0' : ((l.length : Int) == 0) = true := by simp [hl0]
      have Hl0 := Lib.hid hl0
      clear hl0
      go_enter Try.func10, Try.ntmps10
      go_wp2_with fail
      refine (alive_any _).mono ?_
      rintro e w1 ⟨rfl, hb1⟩
      have hb := (below_alloc w (.cells #[.int .i64 a, .int .i64 b] 36)).trans (hb1.mono (by simp))
      have k0' := cell_later hb1 k0
      have k1' := cell_later hb1 k1
      clear hb1 k0 k1
      go_wp2_with fail
      refine (hbest1 _ (h.below hb)).out.mono ?_
      rintro e w2 ⟨A2, c2, rfl, hi2, hb2⟩
      have hbb := hb.trans (hb2.mono hb.size)
      clear k0' k1' hb hb2
      go_wp2
      go_ret
      exact ⟨rfl, hbb⟩
    · obtain ⟨k, hk⟩ : ∃ k : Nat, at_ % (l.length : Int) = (k : Int) := ⟨(at_ % (l.length : Int)).toNat, by have := Int.emod_nonneg at_ (show (l.length : Int) ≠ 0 by omega); omega⟩
      have hkl : k < l.length := by have := Int.emod_lt_of_pos at_ (show (0 : Int) < (l.length : Int) by omega); omega
      have hl0' : ((l.length : Int) == 0) = false := by rw [beq_eq_false_iff_ne]; omega
      have Hk := Lib.hid hk
      clear hk
      go_enter Try.func10, Try.ntmps10
      go_wp2_with fail
      refine (alive_any _).mono ?_
      rintro e w1 ⟨rfl, hb1⟩
      have hb := (below_alloc w (.cells #[.int .i64 a, .int .i64 b] 36)).trans (hb1.mono (by simp))
      have k0' := cell_later hb1 k0
      have k1' := cell_later hb1 k1
      clear hb1 k0 k1
      go_wp2_with fail
      refine (hbest1 _ (h.below hb)).out.mono ?_
      rintro e w2 ⟨A2, c2, rfl, hi2, hb2⟩
      have hbb := hb.trans (hb2.mono hb.size)
      have k0'' := cell_later hb2 k0'
      have k1'' := cell_later hb2 k1'
      clear k0' k1' hb hb2
      go_wp2_with fail
      rw [Hk.out]
      have hXi : ∀ j (hj : j < X.length), 0 ≤ X[j] ∧ X[j] < l.length := fun j hj => hXr _ (List.getElem_mem hj)
      have HXi := Lib.hid hXi
      have HXr := Lib.hid hXr
      clear hXr hXi
      go_loopw [10, 11] (fun v i wr => ∃ (j : Nat), j ≤ X.length ∧ i = .int .i64 j ∧ OwnI wr w2.heap.size 3 v ((X.take j).map (down k)) ∧ Below w2.heap.size w2 wr ∧ ∀ i, i ∈ X.take j → i ≠ (k : Int)) (fun _ i _ => X.length - (intOf i).toNat)
      case atStart => exact ⟨0, Nat.zero_le _, rfl, OwnI.nil _ _ _, Below.refl _ _, fun i hi => by simp at hi⟩
      case round =>
        obtain ⟨j, hj, rfl, hown, hbw, hnot⟩ := hrel
        have Hnot := Lib.hid hnot
        clear hnot
        by_cases hlt : j < X.length
        · obtain ⟨bX, oX, rfl, hcX⟩ := hi2 (by omega)
          have hcell := cell_later hbw (hcX j hlt)
          have hbd := HXi.out j hlt
          have htk : X.take (j + 1) = X.take j ++ [X[j]] := List.take_succ_eq_append_getElem hlt
          have Htk := Lib.hid htk
          have Elen := Lib.hid (show ((X.take j).map (down k)).length = j by simp; omega)
          clear hcX htk
          generalize hq : X[j] = q at *
          have Hq := Lib.hid hq
          clear hq
          by_cases he : q = (k : Int)
          · have he' : (q == (k : Int)) = true := by simp [he]
            have He := Lib.hid he
            clear he
            go_wp2
            go_ret
            exact ⟨rfl, hbb.trans (hbw.mono hbb.size)⟩
          · have he' : (q == (k : Int)) = false := by simp [he]
            have hnot2 : ∀ i, i ∈ X.take (j + 1) → i ≠ (k : Int) := by
              intro i hi
              rw [Htk.out] at hi
              rcases List.mem_append.1 hi with h1 | h1
              · exact Hnot.out i h1
              · simp at h1; subst h1; exact he
            have Hnot2 := Lib.hid hnot2
            have Hne := Lib.hid he
            clear hnot2 he
            by_cases hgt : (k : Int) < q
            · have hd : down k q = q - 1 := by unfold down; rw [if_pos hgt]
              have Hd := Lib.hid hd
              clear hd
              go_wp2_with (at_builtin; refine wpList_push w2 wr rfl (.tmp 59) (.tmp 65) _ rfl w2.heap.size 3 Try.underlying27 info3 _ ((X.take j).map (down k)) rfl (by exact hown) (q - 1) rfl (by exact hbw) (by simp; omega) hbw.size ?_; intro g1 cap1 w3 hown1 hbw3 hg1 hat1)
              have hown2 := hown1
              rw [Elen.out] at hown2
              clear hg1 hat1 hown hown1
              go_wp2
              go_roundw
              case rel => exact ⟨j + 1, by omega, by go_num, by rw [Htk.out, List.map_append]; simp only [List.map_cons, List.map_nil, Hd.out]; exact hown2, hbw3, Hnot2.out⟩
              case measure => simp [intOf]; omega
            · have hd : down k q = q := by unfold down; rw [if_neg hgt]
              have Hd := Lib.hid hd
              clear hd
              go_wp2_with (at_builtin; refine wpList_push w2 wr rfl (.tmp 67) (.tmp 72) _ rfl w2.heap.size 3 Try.underlying27 info3 _ ((X.take j).map (down k)) rfl (by exact hown) q rfl (by exact hbw) (by simp; omega) hbw.size ?_; intro g1 cap1 w3 hown1 hbw3 hg1 hat1)
              have hown2 := hown1
              rw [Elen.out] at hown2
              clear hg1 hat1 hown hown1
              go_wp2
              go_roundw
              case rel => exact ⟨j + 1, by omega, by go_num, by rw [Htk.out, List.map_append]; simp only [List.map_cons, List.map_nil, Hd.out]; exact hown2, hbw3, Hnot2.out⟩
              case measure => simp [intOf]; omega
        · have hje : j = X.length := by omega
          subst hje
          have hnot3 := Hnot.out
          rw [List.take_length] at hnot3 hown
          have hdr := Hdrop.out k hkl hnot3
          have Hdr := Lib.hid hdr
          clear hdr hnot3 Hnot
          obtain ⟨A3, c3, rfl, hi3⟩ := hown.form
          have hb3 := hbb.trans (hbw.mono hbb.size)
          have k03 := cell_later hbw k0''
          have k13 := cell_later hbw k1''
          clear hown hbb hbw k0'' k1''
          go_wp2_with fail
          have hs1 := slice_to A l.length c k hkl hcap
          have hs2 := slice_from A l.length c k hkl
          have hwr : IntKind.i64.wrap ((k : Int) + 1) = (k : Int) + 1 := IntWalk.i64_in _ (by omega)
          have it1 := items_take h k
          have it2 := items_drop h (k + 1) c hcap
          generalize (if c = k + 1 then A else A.map (fun x => x.add ((k + 1) * 3))) = A' at hs2 it2
          have sr1 := (items_src it1).below hb3
          have sr2 := (items_src it2).below hb3
          have n1 : ([] : List (List Int)).length + ((l.take k).map Item.row).length ≤ maxLen := by simp [maxLen]; omega
          have n2 : (([] : List (List Int)).length + ((l.take k).map Item.row).length) * 24 ≤ 140737488355328 := by simp; omega
          have n3 : ((l.take k).map Item.row).length + ((l.drop (k + 1)).map Item.row).length ≤ maxLen := by simp [maxLen]; omega
          have n4 : (((l.take k).map Item.row).length + ((l.drop (k + 1)).map Item.row).length) * 24 ≤ 140737488355328 := by simp; omega
          have m1 := Lib.hid (show k = ((l.take k).map Item.row).length by simp; omega)
          have m2 := Lib.hid (show l.length - (k + 1) = ((l.drop (k + 1)).map Item.row).length by simp)
          have t1 := Lib.hid (show ([] : List (List Int)).length + ((l.take k).map Item.row).length = k by simp; omega)
          have t2 := Lib.hid (show ((l.take k).map Item.row).length + ((l.drop (k + 1)).map Item.row).length = l.length - 1 by simp; omega)
          have ewo := Lib.hid (show (l.take k).map Item.row ++ (l.drop (k + 1)).map Item.row = (without l k).map Item.row by unfold without; rw [List.map_append])
          have RL1 := Lib.hid (row_len (l.take k))
          have RL2 := Lib.hid (row_len (l.drop (k + 1)))
          have ow1 := (OwnR.made wr wr.heap.size 42 3 (Nat.le_refl _)).drew
          have bw1 : Below wr.heap.size wr (wr.alloc (.cells #[] 42)).drew := ((Below.refl _ _).alloc (Nat.le_refl _) _).drew
          go_region_held3 (fun w' => True)
            (exact trivial)
            ((first
              | (refine step_append_rows _ (by rfl) (.tmp 74) (.tmp 77) 22 (by rfl) wr.heap.size 42 (.agg #[.int .i64 0, .int .i64 0, .int .i64 0]) 3 24 Try.underlying22 info42 rfl (Nat.zero_lt_succ _) (.slice (some ⟨wr.heap.size, 0, none⟩) 0 0) [] (by rfl) ow1 A c k ((l.take k).map Item.row) (by rfl) m1.out RL1.out (sr1.below bw1) n1 n2 bw1.size k ((l.take k).map Item.row) t1.out rfl ?_
                 intro A1 c1 w4 own1 hg1 hat1
                 have hbw1 : Below wr.heap.size wr w4 := Below.ownR bw1 ow1 hg1 (Nat.le_refl _) bw1.size)
              | (refine step_append_rows _ (by rfl) (.tmp 78) (.tmp 82) 22 (by rfl) wr.heap.size 42 (.agg #[.int .i64 0, .int .i64 0, .int .i64 0]) 3 24 Try.underlying22 info42 rfl (Nat.zero_lt_succ _) (.slice A1 k c1) ((l.take k).map Item.row) (by rfl) own1 A' (c - (k + 1)) (l.length - (k + 1)) ((l.drop (k + 1)).map Item.row) (by rfl) m2.out RL2.out (sr2.below hbw1) n3 n4 hbw1.size (l.length - 1) ((without l k).map Item.row) t2.out ewo.out ?_
                 intro A2' c2' w5 own2 hg2 hat2
                 have hbw2 : Below wr.heap.size wr w5 := Below.ownR hbw1 own1 hg2 (Nat.le_refl _) hbw1.size)))
          have hi5 : Items w5 A2' (without l k) := src_items own2.src
          have hb5 := hb3.trans (hbw2.mono hb3.size)
          have k05 := cell_later hbw2 k03
          have k15 := cell_later hbw2 k13
          have hi3' := hi3.below hbw2
          clear own2 hg2 hat2 own1 hg1 hat1 hbw1 hbw2 hb3 k03 k13 ow1 bw1 sr1 sr2 it1 it2 n1 n2 n3 n4 m1 m2 t1 t2 ewo RL1 RL2 hs1 hs2 hi3 hwr
          have hwl := without_length hkl
          have ewl : (without l k).length = l.length - 1 := by omega
          have hbest2 := Lib.hid (Best_any A2' c2' (without l k) a b w5 (by omega) hi5)
          have hrw := Hrw.out k hkl
          have eb2 : bestF (without l k) a b = X.map (down k) := by rw [bestF, if_pos hrw]; exact Hdr.out
          unfold BestPost at hbest2
          rw [eb2, hrw, ewl] at hbest2
          have hsame := fun A6 c6 W (h1 : Ints W A6 (X.map (down k))) (h2 : Ints W A3 (X.map (down k))) => Lib.hid (Same_any A6 A3 c6 c3 (X.map (down k)) (X.map (down k)) W (by simp; omega) (by simp; omega) h1 h2)
          rw [sameOf_self] at hsame
          simp only [List.length_map] at hsame hbest2
          clear hwl ewl hrw eb2 Hdr
          go_wp2_with fail
          refine hbest2.out.mono ?_
          rintro e w6 ⟨A6, c6, rfl, hi6, hb6⟩
          have hi36 := hi3'.below hb6
          have hb7 := hb5.trans (hb6.mono hb5.size)
          clear hb5 hb6 hi3' k05 k15 hbest2
          go_wp2_with fail
          refine (hsame A6 c6 w6 hi6 hi36).out.mono ?_
          rintro e w7 ⟨rfl, n7, rfl⟩
          go_wp2
          go_ret
          exact ⟨rfl, below_dn hb7 _⟩
  · have hne : (rightOf l != 0) = true := by simpa using hr0
    have hbest1 := fun W (hW : Items W A l) => Lib.hid (Best_any A c l a b W (by omega) hW)
    unfold BestPost at hbest1
    rw [bestF, if_neg hr0] at hbest1
    clear hr0
    go_enter Try.func10, Try.ntmps10
    go_wp2_with fail
    refine (alive_any _).mono ?_
    rintro e w1 ⟨rfl, hb1⟩
    have hb := (below_alloc w (.cells #[.int .i64 a, .int .i64 b] 36)).trans (hb1.mono (by simp))
    have k0' := cell_later hb1 k0
    have k1' := cell_later hb1 k1
    clear hb1 k0 k1
    go_wp2_with fail
    refine (hbest1 _ (h.below hb)).out.mono ?_
    rintro e w2 ⟨A2, c2, rfl, hi2, hb2⟩
    have hbb := hb.trans (hb2.mono hb.size)
    clear k0' k1' hb hb2
    go_wp2
    go_ret
    exact ⟨rfl, hbb⟩

set_option maxRecDepth 100000 in
theorem lifted (os : Os) (started : os.Started) (H : Type) (enc : TypeId × Value → H) :
    ReturnsInHanded {} Try.checked os 10 .any (Rows.chooseDropsSpec.pre6 enc Try.prog Try.f10 Rows.chooseDropsRow.domain false) (Rows.chooseDropsSpec.post enc Try.prog Try.f10 false true false false) := by
  refine returnsInHanded_of_change_sized (C := Try.checked) own started (by kernel_rfl) Try.func10
    (ChangeSpec.witness6 (enc := enc) (C := Try.checked) false ⟨#[], #[.slice none 0 0, .agg #[.int .i64 0, .int .i64 0], .int .u8 0], []⟩ 8 (by kernel_rfl) (by kernel_rfl) (by kernel_rfl) (by kernel_rfl)) ?_
  intro W base args ds gs before hval0 hW hcnd hsz0 _
  have hval : ∀ (j : Nat) t v, Try.f10.params[j]? = some t → args[j]? = some v → Value.okWide Try.prog W .any base t v := hval0
  refine law_post laidOut (by kernel_rfl) Try.underlying4 rfl rfl hW (fun hn => ?_) ?_
  · match ds, hn with
    | [_, _, _], _ => rfl
  obtain ⟨p, q, hA0, hV, rfl, _, _⟩ := hW
  have hA : DataW.TrodAll enc Try.prog W 0 (fun _ => true) true Try.f10.params.toList args.toList ds p := hA0
  obtain ⟨rfl, rfl⟩ := trodVars_none hV
  have hsz : (DataW.weightsEach Try.prog (Try.f10.params.toList ++ []) (ds ++ [])).all (· ≤ reachBytes) = true := hsz0
  rw [Try.params10] at hA hval hsz
  obtain ⟨v0, vs0, d0, ds0, p0, q0, hargs, rfl, rfl, h0, r0⟩ := trodAll_cons hA
  obtain ⟨v1, vs1, d1, ds1, p1, q1, rfl, rfl, rfl, h1, r1⟩ := trodAll_cons r0
  obtain ⟨v2, vs2, d2, ds2, p2, q2, rfl, rfl, rfl, h2, r2⟩ := trodAll_cons r1
  obtain ⟨rfl, rfl, rfl⟩ := trodAll_nil r2
  obtain rfl : args = #[v0, v1, v2] := by cases args; simp_all
  obtain ⟨A0, c0, l0, rfl, hm0, hi0, hL0⟩ := open_items2 (hval 0 22 v0 rfl rfl) h0
  obtain ⟨x1, y1, rfl, w1, z1⟩ := open_arr2 Try.underlying36 Try.underlying3 (by kernel_rfl) (by kernel_rfl) (hval 1 36 v1 rfl rfl) h1
  obtain ⟨x2, rfl, w2⟩ := open_i Try.underlying5 (hval 2 5 v2 rfl rfl) h2
  exact walk A0 c0 l0 x1 y1 x2 W hm0 hi0 (hL0.reach hsz (j := 0) rfl rfl Try.underlying22) w1 z1 w2
theorem over : Rows.chooseDropsRow.holds Try.pinned (OpenSpec.ofChange Rows.chooseDropsSpec) :=
  OpenClaim.holds_of_wide 10 Try.f10 rfl rfl rfl rfl rfl rfl rfl ⟨rfl, rfl, rfl, rfl, rfl⟩ rfl rfl rfl rfl rfl (by kernel_rfl) Try.func10 (by kernel_rfl)
    (of_decide_eq_true (by kernel_rfl)) (by unfold Func.isWrapper; first | (rw [if_pos (by decide +kernel)]; kernel_rfl) | (rw [if_neg (by decide +kernel)]; exact ⟨rfl, rfl⟩))
    (fun os started H enc _ => lifted os started H enc)
theorem proved : Rows.ChooseDropsSaid := over
#print axioms proved
end Go.Proofs.Ytoedkdgaofkgaaa.chooseDrops
