/- ChooseAdds: another item makes the best choice worth at most its value more, and never less; no condition. -/
import Derived.Test.YtoedkdgaofkgaaaLaw0
import Derived.Test.YtoedkdgaofkgaaaLaw3
import Derived.Test.YtoedkdgaofkgaaaRec
import Derived.Deep.QuietTactic
import Derived.BigQuiet
import Derived.Deep.RegionHeld3
namespace Go.Proofs.Ytoedkdgaofkgaaa.chooseAdds
open Go.RowKit Go.ChangeShapes Go.WideShapes Go.ChangeAt
set_option linter.unusedVariables false
theorem info42 : (Try.prog.info? 42).map (fun i => (i.zero, i.size, i.bytes)) = some (some (.agg #[.int .i64 0, .int .i64 0, .int .i64 0]), 3, 24) := by kernel_rfl
def Item.row (x : Item) : List Int := [x.a, x.b, x.v]
theorem row_len (l : List Item) : ∀ r ∈ l.map Item.row, r.length = 3 := fun r hr => by
  obtain ⟨x, _, rfl⟩ := List.mem_map.1 hr; rfl
theorem items_src {w : World} {A : Option Addr} {l : List Item} (h : Items w A l) : Src w A 3 (l.map Item.row) := fun hn => by
  obtain ⟨b, off, rfl, hc⟩ := h (by simpa using hn)
  refine ⟨b, off, rfl, fun i j r x hr hj hx => ?_⟩
  have hi : i < l.length := by
    have := (List.getElem?_eq_some_iff.1 hr).1
    simpa using this
  rw [List.getElem?_map, List.getElem?_eq_getElem hi] at hr
  simp at hr
  subst hr
  obtain ⟨h0, h1, h2⟩ := hc i hi
  match j, hj with
  | 0, _ => simp [Item.row] at hx; subst hx; exact h0
  | 1, _ => simp [Item.row] at hx; subst hx; exact h1
  | 2, _ => simp [Item.row] at hx; subst hx; exact h2
theorem src_items {w : World} {A : Option Addr} {l : List Item} (h : Src w A 3 (l.map Item.row)) : Items w A l := fun hn => by
  obtain ⟨b, off, rfl, hc⟩ := h (by simpa using hn)
  refine ⟨b, off, rfl, fun i hi => ?_⟩
  have hr : (l.map Item.row)[i]? = some (Item.row l[i]) := by rw [List.getElem?_map, List.getElem?_eq_getElem hi]; rfl
  exact ⟨hc i 0 _ _ hr (by omega) rfl, hc i 1 _ _ hr (by omega) rfl, hc i 2 _ _ hr (by omega) rfl⟩
theorem one_src (w : World) (x : Item) : Src (w.alloc (.cells #[.int .i64 x.a, .int .i64 x.b, .int .i64 x.v] 42)) (some ⟨w.heap.size, 0, none⟩) 3 [Item.row x] := fun _ => by
  refine ⟨_, _, rfl, fun i j r y hr hj hy => ?_⟩
  have hi : i = 0 := by have := (List.getElem?_eq_some_iff.1 hr).1; simp at this; omega
  subst hi
  simp at hr
  subst hr
  match j, hj with
  | 0, _ => simp [Item.row] at hy; subst hy; go_simp
  | 1, _ => simp [Item.row] at hy; subst hy; go_simp
  | 2, _ => simp [Item.row] at hy; subst hy; go_simp
theorem sum_le {l : List Item} (hl : itemsB l = true) (ch : List Int) : sumOf (itV l) ch ≤ ch.length * 1000000000 := by
  induction ch with
  | nil => simp [sumOf]
  | cons i r ih =>
    have : itV l i ≤ 1000000000 := by
      unfold itV
      by_cases h : i.toNat < l.length
      · have hb := itemB_bd (itemB_of hl i.toNat h)
        have e : l.getD i.toNat Item.zero = l[i.toNat] := by simp [h]
        rw [e]; exact hb.2.2.2
      · have e : l.getD i.toNat Item.zero = Item.zero := by simp; rw [List.getElem?_eq_none (by omega)]; rfl
        rw [e]; simp [Item.zero]
    simp only [sumOf, List.length_cons, Int.natCast_add]
    omega
theorem adds_facts {l : List Item} {x : Item} (hr : rightOf (l ++ [x]) = 0) (a b : Int) : ∃ (X Y : List Int) (p q v p' q' v' : Int), bestF l a b = X ∧ bestF (l ++ [x]) a b = Y ∧ X.length ≤ 12 ∧ Y.length ≤ 12 ∧ needOf l X = (p, q, v, true) ∧ needOf (l ++ [x]) Y = (p', q', v', true) ∧ v ≤ v' ∧ v' ≤ v + x.v ∧ 0 ≤ v ∧ v ≤ 12000000000 ∧ 0 ≤ x.v ∧ x.v ≤ 1000000000 := by
  have hr' := right_init hr
  have e : ∀ {l : List Item}, rightOf l = 0 → bestF l a b = bestOf l a b := fun h => by rw [bestF, if_pos h]; rfl
  have hlen : ∀ {l : List Item}, rightOf l = 0 → (bestOf l a b).length ≤ 12 := fun {l} h => by
    have := refF_length l a b (2 ^ l.length)
    rw [← best_eq_ref h] at this
    exact this
  have hn : ∀ {l : List Item}, rightOf l = 0 → needOf l (bestOf l a b) = (sumOf (itA l) (bestOf l a b), sumOf (itB l) (bestOf l a b), sumOf (itV l) (bestOf l a b), true) := fun h => by
    rw [needOf_eq, if_pos (bestOf_valid h a b)]
  have hlaw := adds_law hr a b
  rw [valOf_eq (bestOf_valid hr' a b), valOf_eq (bestOf_valid hr a b)] at hlaw
  obtain ⟨_, hl⟩ := right_ok hr'
  obtain ⟨_, hlx⟩ := right_ok hr
  have hx : itemB x = true := by
    have := itemB_of hlx l.length (by simp)
    simpa using this
  have h0 := sum_nn (fun i => (item_nn hl i).2.2) (bestOf l a b)
  have h1 := sum_le hl (bestOf l a b)
  have h2 := hlen hr'
  have h3 := itemB_bd hx
  exact ⟨_, _, _, _, _, _, _, _, e hr', e hr, hlen hr', hlen hr, hn hr', hn hr, hlaw.1, hlaw.2, h0, by omega, h3.2.2.1, h3.2.2.2⟩
theorem open_item {H : Type} {enc : TypeId × Value → H} {w : World} {base : Nat} {spare : Nat → Bool} {held : Bool} {r : Reach} {b0 : Nat} {v : Value} {d : DataW H} {p : List MemPlace} (hv : Value.okWide Try.prog w r b0 42 v) (h : DataW.Trod enc Try.prog w base spare held 42 v d p) :
    ∃ x : Item, v = .agg #[.int .i64 x.a, .int .i64 x.b, .int .i64 x.v] ∧ True := by
  obtain ⟨l, hl, rfl, _⟩ := open_agg (fs := _) Try.underlying42 (by kernel_rfl) (by kernel_rfl) (by kernel_rfl) hv h
  match l, hl with
  | [a, b, c], _ => exact ⟨⟨a, b, c⟩, rfl, trivial⟩
set_option maxHeartbeats 4000000 in
theorem walk (A : Option Addr) (c : Nat) (l : List Item) (x : Item) (a b : Int) (w : World) (_hm : l.length ≤ maxLen) (h : Items w A l) (hr : l.length * Try.prog.bytesOf 42 ≤ reachBytes) (_hx : True)
    (_ha : (Lit.int .i64 a).wf = true) (_hb : (Lit.int .i64 b).wf = true) : Calls Try.prog 9 #[.slice A l.length c, .agg #[.int .i64 x.a, .int .i64 x.b, .int .i64 x.v], .agg #[.int .i64 a, .int .i64 b]] w fun e w' => e = .returned (.bool true) ∧ Below w.heap.size w w' := by
  have hl : l.length ≤ 5864062014634 := by
    rw [bytes42] at hr
    have : reachBytes = 140737488351232 := by decide
    omega
  clear hr _hm _ha _hb _hx
  have hbase : Below w.heap.size w ((w.alloc (.cells #[.int .i64 x.a, .int .i64 x.b, .int .i64 x.v] 42)).alloc (.cells #[.int .i64 a, .int .i64 b] 36)) := ((Below.refl _ _).alloc (Nat.le_refl _) _).alloc (by simp) _
  have HB := Lib.hid hbase; clear hbase
  have kx0 : ((w.alloc (.cells #[.int .i64 x.a, .int .i64 x.b, .int .i64 x.v] 42)).alloc (.cells #[.int .i64 a, .int .i64 b] 36)).cell? ⟨w.heap.size, 0, none⟩ = some (.int .i64 x.a) := by go_simp
  have kx1 : ((w.alloc (.cells #[.int .i64 x.a, .int .i64 x.b, .int .i64 x.v] 42)).alloc (.cells #[.int .i64 a, .int .i64 b] 36)).cell? ⟨w.heap.size, 1, none⟩ = some (.int .i64 x.b) := by go_simp
  have kx2 : ((w.alloc (.cells #[.int .i64 x.a, .int .i64 x.b, .int .i64 x.v] 42)).alloc (.cells #[.int .i64 a, .int .i64 b] 36)).cell? ⟨w.heap.size, 2, none⟩ = some (.int .i64 x.v) := by go_simp
  have ka : ((w.alloc (.cells #[.int .i64 x.a, .int .i64 x.b, .int .i64 x.v] 42)).alloc (.cells #[.int .i64 a, .int .i64 b] 36)).cell? ⟨w.heap.size + 1, 0, none⟩ = some (.int .i64 a) := by go_simp
  have kb : ((w.alloc (.cells #[.int .i64 x.a, .int .i64 x.b, .int .i64 x.v] 42)).alloc (.cells #[.int .i64 a, .int .i64 b] 36)).cell? ⟨w.heap.size + 1, 1, none⟩ = some (.int .i64 b) := by go_simp
  have el : (l ++ [x]).length = l.length + 1 := by simp
  by_cases hr0 : rightOf (l ++ [x]) = 0
  · have hr1 := right_init hr0
    obtain ⟨h12, hit⟩ := right_ok hr1
    obtain ⟨h12x, hitx⟩ := right_ok hr0
    obtain ⟨X, Y, p, q, v, p', q', v', e1, e2, l1, l2, m1, m2, hv1, hv2, hv3, hv4, hv5, hv6⟩ := adds_facts hr0 a b
    have hright := fun A2 c2 W (hW : Items W A2 (l ++ [x])) => Lib.hid (Right_any A2 c2 (l ++ [x]) W (by omega) hW)
    have hbest1 := fun W (hW : Items W A l) => Lib.hid (Best_any A c l a b W (by omega) hW)
    have hbest2 := fun A2 c2 W (hW : Items W A2 (l ++ [x])) => Lib.hid (Best_any A2 c2 (l ++ [x]) a b W (by omega) hW)
    have hneed1 := fun A2 c2 W (hW : Items W A l) (hW2 : Ints W A2 X) => Lib.hid (Need_any A A2 c c2 l X W (by omega) hit (by omega) hW hW2)
    have hneed2 := fun A1 c1 A2 c2 W (hW : Items W A1 (l ++ [x])) (hW2 : Ints W A2 Y) => Lib.hid (Need_any A1 A2 c1 c2 (l ++ [x]) Y W (by omega) hitx (by omega) hW hW2)
    unfold BestPost at hbest1 hbest2
    rw [e1, hr1] at hbest1
    rw [e2, hr0, el] at hbest2
    rw [hr0, el] at hright
    rw [m1] at hneed1
    rw [m2, el] at hneed2
    clear e1 e2 hr0 hr1 m1 m2 el
    go_enter Try.func9, Try.ntmps9
    go_wp2_with fail
    refine (alive_any _).mono ?_
    rintro e w1 ⟨rfl, hb1⟩
    have hb := HB.out.trans (hb1.mono HB.out.size)
    have kx0' := cell_later hb1 kx0
    have kx1' := cell_later hb1 kx1
    have kx2' := cell_later hb1 kx2
    have ka' := cell_later hb1 ka
    have kb' := cell_later hb1 kb
    clear hb1 kx0 kx1 kx2 ka kb HB
    go_wp2_with fail
    have hsx := items_src h
    have n1 : ([] : List (List Int)).length + (l.map Item.row).length ≤ maxLen := by simp [maxLen]; omega
    have n2 : (([] : List (List Int)).length + (l.map Item.row).length) * 24 ≤ 140737488355328 := by simp; omega
    have n3 : (l.map Item.row).length + [Item.row x].length ≤ maxLen := by simp [maxLen]; omega
    have n4 : ((l.map Item.row).length + [Item.row x].length) * 24 ≤ 140737488355328 := by simp; omega
    have n5 : l.length = (l.map Item.row).length := by simp
    have N5 := Lib.hid n5
    have t1 := Lib.hid (show ([] : List (List Int)).length + (l.map Item.row).length = l.length by simp)
    have t2 := Lib.hid (show (l.map Item.row).length + [Item.row x].length = l.length + 1 by simp)
    clear n5
    have rl1 : ∀ r ∈ [Item.row x], r.length = 3 := by simp [Item.row]
    have RL1 := Lib.hid rl1
    have RL := Lib.hid (row_len l)
    clear rl1
    have ow1 := (OwnR.made w1 w1.heap.size 42 3 (Nat.le_refl _)).drew
    have ow2 := ((OwnR.made w1 w1.heap.size 42 3 (Nat.le_refl _)).alloc (.cells #[.int .i64 x.a, .int .i64 x.b, .int .i64 x.v] 42)).drew
    have ow3 : OwnR ((w1.alloc (.cells #[.int .i64 x.a, .int .i64 x.b, .int .i64 x.v] 42)).alloc (.cells #[] 42)).drew w1.heap.size 42 3 (.slice (some ⟨w1.heap.size + 1, 0, none⟩) 0 0) [] := by
      have := (OwnR.made (w1.alloc (.cells #[.int .i64 x.a, .int .i64 x.b, .int .i64 x.v] 42)) w1.heap.size 42 3 (by simp)).drew
      simpa using this
    have bw1 : Below w1.heap.size w1 (w1.alloc (.cells #[] 42)).drew := ((Below.refl _ _).alloc (Nat.le_refl _) _).drew
    have bw2 : Below w1.heap.size w1 ((w1.alloc (.cells #[] 42)).alloc (.cells #[.int .i64 x.a, .int .i64 x.b, .int .i64 x.v] 42)).drew := (((Below.refl _ _).alloc (Nat.le_refl _) _).alloc (by simp) _).drew
    have bw3 : Below w1.heap.size w1 ((w1.alloc (.cells #[.int .i64 x.a, .int .i64 x.b, .int .i64 x.v] 42)).alloc (.cells #[] 42)).drew := (((Below.refl _ _).alloc (Nat.le_refl _) _).alloc (by simp) _).drew
    have sx2 : Src ((w1.alloc (.cells #[] 42)).alloc (.cells #[.int .i64 x.a, .int .i64 x.b, .int .i64 x.v] 42)).drew (some ⟨w1.heap.size + 1, 0, none⟩) 3 [Item.row x] := by
      have := (one_src (w1.alloc (.cells #[] 42)) x).drew
      simpa using this
    have sx3 : Src ((w1.alloc (.cells #[.int .i64 x.a, .int .i64 x.b, .int .i64 x.v] 42)).alloc (.cells #[] 42)).drew (some ⟨w1.heap.size, 0, none⟩) 3 [Item.row x] := ((one_src w1 x).alloc _).drew
    have hsx1 := hsx.below hb
    go_region_held3 (fun w' => w'.cell? ⟨w.heap.size, 0, none⟩ = some (.int .i64 x.a) ∧ w'.cell? ⟨w.heap.size, 1, none⟩ = some (.int .i64 x.b) ∧ w'.cell? ⟨w.heap.size, 2, none⟩ = some (.int .i64 x.v))
      (first | exact ⟨cell_later hbw2 kx0', cell_later hbw2 kx1', cell_later hbw2 kx2'⟩ | exact ⟨cell_later hbw1 kx0', cell_later hbw1 kx1', cell_later hbw1 kx2'⟩ | go_keep)
      ((first
        | (refine step_append_rows _ (by rfl) (.tmp 22) (.tmp 23) 22 (by rfl) w1.heap.size 42 (.agg #[.int .i64 0, .int .i64 0, .int .i64 0]) 3 24 Try.underlying22 info42 rfl (Nat.zero_lt_succ _) (.slice (some ⟨w1.heap.size, 0, none⟩) 0 0) [] (by rfl) ow1 A c l.length (l.map Item.row) (by rfl) N5.out RL.out (hsx1.below bw1) n1 n2 bw1.size l.length (l.map Item.row) t1.out rfl ?_
           intro A1 c1 w2 own1 hg1 hat1
           have hbw1 : Below w1.heap.size w1 w2 := Below.ownR bw1 ow1 hg1 (Nat.le_refl _) bw1.size)
        | (refine step_append_rows _ (by rfl) (.tmp 22) (.tmp 23) 22 (by rfl) w1.heap.size 42 (.agg #[.int .i64 0, .int .i64 0, .int .i64 0]) 3 24 Try.underlying22 info42 rfl (Nat.zero_lt_succ _) (.slice (some ⟨w1.heap.size, 0, none⟩) 0 0) [] (by rfl) ow2 A c l.length (l.map Item.row) (by rfl) N5.out RL.out (hsx1.below bw2) n1 n2 bw2.size l.length (l.map Item.row) t1.out rfl ?_
           intro A1 c1 w2 own1 hg1 hat1
           have hs2 : Src w2 (some ⟨w1.heap.size + 1, 0, none⟩) 3 [Item.row x] := sx2.grownBy hg1 (by rintro _ ⟨⟩; simp [Value.ownBlock])
           have hbw1 : Below w1.heap.size w1 w2 := Below.ownR bw2 ow2 hg1 (Nat.le_refl _) bw2.size)
        | (refine step_append_rows _ (by rfl) (.tmp 22) (.tmp 23) 22 (by rfl) w1.heap.size 42 (.agg #[.int .i64 0, .int .i64 0, .int .i64 0]) 3 24 Try.underlying22 info42 rfl (Nat.zero_lt_succ _) (.slice (some ⟨w1.heap.size + 1, 0, none⟩) 0 0) [] (by rfl) ow3 A c l.length (l.map Item.row) (by rfl) N5.out RL.out (hsx1.below bw3) n1 n2 bw3.size l.length (l.map Item.row) t1.out rfl ?_
           intro A1 c1 w2 own1 hg1 hat1
           have hs2 : Src w2 (some ⟨w1.heap.size, 0, none⟩) 3 [Item.row x] := sx3.grownBy hg1 (by rintro _ ⟨⟩; simp [Value.ownBlock])
           have hbw1 : Below w1.heap.size w1 w2 := Below.ownR bw3 ow3 hg1 (Nat.le_refl _) bw3.size)
        | (refine step_append_rows _ (by rfl) (.tmp 24) (.tmp 26) 22 (by rfl) w1.heap.size 42 (.agg #[.int .i64 0, .int .i64 0, .int .i64 0]) 3 24 Try.underlying22 info42 rfl (Nat.zero_lt_succ _) (.slice A1 l.length c1) (l.map Item.row) (by rfl) (own1.alloc _) (some ⟨w2.heap.size, 0, none⟩) 1 1 [Item.row x] (by rfl) rfl RL1.out (one_src w2 x) n3 n4 (hbw1.alloc hbw1.size _).size (l.length + 1) (l.map Item.row ++ [Item.row x]) t2.out rfl ?_
           intro A2 c2 w3 own2 hg2 hat2
           have hbw2 : Below w1.heap.size w1 w3 := Below.ownR (hbw1.alloc hbw1.size _) (own1.alloc _) hg2 (Nat.le_refl _) (hbw1.alloc hbw1.size _).size)
        | (refine step_append_rows _ (by rfl) (.tmp 24) (.tmp 26) 22 (by rfl) w1.heap.size 42 (.agg #[.int .i64 0, .int .i64 0, .int .i64 0]) 3 24 Try.underlying22 info42 rfl (Nat.zero_lt_succ _) (.slice A1 l.length c1) (l.map Item.row) (by rfl) own1 _ 1 1 [Item.row x] (by rfl) rfl RL1.out hs2 n3 n4 hbw1.size (l.length + 1) (l.map Item.row ++ [Item.row x]) t2.out rfl ?_
           intro A2 c2 w3 own2 hg2 hat2
           have hbw2 : Below w1.heap.size w1 w3 := Below.ownR hbw1 own1 hg2 (Nat.le_refl _) hbw1.size)))
    all_goals
      have hi3 : Items w3 A2 (l ++ [x]) := src_items (by simpa using own2.src)
      have hb3 := hb.trans (hbw2.mono hb.size)
      have ka3 := cell_later hbw2 ka'
      have kb3 := cell_later hbw2 kb'
      have kx3 := cell_later hbw2 kx2'
      clear own2 hg2 hat2 own1 hg1 hat1 hbw1 hbw2 hb ka' kb' kx0' kx1' kx2' ow1 ow2 ow3 bw1 bw2 bw3 sx2 sx3 hsx1 hsx n1 n2 n3 n4 N5 t1 t2 RL1 RL
      go_wp2_with fail
      refine ((hright _ _ _ hi3).out).mono ?_
      rintro e w4 ⟨rfl, hb4⟩
      have hb5 := hb3.trans (hb4.mono hb3.size)
      have hi4 := hi3.below hb4
      have ka4 := cell_later hb4 ka3
      have kb4 := cell_later hb4 kb3
      have kx4 := cell_later hb4 kx3
      clear ka3 kb3 kx3 hi3 hb4 hb3
      go_wp2_with fail
      refine ((hbest1 _ (h.below hb5)).out).mono ?_
      rintro e w5 ⟨A5, c5, rfl, hi5, hb6⟩
      have hb7 := hb5.trans (hb6.mono hb5.size)
      have hi4' := hi4.below hb6
      have ka5 := cell_later hb6 ka4
      have kb5 := cell_later hb6 kb4
      have kx5 := cell_later hb6 kx4
      clear ka4 kb4 kx4 hi4 hb6 hb5
      go_wp2_with fail
      refine ((hbest2 _ _ _ hi4').out).mono ?_
      rintro e w6 ⟨A6, c6, rfl, hi6, hb8⟩
      have hb9 := hb7.trans (hb8.mono hb7.size)
      have hi4'' := hi4'.below hb8
      have hi5' := hi5.below hb8
      have kx6 := cell_later hb8 kx5
      clear ka5 kb5 kx5 hi4' hi5 hb7 hb8
      go_wp2_with fail
      refine ((hneed1 _ _ _ (h.below hb9) hi5').out).mono ?_
      rintro e w7 ⟨rfl, rfl⟩
      unfold NeedV
      go_wp2_with fail
      refine ((hneed2 _ _ _ _ _ hi4'' hi6).out).mono ?_
      rintro e w7 ⟨rfl, rfl⟩
      unfold NeedV
      go_wp2
      go_ret
      exact ⟨by simp, hb9⟩
  · have hne : (rightOf (l ++ [x]) != 0) = true := by simpa using hr0
    have hright := fun A2 c2 W (hW : Items W A2 (l ++ [x])) => Lib.hid (Right_any A2 c2 (l ++ [x]) W (by omega) hW)
    rw [el] at hright
    clear hr0 el
    go_enter Try.func9, Try.ntmps9
    go_wp2_with fail
    refine (alive_any _).mono ?_
    rintro e w1 ⟨rfl, hb1⟩
    have hb := HB.out.trans (hb1.mono HB.out.size)
    have kx0' := cell_later hb1 kx0
    have kx1' := cell_later hb1 kx1
    have kx2' := cell_later hb1 kx2
    have ka' := cell_later hb1 ka
    have kb' := cell_later hb1 kb
    clear hb1 kx0 kx1 kx2 ka kb HB
    go_wp2_with fail
    have hsx := items_src h
    have n1 : ([] : List (List Int)).length + (l.map Item.row).length ≤ maxLen := by simp [maxLen]; omega
    have n2 : (([] : List (List Int)).length + (l.map Item.row).length) * 24 ≤ 140737488355328 := by simp; omega
    have n3 : (l.map Item.row).length + [Item.row x].length ≤ maxLen := by simp [maxLen]; omega
    have n4 : ((l.map Item.row).length + [Item.row x].length) * 24 ≤ 140737488355328 := by simp; omega
    have n5 : l.length = (l.map Item.row).length := by simp
    have N5 := Lib.hid n5
    have t1 := Lib.hid (show ([] : List (List Int)).length + (l.map Item.row).length = l.length by simp)
    have t2 := Lib.hid (show (l.map Item.row).length + [Item.row x].length = l.length + 1 by simp)
    clear n5
    have rl1 : ∀ r ∈ [Item.row x], r.length = 3 := by simp [Item.row]
    have RL1 := Lib.hid rl1
    have RL := Lib.hid (row_len l)
    clear rl1
    have ow1 := (OwnR.made w1 w1.heap.size 42 3 (Nat.le_refl _)).drew
    have ow2 := ((OwnR.made w1 w1.heap.size 42 3 (Nat.le_refl _)).alloc (.cells #[.int .i64 x.a, .int .i64 x.b, .int .i64 x.v] 42)).drew
    have ow3 : OwnR ((w1.alloc (.cells #[.int .i64 x.a, .int .i64 x.b, .int .i64 x.v] 42)).alloc (.cells #[] 42)).drew w1.heap.size 42 3 (.slice (some ⟨w1.heap.size + 1, 0, none⟩) 0 0) [] := by
      have := (OwnR.made (w1.alloc (.cells #[.int .i64 x.a, .int .i64 x.b, .int .i64 x.v] 42)) w1.heap.size 42 3 (by simp)).drew
      simpa using this
    have bw1 : Below w1.heap.size w1 (w1.alloc (.cells #[] 42)).drew := ((Below.refl _ _).alloc (Nat.le_refl _) _).drew
    have bw2 : Below w1.heap.size w1 ((w1.alloc (.cells #[] 42)).alloc (.cells #[.int .i64 x.a, .int .i64 x.b, .int .i64 x.v] 42)).drew := (((Below.refl _ _).alloc (Nat.le_refl _) _).alloc (by simp) _).drew
    have bw3 : Below w1.heap.size w1 ((w1.alloc (.cells #[.int .i64 x.a, .int .i64 x.b, .int .i64 x.v] 42)).alloc (.cells #[] 42)).drew := (((Below.refl _ _).alloc (Nat.le_refl _) _).alloc (by simp) _).drew
    have sx2 : Src ((w1.alloc (.cells #[] 42)).alloc (.cells #[.int .i64 x.a, .int .i64 x.b, .int .i64 x.v] 42)).drew (some ⟨w1.heap.size + 1, 0, none⟩) 3 [Item.row x] := by
      have := (one_src (w1.alloc (.cells #[] 42)) x).drew
      simpa using this
    have sx3 : Src ((w1.alloc (.cells #[.int .i64 x.a, .int .i64 x.b, .int .i64 x.v] 42)).alloc (.cells #[] 42)).drew (some ⟨w1.heap.size, 0, none⟩) 3 [Item.row x] := ((one_src w1 x).alloc _).drew
    have hsx1 := hsx.below hb
    go_region_held3 (fun w' => w'.cell? ⟨w.heap.size, 0, none⟩ = some (.int .i64 x.a) ∧ w'.cell? ⟨w.heap.size, 1, none⟩ = some (.int .i64 x.b) ∧ w'.cell? ⟨w.heap.size, 2, none⟩ = some (.int .i64 x.v))
      (first | exact ⟨cell_later hbw2 kx0', cell_later hbw2 kx1', cell_later hbw2 kx2'⟩ | exact ⟨cell_later hbw1 kx0', cell_later hbw1 kx1', cell_later hbw1 kx2'⟩ | go_keep)
      ((first
        | (refine step_append_rows _ (by rfl) (.tmp 22) (.tmp 23) 22 (by rfl) w1.heap.size 42 (.agg #[.int .i64 0, .int .i64 0, .int .i64 0]) 3 24 Try.underlying22 info42 rfl (Nat.zero_lt_succ _) (.slice (some ⟨w1.heap.size, 0, none⟩) 0 0) [] (by rfl) ow1 A c l.length (l.map Item.row) (by rfl) N5.out RL.out (hsx1.below bw1) n1 n2 bw1.size l.length (l.map Item.row) t1.out rfl ?_
           intro A1 c1 w2 own1 hg1 hat1
           have hbw1 : Below w1.heap.size w1 w2 := Below.ownR bw1 ow1 hg1 (Nat.le_refl _) bw1.size)
        | (refine step_append_rows _ (by rfl) (.tmp 22) (.tmp 23) 22 (by rfl) w1.heap.size 42 (.agg #[.int .i64 0, .int .i64 0, .int .i64 0]) 3 24 Try.underlying22 info42 rfl (Nat.zero_lt_succ _) (.slice (some ⟨w1.heap.size, 0, none⟩) 0 0) [] (by rfl) ow2 A c l.length (l.map Item.row) (by rfl) N5.out RL.out (hsx1.below bw2) n1 n2 bw2.size l.length (l.map Item.row) t1.out rfl ?_
           intro A1 c1 w2 own1 hg1 hat1
           have hs2 : Src w2 (some ⟨w1.heap.size + 1, 0, none⟩) 3 [Item.row x] := sx2.grownBy hg1 (by rintro _ ⟨⟩; simp [Value.ownBlock])
           have hbw1 : Below w1.heap.size w1 w2 := Below.ownR bw2 ow2 hg1 (Nat.le_refl _) bw2.size)
        | (refine step_append_rows _ (by rfl) (.tmp 22) (.tmp 23) 22 (by rfl) w1.heap.size 42 (.agg #[.int .i64 0, .int .i64 0, .int .i64 0]) 3 24 Try.underlying22 info42 rfl (Nat.zero_lt_succ _) (.slice (some ⟨w1.heap.size + 1, 0, none⟩) 0 0) [] (by rfl) ow3 A c l.length (l.map Item.row) (by rfl) N5.out RL.out (hsx1.below bw3) n1 n2 bw3.size l.length (l.map Item.row) t1.out rfl ?_
           intro A1 c1 w2 own1 hg1 hat1
           have hs2 : Src w2 (some ⟨w1.heap.size, 0, none⟩) 3 [Item.row x] := sx3.grownBy hg1 (by rintro _ ⟨⟩; simp [Value.ownBlock])
           have hbw1 : Below w1.heap.size w1 w2 := Below.ownR bw3 ow3 hg1 (Nat.le_refl _) bw3.size)
        | (refine step_append_rows _ (by rfl) (.tmp 24) (.tmp 26) 22 (by rfl) w1.heap.size 42 (.agg #[.int .i64 0, .int .i64 0, .int .i64 0]) 3 24 Try.underlying22 info42 rfl (Nat.zero_lt_succ _) (.slice A1 l.length c1) (l.map Item.row) (by rfl) (own1.alloc _) (some ⟨w2.heap.size, 0, none⟩) 1 1 [Item.row x] (by rfl) rfl RL1.out (one_src w2 x) n3 n4 (hbw1.alloc hbw1.size _).size (l.length + 1) (l.map Item.row ++ [Item.row x]) t2.out rfl ?_
           intro A2 c2 w3 own2 hg2 hat2
           have hbw2 : Below w1.heap.size w1 w3 := Below.ownR (hbw1.alloc hbw1.size _) (own1.alloc _) hg2 (Nat.le_refl _) (hbw1.alloc hbw1.size _).size)
        | (refine step_append_rows _ (by rfl) (.tmp 24) (.tmp 26) 22 (by rfl) w1.heap.size 42 (.agg #[.int .i64 0, .int .i64 0, .int .i64 0]) 3 24 Try.underlying22 info42 rfl (Nat.zero_lt_succ _) (.slice A1 l.length c1) (l.map Item.row) (by rfl) own1 _ 1 1 [Item.row x] (by rfl) rfl RL1.out hs2 n3 n4 hbw1.size (l.length + 1) (l.map Item.row ++ [Item.row x]) t2.out rfl ?_
           intro A2 c2 w3 own2 hg2 hat2
           have hbw2 : Below w1.heap.size w1 w3 := Below.ownR hbw1 own1 hg2 (Nat.le_refl _) hbw1.size)))
    all_goals
      have hi3 : Items w3 A2 (l ++ [x]) := src_items (by simpa using own2.src)
      have hb3 := hb.trans (hbw2.mono hb.size)
      have ka3 := cell_later hbw2 ka'
      have kb3 := cell_later hbw2 kb'
      have kx3 := cell_later hbw2 kx2'
      clear own2 hg2 hat2 own1 hg1 hat1 hbw1 hbw2 hb ka' kb' kx0' kx1' kx2' ow1 ow2 ow3 bw1 bw2 bw3 sx2 sx3 hsx1 hsx n1 n2 n3 n4 N5 t1 t2 RL1 RL
      go_wp2_with fail
      refine ((hright _ _ _ hi3).out).mono ?_
      rintro e w4 ⟨rfl, hb4⟩
      have hb5 := hb3.trans (hb4.mono hb3.size)
      go_wp2
      go_ret
      exact ⟨rfl, hb5⟩

set_option maxRecDepth 100000 in
theorem lifted (os : Os) (started : os.Started) (H : Type) (enc : TypeId × Value → H) :
    ReturnsInHanded {} Try.checked os 9 .any (Rows.chooseAddsSpec.pre6 enc Try.prog Try.f9 Rows.chooseAddsRow.domain false) (Rows.chooseAddsSpec.post enc Try.prog Try.f9 false true false false) := by
  refine returnsInHanded_of_change_sized (C := Try.checked) own started (by kernel_rfl) Try.func9
    (ChangeSpec.witness6 (enc := enc) (C := Try.checked) false ⟨#[], #[.slice none 0 0, .agg #[.int .i64 0, .int .i64 0, .int .i64 0], .agg #[.int .i64 0, .int .i64 0]], []⟩ 8 (by kernel_rfl) (by kernel_rfl) (by kernel_rfl) (by kernel_rfl)) ?_
  intro W base args ds gs before hval0 hW hcnd hsz0 _
  have hval : ∀ (j : Nat) t v, Try.f9.params[j]? = some t → args[j]? = some v → Value.okWide Try.prog W .any base t v := hval0
  refine law_post laidOut (by kernel_rfl) Try.underlying4 rfl rfl hW (fun hn => ?_) ?_
  · match ds, hn with
    | [_, _, _], _ => rfl
  obtain ⟨p, q, hA0, hV, rfl, _, _⟩ := hW
  have hA : DataW.TrodAll enc Try.prog W 0 (fun _ => true) true Try.f9.params.toList args.toList ds p := hA0
  obtain ⟨rfl, rfl⟩ := trodVars_none hV
  have hsz : (DataW.weightsEach Try.prog (Try.f9.params.toList ++ []) (ds ++ [])).all (· ≤ reachBytes) = true := hsz0
  rw [Try.params9] at hA hval hsz
  obtain ⟨v0, vs0, d0, ds0, p0, q0, hargs, rfl, rfl, h0, r0⟩ := trodAll_cons hA
  obtain ⟨v1, vs1, d1, ds1, p1, q1, rfl, rfl, rfl, h1, r1⟩ := trodAll_cons r0
  obtain ⟨v2, vs2, d2, ds2, p2, q2, rfl, rfl, rfl, h2, r2⟩ := trodAll_cons r1
  obtain ⟨rfl, rfl, rfl⟩ := trodAll_nil r2
  obtain rfl : args = #[v0, v1, v2] := by cases args; simp_all
  obtain ⟨A0, c0, l0, rfl, hm0, hi0, hL0⟩ := open_items (hval 0 22 v0 rfl rfl) h0
  obtain ⟨x1, rfl, w1⟩ := open_item (hval 1 42 v1 rfl rfl) h1
  obtain ⟨x2, y2, rfl, w2, z2⟩ := open_arr2 Try.underlying36 Try.underlying3 (by kernel_rfl) (by kernel_rfl) (hval 2 36 v2 rfl rfl) h2
  exact walk A0 c0 l0 x1 x2 y2 W hm0 hi0 (hL0.reach hsz (j := 0) rfl rfl Try.underlying22) w1 w2 z2
theorem over : Rows.chooseAddsRow.holds Try.pinned (OpenSpec.ofChange Rows.chooseAddsSpec) :=
  OpenClaim.holds_of_wide 9 Try.f9 rfl rfl rfl rfl rfl rfl rfl ⟨rfl, rfl, rfl, rfl, rfl⟩ rfl rfl rfl rfl rfl (by kernel_rfl) Try.func9 (by kernel_rfl)
    (of_decide_eq_true (by kernel_rfl)) (by unfold Func.isWrapper; first | (rw [if_pos (by decide +kernel)]; kernel_rfl) | (rw [if_neg (by decide +kernel)]; exact ⟨rfl, rfl⟩))
    (fun os started H enc _ => lifted os started H enc)
theorem proved : Rows.ChooseAddsSaid := over
#print axioms proved
end Go.Proofs.Ytoedkdgaofkgaaa.chooseAdds
