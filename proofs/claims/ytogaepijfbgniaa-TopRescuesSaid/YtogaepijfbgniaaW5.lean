/- Contracts: the closure 'try' of 'assign'. -/
import Derived.Test.YtogaepijfbgniaaW4
namespace Go.Proofs.Ytogaepijfbgniaa
open Go.RowKit Go.Shelf
set_option linter.unusedVariables false
def args (s : Nat) (i : Int) : Array Value := #[.int .i64 i, .pointer (some ⟨s, 0, none⟩), .pointer (some ⟨s + 7, 0, none⟩), .pointer (some ⟨s + 6, 0, none⟩), .pointer (some ⟨s + 5, 0, none⟩), .pointer (some ⟨s + 3, 0, none⟩), .pointer (some ⟨s + 1, 0, none⟩), .pointer (some ⟨s + 8, 0, none⟩)]
def TryPost (w0 : World) (A : Option Addr) (c n T : Nat) (now : List Nat) (i : Nat) (busy : List Int) (s : Look) (e : Ending) (w' : World) : Prop :=
  e = .returned (.tuple #[]) ∧ ∃ now', TryAt w0 w' A c n T now' s.best s.least busy ∧ now'.take i = now.take i
theorem splice_full {α : Type} (L cs : List α) (h : cs.length = L.length) : L.take 0 ++ (cs ++ L.drop (0 + cs.length)) = cs := by
  rw [h]; simp
set_option maxHeartbeats 2000000 in
theorem try_end (w0 : World) (A : Option Addr) (c n T : Nat) (hn : n ≤ 8) (W : World) (now best : List Nat) (least : Int) (busy : List Int) (hb : BusyOk n busy) (h : TryAt w0 W A c n T now best least busy) :
    Calls Try.prog 27 (args w0.heap.size n) W (TryPost w0 A c n T now n busy (upd ⟨least, best⟩ (maxL busy) now)) := by
  have hq := Max_any _ 4 busy W (by rw [h.b4]; decide) (by rw [h.b4]; decide) h.ints
  rw [h.b4] at hq
  have HQ := Lib.hid hq
  have HM := Lib.hid (maxL_ok hb)
  have h2 := fun y => h.setLeast y
  have H2 := Lib.hid h2
  clear hq hb h2
  have H := Lib.hid h
  have c1 : W.cell? ⟨w0.heap.size, 0, none⟩ = some (.slice A n c) := h.need.cell 0 rfl
  have c2 : W.cell? ⟨w0.heap.size + 6, 0, none⟩ = some (.int .i64 least) := h.least.cell 0 rfl
  have f2 : W.frozen? ⟨w0.heap.size + 6, 0, none⟩ = false := h.least.frozen 0
  clear h
  generalize maxL busy = last at *
  have hm := HM.out
  unfold args
  go_enter Try.func27, Try.ntmps27
  go_wp2_with fail
  refine HQ.out.mono ?_
  rintro e w1 ⟨rfl, rfl⟩
  have hcase : Hid ((least < 0 ∨ last < least) → upd ⟨least, best⟩ last now = ⟨last, now⟩) := Lib.hid (fun h => by unfold upd; rw [if_pos h])
  have hcase2 : Hid (¬ (least < 0 ∨ last < least) → upd ⟨least, best⟩ last now = ⟨least, best⟩) := Lib.hid (fun h => by unfold upd; rw [if_neg h])
  generalize upd ⟨least, best⟩ last now = U at *
  by_cases hl : least < 0 ∨ last < least
  · have HU := Lib.hid (hcase.out hl)
    clear hcase hcase2
    rcases hl with hl | hl
    all_goals
      go_upto_region 4 with (fail)
      have hT := H2.out last
      have g1 : (w1.setCell ⟨w0.heap.size + 6, 0, none⟩ (.int .i64 last)).cell? ⟨w0.heap.size + 5, 0, none⟩ = some (.slice (some ⟨w0.heap.size + 4, 0, none⟩) n n) := hT.bestp.cell 0 rfl
      have g2 : (w1.setCell ⟨w0.heap.size + 6, 0, none⟩ (.int .i64 last)).cell? ⟨w0.heap.size + 3, 0, none⟩ = some (.slice (some ⟨w0.heap.size + 2, 0, none⟩) n n) := hT.nowp.cell 0 rfl
      clear c1 c2 f2 HQ H2 H
      generalize w1.setCell ⟨w0.heap.size + 6, 0, none⟩ (.int .i64 last) = W at *
      have hD := hT.setBest
      have HT := Lib.hid hT
      have hsp : (best.map nat).take 0 ++ (now.map nat ++ (best.map nat).drop (0 + (now.map nat).length)) = now.map nat := splice_full _ _ (by simp [hT.nl, hT.bl])
      have HD := Lib.hid hD
      have n1 : (now.map nat).length = n := by simp [hT.nl]
      have n2 : (best.map nat).length = n := by simp [hT.bl]
      have hsrc : ∀ j v, (now.map nat)[j]? = some v → W.cell? ((⟨w0.heap.size + 2, 0, none⟩ : Addr).add j) = some v := fun j v hv => by
        have e : (⟨w0.heap.size + 2, 0, none⟩ : Addr).add j = ⟨w0.heap.size + 2, j, none⟩ := by unfold Addr.add; split <;> simp_all
        rw [e]
        exact hT.now.cell j (by simpa using hv)
      have h1 : ∀ v ∈ now.map nat, v.oneCell' = true := fun v hv => by
        obtain ⟨x, _, rfl⟩ := List.mem_map.1 hv; rfl
      have hg := hT.best
      have hrun := run_copy_row (P := Try.prog) W 36 36 3 3 (w0.heap.size + 4) 0 n n ⟨w0.heap.size + 2, 0, none⟩ n n (best.map nat).toArray 3 (now.map nat) Try.underlying36 (by kernel_rfl) hg (by rw [n1]; simp) hsrc (by rw [n1, Nat.zero_add]; simp [hT.bl]) h1
      rw [List.append_assoc, hsp, n1] at hrun
      clear hT hD hg hsrc h1 n1 n2 hsp
      generalize now.map nat = nl at *
      generalize best.map nat = bl at *
      unfold goInt at hrun
      go_wp2
      refine bodyPost_ret (results_none rfl _ _ _) rfl ?_
      rw [HU.out]
      exact ⟨rfl, _, HD.out, rfl⟩
  · have HU := Lib.hid (hcase2.out hl)
    clear hcase hcase2
    have hl1 : 0 ≤ least := by omega
    have hl2 : least ≤ last := by omega
    clear hl
    go_wp2
    refine bodyPost_ret (results_none rfl _ _ _) rfl ?_
    rw [HU.out]
    exact ⟨rfl, _, H.out, rfl⟩
theorem foldl_last (F : Look → Nat → Look) (s : Look) {k : Nat} (hk : 1 ≤ k) : (List.range' 1 k).foldl F s = F ((List.range' 1 (k - 1)).foldl F s) k := by
  obtain ⟨j, rfl⟩ : ∃ j, k = j + 1 := ⟨k - 1, by omega⟩
  rw [List.range'_1_concat, List.foldl_append]
  simp [Nat.add_comm]
theorem take_set {now : List Nat} {i : Nat} (hi : i < now.length) (k : Nat) : (now.set i k).take (i + 1) = now.take i ++ [k] := by
  rw [List.take_succ_eq_append_getElem (by simpa using hi), List.take_set_of_le (Nat.le_refl _), List.getElem_set_self]
theorem list_at (busy : List Int) {k : Nat} (hk : k < busy.length) : (busy.map (Value.int .i64)).toArray[k]? = some (.int .i64 (busy.getD k 0)) := by
  simp [hk]
set_option maxHeartbeats 4000000 in
set_option maxRecDepth 100000 in
theorem try_any (w0 : World) (A : Option Addr) (c : Nat) (l : List Sec) (T : Nat) (hT : 1 ≤ T ∧ T ≤ 3) (hl : l.length ≤ 8) (hs : ∀ x ∈ l, 1 ≤ x.seconds ∧ x.seconds ≤ 86400) (hS : Secs w0 A l) :
    ∀ (d i : Nat), i + d = l.length → ∀ (W : World) (now best : List Nat) (least : Int) (busy : List Int), BusyOk i busy → TryAt w0 W A c l.length T now best least busy →
    Calls Try.prog 27 (args w0.heap.size i) W (TryPost w0 A c l.length T now i busy (tryAll (List.range' 1 T) ((l.drop i).map Sec.seconds) (now.take i) busy ⟨least, best⟩)) := by
  intro d
  induction d with
  | zero =>
    intro i hi W now best least busy hb h
    have hi : i = l.length := by omega
    subst hi
    have := try_end w0 A c l.length T hl W now best least busy hb h
    rw [List.drop_length, List.take_of_length_le (by rw [h.nl]; exact Nat.le_refl _)]
    exact this
  | succ d ih =>
    intro i hi W now best least busy hb h
    have hlt : i < l.length := by omega
    have IH := fun (now1 best1 : List Nat) (least1 : Int) (busy1 : List Int) (W1 : World) (hb : BusyOk (i + 1) busy1) (h : TryAt w0 W1 A c l.length T now1 best1 least1 busy1) => Lib.hid (ih (i + 1) (by omega) W1 now1 best1 least1 busy1 hb h)
    clear ih
    have hx := hs _ (List.getElem_mem hlt)
    rw [List.drop_eq_getElem_cons hlt, List.map_cons]
    obtain ⟨b, off, rfl, hc⟩ := hS (by omega)
    obtain ⟨h0, h1, h2⟩ := hc i hlt
    clear h0 h1 hc
    generalize (l.drop (i + 1)).map Sec.seconds = R at *
    generalize l[i].seconds = x at *
    have hF : Hid (∀ s, tryAll (List.range' 1 T) (x :: R) (now.take i) busy s = (List.range' 1 T).foldl (fun s t => tryAll (List.range' 1 T) R (now.take i ++ [t]) (addAt busy t x) s) s) := Lib.hid (fun s => rfl)
    have hF1 : Hid (∀ s t, (fun s t => tryAll (List.range' 1 T) R (now.take i ++ [t]) (addAt busy t x) s) s t = tryAll (List.range' 1 T) R (now.take i ++ [t]) (addAt busy t x) s) := Lib.hid (fun s t => rfl)
    rw [hF.out]
    generalize (fun s t => tryAll (List.range' 1 T) R (now.take i ++ [t]) (addAt busy t x) s) = F at *
    clear hF
    have HB := Lib.hid hb
    clear hb
    have c1 : W.cell? ⟨w0.heap.size, 0, none⟩ = some (.slice (some ⟨b, off, none⟩) l.length c) := h.need.cell 0 rfl
    have H := Lib.hid h
    clear h
    have hne : ((i : Int) == (l.length : Int)) = false := by
      simp only [beq_eq_false_iff_ne, ne_eq]
      omega
    unfold args
    go_enter Try.func27, Try.ntmps27
    go_wp2_with fail
    go_loopw [10] (fun v wr => ∃ (k : Nat) (now' : List Nat) (s : Look), 1 ≤ k ∧ k ≤ T + 1 ∧ v = .int .i64 k ∧ TryAt w0 wr (some ⟨b, off, none⟩) c l.length T now' s.best s.least busy ∧ now'.take i = now.take i ∧ (List.range' 1 (k - 1)).foldl F ⟨least, best⟩ = s) (fun v _ => T + 1 - (intOf v).toNat)
    case atStart => exact ⟨1, now, ⟨least, best⟩, Nat.le_refl _, by omega, rfl, H.out, rfl, rfl⟩
    case round =>
      clear c1
      obtain ⟨k, now', s, hk1, hk2, rfl, hA, htk, hfo⟩ := hrel
      have Htk := Lib.hid htk
      have Hfo := Lib.hid hfo
      clear htk hfo
      have c2 : wr.cell? ⟨w0.heap.size + 1, 0, none⟩ = some (.int .i64 (T : Int)) := hA.team.cell 0 rfl
      by_cases hkT : k ≤ T
      · have c3 : wr.cell? ⟨w0.heap.size + 3, 0, none⟩ = some (.slice (some ⟨w0.heap.size + 2, 0, none⟩) l.length l.length) := hA.nowp.cell 0 rfl
        have c4 : wr.cell? ⟨w0.heap.size + 2, i, none⟩ = some (.int .i64 ((now'.getD i 0 : Nat) : Int)) := hA.now.cell i (by
          have := hA.nl
          simp only [List.getElem?_toArray, List.getElem?_map]
          rw [List.getElem?_eq_getElem (by omega), List.getD_eq_getElem?_getD, List.getElem?_eq_getElem (by omega)]
          rfl)
        have f4 : wr.frozen? ⟨w0.heap.size + 2, i, none⟩ = false := hA.now.frozen i
        go_upto_region 9 with (fail)
        have hA1 := hA.setNow i k
        clear c2 c3 c4 f4
        have hn2 : (now'.set i k).take (i + 1) = now.take i ++ [k] := by
          rw [take_set (by rw [hA.nl]; exact hlt), Htk.out]
        have hn3 : ∀ (q : List Nat), q.take (i + 1) = (now'.set i k).take (i + 1) → q.take i = now.take i := fun q hq => by
          have := congrArg (fun z => List.take i z) hq
          simp only [List.take_take, Nat.min_eq_left (Nat.le_succ i)] at this
          rw [this, List.take_set_of_le (Nat.le_refl _), Htk.out]
        have Hn2 := Lib.hid hn2
        have Hn3 := Lib.hid hn3
        clear hn2 hn3 Htk hA
        generalize now'.set i k = nw at *
        generalize wr.setCell ⟨w0.heap.size + 2, i, none⟩ (.int .i64 (k : Int)) = w1 at *
        have hk4 : k < busy.length := by rw [HB.out.1]; omega
        have b1 : w1.cell? ⟨w0.heap.size + 7, k, none⟩ = some (.int .i64 (busy.getD k 0)) := hA1.busy.cell k (list_at busy hk4)
        have b2 : w1.frozen? ⟨w0.heap.size + 7, k, none⟩ = false := hA1.busy.frozen k
        have b3 : w1.cell? ⟨w0.heap.size, 0, none⟩ = some (.slice (some ⟨b, off, none⟩) l.length c) := hA1.need.cell 0 rfl
        have b4 := cell_later hA1.below h2
        have hbd := HB.out.2 k
        have hadd : TryAt w0 (w1.setCell ⟨w0.heap.size + 7, k, none⟩ (.int .i64 (busy.getD k 0 + x))).drew (some ⟨b, off, none⟩) c l.length T nw s.best s.least (busy.set k (busy.getD k 0 + x)) := (hA1.setBusy k _).drewN 1
        have hset : busy.set k (busy.getD k 0 + x) = addAt busy k x := rfl
        rw [hset] at hadd
        have Hadd := Lib.hid hadd
        clear hadd hset hA1
        generalize busy.getD k 0 = y at *
        have hadw : IntKind.i64.wrap (y + x) = y + x := IntWalk.i64_in _ (by omega)
        have hk4i : (k : Int) < 4 := by omega
        have hk0 : (0 : Int) ≤ (k : Int) := by omega
        have hili : (i : Int) < (l.length : Int) := by omega
        have hi0 : (0 : Int) ≤ (i : Int) := by omega
        go_still_tail 9, (by kernel_rfl)
        change wpList _ _ _ _ _ w1.drew
        go_upto_region 10 with (fail)
        have hA2 := Hadd.out
        clear Hadd b1 b2 b3 b4 hadw
        generalize (w1.setCell ⟨w0.heap.size + 7, k, none⟩ (.int .i64 (y + x))).drew = w2 at *
        have c5 : w2.cell? ⟨w0.heap.size + 8, 0, none⟩ = some (tv w0.heap.size) := hA2.try_.cell 0 rfl
        unfold tv at c5
        have q := (IH nw s.best s.least (addAt busy k x) w2 (HB.out.add k (by omega) hx.2) hA2).out
        rw [Hn2.out] at q
        have hq1 := hF1.out s k
        have hq2 : tryAll (List.range' 1 T) R (now.take i ++ [k]) (addAt busy k x) s = tryAll (List.range' 1 T) R (now.take i ++ [k]) (addAt busy k x) ⟨s.least, s.best⟩ := rfl
        rw [hq2] at hq1
        rw [← hq1] at q
        unfold args at q
        rw [show ((i + 1 : Nat) : Int) = (i : Int) + 1 by omega] at q
        have Q := Lib.hid q
        have hfl := foldl_last F ⟨least, best⟩ hk1
        rw [Hfo.out] at hfl
        have Hfl := Lib.hid hfl
        clear q hq1 hq2 hfl Hfo hA2
        generalize F s k = s2 at *
        go_wp2_with fail
        refine Q.out.mono ?_
        rintro e w3 ⟨rfl, nw3, hA3, htk3⟩
        have hn4 := Hn3.out nw3 htk3
        have hba := addAt_back hk4 x
        have hgx := addAt_get hk4 x
        have hk5 : k < (addAt busy k x).length := by rw [addAt_length]; exact hk4
        have d1 : w3.cell? ⟨w0.heap.size + 7, k, none⟩ = some (.int .i64 ((addAt busy k x).getD k 0)) := hA3.busy.cell k (list_at _ hk5)
        have d2 : w3.frozen? ⟨w0.heap.size + 7, k, none⟩ = false := hA3.busy.frozen k
        have d3 : w3.cell? ⟨w0.heap.size, 0, none⟩ = some (.slice (some ⟨b, off, none⟩) l.length c) := hA3.need.cell 0 rfl
        have d4 := cell_later hA3.below h2
        have hsub : TryAt w0 (w3.setCell ⟨w0.heap.size + 7, k, none⟩ (.int .i64 ((addAt busy k x).getD k 0 - x))).drew (some ⟨b, off, none⟩) c l.length T nw3 s2.best s2.least ((addAt busy k x).set k ((addAt busy k x).getD k 0 - x)) := (hA3.setBusy k _).drewN 1
        rw [hba] at hsub
        have Hsub := Lib.hid hsub
        have Hn4 := Lib.hid hn4
        clear hsub hn4 hba hgx hA3 htk3 Q c5
        have hbd2 := (HB.out.add k (by omega : (0 : Int) ≤ x) hx.2).2 k
        generalize (addAt busy k x).getD k 0 = z at *
        have hadw : IntKind.i64.wrap (z - x) = z - x := IntWalk.i64_in _ (by omega)
        go_upto_region 11 with (fail)
        go_still_tail 9, (by kernel_rfl)
        change wpList _ _ _ _ _ w3.drew
        go_wp2
        go_roundw
        case rel => exact ⟨k + 1, nw3, s2, by omega, by omega, by go_num, Hsub.out, Hn4.out, Hfl.out⟩
        case measure => simp [intOf]; omega
      · have hkT1 : k = T + 1 := by omega
        subst hkT1
        go_wp2
        go_end0
        rw [← Hfo.out] at hA
        exact ⟨rfl, _, hA, Htk.out⟩
end Go.Proofs.Ytogaepijfbgniaa
