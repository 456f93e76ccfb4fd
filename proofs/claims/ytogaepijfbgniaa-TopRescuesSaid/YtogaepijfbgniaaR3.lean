/- Contracts of package route: place. -/
import Derived.Test.YtogaepijfbgniaaR2
import Derived.Laws.CopyRow
import Derived.Test.YtogaepijfbgniaaW5
namespace Go.Proofs.Ytogaepijfbgniaa
open Go.RowKit Go.Shelf Go.Deep
set_option linter.unusedVariables false
/-- copy, of elements of k cells -/
theorem run_copy_wide {P : Program} (w : World) (dT sT ty elem k : TypeId) (g dLen dCap : Nat) (a : Addr) (sLen sCap : Nat) (cur : Array Value) (t : TypeId) (cs : List Value)
    (hu : P.underlying dT = some (.slice elem)) (hs : (P.info? elem).map (·.size) = some k)
    (hg : w.heap[g]? = some (.cells cur t (0, 0))) (hn : cs.length = Nat.min sLen dLen * k)
    (hsrc : ∀ j v, cs[j]? = some v → w.cell? (a.add j) = some v) (hfit : cs.length = cur.size) (h1 : ∀ v ∈ cs, v.oneCell' = true) :
    (Builtin.copy_ #[dT, sT] ty #[.slice (some ⟨g, 0, none⟩) dLen dCap, .slice (some a) sLen sCap]).run P w = .ok (goInt (Nat.min sLen dLen)) (w.setRow g cs.toArray) := by
  have hl := run_loadCells_list (P := P) w a cs hsrc
  have hst := run_storeCells_at P g 0 t cs 0 cur w hg (by simp; omega) h1
  cases hq : P.info? elem with
  | none => simp [hq] at hs
  | some i =>
    have hi : i.size = k := by simpa [hq] using hs
    have hdr : cur.toList.drop cs.length = [] := List.drop_eq_nil_of_le (by simp; omega)
    simp [Builtin.copy_, run_underlying hu, Builtin.lenOf, Builtin.firstCells, sizeOf, typeInfo, hq, hi, ← hn, hl, hst, hdr]
def put (p : List Int) (i : Nat) (g r f t : Int) : List Int := (((p.set (i * 4) g).set (i * 4 + 1) r).set (i * 4 + 2) f).set (i * 4 + 3) t
def inB (x : Int) : Bool := decide (-1000000000 ≤ x ∧ x ≤ 1000000000)
def loopK (f : Nat → St → Option St) : Nat → Nat → St → Option St
  | 0, _, s => some s
  | c + 1, k, s => (f k s).bind (loopK f c (k + 1))
def stepK (l : List Tk) (rec : Int → Int → St → Option St) (fro fin : Int) (i : Nat) (x : Tk) (k : Nat) (s : St) : Option St :=
  if earl s.p ((k : Int) + 1) l.length < fro then some s
  else if (inB (earl s.p ((k : Int) + 1) l.length) && inB (earl s.p ((k : Int) + 1) l.length + x.seconds)) = true then
    (rec (earl s.p ((k : Int) + 1) l.length) (mx fin (earl s.p ((k : Int) + 1) l.length + x.seconds)) ⟨put s.p i ((k : Int) + 1) x.run (earl s.p ((k : Int) + 1) l.length) (earl s.p ((k : Int) + 1) l.length + x.seconds), s.b, s.e⟩).map fun s1 => ⟨put s1.p i 0 0 0 0, s1.b, s1.e⟩
  else none
def stepI (l : List Tk) (m : Nat) (rec : Int → Int → St → Option St) (fro fin : Int) (i : Nat) (s : St) : Option St :=
  match l[i]? with
  | none => none
  | some x => if (s.p.getD (i * 4) 0 != 0) = true then some s else loopK (stepK l rec fro fin i x) m 0 s
/-- what 'place' makes of the search's state; none if a number grows great -/
def placeM (l : List Tk) (m : Nat) : Nat → Int → Int → St → Option St
  | 0, fro, fin, s => if s.e ≤ fin then some s else some ⟨s.p, s.p, fin⟩
  | d + 1, fro, fin, s => if s.e ≤ fin then some s else loopK (stepI l m (placeM l m d) fro fin) l.length 0 s
theorem loopK_step (f : Nat → St → Option St) {n k : Nat} (hk : k < n) (s : St) : loopK f (n - k) k s = (f k s).bind (loopK f (n - (k + 1)) (k + 1)) := by
  obtain ⟨c, hc⟩ : ∃ c, n - k = c + 1 := ⟨n - k - 1, by omega⟩
  rw [hc, show n - (k + 1) = c by omega]
  rfl
theorem loopK_end (f : Nat → St → Option St) (k : Nat) (s : St) : loopK f (k - k) k s = some s := by rw [Nat.sub_self]; rfl
section
variable {E : Env} {W : World} {x : St}
theorem SAt.put (hE : E.Ok) (h : SAt E W x) (i : Nat) (g r f t : Int) : SAt E ((((W.setCell ⟨E.p, i * 4, none⟩ (.int .i64 g)).setCell ⟨E.p, i * 4 + 1, none⟩ (.int .i64 r)).setCell ⟨E.p, i * 4 + 2, none⟩ (.int .i64 f)).setCell ⟨E.p, i * 4 + 3, none⟩ (.int .i64 t)) ⟨put x.p i g r f t, x.b, x.e⟩ :=
  (((h.set hE _ g).set hE _ r).set hE _ f).set hE _ t
theorem SAt.setE (hE : E.Ok) (h : SAt E W x) (e : Int) : SAt E (W.setCell ⟨E.s, 5, none⟩ (.int .i64 e)) ⟨x.p, x.b, e⟩ where
  kept := h.kept.set (.inl rfl) _
  s := h.s.set 5 (.int .i64 e)
  p := h.p.far _ _ (fun q => hE.ne.1 q.symm)
  b := h.b.far _ _ (fun q => hE.ne.2.1 q.symm)
  pl := h.pl
  bl := h.bl
theorem SAt.setB (hE : E.Ok) (h : SAt E W x) : SAt E (W.setRow E.b (x.p.map (Value.int .i64)).toArray) ⟨x.p, x.p, x.e⟩ where
  kept := h.kept.row _ _ (.inr (.inr rfl))
  s := h.s.farRow _ _ hE.ne.2.1
  p := h.p.farRow _ _ hE.ne.2.2
  b := h.b.row _
  pl := h.pl
  bl := h.pl
end
def pargs (E : Env) (d : Nat) (fro fin : Int) : Array Value := #[.pointer (some ⟨E.s, 0, none⟩), .int .i64 (d : Int), .int .i64 fro, .int .i64 fin]
/-- the same search, with another world to look back to -/
def Env.since (E : Env) (w : World) : Env := { E with W0 := w }
theorem Kept.refl (E : Env) (w : World) : Kept (E.since w) w := ⟨rfl, rfl, rfl, Nat.le_refl _, fun _ _ _ _ _ => rfl⟩
theorem Kept.trans {E : Env} {a b c : World} (h : Kept (E.since a) b) (k : Kept (E.since b) c) : Kept (E.since a) c :=
  ⟨k.os.trans h.os, k.tape.trans h.tape, k.output.trans h.output, Nat.le_trans h.size k.size, fun i hi h1 h2 h3 => (k.block i (Nat.lt_of_lt_of_le hi h.size) h1 h2 h3).trans (h.block i hi h1 h2 h3)⟩
theorem Kept.blk {E : Env} {a b : World} {B : Nat} {cs : Array Value} {t : TypeId} (h : Kept (E.since a) b) (hB : Blk a B cs t) (hn : ¬ Mine E B) : Blk b B cs t :=
  (h.block B hB.lt (fun e => hn (.inl e)) (fun e => hn (.inr (.inl e))) (fun e => hn (.inr (.inr e)))).trans hB
def PlacePost (E : Env) (w : World) (x : St) (e : Ending) (w' : World) : Prop := e = .returned (.tuple #[]) ∧ SAt E w' x ∧ Kept (E.since w) w'
set_option maxHeartbeats 4000000 in
theorem place_out (E : Env) (hE : E.Ok) (x : St) (d : Nat) (fro fin : Int) (hf : x.e ≤ fin) (w : World) (h : SAt E w x) : Calls Try.prog 21 (pargs E d fro fin) w (PlacePost E w x) := by
  have s5 := h.s.cell 5 (v := .int .i64 x.e) rfl
  unfold pargs
  go_enter Try.func21, Try.ntmps21
  go_wp2
  go_end0
  exact ⟨rfl, h, Kept.refl _ _⟩
set_option maxHeartbeats 4000000 in
theorem place_end (E : Env) (hE : E.Ok) (hl : 0 < E.l.length) (x : St) (fro fin : Int) (hf : fin < x.e) (w : World) (h : SAt E w x) : Calls Try.prog 21 (pargs E 0 fro fin) w (PlacePost E w ⟨x.p, x.p, fin⟩) := by
  have s5 := h.s.cell 5 (v := .int .i64 x.e) rfl
  have s3 := h.s.cell 3 (v := .slice (some ⟨E.p, 0, none⟩) E.l.length E.l.length) rfl
  have s4 := h.s.cell 4 (v := .slice (some ⟨E.b, 0, none⟩) E.l.length E.l.length) rfl
  have hd := h.drewN 1
  have hsrc : ∀ j v, (x.p.map (Value.int .i64))[j]? = some v → (w.drewN 1).cell? ((⟨E.p, 0, none⟩ : Addr).add j) = some v := fun j v hv => by
    have e : (⟨E.p, 0, none⟩ : Addr).add j = ⟨E.p, j, none⟩ := by unfold Addr.add; split <;> simp_all
    rw [e]
    exact hd.p.cell j (by simpa using hv)
  have h1 : ∀ v ∈ x.p.map (Value.int .i64), v.oneCell' = true := fun v hv => by
    obtain ⟨y, _, rfl⟩ := List.mem_map.1 hv; rfl
  have hrun := run_copy_wide (P := Try.prog) (w.drewN 1) 40 40 3 72 4 E.b E.l.length E.l.length ⟨E.p, 0, none⟩ E.l.length E.l.length (x.b.map (Value.int .i64)).toArray 72 (x.p.map (Value.int .i64)) Try.underlying40 (by kernel_rfl) hd.b (by simp [h.pl]) hsrc (by simp [h.pl, h.bl]) h1
  have hs2 := hd.setB hE
  have hs3 := hs2.setE hE fin
  have f5 : (w.drew.setRow E.b (x.p.map (Value.int .i64)).toArray).frozen? ⟨E.s, 5, none⟩ = false := hs2.s.frozen 5
  have c5 : (w.drew.setRow E.b (x.p.map (Value.int .i64)).toArray).cell? ⟨E.s, 5, none⟩ = some (.int .i64 x.e) := hs2.s.cell 5 (v := .int .i64 x.e) rfl
  have HS := Lib.hid hs3
  have HK := Lib.hid ((((Kept.refl E w).drewN 1).row E.b (x.p.map (Value.int .i64)).toArray (.inr (.inr rfl))).set (a := ⟨E.s, 5, none⟩) (.inl rfl) (.int .i64 fin))
  have hrun2 : (Builtin.copy_ #[40, 40] 3 #[.slice (some ⟨E.b, 0, none⟩) E.l.length E.l.length, .slice (some ⟨E.p, 0, none⟩) E.l.length E.l.length]).run Try.prog w.drew = .ok (.int .i64 (E.l.length : Int)) (w.drew.setRow E.b (x.p.map (Value.int .i64)).toArray) := by
    have e : Nat.min E.l.length E.l.length = E.l.length := Nat.min_self _
    rw [e] at hrun
    exact hrun
  clear hd hsrc h1 hrun hs2 hs3 h
  generalize x.p.map (Value.int .i64) = pl at *
  unfold pargs
  go_enter Try.func21, Try.ntmps21
  go_upto_region 2 with (fail)
  go_still_tail 8, (by kernel_rfl)
  change wpList _ _ _ _ _ w.drew
  go_wp2
  go_end0
  exact ⟨rfl, HS.out, HK.out⟩
theorem inB_mx {a b : Int} (ha : inB a = true) (hb : inB b = true) : inB (mx a b) = true := by
  unfold mx
  split
  · exact hb
  · exact ha
set_option maxHeartbeats 8000000 in
set_option maxRecDepth 100000 in
theorem place_any (E : Env) (hE : E.Ok) (hl : E.l.length ≤ 6) (hl0 : 0 < E.l.length) (hm : E.m ≤ 3) :
    ∀ (d : Nat) (fro fin : Int) (x y : St), d ≤ 6 → inB fin = true → placeM E.l E.m d fro fin x = some y → ∀ w, SAt E w x → Calls Try.prog 21 (pargs E d fro fin) w (PlacePost E w y) := by
  intro d
  induction d with
  | zero =>
    intro fro fin x y _ _ hx w h
    unfold placeM at hx
    by_cases hf : x.e ≤ fin
    · rw [if_pos hf] at hx
      injection hx with hx
      subst hx
      exact place_out E hE x 0 fro fin hf w h
    · rw [if_neg hf] at hx
      injection hx with hx
      subst hx
      exact place_end E hE hl0 x fro fin (by omega) w h
  | succ d ih =>
    intro fro fin x y hd hfi hx w h
    unfold placeM at hx
    by_cases hf : x.e ≤ fin
    · rw [if_pos hf] at hx
      injection hx with hx
      subst hx
      exact place_out E hE x (d + 1) fro fin hf w h
    · rw [if_neg hf] at hx
      have hf' : fin < x.e := by omega
      have IH := Lib.hid (fun fro fin x y (h1 : inB fin = true) h2 w h3 => ih fro fin x y (by omega) h1 h2 w h3)
      have HFI := Lib.hid hfi
      have HX := Lib.hid hx
      have H := Lib.hid h
      have s5 := h.s.cell 5 (v := .int .i64 x.e) rfl
      have s0 := h.s.cell 0 (v := .slice E.A E.l.length E.cA) rfl
      have HT := Lib.hid hE.task
      have HTT := Lib.hid hE.tasks
      have HW := Lib.hid hE.winch
      clear ih hfi hx h hf
      unfold pargs
      obtain ⟨D, hD⟩ : ∃ D : Int, D = ((d + 1 : Nat) : Int) := ⟨_, rfl⟩
      rw [← hD]
      have hd0 : (D == 0) = false := by simp; omega
      have hDw : IntKind.i64.wrap (D - 1) = (d : Int) := by
        rw [hD, show ((d + 1 : Nat) : Int) - 1 = (d : Int) by omega]
        exact IntWalk.i64_in _ (by omega)
      clear hD
      go_enter Try.func21, Try.ntmps21
      go_wp2_with fail
      go_loopw [39] (fun i wr => ∃ (k : Nat) (z : St), k ≤ E.l.length ∧ i = .int .i64 k ∧ loopK (stepI E.l E.m (placeM E.l E.m d) fro fin) (E.l.length - k) k z = some y ∧ SAt E wr z ∧ Kept (E.since w) wr) (fun i _ => E.l.length - (intOf i).toNat)
      case atStart => exact ⟨0, x, Nat.zero_le _, rfl, HX.out, H.out, Kept.refl _ _⟩
      case round =>
        clear s5 s0 hf'
        obtain ⟨k, z, hk, rfl, hz, hS, hK⟩ := hrel
        by_cases hlt : k < E.l.length
        · rw [loopK_step _ hlt] at hz
          obtain ⟨bt, ot, hEA, hbt⟩ := HT.out (by omega)
          obtain ⟨bt2, ot2, hEA2, t0, t1, t2, t3⟩ := HTT.out.at hlt
          rw [hEA] at hEA2
          injection hEA2 with q
          injection q with q1 q2
          subst q1 q2
          have hst : stepI E.l E.m (placeM E.l E.m d) fro fin k z = if (z.p.getD (k * 4) 0 != 0) = true then some z else loopK (stepK E.l (placeM E.l E.m d) fro fin k E.l[k]) E.m 0 z := by
            unfold stepI
            rw [List.getElem?_eq_getElem hlt]
          rw [hst] at hz
          have a0 := hS.kept.cell t0 hbt
          have a1 := hS.kept.cell t1 hbt
          have a2 := hS.kept.cell t2 hbt
          have a3 := hS.kept.cell t3 hbt
          have p0 := hS.getp (i := k * 4) (by omega)
          have s3 := hS.s.cell 3 (v := .slice (some ⟨E.p, 0, none⟩) E.l.length E.l.length) rfl
          have HZ := Lib.hid hz
          have HEA := Lib.hid hEA
          clear hz hst t0 t1 t2 t3
          generalize E.l[k] = tk at *
          rw [hEA]
          go_upto_region 7 with (fail)
          have ka := below_alloc wr (.cells #[.int .i64 tk.run, .int .i64 tk.seconds, .bool false, .slice none 0 0] 38)
          have hO := Blk.new wr #[.int .i64 tk.run, .int .i64 tk.seconds, .bool false, .slice none 0 0] 38
          have hwr := hK.size
          have hSo := hS.below ka
          have hKo := hK.below ka
          have p0' := cell_later ka p0
          have s3' := cell_later ka s3
          have hnm : ¬ Mine E wr.heap.size := by
            have := hS.kept.size
            have := hE.lt
            unfold Mine
            omega
          clear a0 a1 a2 a3 ka p0 s3 hS hK
          generalize wr.alloc (.cells #[.int .i64 tk.run, .int .i64 tk.seconds, .bool false, .slice none 0 0] 38) = wo at *
          generalize wr.heap.size = qb at *
          have hki : (k : Int) < (E.l.length : Int) := by omega
          cases hg : (z.p.getD (k * 4) 0 != 0) with
          | true =>
            have hz := HZ.out
            rw [hg, if_pos rfl] at hz
            have HZ2 := Lib.hid hz
            generalize z.p.getD (k * 4) 0 = gr at *
            clear hz HZ IH
            go_wp2
            go_roundw
            case rel => exact ⟨k + 1, z, by omega, by go_num, HZ2.out, hSo, hKo⟩
            case measure => simp [intOf]; omega
          | false =>
            have hz := HZ.out
            rw [hg, if_neg (by simp)] at hz
            have HZ2 := Lib.hid hz
            have HO := Lib.hid hO
            have HSO := Lib.hid hSo
            have HKO := Lib.hid hKo
            have s1 := hSo.s.cell 1 (v := .slice E.C E.m E.cC) rfl
            generalize z.p.getD (k * 4) 0 = gr at *
            clear hz HZ hO hSo hKo
            go_wp2_with fail
            go_loopw [58] (fun i wx => ∃ (k2 : Nat) (z2 : St), k2 ≤ E.m ∧ i = .int .i64 k2 ∧ (loopK (stepK E.l (placeM E.l E.m d) fro fin k tk) (E.m - k2) k2 z2).bind (loopK (stepI E.l E.m (placeM E.l E.m d) fro fin) (E.l.length - (k + 1)) (k + 1)) = some y ∧ SAt E wx z2 ∧ Kept (E.since w) wx ∧ Blk wx qb #[.int .i64 tk.run, .int .i64 tk.seconds, .bool false, .slice none 0 0] 38) (fun i _ => E.m - (intOf i).toNat)
            case atStart => exact ⟨0, z, Nat.zero_le _, rfl, HZ2.out, HSO.out, HKO.out, HO.out⟩
            case round =>
              clear s1 s3' p0' hg HZ2 HO HSO HKO
              obtain ⟨k2, z2, hk2, rfl, hz, hS, hK, hO⟩ := hrel
              by_cases hlt2 : k2 < E.m
              · rw [loopK_step _ hlt2] at hz
                obtain ⟨bw, ow, hEC, hbw, hw0⟩ := HW.out (by omega)
                have w0 := hS.kept.cell (hw0 k2 hlt2) hbw
                rw [hEC]
                have o2 := hO.cell 2 (v := .bool false) rfl
                have hq := earliest_any E hE hl z2 k hlt ((k2 : Int) + 1) wr hS
                have Hq := Lib.hid hq
                have hk2i : (k2 : Int) < (E.m : Int) := by omega
                have HZ3 := Lib.hid hz
                clear hq hz
                go_wp2_with fail
                refine Hq.out.mono ?_
                rintro e w3 ⟨rfl, hb3⟩
                replace hS := hS.below hb3
                replace hK := hK.below hb3
                replace hO := hO.below hb3
                clear Hq hb3 w0 o2
                have hz := HZ3.out
                have hst : stepK E.l (placeM E.l E.m d) fro fin k tk k2 z2 = if earl z2.p ((k2 : Int) + 1) E.l.length < fro then some z2
                  else if (inB (earl z2.p ((k2 : Int) + 1) E.l.length) && inB (earl z2.p ((k2 : Int) + 1) E.l.length + tk.seconds)) = true then
                    (placeM E.l E.m d (earl z2.p ((k2 : Int) + 1) E.l.length) (mx fin (earl z2.p ((k2 : Int) + 1) E.l.length + tk.seconds)) ⟨put z2.p k ((k2 : Int) + 1) tk.run (earl z2.p ((k2 : Int) + 1) E.l.length) (earl z2.p ((k2 : Int) + 1) E.l.length + tk.seconds), z2.b, z2.e⟩).map fun s1 => ⟨put s1.p k 0 0 0 0, s1.b, s1.e⟩
                  else none := rfl
                rw [hst] at hz
                clear hst
                generalize earl z2.p ((k2 : Int) + 1) E.l.length = t at *
                by_cases hlt3 : t < fro
                · rw [if_pos hlt3] at hz
                  have HZ4 := Lib.hid hz
                  clear hz HZ3 IH
                  go_wp2
                  go_roundw
                  case rel => exact ⟨k2 + 1, z2, by omega, by go_num, HZ4.out, hS, hK, hO⟩
                  case measure => simp [intOf]; omega
                · rw [if_neg hlt3] at hz
                  have hge : fro ≤ t := by omega
                  by_cases hin : (inB t && inB (t + tk.seconds)) = true
                  · rw [if_pos hin] at hz
                    rw [Bool.and_eq_true] at hin
                    cases hr : placeM E.l E.m d t (mx fin (t + tk.seconds)) ⟨put z2.p k ((k2 : Int) + 1) tk.run t (t + tk.seconds), z2.b, z2.e⟩ with
                    | none => rw [hr] at hz; simp at hz
                    | some z3 =>
                      rw [hr, Option.map_some] at hz
                      have HZ4 := Lib.hid hz
                      have hadd := (hS.put hE k ((k2 : Int) + 1) tk.run t (t + tk.seconds)).drewN 1
                      have hkadd := ((((hK.set (a := ⟨E.p, k * 4, none⟩) (.inr (.inl rfl)) (.int .i64 ((k2 : Int) + 1))).set (a := ⟨E.p, k * 4 + 1, none⟩) (.inr (.inl rfl)) (.int .i64 tk.run)).set (a := ⟨E.p, k * 4 + 2, none⟩) (.inr (.inl rfl)) (.int .i64 t)).set (a := ⟨E.p, k * 4 + 3, none⟩) (.inr (.inl rfl)) (.int .i64 (t + tk.seconds))).drewN 1
                      have hOadd : Blk ((((w3.setCell ⟨E.p, k * 4, none⟩ (.int .i64 ((k2 : Int) + 1))).setCell ⟨E.p, k * 4 + 1, none⟩ (.int .i64 tk.run)).setCell ⟨E.p, k * 4 + 2, none⟩ (.int .i64 t)).setCell ⟨E.p, k * 4 + 3, none⟩ (.int .i64 (t + tk.seconds))).drew qb #[.int .i64 tk.run, .int .i64 tk.seconds, .bool false, .slice none 0 0] 38 := (((hO.far _ _ (fun e => hnm (.inr (.inl e)))).far _ _ (fun e => hnm (.inr (.inl e)))).far _ _ (fun e => hnm (.inr (.inl e)))).far _ _ (fun e => hnm (.inr (.inl e)))
                      have hq := (IH.out t (mx fin (t + tk.seconds)) _ z3 (inB_mx HFI.out hin.2) hr) _ hadd
                      have Hq := Lib.hid hq
                      have HKA := Lib.hid hkadd
                      have HOA := Lib.hid hOadd
                      have p0 := hS.getp (i := k * 4) (by omega)
                      have p1 := hS.getp (i := k * 4 + 1) (by omega)
                      have p2 := hS.getp (i := k * 4 + 2) (by omega)
                      have p3 := hS.getp (i := k * 4 + 3) (by omega)
                      have f0 := hS.p.frozen (k * 4)
                      have f1 := hS.p.frozen (k * 4 + 1)
                      have f2 := hS.p.frozen (k * 4 + 2)
                      have f3 := hS.p.frozen (k * 4 + 3)
                      have s3 := hS.s.cell 3 (v := .slice (some ⟨E.p, 0, none⟩) E.l.length E.l.length) rfl
                      have o0 := hO.cell 0 (v := .int .i64 tk.run) rfl
                      have o1 := hO.cell 1 (v := .int .i64 tk.seconds) rfl
                      have hbt1 := hin.1
                      have hbt2 := hin.2
                      unfold inB at hbt1 hbt2
                      simp only [decide_eq_true_eq] at hbt1 hbt2
                      have hadw : IntKind.i64.wrap (t + tk.seconds) = t + tk.seconds := IntWalk.i64_in _ (by omega)
                      clear hz HZ3 IH hr hadd hkadd hOadd hq hin hS hK hO
                      go_upto_region 14 with (fail)
                      go_still_tail 16, (by kernel_rfl)
                      change wpList _ _ _ _ _ w3.drew
                      go_upto_region 15 with (fail)
                      have o1 := HOA.out.cell 1 (v := .int .i64 tk.seconds) rfl
                      clear p0 p1 p2 p3 f0 f1 f2 f3 s3 o0
                      have hq := Hq.out
                      unfold pargs at hq
                      change Calls Try.prog 21 _ ((((w3.setCell ⟨E.p, k * 4, none⟩ (.int .i64 ((k2 : Int) + 1))).setCell ⟨E.p, k * 4 + 1, none⟩ (.int .i64 tk.run)).setCell ⟨E.p, k * 4 + 2, none⟩ (.int .i64 t)).setCell ⟨E.p, k * 4 + 3, none⟩ (.int .i64 (t + tk.seconds))).drew (PlacePost E ((((w3.setCell ⟨E.p, k * 4, none⟩ (.int .i64 ((k2 : Int) + 1))).setCell ⟨E.p, k * 4 + 1, none⟩ (.int .i64 tk.run)).setCell ⟨E.p, k * 4 + 2, none⟩ (.int .i64 t)).setCell ⟨E.p, k * 4 + 3, none⟩ (.int .i64 (t + tk.seconds))).drew z3) at hq
                      have Hq2 := Lib.hid hq
                      have HKA2 : Hid (Kept (E.since w) ((((w3.setCell ⟨E.p, k * 4, none⟩ (.int .i64 ((k2 : Int) + 1))).setCell ⟨E.p, k * 4 + 1, none⟩ (.int .i64 tk.run)).setCell ⟨E.p, k * 4 + 2, none⟩ (.int .i64 t)).setCell ⟨E.p, k * 4 + 3, none⟩ (.int .i64 (t + tk.seconds))).drew) := Lib.hid HKA.out
                      clear hq Hq HKA
                      generalize ((((w3.setCell ⟨E.p, k * 4, none⟩ (.int .i64 ((k2 : Int) + 1))).setCell ⟨E.p, k * 4 + 1, none⟩ (.int .i64 tk.run)).setCell ⟨E.p, k * 4 + 2, none⟩ (.int .i64 t)).setCell ⟨E.p, k * 4 + 3, none⟩ (.int .i64 (t + tk.seconds))).drew = w4 at *
                      have hmx : (fin < t + tk.seconds ∧ mx fin (t + tk.seconds) = t + tk.seconds) ∨ (t + tk.seconds ≤ fin ∧ mx fin (t + tk.seconds) = fin) := by
                        unfold mx
                        split <;> omega
                      generalize mx fin (t + tk.seconds) = fm at *
                      rcases hmx with ⟨hm1, rfl⟩ | ⟨hm1, rfl⟩
                      all_goals
                        go_wp2_with fail
                        refine Hq2.out.mono ?_
                        rintro e w5 ⟨rfl, hS5, hK5⟩
                        have hO5 := Kept.blk hK5 HOA.out hnm
                        have hK6 := HKA2.out.trans hK5
                        have hput := hS5.put hE k 0 0 0 0
                        have hkp := ((((hK6.set (a := ⟨E.p, k * 4, none⟩) (.inr (.inl rfl)) (.int .i64 0)).set (a := ⟨E.p, k * 4 + 1, none⟩) (.inr (.inl rfl)) (.int .i64 0)).set (a := ⟨E.p, k * 4 + 2, none⟩) (.inr (.inl rfl)) (.int .i64 0)).set (a := ⟨E.p, k * 4 + 3, none⟩) (.inr (.inl rfl)) (.int .i64 0))
                        have hOp : Blk ((((w5.setCell ⟨E.p, k * 4, none⟩ (.int .i64 0)).setCell ⟨E.p, k * 4 + 1, none⟩ (.int .i64 0)).setCell ⟨E.p, k * 4 + 2, none⟩ (.int .i64 0)).setCell ⟨E.p, k * 4 + 3, none⟩ (.int .i64 0)) qb #[.int .i64 tk.run, .int .i64 tk.seconds, .bool false, .slice none 0 0] 38 := (((hO5.far _ _ (fun e => hnm (.inr (.inl e)))).far _ _ (fun e => hnm (.inr (.inl e)))).far _ _ (fun e => hnm (.inr (.inl e)))).far _ _ (fun e => hnm (.inr (.inl e)))
                        have p0 := hS5.getp (i := k * 4) (by omega)
                        have p1 := hS5.getp (i := k * 4 + 1) (by omega)
                        have p2 := hS5.getp (i := k * 4 + 2) (by omega)
                        have p3 := hS5.getp (i := k * 4 + 3) (by omega)
                        have f0 := hS5.p.frozen (k * 4)
                        have f1 := hS5.p.frozen (k * 4 + 1)
                        have f2 := hS5.p.frozen (k * 4 + 2)
                        have f3 := hS5.p.frozen (k * 4 + 3)
                        have s3 := hS5.s.cell 3 (v := .slice (some ⟨E.p, 0, none⟩) E.l.length E.l.length) rfl
                        have HP := Lib.hid (And.intro hput (And.intro hkp hOp))
                        clear hput hkp hOp hS5 hK5 hO5 hK6 HOA HKA2 Hq2 o1 hadw hbt1 hbt2
                        go_wp2
                        go_roundw
                        case rel => exact ⟨k2 + 1, _, by omega, by go_num, HZ4.out, HP.out.1, HP.out.2.1, HP.out.2.2⟩
                        case measure => simp [intOf]; omega
                  · rw [if_neg hin] at hz
                    simp at hz
              · have hke : k2 = E.m := by omega
                subst hke
                rw [loopK_end, Option.bind_some] at hz
                have HZ3 := Lib.hid hz
                clear hz
                go_wp2
                go_roundw
                case rel => exact ⟨k + 1, z2, by omega, by go_num, HZ3.out, hS, hK⟩
                case measure => simp [intOf]; omega
        · have hke : k = E.l.length := by omega
          subst hke
          rw [loopK_end] at hz
          injection hz with hz
          subst hz
          go_wp2
          go_end0
          exact ⟨rfl, hS, hK⟩
end Go.Proofs.Ytogaepijfbgniaa
