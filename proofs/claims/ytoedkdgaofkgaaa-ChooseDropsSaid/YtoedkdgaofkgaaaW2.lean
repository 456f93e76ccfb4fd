/- Contracts: Need, Fits (both). -/
import Derived.Test.YtoedkdgaofkgaaaW1
namespace Go.Proofs.Ytoedkdgaofkgaaa
open Go.RowKit
set_option linter.unusedVariables false
theorem results_tmp4 {fn : Func} {t u v x : Tmp} (h : fn.results = #[.tmp t, .tmp u, .tmp v, .tmp x]) (tmps : Array Value) (P : Program) (w : World) :
    (results fn tmps).run P w = .ok (.tuple #[tmps.getD t undef, tmps.getD u undef, tmps.getD v undef, tmps.getD x undef]) w := by simp [results, h]

def NeedV (q : Int × Int × Int × Bool) : Value := .tuple #[.int .i64 q.1, .int .i64 q.2.1, .int .i64 q.2.2.1, .bool q.2.2.2]
/-- the state of the loop of Need behind k indices -/
structure NeedAt (l : List Item) (ch : List Int) (k : Nat) (x y z : Int) : Prop where
  go : needOf l ch = need l (prevOf ch k) (ch.drop k) x y z
  bx : 0 ≤ x ∧ x ≤ k * 1000000000
  by_ : 0 ≤ y ∧ y ≤ k * 1000000000
  bz : 0 ≤ z ∧ z ≤ k * 1000000000
theorem NeedAt.start (l : List Item) (ch : List Int) : NeedAt l ch 0 0 0 0 := ⟨by simp [needOf, prevOf], by omega, by omega, by omega⟩
theorem NeedAt.bad {l : List Item} {ch : List Int} {k : Nat} {x y z : Int} (h : NeedAt l ch k x y z) (hk : k < ch.length) (hb : okAt l (prevOf ch k) ch[k] = false) : needOf l ch = (0, 0, 0, false) := by
  rw [h.go, List.drop_eq_getElem_cons hk, need, hb]; rfl
theorem NeedAt.next {l : List Item} {ch : List Int} {k : Nat} {x y z : Int} (hl : itemsB l = true) (h : NeedAt l ch k x y z) (hk : k < ch.length) (hb : okAt l (prevOf ch k) ch[k] = true) (j : Nat) (hj : ch[k] = (j : Int)) (hjl : j < l.length) :
    NeedAt l ch (k + 1) (x + l[j].a) (y + l[j].b) (z + l[j].v) := by
  have hd := itemB_bd (itemB_of hl j hjl)
  have e : l.getD (ch[k]).toNat Item.zero = l[j] := by rw [hj]; simp [hjl]
  refine ⟨?_, ?_, ?_, ?_⟩
  · rw [h.go, List.drop_eq_getElem_cons hk, need, hb, if_pos rfl, e]
    simp [prevOf, hk]
  · have := h.bx; simp only [Int.natCast_add]; omega
  · have := h.by_; simp only [Int.natCast_add]; omega
  · have := h.bz; simp only [Int.natCast_add]; omega
theorem NeedAt.done {l : List Item} {ch : List Int} {x y z : Int} (h : NeedAt l ch ch.length x y z) : needOf l ch = (x, y, z, true) := by
  rw [h.go, List.drop_length, need]

theorem okAt_of {l : List Item} {ch : List Int} {k : Nat} (hk : k < ch.length) (h0 : 0 ≤ ch[k]) (h1 : ch[k] < l.length) (h2 : ∀ (hk0 : 0 < k), ch[k-1]'(by omega) < ch[k]) : okAt l (prevOf ch k) ch[k] = true := by
  unfold okAt prevOf
  simp only [decide_eq_true_eq]
  refine ⟨h0, h1, fun q hq => ?_⟩
  split at hq
  · cases hq
  · rw [List.getElem?_eq_getElem (by omega)] at hq; injection hq with hq; subst hq; exact h2 (by omega)
theorem okAt_not {l : List Item} {ch : List Int} {k : Nat} (hk : k < ch.length) (h : ch[k] < 0 ∨ l.length ≤ ch[k] ∨ ∃ (hk0 : 0 < k), ch[k] ≤ ch[k-1]'(by omega)) : okAt l (prevOf ch k) ch[k] = false := by
  unfold okAt prevOf
  simp only [decide_eq_false_iff_not]
  rintro ⟨h0, h1, h2⟩
  rcases h with h | h | ⟨hk0, h⟩
  · omega
  · omega
  · have := h2 (ch[k-1]'(by omega)) (by rw [if_neg (by omega), List.getElem?_eq_getElem (by omega)])
    omega

set_option maxHeartbeats 1000000 in
theorem Need_any (A C : Option Addr) (c d : Nat) (l : List Item) (ch : List Int) (w : World) (hm : l.length ≤ 1000000000000000) (hl : itemsB l = true) (hn : ch.length ≤ 40) (h : Items w A l) (hi : Ints w C ch) :
    Calls Try.prog 14 #[.slice A l.length c, .slice C ch.length d] w fun e w' => e = .returned (NeedV (needOf l ch)) ∧ w = w' := by
  go_enter Try.func14, Try.ntmps14
  go_wp2
  go_loop [8, 9, 10, 15] (fun x y z i => ∃ (k : Nat) (a b v : Int), k ≤ ch.length ∧ x = .int .i64 a ∧ y = .int .i64 b ∧ z = .int .i64 v ∧ i = .int .i64 k ∧ NeedAt l ch k a b v) (fun _ _ _ i => ch.length - (intOf i).toNat)
  case atStart => exact ⟨0, 0, 0, 0, Nat.zero_le _, rfl, rfl, rfl, rfl, NeedAt.start l ch⟩
  case round =>
    obtain ⟨k, a, b, v, hk, rfl, rfl, rfl, rfl, hat⟩ := hrel
    have bx := hat.bx
    have by_ := hat.by_
    have bz := hat.bz
    by_cases hlt : k < ch.length
    · obtain ⟨bC, oC, rfl, hcC⟩ := hi (by omega)
      have hck := hcC k hlt
      have hbad := NeedAt.bad hat hlt
      have hnext := NeedAt.next hl hat hlt
      have Hb := Lib.hid hbad; clear hbad
      have Hn := Lib.hid hnext; clear hnext
      by_cases h0 : ch[k] < 0
      · have hx := Lib.hid (Hb.out (okAt_not hlt (.inl h0)))
        clear Hb Hn hcC h hat
        generalize ch[k] = q at *
        go_wp2
        refine bodyPost_ret (results_tmp4 rfl _ _ _) rfl ⟨?_, rfl⟩
        rw [hx.out]; rfl
      by_cases h1 : (l.length : Int) ≤ ch[k]
      · have hx := Lib.hid (Hb.out (okAt_not hlt (.inr (.inl h1))))
        clear Hb Hn hcC h hat
        generalize ch[k] = q at *
        go_wp2
        refine bodyPost_ret (results_tmp4 rfl _ _ _) rfl ⟨?_, rfl⟩
        rw [hx.out]; rfl
      obtain ⟨j, hj⟩ := Int.eq_ofNat_of_zero_le (by omega : 0 ≤ ch[k])
      have hjl : j < l.length := by omega
      obtain ⟨bA, oA, rfl, hcA⟩ := h (by omega)
      obtain ⟨ha0, ha1, ha2⟩ := hcA j hjl
      have hbd := itemB_bd (itemB_of hl j hjl)
      by_cases hk0 : 0 < k
      · have hcp := hcC (k - 1) (by omega)
        have e1 : oC + (k - 1) = oC + (k - 1) := rfl
        by_cases h2 : ch[k] ≤ ch[k-1]
        · have hx := Lib.hid (Hb.out (okAt_not hlt (.inr (.inr ⟨hk0, h2⟩))))
          clear Hb Hn hcC hcA hat
          have h2' : ch[k] ≤ ch[k-1] := h2
          generalize ch[k-1] = q1 at *
          generalize ch[k] = q at *
          clear hj
          go_wp2
          refine bodyPost_ret (results_tmp4 rfl _ _ _) rfl ⟨?_, rfl⟩
          rw [hx.out]; rfl
        · have hx := Lib.hid (Hn.out (okAt_of hlt (by omega) (by omega) (fun _ => by omega)) j hj hjl)
          clear Hb Hn hcC hcA hat
          rw [hj] at hck
          have h2' : ch[k-1] < (j : Int) := by omega
          clear h2 h1 h0 hj
          generalize ch[k-1] = q1 at *
          go_wp2
          go_round
          case rel => exact ⟨k + 1, _, _, _, by omega, rfl, rfl, rfl, by go_num, hx.out⟩
          case measure => simp [intOf]; omega
      · have hk00 : k = 0 := by omega
        have hx := Lib.hid (Hn.out (okAt_of hlt (by omega) (by omega) (fun _ => by omega)) j hj hjl)
        clear Hb Hn hcC hcA hat
        rw [hj] at hck
        clear h1 h0 hj
        have hk00' := Lib.hid hk00; clear hk00
        go_wp2
        go_round
        case rel => exact ⟨k + 1, _, _, _, by omega, rfl, rfl, rfl, by go_num, hx.out⟩
        case measure => simp [intOf]; omega
    · have : k = ch.length := by omega
      subst this
      have hd := Lib.hid hat.done
      clear hat
      go_wp2
      refine bodyPost_ret (results_tmp4 rfl _ _ _) rfl ⟨?_, rfl⟩
      rw [hd.out]; rfl
end Go.Proofs.Ytoedkdgaofkgaaa
