/- Contract: the recursion of Best. -/
import Derived.Test.YtoedkdgaofkgaaaW3
import Derived.Test.YtoedkdgaofkgaaaW6
import Derived.Test.YtoedkdgaofkgaaaBestPlain
import Derived.StillTailTactics
import Derived.WalkSmall
namespace Go.Proofs.Ytoedkdgaofkgaaa
open Go.RowKit
set_option linter.unusedVariables false

/-- the state of the recursion: w0: the world in which Best began; q: the number of the block of 'best' -/
structure Inv (w0 w : World) (q : Nat) (A : Option Addr) (c : Nat) (l : List Item) (a b : Int) (ch best : List Int) (most : Int) (v sv : Value) : Prop where
  hL : w.heap[w0.heap.size]? = some (.cells #[.slice A l.length c] 22 (0, 0))
  hA : w.heap[w0.heap.size + 1]? = some (.cells #[.int .i64 a] 3 (0, 0))
  hB : w.heap[w0.heap.size + 2]? = some (.cells #[.int .i64 b] 3 (0, 0))
  hS : w.heap[q]? = some (.cells #[sv] 27 (0, 0))
  hC : w.heap[q + 1]? = some (.cells #[v] 27 (0, 0))
  hM : w.heap[q + 2]? = some (.cells #[.int .i64 most] 3 (0, 0))
  hT : w.heap[q + 3]? = some (.cells #[.func (Fn.func 25) #[] #[.pointer (some ⟨w0.heap.size, 0, none⟩), .pointer (some ⟨q + 1, 0, none⟩), .pointer (some ⟨w0.heap.size + 1, 0, none⟩), .pointer (some ⟨w0.heap.size + 2, 0, none⟩), .pointer (some ⟨q + 2, 0, none⟩), .pointer (some ⟨q, 0, none⟩), .pointer (some ⟨q + 3, 0, none⟩)]] 47 (0, 0))
  lt : w0.heap.size + 3 ≤ q
  size : q + 4 ≤ w.heap.size
  own : OwnI w (q + 4) 3 v ch
  owns : OwnI w (q + 4) 3 sv best
  apart : v.ownBlock = none ∨ v.ownBlock ≠ sv.ownBlock
  below : Below w0.heap.size w0 w

def args25 (w0 : World) (q : Nat) (next : Int) (value : Int) : Array Value := #[.int .i64 next, .int .i64 value, .pointer (some ⟨w0.heap.size, 0, none⟩), .pointer (some ⟨q + 1, 0, none⟩), .pointer (some ⟨w0.heap.size + 1, 0, none⟩), .pointer (some ⟨w0.heap.size + 2, 0, none⟩), .pointer (some ⟨q + 2, 0, none⟩), .pointer (some ⟨q, 0, none⟩), .pointer (some ⟨q + 3, 0, none⟩)]
def TryPost (w0 : World) (q : Nat) (A : Option Addr) (c : Nat) (l : List Item) (a b : Int) (ch : List Int) (st : List Int × Int) (e : Ending) (w' : World) : Prop :=
  e = .returned (.tuple #[]) ∧ ∃ v sv, Inv w0 w' q A c l a b ch st.1 st.2 v sv

set_option maxHeartbeats 1000000 in
theorem try_no (w0 w : World) (q : Nat) (A : Option Addr) (c : Nat) (l : List Item) (a b : Int) (ch best : List Int) (most : Int) (v sv : Value) (hl : itemsB l = true) (h12 : l.length ≤ 12) (h : Items w0 A l)
    (next f : Nat) (value : Int) (hch : ch.length ≤ 12) (hI : Inv w0 w q A c l a b ch best most v sv) (hf : fitsOf l ch a b = false) :
    Calls Try.prog 25 (args25 w0 q next value) w (TryPost w0 q A c l a b ch (tryF l a b f next value ch (best, most))) := by
  rw [tryF_no hf]
  have c0 := cell_of_one hI.hL
  have c1 := cell_of_one hI.hC
  have c2 := cell_of_one hI.hA
  have c3 := cell_of_one hI.hB
  obtain ⟨C, d, rfl, hi⟩ := hI.own.form
  have hfit := Lib.hid (Fits_any A C c d l ch a b w (by omega) hl (by omega) (h.below hI.below) hi)
  rw [hf] at hfit
  have HI := Lib.hid hI; clear hI
  unfold args25
  go_enter Try.func25, Try.ntmps25
  go_wp2_with (go_at_call 16; refine (hfit.out).mono ?_; rintro e w' ⟨rfl, rfl⟩)
  refine bodyPost_ret (results_none rfl _ _ _) rfl ?_
  exact ⟨rfl, _, _, HI.out⟩


theorem OwnI.lt {w : World} {B T : Nat} {v : Value} {l : List Int} (h : OwnI w B T v l) : ∀ k, v.ownBlock = some k → B ≤ k ∧ k < w.heap.size := World.ownsRow.lt h
theorem OwnI.set_below {w : World} {B T : Nat} {v : Value} {l : List Int} (h : OwnI w B T v l) {p : Addr} (hp : p.block < B) (u : Value) : OwnI (w.setCell p u) B T v l := ownsRow_setCell_below h hp u
theorem OwnI.raise {w : World} {B B' T : Nat} {v : Value} {l : List Int} (h : OwnI w B T v l) (hB : B' ≤ B) : OwnI w B' T v l := by
  refine ⟨h.1, ?_⟩
  rcases h.2 with hn | ⟨g, cap, cur, hv, hg, r⟩
  · exact .inl hn
  · exact .inr ⟨g, cap, cur, hv, by omega, r⟩
theorem heap_set_far {w : World} {b k : Nat} {u : Value} (h : k ≠ b) : (w.setCell ⟨b, 0, none⟩ u).heap[k]? = w.heap[k]? := Below.heap_setCell _ _ _ _ h

section
variable {w0 w : World} {q : Nat} {A : Option Addr} {c : Nat} {l : List Item} {a b : Int} {ch best : List Int} {most : Int} {v sv : Value}
theorem Inv.take (hI : Inv w0 w q A c l a b ch best most v sv) (w1 : World) (v' : Value) (value : Int) (h1 : OwnI w1 w.heap.size 3 v' ch) (hb : Below w.heap.size w w1) :
    Inv w0 ((w1.setCell ⟨q, 0, none⟩ v').setCell ⟨q + 2, 0, none⟩ (.int .i64 value)) q A c l a b ch ch value v v' := by
  have hs := hI.size
  have hlt := hI.lt
  have hsz := hb.size
  have g : ∀ k, k < w.heap.size → k ≠ q → k ≠ q + 2 → ((w1.setCell ⟨q, 0, none⟩ v').setCell ⟨q + 2, 0, none⟩ (.int .i64 value)).heap[k]? = w.heap[k]? := fun k hk h1 h2 => by
    rw [heap_set_far h2, heap_set_far h1]; exact hb.block k hk
  refine ⟨?_, ?_, ?_, ?_, ?_, ?_, ?_, hlt, by simp; omega, ?_, ?_, ?_, ?_⟩
  · rw [g _ (by omega) (by omega) (by omega)]; exact hI.hL
  · rw [g _ (by omega) (by omega) (by omega)]; exact hI.hA
  · rw [g _ (by omega) (by omega) (by omega)]; exact hI.hB
  · rw [heap_set_far (by omega)]; exact one_setCell ((hb.block q (by omega)).trans hI.hS)
  · rw [g _ (by omega) (by omega) (by omega)]; exact hI.hC
  · exact one_setCell (by rw [heap_set_far (by omega)]; exact (hb.block _ (by omega)).trans hI.hM)
  · rw [g _ (by omega) (by omega) (by omega)]; exact hI.hT
  · exact ((hI.own.grown hb).set_below (by show q < q + 4; omega) _).set_below (by show q + 2 < q + 4; omega) _
  · exact ((h1.raise hs).set_below (by show q < q + 4; omega) _).set_below (by show q + 2 < q + 4; omega) _
  · rcases hv : v.ownBlock with _ | k
    · exact .inl rfl
    · refine .inr fun he => ?_
      have hk := hI.own.lt k hv
      have hk' := h1.lt k he.symm
      omega
  · exact ((hI.below.trans (hb.mono (by omega))).setCell (by show w0.heap.size ≤ q; omega) _).setCell (by show w0.heap.size ≤ q + 2; omega) _
theorem Inv.push (hI : Inv w0 w q A c l a b ch best most v sv) (w1 : World) (v' : Value) (y : Int) (h1 : OwnI w1 (q + 4) 3 v' (ch ++ [y])) (hb : Below (q + 4) w w1)
    (hg : (w.alloc (.cells #[.int .i64 y] 3)).grownBy w1 v.ownBlock) (ho : v'.ownBlock = v.ownBlock ∨ v'.ownBlock = some (w.heap.size + 1)) :
    Inv w0 (w1.setCell ⟨q + 1, 0, none⟩ v') q A c l a b (ch ++ [y]) best most v' sv := by
  have hs := hI.size
  have hlt := hI.lt
  have hsz := hb.size
  have g : ∀ k, k < q + 4 → k ≠ q + 1 → (w1.setCell ⟨q + 1, 0, none⟩ v').heap[k]? = w.heap[k]? := fun k hk h1 => by
    rw [heap_set_far h1]; exact hb.block k hk
  refine ⟨?_, ?_, ?_, ?_, ?_, ?_, ?_, hlt, by simp; omega, ?_, ?_, ?_, ?_⟩
  · rw [g _ (by omega) (by omega)]; exact hI.hL
  · rw [g _ (by omega) (by omega)]; exact hI.hA
  · rw [g _ (by omega) (by omega)]; exact hI.hB
  · rw [g _ (by omega) (by omega)]; exact hI.hS
  · exact one_setCell ((hb.block _ (by omega)).trans hI.hC)
  · rw [g _ (by omega) (by omega)]; exact hI.hM
  · rw [g _ (by omega) (by omega)]; exact hI.hT
  · exact h1.set_below (by show q + 1 < q + 4; omega) _
  · have : OwnI w1 (q + 4) 3 sv best := World.ownsRow.kept (hI.owns.alloc _) hg (by
      rcases hsv : sv.ownBlock with _ | k
      · exact .inl rfl
      · refine .inr fun he => ?_
        rcases hI.apart with h | h
        · rw [h] at he; cases he
        · exact h (by rw [← he, hsv]))
    exact this.set_below (by show q + 1 < q + 4; omega) _
  · rcases ho with ho | ho
    · rw [ho]; exact hI.apart
    · refine .inr fun he => ?_
      have := hI.owns.lt _ (he.symm.trans ho)
      omega
  · exact (hI.below.trans (hb.mono (by omega))).setCell (by show w0.heap.size ≤ q + 1; omega) _
theorem Inv.pop {y : Int} {g n cap : Nat} (hn : n = ch.length) (hI : Inv w0 w q A c l a b (ch ++ [y]) best most (.slice (some ⟨g, 0, none⟩) (n + 1) cap) sv) :
    Inv w0 (w.setCell ⟨q + 1, 0, none⟩ (.slice (some ⟨g, 0, none⟩) n cap)) q A c l a b ch best most (.slice (some ⟨g, 0, none⟩) n cap) sv := by
  have hs := hI.size
  have hlt := hI.lt
  have g' : ∀ k, k ≠ q + 1 → (w.setCell ⟨q + 1, 0, none⟩ (.slice (some ⟨g, 0, none⟩) n cap)).heap[k]? = w.heap[k]? := fun k h1 => heap_set_far h1
  refine ⟨?_, ?_, ?_, ?_, ?_, ?_, ?_, hlt, by simp; omega, ?_, ?_, ?_, ?_⟩
  · rw [g' _ (by omega)]; exact hI.hL
  · rw [g' _ (by omega)]; exact hI.hA
  · rw [g' _ (by omega)]; exact hI.hB
  · rw [g' _ (by omega)]; exact hI.hS
  · exact one_setCell hI.hC
  · rw [g' _ (by omega)]; exact hI.hM
  · rw [g' _ (by omega)]; exact hI.hT
  · have h1 := hI.own
    have h2 : OwnI w (q + 4) 3 (.slice (some ⟨g, 0, none⟩) n cap) ch := by
      subst hn
      have h3 : w.ownsRow (q + 4) 3 1 (.slice (some ⟨g, 0, none⟩) (ch.length + 1) cap) (ch.length + 1) (ch.map (Value.int .i64) ++ [.int .i64 y]) := by simpa [OwnI] using h1
      exact ownsRow_pop (by simp) h3
    exact h2.set_below (by show q + 1 < q + 4; omega) _
  · exact hI.owns.set_below (by show q + 1 < q + 4; omega) _
  · rcases hI.apart with h | h
    · simp [Value.ownBlock] at h
    · exact .inr h
  · exact hI.below.setCell (by show w0.heap.size ≤ q + 1; omega) _
end

theorem Inv.drew {w0 w : World} {q : Nat} {A : Option Addr} {c : Nat} {l : List Item} {a b : Int} {ch best : List Int} {most : Int} {v sv : Value} (hI : Inv w0 w q A c l a b ch best most v sv) : Inv w0 w.drew q A c l a b ch best most v sv :=
  ⟨hI.hL, hI.hA, hI.hB, hI.hS, hI.hC, hI.hM, hI.hT, hI.lt, hI.size, hI.own, hI.owns, hI.apart, hI.below.drew⟩
theorem OwnI.slice {w : World} {B T : Nat} {v : Value} {l : List Int} {y : Int} (h : OwnI w B T v (l ++ [y])) : ∃ g cap, v = .slice (some ⟨g, 0, none⟩) (l.length + 1) cap ∧ l.length + 1 ≤ cap := by
  rcases h.2 with ⟨_, h0⟩ | ⟨g, cap, cur, e, _, _, hc, _⟩
  · simp at h0
  · exact ⟨g, cap, by simpa using e, by simpa using hc⟩
theorem loopF_step {l : List Item} {a b : Int} {f next j : Nat} {value : Int} {ch : List Int} {st : List Int × Int} (hj : next ≤ j) (hl : j < l.length) :
    loopF l a b f next value ch st (j + 1 - next) = tryF l a b f (j + 1) (value + l[j].v) (ch ++ [(j : Int)]) (loopF l a b f next value ch st (j - next)) := by
  rw [show j + 1 - next = (j - next) + 1 by omega, loopF_succ, show next + (j - next) = j by omega]
  simp [hl]
set_option maxHeartbeats 1000000 in
theorem try_loop (f : Nat) (w0 w : World) (q : Nat) (A : Option Addr) (c : Nat) (l : List Item) (a b : Int) (ch best : List Int) (most : Int) (v sv : Value) (hl : itemsB l = true) (h12 : l.length ≤ 12) (h : Items w0 A l)
    (ih : ∀ (w : World) (next : Nat) (nx value : Int) (ch best : List Int) (most : Int) (v sv : Value), nx = next → l.length < next + f → next ≤ l.length → ch.length ≤ next → 0 ≤ value → value ≤ next * 1000000000 → Inv w0 w q A c l a b ch best most v sv →
      Calls Try.prog 25 (args25 w0 q nx value) w (TryPost w0 q A c l a b ch (tryF l a b f next value ch (best, most))))
    (next : Nat) (value : Int) (hfn : l.length < next + f + 1) (hnl : next ≤ l.length) (hch : ch.length ≤ next) (hv0 : 0 ≤ value) (hv1 : value ≤ next * 1000000000) (hI : Inv w0 w q A c l a b ch best most v sv) (hf : fitsOf l ch a b = true) (hv : value ≤ most) :
    Calls Try.prog 25 (args25 w0 q next value) w (TryPost w0 q A c l a b ch (tryF l a b (f+1) next value ch (best, most))) := by
  rw [tryF_yes hf]
  have c0 := cell_of_one hI.hL
  have c1 := cell_of_one hI.hC
  have c2 := cell_of_one hI.hA
  have c3 := cell_of_one hI.hB
  have c4 := cell_of_one hI.hM
  obtain ⟨C, d, rfl, hi⟩ := hI.own.form
  have hfit := Lib.hid (Fits_any A C c d l ch a b w (by omega) hl (by omega) (h.below hI.below) hi)
  rw [hf] at hfit
  have hst : updF value ch (best, most) = (best, most) := by simp [updF]; omega
  have Hst := Lib.hid hst; clear hst
  have HI := Lib.hid hI; clear hI
  have IH := Lib.hid ih; clear ih
  have Hit := Lib.hid h; clear h
  unfold args25
  go_enter Try.func25, Try.ntmps25
  go_wp2_with (go_at_call 16; refine (hfit.out).mono ?_; rintro e w' ⟨rfl, rfl⟩)
  go_loopw [11] (fun i wr => ∃ (j : Nat) (v sv : Value), next ≤ j ∧ j ≤ l.length ∧ i = .int .i64 j ∧ Inv w0 wr q A c l a b ch (loopF l a b f next value ch (best, most) (j - next)).1 (loopF l a b f next value ch (best, most) (j - next)).2 v sv) (fun i _ => l.length - (intOf i).toNat)
  case atStart => exact ⟨next, _, _, Nat.le_refl _, hnl, rfl, by rw [Nat.sub_self, loopF_zero, Hst.out]; exact HI.out⟩
  case round =>
    clear c0 c1 c2 c3 c4 hfit HI hi Hst
    obtain ⟨j, v, sv, hj, hjl, rfl, hI⟩ := hrel
    have c0 := cell_of_one hI.hL
    have c1 := cell_of_one hI.hC
    have c5 := cell_of_one hI.hT
    have f1 := free_of_one hI.hC
    have hown := Lib.hid hI.own
    have hlt := hI.lt
    have hsz := hI.size
    by_cases hlt2 : j < l.length
    · have HI := Lib.hid hI; clear hI
      go_wp2_with (at_builtin; refine wpList_push wr wr rfl (.tmp 31) (.tmp 33) _ rfl (q + 4) 3 Try.underlying27 info3 v ch rfl (by exact hown.out) (j : Int) rfl (Below.refl _ _) (by omega) (by exact hsz) ?_; intro g1 cap1 w1 hown1 hbw hg1 hat1; have c1' := (hbw.cell (p := ⟨q + 1, 0, none⟩) (by show q + 1 < q + 4; omega)).trans c1; have f1' := (hbw.frozen (p := ⟨q + 1, 0, none⟩) (by show q + 1 < q + 4; omega)).trans f1)
      have HI2 := HI.out.push w1 _ (j : Int) hown1 hbw hg1 (by rcases hat1 with h | h <;> simp [Value.ownBlock, h])
      clear HI hown hown1 hbw hg1 hat1 c0 c1 c5 f1 c1' f1'
      generalize w1.setCell ⟨q + 1, 0, none⟩ (.slice (some ⟨g1, 0, none⟩) (ch.length + 1) cap1) = w2 at *
      have c0 := cell_of_one HI2.hL
      have c5 := cell_of_one HI2.hT
      obtain ⟨bA, oA, rfl, hcA⟩ := Hit.out (by omega)
      have cv := cell_later HI2.below (hcA j hlt2).2.2
      have hbd := (itemB_bd (itemB_of hl j hlt2)).2.2
      have Hlv := fun (st : List Int × Int) => @loopF_step l a b f next j value ch st hj hlt2
      have HLv := Lib.hid Hlv; clear Hlv hcA
      have HI2h := Lib.hid HI2; clear HI2
      go_still_tail 10, (by kernel_rfl)
      go_wp2_with fail
      refine (IH.out _ (j + 1) _ _ _ _ _ _ _ (by omega) (by omega) (by omega) (by simp; omega) (by omega) (by simp only [Int.natCast_add]; omega) HI2h.out.drew).mono ?_
      rintro e w3 ⟨rfl, v3, sv3, hI3⟩
      clear c0 c5 cv HI2h
      obtain ⟨g3, cap3, rfl, hcap3⟩ := hI3.own.slice
      have c1 := cell_of_one hI3.hC
      have f1 := free_of_one hI3.hC
      have HI3 := Lib.hid hI3; clear hI3
      go_wp2
      refine ⟨⟨j + 1, .slice (some ⟨g3, 0, none⟩) ch.length cap3, sv3, by omega, by omega, by go_num, ?_⟩, by simp [intOf]; omega⟩
      rw [HLv.out]
      exact HI3.out.pop rfl
    · have hje : j = l.length := by omega
      subst hje
      go_wp2
      refine bodyPost_ret (results_none rfl _ _ _) rfl ?_
      exact ⟨rfl, _, _, hI⟩
set_option maxHeartbeats 1000000 in
theorem try_loop2 (f : Nat) (w0 w : World) (q : Nat) (A : Option Addr) (c : Nat) (l : List Item) (a b : Int) (ch best : List Int) (most : Int) (v sv : Value) (hl : itemsB l = true) (h12 : l.length ≤ 12) (h : Items w0 A l)
    (ih : ∀ (w : World) (next : Nat) (nx value : Int) (ch best : List Int) (most : Int) (v sv : Value), nx = next → l.length < next + f → next ≤ l.length → ch.length ≤ next → 0 ≤ value → value ≤ next * 1000000000 → Inv w0 w q A c l a b ch best most v sv →
      Calls Try.prog 25 (args25 w0 q nx value) w (TryPost w0 q A c l a b ch (tryF l a b f next value ch (best, most))))
    (next : Nat) (value : Int) (hfn : l.length < next + f + 1) (hnl : next ≤ l.length) (hch : ch.length ≤ next) (hv0 : 0 ≤ value) (hv1 : value ≤ next * 1000000000) (hI : Inv w0 w q A c l a b ch best most v sv) (hf : fitsOf l ch a b = true) (hv : most < value) :
    Calls Try.prog 25 (args25 w0 q next value) w (TryPost w0 q A c l a b ch (tryF l a b (f+1) next value ch (best, most))) := by
  rw [tryF_yes hf]
  have c0 := cell_of_one hI.hL
  have c1 := cell_of_one hI.hC
  have c2 := cell_of_one hI.hA
  have c3 := cell_of_one hI.hB
  have c4 := cell_of_one hI.hM
  obtain ⟨C, d, rfl, hi⟩ := hI.own.form
  have hfit := Lib.hid (Fits_any A C c d l ch a b w (by omega) hl (by omega) (h.below hI.below) hi)
  rw [hf] at hfit
  have hst : updF value ch (best, most) = (ch, value) := by simp [updF]; omega
  have f4 := free_of_one hI.hM
  have c6 := cell_of_one hI.hS
  have f6 := free_of_one hI.hS
  have hclone := Lib.hid (Clone_any C d ch w (by omega) hi)
  have hsz0 := hI.size
  have hlt0 := hI.lt
  have Hst := Lib.hid hst; clear hst
  have HI := Lib.hid hI; clear hI
  have IH := Lib.hid ih; clear ih
  have Hit := Lib.hid h; clear h
  unfold args25
  go_enter Try.func25, Try.ntmps25
  go_wp2_with (go_at_call 16; refine (hfit.out).mono ?_; rintro e w' ⟨rfl, rfl⟩)
  refine (hclone.out).mono ?_
  rintro e w1 ⟨v1, rfl, hown1, hb1⟩
  have c4' := cell_later hb1 c4
  have c6' := cell_later hb1 c6
  have f4' := (hb1.frozen (p := ⟨q + 2, 0, none⟩) (by show q + 2 < w.heap.size; omega)).trans f4
  have f6' := (hb1.frozen (p := ⟨q, 0, none⟩) (by show q < w.heap.size; omega)).trans f6
  have HI' := Lib.hid (HI.out.take w1 v1 value hown1 hb1)
  obtain ⟨A1, c1', rfl, _⟩ := hown1.form
  clear HI hown1 hb1 c0 c1 c2 c3 c4 c6 f4 f6 hclone hsz0 hlt0
  go_wp2
  go_loopw [11] (fun i wr => ∃ (j : Nat) (v sv : Value), next ≤ j ∧ j ≤ l.length ∧ i = .int .i64 j ∧ Inv w0 wr q A c l a b ch (loopF l a b f next value ch (best, most) (j - next)).1 (loopF l a b f next value ch (best, most) (j - next)).2 v sv) (fun i _ => l.length - (intOf i).toNat)
  case atStart => exact ⟨next, _, _, Nat.le_refl _, hnl, rfl, by rw [Nat.sub_self, loopF_zero, Hst.out]; exact HI'.out⟩
  case round =>
    clear c4' c6' f4' f6' hfit HI' hi Hst
    obtain ⟨j, v, sv, hj, hjl, rfl, hI⟩ := hrel
    have c0 := cell_of_one hI.hL
    have c1 := cell_of_one hI.hC
    have c5 := cell_of_one hI.hT
    have f1 := free_of_one hI.hC
    have hown := Lib.hid hI.own
    have hlt := hI.lt
    have hsz := hI.size
    by_cases hlt2 : j < l.length
    · have HI := Lib.hid hI; clear hI
      go_wp2_with (at_builtin; refine wpList_push wr wr rfl (.tmp 31) (.tmp 33) _ rfl (q + 4) 3 Try.underlying27 info3 v ch rfl (by exact hown.out) (j : Int) rfl (Below.refl _ _) (by omega) (by exact hsz) ?_; intro g1 cap1 w1 hown1 hbw hg1 hat1; have c1' := (hbw.cell (p := ⟨q + 1, 0, none⟩) (by show q + 1 < q + 4; omega)).trans c1; have f1' := (hbw.frozen (p := ⟨q + 1, 0, none⟩) (by show q + 1 < q + 4; omega)).trans f1)
      have HI2 := HI.out.push w1 _ (j : Int) hown1 hbw hg1 (by rcases hat1 with h | h <;> simp [Value.ownBlock, h])
      clear HI hown hown1 hbw hg1 hat1 c0 c1 c5 f1 c1' f1'
      generalize w1.setCell ⟨q + 1, 0, none⟩ (.slice (some ⟨g1, 0, none⟩) (ch.length + 1) cap1) = w2 at *
      have c0 := cell_of_one HI2.hL
      have c5 := cell_of_one HI2.hT
      obtain ⟨bA, oA, rfl, hcA⟩ := Hit.out (by omega)
      have cv := cell_later HI2.below (hcA j hlt2).2.2
      have hbd := (itemB_bd (itemB_of hl j hlt2)).2.2
      have Hlv := fun (st : List Int × Int) => @loopF_step l a b f next j value ch st hj hlt2
      have HLv := Lib.hid Hlv; clear Hlv hcA
      have HI2h := Lib.hid HI2; clear HI2
      go_still_tail 10, (by kernel_rfl)
      go_wp2_with fail
      refine (IH.out _ (j + 1) _ _ _ _ _ _ _ (by omega) (by omega) (by omega) (by simp; omega) (by omega) (by simp only [Int.natCast_add]; omega) HI2h.out.drew).mono ?_
      rintro e w3 ⟨rfl, v3, sv3, hI3⟩
      clear c0 c5 cv HI2h
      obtain ⟨g3, cap3, rfl, hcap3⟩ := hI3.own.slice
      have c1 := cell_of_one hI3.hC
      have f1 := free_of_one hI3.hC
      have HI3 := Lib.hid hI3; clear hI3
      go_wp2
      refine ⟨⟨j + 1, .slice (some ⟨g3, 0, none⟩) ch.length cap3, sv3, by omega, by omega, by go_num, ?_⟩, by simp [intOf]; omega⟩
      rw [HLv.out]
      exact HI3.out.pop rfl
    · have hje : j = l.length := by omega
      subst hje
      go_wp2
      refine bodyPost_ret (results_none rfl _ _ _) rfl ?_
      exact ⟨rfl, _, _, hI⟩

theorem try_any (f : Nat) (w0 : World) (q : Nat) (A : Option Addr) (c : Nat) (l : List Item) (a b : Int) (hl : itemsB l = true) (h12 : l.length ≤ 12) (h : Items w0 A l) :
    ∀ (w : World) (next : Nat) (nx value : Int) (ch best : List Int) (most : Int) (v sv : Value), nx = next → l.length < next + f → next ≤ l.length → ch.length ≤ next → 0 ≤ value → value ≤ next * 1000000000 → Inv w0 w q A c l a b ch best most v sv →
      Calls Try.prog 25 (args25 w0 q nx value) w (TryPost w0 q A c l a b ch (tryF l a b f next value ch (best, most))) := by
  induction f with
  | zero =>
    intro w next nx value ch best most v sv hnx hn1 hn2
    omega
  | succ f ih =>
    intro w next nx value ch best most v sv hnx hn1 hn2 hch hv0 hv1 hI
    subst hnx
    cases hf : fitsOf l ch a b
    · exact try_no w0 w q A c l a b ch best most v sv hl h12 h next (f + 1) value (by omega) hI hf
    · by_cases hv : value ≤ most
      · exact try_loop f w0 w q A c l a b ch best most v sv hl h12 h ih next value (by omega) hn2 hch hv0 hv1 hI hf hv
      · exact try_loop2 f w0 w q A c l a b ch best most v sv hl h12 h ih next value (by omega) hn2 hch hv0 hv1 hI hf (by omega)
end Go.Proofs.Ytoedkdgaofkgaaa
