/- Contracts: Left (both). -/
import Derived.Test.YtogaepijfbgniaaW10
import Derived.Test.YtogaepijfbgniaaPlain8
namespace Go.Proofs.Ytogaepijfbgniaa
open Go.RowKit Go.Deep Go.Shelf
set_option linter.unusedVariables false
set_option maxHeartbeats 4000000 in
theorem Left_any (A C : Option Addr) (c d : Nat) (l : List Sec) (js : List Job) (t : Int) (hl : l.length ≤ 8) (hm : js.length ≤ 1000000) (hp : ∀ s ∈ l, 0 ≤ s.people ∧ s.people ≤ 1000) (w : World) (hS : Secs w A l) (hJ : Jobs w C js) :
    Calls Try.prog 8 #[.slice A l.length c, .slice C js.length d, .int .i64 t] w fun e w' => e = .returned (.int .i64 (leftOf l js t)) ∧ Below w.heap.size w w' := by
  have hB0 := Blk.new w #[.int .i64 t] 3
  have hbA := below_alloc w (.cells #[.int .i64 t] 3)
  have HB := Lib.hid (And.intro hB0 hbA)
  have h1 := hS.below hbA
  have hJ1 := hJ.below hbA
  have HCON := Lib.hid (fun n p q W (hW : Below w.heap.size w W) (hn : W.cell? ⟨p, 0, none⟩ = some (.int .i64 n)) (ht : W.cell? ⟨q, 0, none⟩ = some (.int .i64 t)) => ContainsJob_any C d js 18 (fun x => x.sec == n && decide (x.to_ ≤ t)) #[.pointer (some ⟨p, 0, none⟩), .pointer (some ⟨q, 0, none⟩)] W (by omega) (hJ.below hW) (enters_of Try.func18 (by kernel_rfl) rfl) (fun x W' hW' => Left1_any x n t p q W' (cell_later hW' hn) (cell_later hW' ht)))
  clear hB0 hbA hS hJ
  go_enter Try.func8, Try.ntmps8
  go_wp2_with fail
  generalize w.alloc (.cells #[.int .i64 t] 3) = w1 at *
  go_loopw [7, 12] (fun v i wr => ∃ k : Nat, k ≤ l.length ∧ i = .int .i64 k ∧ v = .int .i64 (leftOf (l.take k) js t) ∧ Below w1.heap.size w1 wr) (fun _ i _ => l.length - (intOf i).toNat)
  case atStart => exact ⟨0, Nat.zero_le _, rfl, rfl, Below.refl _ _⟩
  case round =>
    obtain ⟨k, hk, rfl, rfl, hb⟩ := hrel
    by_cases hlt : k < l.length
    · have hok := left_ok hp js t k hk
      have hpx := hp _ (List.getElem_mem hlt)
      have hsu := left_succ hlt js t
      obtain ⟨b, off, rfl, hc⟩ := (h1.below hb) (by omega)
      obtain ⟨g0, g1, g2⟩ := hc k hlt
      have t0 := cell_later hb (HB.out.1.cell 0 (v := .int .i64 t) rfl)
      clear hc h1
      have hla : leftAt js t l[k] = if doneB js t l[k] then 0 else l[k].people := rfl
      have hdb : doneB js t l[k] = js.any fun x => x.sec == l[k].id && decide (x.to_ ≤ t) := rfl
      rw [hla, hdb] at hsu
      have Hsu := Lib.hid hsu
      clear hsu hla hdb
      generalize l[k] = x at *
      generalize leftOf (l.take k) js t = n at *
      go_upto_region 5 with (fail)
      have hO := Blk.new wr #[.int .i64 x.id, .int .i64 x.people, .int .i64 x.seconds] 33
      have hka := below_alloc wr (.cells #[.int .i64 x.id, .int .i64 x.people, .int .i64 x.seconds] 33)
      have hbo := hb.alloc hb.size (.cells #[.int .i64 x.id, .int .i64 x.people, .int .i64 x.seconds] 33)
      replace t0 := cell_later hka t0
      clear g0 g1 g2 hb hka
      generalize wr.alloc (.cells #[.int .i64 x.id, .int .i64 x.people, .int .i64 x.seconds] 33) = wo at *
      have hq := Lib.hid (HCON.out x.id wr.heap.size w.heap.size wo (HB.out.2.trans (hbo.mono HB.out.2.size)) (hO.cell 0 (v := .int .i64 x.id) rfl) t0)
      generalize (js.any fun y => y.sec == x.id && decide (y.to_ ≤ t)) = dn at *
      go_wp2_with fail
      refine hq.out.mono ?_
      rintro e w3 ⟨rfl, hb3⟩
      replace hO := hO.below hb3
      replace hbo := hbo.trans (hb3.mono hbo.size)
      have o1 := hO.cell 1 (v := .int .i64 x.people) rfl
      clear hq hb3 t0 hO HCON
      cases dn
      · have hsu := Hsu.out
        simp only [Bool.false_eq_true, if_false] at hsu
        have Hsu2 := Lib.hid hsu
        clear hsu Hsu
        have hadw : IntKind.i64.wrap (n + x.people) = n + x.people := IntWalk.i64_in _ (by omega)
        go_wp2
        go_roundw
        case rel => exact ⟨k + 1, by omega, by go_num, by rw [Hsu2.out], hbo⟩
        case measure => simp [intOf]; omega
      · have hsu := Hsu.out
        simp only [if_true] at hsu
        have Hsu2 := Lib.hid hsu
        clear hsu Hsu
        go_wp2
        go_roundw
        case rel => exact ⟨k + 1, by omega, by go_num, by rw [Hsu2.out, Int.add_zero], hbo⟩
        case measure => simp [intOf]; omega
    · have hke : k = l.length := by omega
      subst hke
      rw [List.take_length]
      have hbz := HB.out.2.trans (hb.mono HB.out.2.size)
      clear HB HCON hb
      go_wp2
      go_ret
      exact ⟨rfl, hbz⟩
theorem Secs.at {w : World} {A : Option Addr} {l : List Sec} (h : Secs w A l) {k : Nat} (hk : k < l.length) : ∃ b off, A = some ⟨b, off, none⟩ ∧ w.cell? ⟨b, off + k * 3, none⟩ = some (.int .i64 (l[k]).id) ∧ w.cell? ⟨b, off + k * 3 + 1, none⟩ = some (.int .i64 (l[k]).people) ∧ w.cell? ⟨b, off + k * 3 + 2, none⟩ = some (.int .i64 (l[k]).seconds) := by
  obtain ⟨b, off, rfl, hc⟩ := h (by omega)
  exact ⟨b, off, rfl, hc k hk⟩
end Go.Proofs.Ytogaepijfbgniaa
