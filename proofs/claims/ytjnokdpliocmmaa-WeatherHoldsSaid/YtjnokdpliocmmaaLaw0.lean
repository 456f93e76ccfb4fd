/- What the laws of the seat share: the set-up's closed facts. -/
import Derived.Test.YtjnokdpliocmmaaRows
import Derived.Test.YtjnokdpliocmmaaFrame
import Derived.Test.YtjnokdpliocmmaaW10
namespace Go.Proofs.Ytjnokdpliocmmaa
open Go.RowKit Go.ChangeShapes Go.WideShapes Go.ChangeAt
set_option linter.unusedVariables false
theorem own : ownKnob Try.prog.godebug = none := by kernel_rfl
theorem laidOut : laidOutB Try.prog = true := by kernel_rfl
theorem bytes30 : Try.prog.bytesOf 30 = 48 := by kernel_rfl
theorem bytes45 : Try.prog.bytesOf 45 = 16 := by kernel_rfl
theorem len_ok {n : Nat} (h : n * Try.prog.bytesOf 30 ≤ reachBytes) : n ≤ 4000000000000 := by
  rw [bytes30] at h
  have : reachBytes < 140737488355328 := by simpa using reachBytes_lt
  omega
theorem len_ok2 {n : Nat} (h : n * Try.prog.bytesOf 45 ≤ reachBytes) : n ≤ 9000000000000 := by
  rw [bytes45] at h
  have : reachBytes < 140737488355328 := by simpa using reachBytes_lt
  omega
/-- an alarm that came in by value -/
theorem open_alarm {H : Type} {enc : TypeId × Value → H} {w : World} {base : Nat} {spare : Nat → Bool} {held : Bool} {r : Reach} {b0 : Nat} {v : Value} {d : DataW H} {p : List MemPlace} (hv : Value.okWide Try.prog w r b0 39 v) (h : DataW.Trod enc Try.prog w base spare held 39 v d p) :
    ∃ x : Alarm, v = x.val ∧ I64 x.on ∧ I64 x.off ∧ I64 x.hold ∧ I64 x.low := by
  obtain ⟨cs, rfl, hsz⟩ := okWide_struct Try.underlying39 hv
  obtain ⟨l⟩ := cs
  have hsz' : l.length = 5 := hsz
  obtain ⟨fuel, hf⟩ := h
  obtain ⟨xs, n, _, hx, _, hlen, hg⟩ := DataW.trod_struct Try.underlying39 hf
  match l, hsz' with
  | [c0, c1, c2, c3, c4], _ =>
    have hlen5 : xs.length = 5 := hlen
    match xs, hlen5 with
    | [y0, y1, y2, y3, y4], _ =>
      have g0 := hg 0 _ rfl
      have g1 := hg 1 _ rfl
      have g2 := hg 2 _ rfl
      have g3 := hg 3 _ rfl
      have g4 := hg 4 _ rfl
      have e3 : Try.prog.cellsOf 3 = 1 := by kernel_rfl
      have e4 : Try.prog.cellsOf 4 = 1 := by kernel_rfl
      simp [e3, e4, Value.cells] at g0 g1 g2 g3 g4
      obtain ⟨x0, q0, _, w0⟩ := DataW.trod_int Try.underlying3 g0
      obtain ⟨x1, q1, _, w1⟩ := DataW.trod_int Try.underlying3 g1
      obtain ⟨x2, q2, _, w2⟩ := DataW.trod_int Try.underlying3 g2
      obtain ⟨x4, q4, _, w4⟩ := DataW.trod_int Try.underlying3 g4
      obtain ⟨x3, q3, _⟩ := DataW.trod_bool Try.underlying4 g3
      simp only [List.cons.injEq, and_true] at q0 q1 q2 q3 q4
      subst q0 q1 q2 q3 q4
      exact ⟨⟨x0, x1, x2, x3, x4⟩, rfl, i64_of_wf w0, i64_of_wf w1, i64_of_wf w2, i64_of_wf w4⟩
end Go.Proofs.Ytjnokdpliocmmaa
