/- The map of the observations seen, keyed by station and time: look-ups and stores. -/
import Derived.Test.YtjnokdpliocmmaaTypes
import Derived.Maps.OwnOps
import Derived.Maps.OwnSet
import Derived.Maps.Views
import Derived.DeepKeys4
namespace Go.Proofs.Ytjnokdpliocmmaa
open Go.RowKit Go.Maps
set_option linter.unusedVariables false
theorem placeWide : (match Try.prog.underlying 56 with | some (.array _ _) | some (.struct _) => true | _ => false) = true := by kernel_rfl
theorem placeRow : (56 : TypeId) < Try.prog.types.size := of_decide_eq_true (by kernel_rfl)
theorem placeK : Keyed Try.prog 56 := Keyed.of_law (deep_law_laid (by kernel_rfl) (m := 2) (by omega) placeRow (by kernel_rfl) placeWide)
def place (s a : Int) : Value := .agg #[.int .i64 s, .int .i64 a]
theorem wf64 {x : Int} (h : I64 x) : (Lit.int .i64 x).wf = true := by
  unfold I64 at h
  simp [Lit.wf, IntKind.min, IntKind.max, IntKind.signed, IntKind.bits]
  exact h
theorem placeSize : Try.prog.types.size = 81 := by kernel_rfl
theorem placeCells : Try.prog.cellsOf 56 = 2 := by kernel_rfl
theorem intCells : Try.prog.cellsOf 3 = 1 := by kernel_rfl
theorem placeType : Try.prog.keyType 56 = true := by kernel_rfl
theorem keyLits_int (d : Nat) {x : Int} (h : I64 x) : Try.prog.keyLits (d + 1) 3 [.int .i64 x] = some [.int .i64 x] := by
  unfold Program.keyLits
  simp [Try.underlying3, wf64 h]
theorem keyLits_place (d : Nat) {s a : Int} (hs : I64 s) (ha : I64 a) : Try.prog.keyLits (d + 1 + 1) 56 [.int .i64 s, .int .i64 a] = some [.int .i64 s, .int .i64 a] := by
  have h1 := keyLits_int d hs
  have h2 := keyLits_int d ha
  generalize hd : d + 1 = e at *
  unfold Program.keyLits
  simp [Try.underlying56, placeCells, intCells, h1, h2]
theorem place_key {s a : Int} (hs : I64 s) (ha : I64 a) : ∃ kl, keyOf Try.prog 56 (place s a) = some kl := by
  refine ⟨.string (keyBytes [.int .i64 s, .int .i64 a]), ?_⟩
  have h := keyLits_place (Try.prog.types.size - 1) hs ha
  have h0 := placeSize
  rw [show Try.prog.types.size - 1 + 1 + 1 = Try.prog.types.size + 1 by omega] at h
  unfold keyOf place
  simp only [Try.underlying56, placeType, Value.formed, placeCells, Value.cells]
  rw [h]
  rfl
theorem keyLit {kl : Lit} {v : Value} (h : keyOf Try.prog 56 v = some kl) : WideAt.IsKeyLit kl := placeK.key h
theorem place_inj {s a s' a' : Int} (h : place s a = place s' a') : s = s' ∧ a = a' := by
  unfold place at h
  simpa using h
/-- the map D holds just the places of these observations -/
structure Seen (D : DataW Unit) (pre : List Obs) : Prop where
  map : IsMap D
  at' : ∀ s a kl, keyOf Try.prog 56 (place s a) = some kl → D.atKey kl (.lit (.bool false)) = .lit (.bool (pre.any fun y => decide (y.station = s ∧ y.at_ = a)))
theorem seen_nil : Seen (.map []) [] := ⟨isMap_empty, fun s a kl h => rfl⟩
theorem seen_put {D : DataW Unit} {pre : List Obs} (h : Seen D pre) (x : Obs) {kl : Lit} (hk : keyOf Try.prog 56 (place x.station x.at_) = some kl) : Seen (D.put kl (.lit (.bool true))) (pre ++ [x]) := by
  refine ⟨h.map.put _ _, fun s a k2 h2 => ?_⟩
  rw [List.any_append]
  by_cases he : k2 = kl
  · subst he
    obtain ⟨rfl, rfl⟩ := place_inj (placeK.inj hk h2)
    rw [atKey_put_same h.map (keyLit hk)]
    simp
  · rw [atKey_put_other he, h.at' s a k2 h2]
    have : ¬ (x.station = s ∧ x.at_ = a) := by
      rintro ⟨rfl, rfl⟩
      rw [hk] at h2
      injection h2 with h2
      exact he h2.symm
    simp [this]
theorem zero4 (w : World) : (zeroValue 4).run Try.prog w = .ok (.bool false) w := by kernel_rfl
theorem seen_look {D : DataW Unit} {pre : List Obs} {w : World} {b n : Nat} (hD : Seen D pre) (h : w.ownsMap Try.prog 56 (plainElem Try.prog 4) b n D) {s a : Int} (hs : I64 s) (ha : I64 a) :
    (Instr.lookup 53 (.map (some b)) (.agg #[.int .i64 s, .int .i64 a]) false).run Try.prog w = .ok (.bool (pre.any fun y => decide (y.station = s ∧ y.at_ = a))) w := by
  obtain ⟨kl, hk⟩ := place_key hs ha
  obtain ⟨v, ps, hrun, hv⟩ := h.lookup placeK Try.underlying53 (zero4 w) (plainElem_bool Try.underlying4 false) hk
  rw [hD.at' s a kl hk] at hv
  unfold place at hrun
  have hv2 : v = .bool (pre.any fun y => decide (y.station = s ∧ y.at_ = a)) := by
    unfold plainElem at hv
    rw [Try.underlying4] at hv
    cases v <;> simp at hv
    rw [hv.1]
    simp
  rw [hrun, hv2]
theorem seen_twice {D : DataW Unit} {pre : List Obs} {w : World} {b n : Nat} (hD : Seen D pre) (h : w.ownsMap Try.prog 56 (plainElem Try.prog 4) b n D) (x : Obs) (hs : I64 x.station) (ha : I64 x.at_) :
    (Instr.lookup 53 (.map (some b)) (.agg #[.int .i64 x.station, .int .i64 x.at_]) false).run Try.prog w = .ok (.bool (twice pre x)) w := seen_look hD h hs ha
theorem seen_store {D : DataW Unit} {pre : List Obs} {w : World} {b n : Nat} (hD : Seen D pre) (h : w.ownsMap Try.prog 56 (plainElem Try.prog 4) b n D) (hn : n < 1000000) (x : Obs) (hs : I64 x.station) (ha : I64 x.at_) :
    ∃ w' D', (Instr.mapUpdate 53 (.map (some b)) (.agg #[.int .i64 x.station, .int .i64 x.at_]) (.bool true)).run Try.prog w = .ok () w' ∧ Seen D' (pre ++ [x]) ∧ w'.ownsMap Try.prog 56 (plainElem Try.prog 4) b (n + 1) D' ∧ w.grownBy w' (some b) := by
  obtain ⟨kl, hk⟩ := place_key hs ha
  obtain ⟨w', hrun, h1, h2⟩ := h.update placeK Try.underlying53 (by unfold maxLen; omega) hk (plainElem_bool Try.underlying4 true)
  exact ⟨w', _, hrun, seen_put hD x hk, h1, h2⟩
end Go.Proofs.Ytjnokdpliocmmaa
