/- Contracts of package assign: Right, Clone. -/
import Derived.Test.YtogaepijfbgniaaR1
import Derived.Deep.RegionHeld3
namespace Go.Proofs.Ytogaepijfbgniaa
open Go.RowKit Go.Shelf Go.Deep
set_option linter.unusedVariables false
/-- a slice of slices of ints -/
def Mat (w : World) (A : Option Addr) (M : List (List Int)) : Prop :=
  0 < M.length → ∃ b off, A = some ⟨b, off, none⟩ ∧ ∀ i (h : i < M.length), ∃ B c, w.cell? ⟨b, off + i, none⟩ = some (.slice B (M[i]).length c) ∧ Ints w B M[i]
theorem Mat.below {w w' : World} {A : Option Addr} {M : List (List Int)} (h : Mat w A M) (hb : Below w.heap.size w w') : Mat w' A M := fun hn => by
  obtain ⟨b, off, rfl, hc⟩ := h hn
  exact ⟨b, off, rfl, fun i hi => by obtain ⟨B, c, h1, h2⟩ := hc i hi; exact ⟨B, c, cell_later hb h1, h2.below hb⟩⟩
theorem Mat.at {w : World} {A : Option Addr} {M : List (List Int)} (h : Mat w A M) {k : Nat} (hk : k < M.length) : ∃ b off B c, A = some ⟨b, off, none⟩ ∧ w.cell? ⟨b, off + k, none⟩ = some (.slice B (M[k]).length c) ∧ Ints w B M[k] := by
  obtain ⟨b, off, rfl, hc⟩ := h (by omega)
  obtain ⟨B, c, h1, h2⟩ := hc k hk
  exact ⟨b, off, B, c, rfl, h1, h2⟩
/-- right costs -/
def OkMat (M : List (List Int)) : Prop := M.length ≤ 8 ∧ (∀ r ∈ M, r.length = M.length ∧ ∀ x ∈ r, 0 ≤ x ∧ x ≤ 1000000)
set_option maxHeartbeats 4000000 in
set_option maxRecDepth 100000 in
theorem aRight_any (A : Option Addr) (c : Nat) (M : List (List Int)) (hM : OkMat M) (w : World) (h : Mat w A M) :
    Calls Try.prog 22 #[.slice A M.length c] w fun e w' => e = .returned (.int .i64 0) ∧ w' = w := by
  obtain ⟨h8, hr⟩ := hM
  have HR := Lib.hid hr
  have H := Lib.hid h
  clear hr h
  go_enter Try.func22, Try.ntmps22
  go_wp2_with fail
  go_loopw [16] (fun i wr => ∃ k : Nat, k ≤ M.length ∧ i = .int .i64 k ∧ w = wr) (fun i _ => M.length - (intOf i).toNat)
  case atStart => exact ⟨0, Nat.zero_le _, rfl, rfl⟩
  case round =>
    obtain ⟨k, hk, rfl, rfl⟩ := hrel
    by_cases hlt : k < M.length
    · obtain ⟨b, off, B, d, rfl, h1, _⟩ := H.out.at hlt
      rw [(HR.out _ (List.getElem_mem hlt)).1] at h1
      go_wp2
      go_roundw
      case rel => exact ⟨k + 1, by omega, by go_num, trivial⟩
      case measure => simp [intOf]; omega
    · have hke : k = M.length := by omega
      subst hke
      go_wp2_with fail
      go_loopw [26] (fun i wr => ∃ k : Nat, k ≤ M.length ∧ i = .int .i64 k ∧ w = wr) (fun i _ => M.length - (intOf i).toNat)
      case atStart => exact ⟨0, Nat.zero_le _, rfl, rfl⟩
      case round =>
        obtain ⟨k, hk, rfl, rfl⟩ := hrel
        by_cases hlt : k < M.length
        · obtain ⟨b, off, B, d, rfl, h1, _⟩ := H.out.at hlt
          obtain ⟨b', off', B0, d0, e, h0, _⟩ := H.out.at (show 0 < M.length by omega)
          injection e with e
          injection e with e1 e2
          subst e1 e2
          rw [(HR.out _ (List.getElem_mem hlt)).1] at h1
          rw [(HR.out _ (List.getElem_mem _)).1, Nat.add_zero] at h0
          have hpos : (0 : Int) < (M.length : Int) := by omega
          go_wp2
          go_roundw
          case rel => exact ⟨k + 1, by omega, by go_num, trivial⟩
          case measure => simp [intOf]; omega
        · have hke : k = M.length := by omega
          subst hke
          go_wp2_with fail
          go_loopw [47] (fun i wr => ∃ k : Nat, k ≤ M.length ∧ i = .int .i64 k ∧ w = wr) (fun i _ => M.length - (intOf i).toNat)
          case atStart => exact ⟨0, Nat.zero_le _, rfl, rfl⟩
          case round =>
            obtain ⟨k, hk, rfl, rfl⟩ := hrel
            by_cases hlt : k < M.length
            · obtain ⟨b, off, B, d, rfl, h1, h2⟩ := H.out.at hlt
              have hrow := HR.out _ (List.getElem_mem hlt)
              generalize M[k] = row at *
              have hr8 : row.length ≤ 8 := by rw [hrow.1]; exact h8
              have HROW := Lib.hid hrow.2
              have HI := Lib.hid h2
              clear hrow h2
              go_wp2_with fail
              go_loopw [53] (fun i wr => ∃ q : Nat, q ≤ row.length ∧ i = .int .i64 q ∧ w = wr) (fun i _ => row.length - (intOf i).toNat)
              case atStart => exact ⟨0, Nat.zero_le _, rfl, rfl⟩
              case round =>
                obtain ⟨q, hq, rfl, rfl⟩ := hrel
                by_cases hlq : q < row.length
                · obtain ⟨bb, oo, rfl, hc⟩ := HI.out (by omega)
                  have hx := hc q hlq
                  have hxr := HROW.out _ (List.getElem_mem hlq)
                  obtain ⟨x, hxe⟩ : ∃ x, x = row[q] := ⟨_, rfl⟩
                  rw [← hxe] at hx hxr
                  clear hxe hc
                  have hx1 := hxr.1
                  have hx2 := hxr.2
                  clear hxr
                  go_wp2
                  go_roundw
                  case rel => exact ⟨q + 1, by omega, by go_num, trivial⟩
                  case measure => simp [intOf]; omega
                · have hqe : q = row.length := by omega
                  subst hqe
                  go_wp2
                  go_roundw
                  case rel => exact ⟨k + 1, by omega, by go_num, trivial⟩
                  case measure => simp [intOf]; omega
            · have hke : k = M.length := by omega
              subst hke
              go_wp2
              go_ret
              exact ⟨rfl, rfl⟩
end Go.Proofs.Ytogaepijfbgniaa
