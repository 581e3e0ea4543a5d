/-
  The pure law of written forms: a mark and an outline's text. Conditions: none.
-/
import Derived.Test.YtppjjbjjbmodbaaWritten
namespace Go.Proofs.Ytppjjbjjbmodbaa
open Go.ChangeShapes Go.WideShapes Go.ChangeAt Go.RowKit
set_option maxRecDepth 100000

def markN (c : UInt8) : Int := if c = 94 then 0 else if c = 45 then 1 else if c = 95 then 2 else -1
def wrFrom : List UInt8 → Option (List Stroke × Int)
  | [] => none
  | c :: r => if 0 ≤ markN c then (fromS r).map (fun o => (o, markN c)) else none
theorem markN_L {p : Int} (h0 : 0 ≤ p) (h2 : p ≤ 2) : markN (markL p) = p := by
  have h : p = 0 ∨ p = 1 ∨ p = 2 := by omega
  rcases h with rfl | rfl | rfl <;> decide
theorem markL_N {c : UInt8} (h : 0 ≤ markN c) : markL (markN c) = c ∧ markN c ≤ 2 := by
  unfold markN at *
  by_cases h1 : c = 94
  · subst h1; decide
  · by_cases h2 : c = 45
    · subst h2; decide
    · by_cases h3 : c = 95
      · subst h3; decide
      · rw [if_neg h1, if_neg h2, if_neg h3] at h; omega
theorem wr_text {ss : List Stroke} {p : Int} (h : wrB ss p = true) : wrFrom (wrText ss p) = some (ss, p) := by
  obtain ⟨h1, h2, h3⟩ := wrB_iff.1 h
  rw [wrText_yes h]
  simp only [wrFrom]
  rw [markN_L h2 h3, if_pos h2, outText_yes h1, from_text h1]
  rfl
theorem wr_from {l : List UInt8} {ss : List Stroke} {p : Int} (h : wrFrom l = some (ss, p)) : wrB ss p = true ∧ wrText ss p = l := by
  cases l with
  | nil => cases h
  | cons c r =>
    simp only [wrFrom] at h
    by_cases hm : 0 ≤ markN c
    · rw [if_pos hm] at h
      cases hf : fromS r with
      | none => rw [hf] at h; cases h
      | some o =>
        rw [hf] at h
        injection h with h
        injection h with e1 e2
        subst e1 e2
        obtain ⟨ho, ht⟩ := text_from hf
        obtain ⟨m1, m2⟩ := markL_N hm
        have hw : wrB o (markN c) = true := wrB_iff.2 ⟨ho, hm, m2⟩
        exact ⟨hw, by rw [wrText_yes hw, outText_yes ho, ht, m1]⟩
    · rw [if_neg hm] at h; cases h
end Go.Proofs.Ytppjjbjjbmodbaa
