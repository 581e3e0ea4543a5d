/-
  A text cut at its spaces: l3Cut; spaces counted. Conditions: the text is no longer than a law's texts.
-/
import Derived.Test.YtppjjbjjbmodbaaLine
import Derived.Test.YtppjjbjjbmodbaaWrFrom
namespace Go.Proofs.Ytppjjbjjbmodbaa
open Go.ChangeShapes Go.WideShapes Go.ChangeAt Go.RowKit
set_option maxRecDepth 100000
set_option linter.unusedSimpArgs false

/-- The pieces of a text between its spaces, behind a piece that has begun. -/
def cutP : List UInt8 → List UInt8 → List (List UInt8)
  | cur, [] => [cur]
  | cur, c :: r => if c = 32 then cur :: cutP [] r else cutP (cur ++ [c]) r
def cutS (l : List UInt8) : List (List UInt8) := cutP [] l
theorem cutP_len (cur l : List UInt8) : (cutP cur l).length ≤ l.length + 1 := by
  induction l generalizing cur with
  | nil => simp [cutP]
  | cons c r ih =>
    unfold cutP
    split
    · have := ih []; simp; omega
    · have := ih (cur ++ [c]); simp; omega
theorem cutP_bd (cur l : List UInt8) : ∀ p ∈ cutP cur l, p.length ≤ cur.length + l.length := by
  induction l generalizing cur with
  | nil => intro p hp; simp [cutP] at hp; subst hp; simp
  | cons c r ih =>
    intro p hp
    unfold cutP at hp
    split at hp
    · rcases List.mem_cons.1 hp with rfl | hp
      · simp
      · have := ih [] p hp; simp at this ⊢; omega
    · have := ih _ p hp; simp at this ⊢; omega
theorem cut_go {l : List UInt8} {k f : Nat} (hk : k < l.length) (hf : f ≤ k) (h : l[k] ≠ 32) : cutP ((l.take k).drop f) (l.drop k) = cutP ((l.take (k + 1)).drop f) (l.drop (k + 1)) := by
  rw [List.drop_eq_getElem_cons hk, cutP, if_neg h, List.take_succ_eq_append_getElem hk, List.drop_append_of_le_length (by rw [List.length_take]; omega)]
theorem cut_at {l : List UInt8} {k f : Nat} (hk : k < l.length) (h : l[k] = 32) : cutP ((l.take k).drop f) (l.drop k) = (l.take k).drop f :: cutP ((l.take (k + 1)).drop (k + 1)) (l.drop (k + 1)) := by
  have e : (l.take (k + 1)).drop (k + 1) = [] := List.drop_of_length_le (by rw [List.length_take]; omega)
  rw [List.drop_eq_getElem_cons hk, cutP, if_pos h, e]
theorem cut_end {l : List UInt8} {f : Nat} : cutP ((l.take l.length).drop f) (l.drop l.length) = [l.drop f] := by
  rw [List.drop_length, List.take_length, cutP]
def strP (p : List UInt8) : Value := .string (mkStr p)
theorem ext_mid (s : ByteArray) (f k : Nat) : s.extract f k = mkStr ((s.data.toList.take k).drop f) := by
  apply ByteArray.ext
  apply Array.toList_inj.1
  simp [mkStr, List.extract_eq_take_drop, List.drop_take]
theorem ext_end (s : ByteArray) (f : Nat) : s.extract f s.size = mkStr (s.data.toList.drop f) := by
  rw [ext_mid]
  congr 2
  exact List.take_of_length_le (by simp)

end Go.Proofs.Ytppjjbjjbmodbaa
