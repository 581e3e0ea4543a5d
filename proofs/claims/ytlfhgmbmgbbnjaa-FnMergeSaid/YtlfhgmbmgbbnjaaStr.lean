/-
  Strings by their bytes. Conditions: none.
-/
import Derived.WalkKit
import Derived.Laws.Concat
namespace Go.Proofs.Ytlfhgmbmgbbnjaa
open Go.RowKit

/-- The string of a list of bytes. -/
def mkStr (l : List UInt8) : ByteArray := ⟨l.toArray⟩
theorem mkStr_data (l : List UInt8) : (mkStr l).data.toList = l := rfl
theorem mkStr_size (l : List UInt8) : (mkStr l).size = l.length := rfl
theorem mkStr_self (s : ByteArray) : mkStr s.data.toList = s := by cases s; rfl
theorem mkStr_append (a b : List UInt8) : mkStr a ++ mkStr b = mkStr (a ++ b) := by
  apply ByteArray.ext
  apply Array.toList_inj.1
  simp [mkStr]
theorem mkStr_inj {a b : List UInt8} (h : mkStr a = mkStr b) : a = b := by rw [← mkStr_data a, h, mkStr_data]
theorem mkStr_get (l : List UInt8) (i : Nat) (h : i < (mkStr l).size) : (mkStr l)[i] = l[i]'h := rfl
theorem run_add {P : Program} (a b : List UInt8) (h : a.length + b.length ≤ 9223372036854775807) (w : World) : (Op.stringOp .add (mkStr a) (mkStr b)).run P w = .ok (.string (mkStr (a ++ b))) w := by
  rw [run_string_add_sum w (mkStr a) (mkStr b) (by rw [mkStr_size, mkStr_size]; exact h), mkStr_append]
end Go.Proofs.Ytlfhgmbmgbbnjaa
