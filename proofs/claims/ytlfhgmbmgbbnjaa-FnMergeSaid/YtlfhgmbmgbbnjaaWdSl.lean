/-
  A slice of a list of words. Conditions: none.
-/
import Derived.Test.YtlfhgmbmgbbnjaaWds
import Derived.Test.YtlfhgmbmgbbnjaaSliceG
namespace Go.Proofs.Ytlfhgmbmgbbnjaa
open Go.ChangeShapes Go.WideShapes Go.ChangeAt Go.RowKit
set_option maxRecDepth 100000

theorem elemW : Try.prog.underlying 22 = some (.slice (Try.prog.elem 22)) := by kernel_rfl
theorem sizeW : ∀ w, (sizeOf (Try.prog.elem 22)).run Try.prog w = .ok 1 w := fun w => by kernel_rfl
theorem WdsIn.upto {w : World} {B n c k : Nat} {A : Option Addr} {ws : List (List UInt8)} (h : WdsIn w B A n c ws) (hk : k ≤ n) : WdsIn w B A k c (ws.take k) :=
  ⟨by rw [List.length_take, h.1]; omega, Nat.le_trans hk h.2.1, h.2.2.1, by have := h.2.2.2.take hk; rw [Nat.mul_one, ← List.map_take] at this; exact this⟩
theorem WdsIn.fromS {w : World} {B n c k : Nat} {A : Option Addr} {ws : List (List UInt8)} (h : WdsIn w B A n c ws) (hk : k ≤ n) : WdsIn w B (fromB A k c 1) (n - k) (c - k) (ws.drop k) :=
  ⟨by rw [List.length_drop, h.1], by have := h.2.1; omega, by have := h.2.2.1; omega, by have := h.2.2.2.fromS hk h.2.1; rw [Nat.mul_one, ← List.map_drop] at this; exact this⟩
end Go.Proofs.Ytlfhgmbmgbbnjaa
