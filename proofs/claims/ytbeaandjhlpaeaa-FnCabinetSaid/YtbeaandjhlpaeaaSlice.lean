/-
  A slice from a place on, its address under one name. Conditions: none.
-/
import Derived.Test.YtbeaandjhlpaeaaRowAns
namespace Go.Proofs.Ytbeaandjhlpaeaa
open Go.ChangeShapes Go.WideShapes Go.ChangeAt Go.RowKit
set_option maxRecDepth 100000

/-- The address of a[k:]. -/
def fromA (a : Option Addr) (k c sz : Nat) : Option Addr := if c = k then a else a.map (·.add (k * sz))
theorem run_from {P : Program} {t : TypeId} {sz : Nat} (ht : P.underlying t = some (.slice (P.elem t))) (hs : ∀ w, (sizeOf (P.elem t)).run P w = .ok sz w) (a : Option Addr) (n c k : Nat) (hk : k ≤ n) (w : World) :
    (Instr.slice t (.slice a n c) (some (.int .i64 (k : Int))) none none).run P w = .ok (.slice (fromA a k c sz) (n - k) (c - k)) w := by
  rw [run_slice_l w t a n c ht .i64 (k : Int) (by omega) (by omega), hs]
  simp [Result.andThen, sliced, fromA]
theorem run_upto {P : Program} {t : TypeId} {sz : Nat} (ht : P.underlying t = some (.slice (P.elem t))) (hs : ∀ w, (sizeOf (P.elem t)).run P w = .ok sz w) (b off n c k : Nat) (hk : k ≤ c) (w : World) :
    (Instr.slice t (.slice (some ⟨b, off, none⟩) n c) none (some (.int .i64 (k : Int))) none).run P w = .ok (.slice (some ⟨b, off, none⟩) k c) w := by
  rw [run_slice_h w t (some ⟨b, off, none⟩) n c ht .i64 (k : Int) (by omega) (by omega), hs]
  simp [Result.andThen, sliced, Addr.add]
theorem Row.from_ {w : World} {B n sz k c : Nat} {A : Option Addr} {xs : List Value} (h : Row w B A n sz xs) (hk : k ≤ n) (hc : n ≤ c) : Row w B (fromA A k c sz) (n - k) sz (xs.drop (k * sz)) := by
  unfold fromA
  by_cases e : c = k
  · rw [if_pos e]
    have h0 : n - k = 0 := by omega
    have h1 : xs.drop (k * sz) = [] := List.drop_of_length_le (by rw [h.1]; exact Nat.mul_le_mul_right _ (by omega))
    rw [h0, h1]; exact Row.empty
  · rw [if_neg e]
    rcases Nat.eq_zero_or_pos n with hn | hn
    · have h0 : n - k = 0 := by omega
      have h1 : xs.drop (k * sz) = [] := List.drop_of_length_le (by rw [h.1, hn]; simp)
      rw [h0, h1]; exact Row.empty
    · obtain ⟨b, off, eA, _⟩ := h.2 hn
      subst eA
      rw [show Option.map (fun x : Addr => x.add (k * sz)) (some (⟨b, off, none⟩ : Addr)) = some ⟨b, off + k * sz, none⟩ from by
        by_cases hz : k * sz = 0
        · simp [Addr.add, hz]
        · simp [Addr.add, hz]]
      exact h.drop hk
theorem PadsIn.from_ {w : World} {B n c k : Nat} {A : Option Addr} {ps : List Pad} (h : PadsIn w B A n c ps) (hk : k ≤ n) : PadsIn w B (fromA A k c 2) (n - k) (c - k) (ps.drop k) :=
  ⟨by rw [List.length_drop, h.1], by have := h.2.1; omega, by have := h.2.2.1; omega, by rw [← flat_drop padC_len]; exact h.2.2.2.1.from_ hk h.2.1, fun p hp => h.2.2.2.2 p (List.mem_of_mem_drop hp)⟩
theorem PadsIn.upto {w : World} {B n c k : Nat} {A : Option Addr} {ps : List Pad} (h : PadsIn w B A n c ps) (hk : k ≤ n) : PadsIn w B A k c (ps.take k) :=
  ⟨by rw [List.length_take, h.1]; omega, by have := h.2.1; omega, h.2.2.1, by rw [← flat_take padC_len]; exact h.2.2.2.1.take hk, fun p hp => h.2.2.2.2 p (List.mem_of_mem_take hp)⟩
theorem DrawersIn.from_ {w : World} {B n c k : Nat} {A : Option Addr} {ds : List Drawer} (h : DrawersIn w B A n c ds) (hk : k ≤ n) : DrawersIn w B (fromA A k c 1) (n - k) (c - k) (ds.drop k) :=
  ⟨by rw [List.length_drop, h.1], by have := h.2.1; omega, by have := h.2.2.1; omega, by rw [← flat_drop drawerC_len]; exact h.2.2.2.1.from_ hk h.2.1, fun p hp => h.2.2.2.2 p (List.mem_of_mem_drop hp)⟩
theorem DrawersIn.upto {w : World} {B n c k : Nat} {A : Option Addr} {ds : List Drawer} (h : DrawersIn w B A n c ds) (hk : k ≤ n) : DrawersIn w B A k c (ds.take k) :=
  ⟨by rw [List.length_take, h.1]; omega, by have := h.2.1; omega, h.2.2.1, by rw [← flat_take drawerC_len]; exact h.2.2.2.1.take hk, fun p hp => h.2.2.2.2 p (List.mem_of_mem_take hp)⟩
theorem elemPads : Try.prog.underlying 49 = some (.slice (Try.prog.elem 49)) := by kernel_rfl
theorem elemCab : Try.prog.underlying 39 = some (.slice (Try.prog.elem 39)) := by kernel_rfl
theorem sizePad : ∀ w, (sizeOf (Try.prog.elem 49)).run Try.prog w = .ok 2 w := fun w => by kernel_rfl
theorem sizeSl : ∀ w, (sizeOf (Try.prog.elem 39)).run Try.prog w = .ok 1 w := fun w => by kernel_rfl
end Go.Proofs.Ytbeaandjhlpaeaa
