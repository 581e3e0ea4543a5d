/-
  slices.DeleteFunc at leaf pointers, with keep's second closure: the leaves without pads go. Conditions: no more leaves than a law lets by.
-/
import Derived.Test.YtbeaandjhlpaeaaDelPads
import Derived.Test.YtbeaandjhlpaeaaTreePads
namespace Go.Proofs.Ytbeaandjhlpaeaa
open Go.ChangeShapes Go.WideShapes Go.ChangeAt Go.RowKit Go.Shelf
set_option maxRecDepth 100000

def noPads (l : Leaf) : Bool := l.ps.length == 0
def ptrC (l : Leaf) : List Value := [l.ptr]
theorem ptrC_len (l : Leaf) : (ptrC l).length = 1 := rfl
theorem ptrC_map (ls : List Leaf) : ls.map Leaf.ptr = ls.flatMap ptrC := by
  induction ls with
  | nil => rfl
  | cons l r ih => simp [ih, ptrC]

/-- A leaf as the closure reads it. -/
def LeafRd (w : World) (l : Leaf) : Prop := ∃ A c, Blk w l.g 100 #[.slice A l.ps.length c]
theorem emptyLeaf (l : Leaf) (w : World) (h : LeafRd w l) : Calls Try.prog 80 #[l.ptr] w fun e w' => e = .returned (.bool (noPads l)) ∧ Below w.heap.size w w' := by
  obtain ⟨A, c, hB⟩ := h
  have c0 := hB.cell 0
  unfold Leaf.ptr
  have HN : Hid (noPads l = (((l.ps.length : Nat) : Int) == 0)) := Lib.hid (by
    unfold noPads; rw [Bool.eq_iff_iff, beq_iff_eq, beq_iff_eq]; omega)
  generalize l.ps.length = n at *
  go_enter Try.func80, Try.ntmps80
  go_wp2
  go_ret
  exact ⟨ret_bool HN.out.symm, Below.refl _ _⟩

theorem idxFuncLeaf (A : Option Addr) (n c : Nat) (ls : List Leaf) (w : World) (hn : ls.length = n) (hcm : n ≤ 1048576) (hl : ∀ l ∈ ls, LeafRd w l) (h : Row w w.heap.size A n 1 (ls.flatMap ptrC)) :
    Calls Try.prog 86 #[.slice A n c, .func (.func 80) #[] #[]] w fun e w' => ∃ r, e = .returned (.int .i64 r) ∧ IdxAns noPads n (leafAt ls) r ∧ Below w.heap.size w w' := by
  have eg : ∀ args w, (callFunc 80 args).run Try.prog w = .ok (.enter 80 args) w := enters_of Try.func80 (by kernel_rfl) rfl
  have H := Lib.hid h; clear h
  have HP := Lib.hid hl; clear hl
  have HN := Lib.hid hn; clear hn
  go_enter Try.func86, Try.ntmps86
  go_wp2
  go_loopw [5, 8] (fun _ i wr => ∃ (k : Nat), k ≤ n ∧ i = .int .i64 k ∧ Hid (∀ j, j < k → noPads (leafAt ls j) = false) ∧ Below w.heap.size w wr) (fun _ i _ => n - (intOf i).toNat)
  case atStart => exact ⟨0, Nat.zero_le _, rfl, Lib.hid (fun j hj => absurd hj (by omega)), Below.refl _ _⟩
  case round =>
    obtain ⟨k, hk, rfl, hF, hb⟩ := hrel
    by_cases hlt : k < n
    · obtain ⟨b, off, eA, hbB, hcs⟩ := (H.out.below hb).2 (by omega)
      have hkl : k < ls.length := by rw [HN.out]; exact hlt
      have c0 := hcs (k * 1 + 0) _ (flat_at ptrC_len ls k _ 0 _ (leafAt_some hkl) rfl)
      rw [show off + (k * 1 + 0) = off + k by omega] at c0
      have hcall := emptyLeaf (leafAt ls k) wr (by
        obtain ⟨A, c, hB⟩ := HP.out _ (leafAt_mem hkl)
        exact ⟨A, c, hB.below hb⟩)
      unfold Leaf.ptr at hcall c0
      subst eA
      clear hcs hkl
      cases hq : noPads (leafAt ls k) with
      | true =>
        rw [hq] at hcall
        have HA : Hid (IdxAns noPads n (leafAt ls) k) := Lib.hid (.inr ⟨k, rfl, hlt, hq, hF.out⟩)
        have HC := Lib.hid hcall; clear hcall hq
        generalize leafAt ls k = x at *
        go_wp2_with (go_at_fn 80; refine HC.out.mono ?_; rintro e w1 ⟨rfl, hb1⟩)
        have b1 := hb.trans (hb1.mono hb.size)
        go_ret
        exact ⟨_, rfl, HA.out, b1⟩
      | false =>
        rw [hq] at hcall
        have HF : Hid (∀ j, j < k + 1 → noPads (leafAt ls j) = false) := Lib.hid (fun j hj => by
          by_cases hjk : j < k
          · exact hF.out j hjk
          · obtain rfl : j = k := by omega
            exact hq)
        have HC := Lib.hid hcall; clear hcall hq
        generalize leafAt ls k = x at *
        go_wp2_with (go_at_fn 80; refine HC.out.mono ?_; rintro e w1 ⟨rfl, hb1⟩)
        have b1 := hb.trans (hb1.mono hb.size)
        go_roundw
        case rel => exact ⟨k + 1, by omega, by go_num, HF, b1⟩
        case measure => simp [intOf]; omega
    · obtain rfl : k = n := by omega
      have HA : Hid (IdxAns noPads k (leafAt ls) (-1)) := Lib.hid (.inl ⟨rfl, hF.out⟩)
      go_wp2
      go_ret
      exact ⟨_, rfl, HA.out, hb⟩

end Go.Proofs.Ytbeaandjhlpaeaa
