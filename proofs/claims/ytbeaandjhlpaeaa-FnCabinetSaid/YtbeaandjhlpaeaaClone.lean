/-
  slices.Clone of a list of pads that is not empty: the same pads in memory of the call's own. Conditions: Go's own bounds on sizes.
-/
import Derived.Test.YtbeaandjhlpaeaaCab4
namespace Go.Proofs.Ytbeaandjhlpaeaa
open Go.ChangeShapes Go.WideShapes Go.ChangeAt Go.RowKit
set_option maxRecDepth 100000

theorem clonePads (A : Option Addr) (n c : Nat) (ps : List Pad) (w : World) (hn1 : 1 ≤ n) (hn : n ≤ 1048576) (h : PadsIn w w.heap.size A n c ps) :
    Calls Try.prog 72 #[.slice A n c] w fun e w' => ∃ g c', e = .returned (.slice (some ⟨g, 0, none⟩) n c') ∧ PadsOwn w' w.heap.size (.slice (some ⟨g, 0, none⟩) n c') ps ∧ w.heap.size ≤ g ∧ Below w.heap.size w w' := by
  have HL := Lib.hid h.1
  have HR := Lib.hid h.2.2.2.1
  obtain ⟨b, off, rfl, hb, _⟩ := h.2.2.2.1.2 hn1
  obtain ⟨i0, hi, hz0, hz1, hz2⟩ := info_parts infoPad
  clear h

  have hE : ∀ W, (binOp .eql 49 (.slice (some ⟨b, off, none⟩) n c) (.slice none 0 0)).run Try.prog W = .ok (.bool false) W := fun W => Lib.run_eql_slice_nil (P := Try.prog) W _ 26 (some ⟨b, off, none⟩) n c 0 0 Try.underlying49
  go_enter Try.func72, Try.ntmps72
  go_wp2_with (at_builtin; refine wpList_append_any _ rfl (.tmp 5) (.tmp 6) _ rfl w.heap.size 26 i0 _ 2 24 Try.underlying49 hi hz0 hz1 hz2 rfl (by omega) (.slice (some ⟨w.heap.size, 0, none⟩) 0 0) 0 [] rfl (World.ownsRow_made w _ 0 (Nat.le_refl _) (by simp) (by simp)) w.heap.size (some ⟨b, off, none⟩) n c (ps.flatMap padC) rfl (HR.out.below ((Below.refl _ _).alloc (Nat.le_refl _) _)) padC_one (by unfold maxLen; omega) (by omega) (by simp) ?_; intro v1 w1 hown1 hg1 hat1)
  have b0 : Below w.heap.size w (w.alloc (Obj.cells #[] 26)) := (Below.refl _ _).alloc (Nat.le_refl _) _
  have hg1' : (w.alloc (Obj.cells #[] 26)).grownBy w1 (some w.heap.size) := hg1
  have b1 : Below w.heap.size w w1 := b0.grown hg1' b0.size (fun q hq => by injection hq with hq; omega)
  simp only [Nat.zero_add, List.nil_append] at hown1
  go_wp2
  go_ret
  rcases hown1.2 with ⟨_, h⟩ | ⟨g, cap, cur, rfl, hg, _⟩
  · omega
  · exact ⟨g, cap, rfl, by unfold PadsOwn; rw [HL.out]; exact hown1, hg, b1⟩
end Go.Proofs.Ytbeaandjhlpaeaa
