/-
  The head of the cabinets' laws: the measure and the copies. Conditions: the drawers hold no more than a law lets by.
-/
import Derived.Test.YtbeaandjhlpaeaaCabV
import Derived.Test.YtbeaandjhlpaeaaImplCab
namespace Go.Proofs.Ytbeaandjhlpaeaa
open Go.ChangeShapes Go.WideShapes Go.ChangeAt Go.RowKit
set_option maxRecDepth 100000

theorem cabSz_congr : ∀ {ds ds' : List Drawer}, ds'.map (·.ps) = ds.map (·.ps) → cabSz ds' = cabSz ds
  | [], [], _ => rfl
  | [], _ :: _, h => by simp at h
  | _ :: _, [], h => by simp at h
  | d :: ds, d' :: ds', h => by
    simp only [List.map_cons, List.cons.injEq] at h
    simp only [cabSz, h.1, cabSz_congr h.2]

/-- A copy of a list of drawers. -/
def Copy (w : World) (n : Nat) (A : Option Addr) (ds ds' : List Drawer) : Prop := DrawersIn w w.heap.size A n n ds' ∧ ds'.map (·.ps) = ds.map (·.ps) ∧ cabSz ds' ≤ 1048576 ∧ (∃ g, A = some ⟨g, 0, none⟩ ∧ CopiedTo w g ds ds')
theorem copyCab (A : Option Addr) (n c : Nat) (ds : List Drawer) (w : World) (hn : cabSz ds ≤ 1048576) (h : DrawersIn w w.heap.size A n c ds) :
    Calls Try.prog 24 #[.slice A n c] w fun e w' => ∃ ds', e = .returned (.slice (some ⟨w.heap.size, 0, none⟩) n n) ∧ Copy w' n (some ⟨w.heap.size, 0, none⟩) ds ds' ∧ Below w.heap.size w w' := by
  refine (toPadSS A n c ds w hn h).mono ?_
  rintro e w' ⟨ds', rfl, hC, hb⟩
  have hD := hC.drawers hn
  rw [h.1] at hD
  exact ⟨ds', rfl, ⟨hD, hC.2.1, by rw [cabSz_congr hC.2.1]; exact hn, _, rfl, hC⟩, hb⟩
theorem DrawersIn.keep {w w' : World} {n c : Nat} {A : Option Addr} {ds : List Drawer} (h : DrawersIn w w.heap.size A n c ds) (hb : Below w.heap.size w w') : DrawersIn w' w'.heap.size A n c ds := (h.below hb).more hb.size
theorem PadsIn.keep {w w' : World} {n c : Nat} {A : Option Addr} {ps : List Pad} (h : PadsIn w w.heap.size A n c ps) (hb : Below w.heap.size w w') : PadsIn w' w'.heap.size A n c ps := (h.below hb).more hb.size
theorem sz_split {r : Int} {tot : Nat} (h : SzR 1048576 r tot) : r < 0 ∨ (0 ≤ r ∧ tot ≤ 1048576) := by
  rcases h with rfl | ⟨h1, h2⟩
  · left; decide
  · right; exact ⟨h1, by omega⟩
end Go.Proofs.Ytbeaandjhlpaeaa
