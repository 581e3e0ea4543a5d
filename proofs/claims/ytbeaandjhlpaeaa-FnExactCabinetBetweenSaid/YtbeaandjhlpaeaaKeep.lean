/-
  cabinetTree.keep: the pads that are not wanted go, and the leaves that are empty then. Conditions: no more than a law lets by.
-/
import Derived.Test.YtbeaandjhlpaeaaDelLeaf2
import Derived.Lib.SliceRun
namespace Go.Proofs.Ytbeaandjhlpaeaa
open Go.ChangeShapes Go.WideShapes Go.ChangeAt Go.RowKit Go.Shelf
set_option maxRecDepth 100000

/-- The closure g says p of a pad in each world that reads below B as w does. -/
def PredB (g : Nat) (cb : Array Value) (p : Pad → Bool) (B : Nat) (w : World) : Prop :=
  ∀ (W : World) (x : Pad), Below B w W → x.good → Calls Try.prog g (#[padV x] ++ cb) W fun e w' => e = .returned (.bool (p x)) ∧ Below W.heap.size W w'

theorem keepNot (g : Nat) (cb : Array Value) (p : Pad → Bool) (eg : ∀ args w, (callFunc g args).run Try.prog w = .ok (.enter g args) w) (B b3 : Nat) (w w1 : World) (row : Option Nat) (hp : PredB g cb p B w) (hb : Below B w w1) (hB : B ≤ w1.heap.size)
    (hrow : ∀ k, row = some k → B ≤ k) (h3 : Blk w1 b3 25 #[.func (.func g) #[] cb]) (hne : row ≠ some b3) :
    PredPad 77 #[.pointer (some ⟨b3, 0, none⟩)] (fun x => !p x) w1 row := by
  intro W x hg hx
  have hbW : Below B w W := hb.grown hg hB hrow
  have h3W : Blk W b3 25 #[.func (.func g) #[] cb] := (hg.block b3 h3.lt (fun e => hne e.symm)).trans h3
  have c3 : W.cell? ⟨b3, 0, none⟩ = some (.func (.func g) #[] cb) := h3W.cell 0
  have c3' : (W.alloc (.cells #[.int .i64 x.day, .string x.case] 26)).cell? ⟨b3, 0, none⟩ = some (.func (.func g) #[] cb) := Lib.cell?_alloc_some _ c3
  have hcall := fun W2 (h : Below B W W2) => hp W2 x (hbW.trans h) hx
  have hBW : B ≤ W.heap.size := Nat.le_trans hB hg.size
  have HC := Lib.hid hcall; clear hcall
  unfold padV at HC ⊢
  clear hp hb hB hrow h3 hne hg hx hbW h3W
  show Calls Try.prog 77 #[.agg #[.int .i64 x.day, .string x.case], .pointer (some ⟨b3, 0, none⟩)] W _
  go_enter Try.func77, Try.ntmps77
  go_wp2_with (go_at_fn g; refine (HC.out _ ((Below.refl _ _).alloc hBW _)).mono ?_; rintro e w2 ⟨rfl, hb2⟩)

  go_ret
  exact ⟨rfl, below_next ((Below.refl _ _).alloc (Nat.le_refl _) _) hb2⟩
end Go.Proofs.Ytbeaandjhlpaeaa
