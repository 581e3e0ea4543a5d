/-
  slices.IndexFunc at pads and at leaf pointers, with a closure that writes nothing. Conditions: none but Go's own sizes.
-/
import Derived.Test.YtbeaandjhlpaeaaCabCount
import Derived.Test.YtbeaandjhlpaeaaHeldPads
import Derived.Shelf.Abstract
namespace Go.Proofs.Ytbeaandjhlpaeaa
open Go.ChangeShapes Go.WideShapes Go.ChangeAt Go.RowKit Go.Shelf
set_option maxRecDepth 100000

def padV (p : Pad) : Value := .agg #[.int .i64 p.day, .string p.case]
/-- The closure g with what it has captured says p of a pad, in each world that comes of w by turns of row alone. -/
def PredPad (g : Nat) (cb : Array Value) (p : Pad → Bool) (w : World) (row : Option Nat) : Prop :=
  ∀ (W : World) (x : Pad), w.grownBy W row → x.good → Calls Try.prog g (#[padV x] ++ cb) W fun e w' => e = .returned (.bool (p x)) ∧ Below W.heap.size W w'
/-- The index of the first that meets p, or -1. -/
def IdxAns {α : Type} (p : α → Bool) (n : Nat) (at_ : Nat → α) (r : Int) : Prop :=
  (r = -1 ∧ ∀ j, j < n → p (at_ j) = false) ∨ ∃ k : Nat, r = k ∧ k < n ∧ p (at_ k) = true ∧ ∀ j, j < k → p (at_ j) = false

theorem idxFuncPad (g : Nat) (cb : Array Value) (p : Pad → Bool) (row : Option Nat) (eg : ∀ args w, (callFunc g args).run Try.prog w = .ok (.enter g args) w) (A : Option Addr) (n c : Nat) (ps : List Pad) (w : World) (hp : PredPad g cb p w row) (h : PadsIn w w.heap.size A n c ps) :
    Calls Try.prog 85 #[.slice A n c, .func (.func g) #[] cb] w fun e w' => ∃ r, e = .returned (.int .i64 r) ∧ IdxAns p n (padAt ps) r ∧ Below w.heap.size w w' := by
  have hm := h.2.2.1; have hnc := h.2.1
  unfold maxLen at hm
  have H := Lib.hid h; clear h
  have HP := Lib.hid hp; clear hp
  go_enter Try.func85, Try.ntmps85
  go_wp2
  go_loopw [5, 8] (fun _ i wr => ∃ (k : Nat), k ≤ n ∧ i = .int .i64 k ∧ Hid (∀ j, j < k → p (padAt ps j) = false) ∧ Below w.heap.size w wr) (fun _ i _ => n - (intOf i).toNat)
  case atStart => exact ⟨0, Nat.zero_le _, rfl, Lib.hid (fun j hj => absurd hj (by omega)), Below.refl _ _⟩
  case round =>
    obtain ⟨k, hk, rfl, hF, hb⟩ := hrel
    by_cases hlt : k < n
    · obtain ⟨b, off, eA, hbB, c0, c1, hg⟩ := (H.out.below hb).at_ hlt
      have hcall := HP.out wr (padAt ps k) (Below.only hb) hg
      subst eA
      unfold padV at hcall
      cases hq : p (padAt ps k) with
      | true =>
        rw [hq] at hcall
        have HA : Hid (IdxAns p n (padAt ps) k) := Lib.hid (.inr ⟨k, rfl, hlt, hq, hF.out⟩)
        have HC := Lib.hid hcall; clear hcall hq
        generalize padAt ps k = x at *
        go_wp2_with (go_at_fn g; refine HC.out.mono ?_; rintro e w1 ⟨rfl, hb1⟩)
        have b1 := hb.trans (hb1.mono hb.size)
        go_ret
        exact ⟨_, rfl, HA.out, b1⟩
      | false =>
        rw [hq] at hcall
        have HF : Hid (∀ j, j < k + 1 → p (padAt ps j) = false) := Lib.hid (fun j hj => by
          by_cases hjk : j < k
          · exact hF.out j hjk
          · obtain rfl : j = k := by omega
            exact hq)
        have HC := Lib.hid hcall; clear hcall hq
        generalize padAt ps k = x at *
        go_wp2_with (go_at_fn g; refine HC.out.mono ?_; rintro e w1 ⟨rfl, hb1⟩)
        have b1 := hb.trans (hb1.mono hb.size)
        go_roundw
        case rel => exact ⟨k + 1, by omega, by go_num, HF, b1⟩
        case measure => simp [intOf]; omega
    · obtain rfl : k = n := by omega
      have HA : Hid (IdxAns p k (padAt ps) (-1)) := Lib.hid (.inl ⟨rfl, hF.out⟩)
      go_wp2
      go_ret
      exact ⟨_, rfl, HA.out, hb⟩

/-- The closure says p of a leaf pointer. -/
def PredLeaf (g : Nat) (cb : Array Value) (p : Leaf → Bool) (ok : Leaf → Prop) (w : World) (row : Option Nat) : Prop :=
  ∀ (W : World) (x : Leaf), w.grownBy W row → ok x → Calls Try.prog g (#[x.ptr] ++ cb) W fun e w' => e = .returned (.bool (p x)) ∧ Below W.heap.size W w'
end Go.Proofs.Ytbeaandjhlpaeaa
