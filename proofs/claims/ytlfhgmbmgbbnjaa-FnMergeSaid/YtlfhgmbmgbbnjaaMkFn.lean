/-
  slices.IndexFunc and slices.ContainsFunc at marks, with a mark's method; the order of marks. Conditions: Go's own sizes.
-/
import Derived.Test.YtlfhgmbmgbbnjaaMkCl
import Derived.Shelf.Abstract
namespace Go.Proofs.Ytlfhgmbmgbbnjaa
open Go.ChangeShapes Go.WideShapes Go.ChangeAt Go.RowKit Go.Shelf
set_option maxRecDepth 100000
set_option linter.unusedSimpArgs false
set_option linter.unusedVariables false

/-- The method g of the mark x says p of each mark of a list. -/
def PredMk (g : Nat) (x : Mr) (p : Mr → Bool) (ys : List Mr) (w : World) : Prop :=
  ∀ (W : World) (y : Mr), Below w.heap.size w W → y ∈ ys → MrIn W W.heap.size y → Calls Try.prog g #[.agg #[.int .i64 (x.at_ : Int), .int .i64 (x.cut : Int), .slice x.A x.n x.c], .agg #[.int .i64 (y.at_ : Int), .int .i64 (y.cut : Int), .slice y.A y.n y.c]] W fun e w' => e = .returned (.bool (p y)) ∧ Below W.heap.size W w'
/-- The index of the first that meets p, or -1. -/
def FirstMk (p : Mr → Bool) (ys : List Mr) (r : Int) : Prop :=
  (r = -1 ∧ ∀ j, j < ys.length → p (mrAt ys j) = false) ∨ ∃ k : Nat, r = k ∧ k < ys.length ∧ p (mrAt ys k) = true
theorem FirstMk.any {p : Mr → Bool} {ys : List Mr} {r : Int} (h : FirstMk p ys r) : decide (0 ≤ r) = ys.any p := by
  rcases h with ⟨rfl, h⟩ | ⟨k, rfl, hk, h⟩
  · symm
    rw [decide_eq_false (by omega), List.any_eq_false]
    intro x hx
    obtain ⟨j, hj, rfl⟩ := List.getElem_of_mem hx
    have := mrAt_some (xs := ys) hj
    rw [List.getElem?_eq_getElem hj] at this
    injection this with this
    rw [this, h j hj]; simp
  · symm
    rw [decide_eq_true (by omega), List.any_eq_true]
    exact ⟨_, mrAt_mem hk, h⟩
set_option maxHeartbeats 800000 in
theorem idxFuncMk (g : Nat) (x : Mr) (p : Mr → Bool) (eg : ∀ args w, (callFunc g args).run Try.prog w = .ok (.enter g args) w) (A : Option Addr) (n c : Nat) (ys : List Mr) (w : World) (hp : PredMk g x p ys w) (h : MrsIn w w.heap.size A n c ys) :
    Calls Try.prog 54 #[.slice A n c, .func (.func g) #[.agg #[.int .i64 (x.at_ : Int), .int .i64 (x.cut : Int), .slice x.A x.n x.c]] #[]] w fun e w' => ∃ r, e = .returned (.int .i64 r) ∧ FirstMk p ys r ∧ Below w.heap.size w w' := by
  have hm := h.2.2.1; have hnc := h.2.1
  unfold maxLen at hm
  have HL := Lib.hid h.1
  have H := Lib.hid h; clear h
  have HP := Lib.hid hp; clear hp
  go_enter Try.func54, Try.ntmps54
  go_wp2
  go_loopw [5, 8] (fun _ i wr => ∃ (k : Nat), k ≤ n ∧ i = .int .i64 k ∧ Hid (∀ j, j < k → p (mrAt ys j) = false) ∧ Below w.heap.size w wr) (fun _ i _ => n - (intOf i).toNat)
  case atStart => exact ⟨0, Nat.zero_le _, rfl, Lib.hid (fun j hj => absurd hj (by omega)), Below.refl _ _⟩
  case round =>
    obtain ⟨k, hk, rfl, hF, hb⟩ := hrel
    by_cases hlt : k < n
    · obtain ⟨b, off, eA, hbB, c0, c1, c2, hxI⟩ := (H.out.keep hb).at_ hlt
      have hcall := HP.out wr (mrAt ys k) hb (mrAt_mem (by rw [HL.out]; exact hlt)) hxI
      subst eA
      clear hxI
      cases hq : p (mrAt ys k) with
      | true =>
        rw [hq] at hcall
        have HA : Hid (FirstMk p ys k) := Lib.hid (.inr ⟨k, rfl, by rw [HL.out]; exact hlt, hq⟩)
        have HC := Lib.hid hcall; clear hcall hq
        generalize mrAt ys k = y at *
        go_wp2_with (go_at_fn g; refine HC.out.mono ?_; rintro e w1 ⟨rfl, hb1⟩)
        have b1 := hb.trans (hb1.mono hb.size)
        go_ret
        exact ⟨_, rfl, HA.out, b1⟩
      | false =>
        rw [hq] at hcall
        have HF : Hid (∀ j, j < k + 1 → p (mrAt ys j) = false) := Lib.hid (fun j hj => by
          by_cases hjk : j < k
          · exact hF.out j hjk
          · obtain rfl : j = k := by omega
            exact hq)
        have HC := Lib.hid hcall; clear hcall hq
        generalize mrAt ys k = y at *
        go_wp2_with (go_at_fn g; refine HC.out.mono ?_; rintro e w1 ⟨rfl, hb1⟩)
        have b1 := hb.trans (hb1.mono hb.size)
        go_roundw
        case rel => exact ⟨k + 1, by omega, by go_num, HF, b1⟩
        case measure => simp [intOf]; omega
    · obtain rfl : k = n := by omega
      have HA : Hid (FirstMk p ys (-1)) := Lib.hid (.inl ⟨rfl, by rw [HL.out]; exact hF.out⟩)
      go_wp2
      go_ret
      exact ⟨_, rfl, HA.out, hb⟩
theorem containsMk (g : Nat) (x : Mr) (p : Mr → Bool) (eg : ∀ args w, (callFunc g args).run Try.prog w = .ok (.enter g args) w) (A : Option Addr) (n c : Nat) (ys : List Mr) (w : World) (hp : PredMk g x p ys w) (h : MrsIn w w.heap.size A n c ys) :
    Calls Try.prog 40 #[.slice A n c, .func (.func g) #[.agg #[.int .i64 (x.at_ : Int), .int .i64 (x.cut : Int), .slice x.A x.n x.c]] #[]] w fun e w' => e = .returned (.bool (ys.any p)) ∧ Below w.heap.size w w' := by
  have HI := Lib.hid (idxFuncMk g x p eg A n c ys w hp h)
  clear hp h
  go_enter Try.func40, Try.ntmps40
  go_wp2_with fail
  refine HI.out.mono ?_
  rintro e w1 ⟨r, rfl, hr, hb1⟩
  have HF := Lib.hid hr.any
  go_wp2
  go_ret
  exact ⟨ret_bool HF.out, hb1⟩
theorem orderMk (x y : Mr) (w : World) (hx : SmM x) (hy : SmM y) : Calls Try.prog 43 #[.agg #[.int .i64 (x.at_ : Int), .int .i64 (x.cut : Int), .slice x.A x.n x.c], .agg #[.int .i64 (y.at_ : Int), .int .i64 (y.cut : Int), .slice y.A y.n y.c]] w fun e w' => e = .returned (.int .i64 ((x.at_ : Int) - (y.at_ : Int))) ∧ Below w.heap.size w w' := by
  have h1 := hx.1; have h2 := hy.1
  go_enter Try.func43, Try.ntmps43
  go_wp2
  go_ret
  exact ⟨rfl, by go_grown⟩
/-- MarksClash of the program. -/
theorem clash_any (xs ys : List Mr) : clashB (xs.map Mr.dat) (ys.map Mr.dat) = xs.any fun x => ys.any fun y => clB x.dat y.dat := by
  rw [clashB_eq, List.any_map]
  congr 1
  funext x
  simp only [Function.comp, List.any_map]
  rfl
end Go.Proofs.Ytlfhgmbmgbbnjaa
