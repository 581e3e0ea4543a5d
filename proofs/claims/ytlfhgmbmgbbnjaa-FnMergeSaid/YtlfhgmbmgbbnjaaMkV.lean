/-
  One mark: its end, sameness (both), clashes, what is asked of it. Conditions: the sizes are no more than a law lets by.
-/
import Derived.Test.YtlfhgmbmgbbnjaaMkEq
import Derived.BigQuiet
namespace Go.Proofs.Ytlfhgmbmgbbnjaa
open Go.ChangeShapes Go.WideShapes Go.ChangeAt Go.RowKit
set_option maxRecDepth 100000
set_option linter.unusedSimpArgs false

def aggM (x : Mr) : Value := .agg #[.int .i64 (x.at_ : Int), .int .i64 (x.cut : Int), .slice x.A x.n x.c]
/-- The numbers of a mark are small. -/
def SmM (x : Mr) : Prop := x.at_ ≤ 1000 ∧ x.cut ≤ 1000 ∧ x.n ≤ 1000
theorem mr_eq {x y : Mr} : x.dat = y.dat ↔ x.at_ = y.at_ ∧ x.cut = y.cut ∧ x.put = y.put := by
  unfold Mr.dat; rw [Mk.mk.injEq]
theorem boxM (x : Mr) (w : World) : Below w.heap.size w (w.alloc (.cells #[.int .i64 (x.at_ : Int), .int .i64 (x.cut : Int), .slice x.A x.n x.c] 37)) := (Below.refl _ _).alloc (Nat.le_refl _) _
theorem markEnd (x : Mr) (w : World) (hs : SmM x) : Calls Try.prog 44 #[.agg #[.int .i64 (x.at_ : Int), .int .i64 (x.cut : Int), .slice x.A x.n x.c]] w fun e w' => e = .returned (.int .i64 ((x.at_ : Int) + (x.cut : Int))) ∧ Below w.heap.size w w' := by
  have hb := boxM x w
  have h1 := hs.1; have h2 := hs.2.1
  go_enter Try.func44, Try.ntmps44
  go_wp2
  go_returns
  exact ⟨rfl, hb⟩
set_option maxHeartbeats 800000 in
theorem implSame (x y : Mr) (w : World) (hx : MrIn w w.heap.size x) (hy : MrIn w w.heap.size y) : Calls Try.prog 41 #[.agg #[.int .i64 (x.at_ : Int), .int .i64 (x.cut : Int), .slice x.A x.n x.c], .agg #[.int .i64 (y.at_ : Int), .int .i64 (y.cut : Int), .slice y.A y.n y.c]] w fun e w' => e = .returned (.bool (decide (x.dat = y.dat))) ∧ Below w.heap.size w w' := by
  have hb : Below w.heap.size w ((w.alloc (.cells #[.int .i64 (x.at_ : Int), .int .i64 (x.cut : Int), .slice x.A x.n x.c] 37)).alloc (.cells #[.int .i64 (y.at_ : Int), .int .i64 (y.cut : Int), .slice y.A y.n y.c] 37)) := below_next (boxM x w) ((Below.refl _ _).alloc (Nat.le_refl _) _)
  have HC := Lib.hid (equalWds x.A x.n x.c y.A y.n y.c x.put y.put _ (WdsIn.keep hx hb) (WdsIn.keep hy hb))
  by_cases h1 : x.at_ = y.at_
  · by_cases h2 : x.cut = y.cut
    · have HF : Hid (decide (x.dat = y.dat) = decide (x.put = y.put)) := Lib.hid (decide_eq_decide.2 ⟨fun h => (mr_eq.1 h).2.2, fun h => mr_eq.2 ⟨h1, h2, h⟩⟩)
      clear hx hy
      have e1 : ((x.at_ : Int) == (y.at_ : Int)) = true := by rw [h1]; exact beq_self_eq_true _
      have e2 : ((x.cut : Int) == (y.cut : Int)) = true := by rw [h2]; exact beq_self_eq_true _
      clear h1 h2
      go_enter Try.func41, Try.ntmps41
      go_wp2_with fail
      refine HC.out.mono ?_
      rintro e w1 ⟨rfl, hb1⟩
      go_wp2
      go_returns
      exact ⟨ret_bool HF.out.symm, below_next hb hb1⟩
    · have HF : Hid (decide (x.dat = y.dat) = false) := Lib.hid (decide_eq_false (fun h => h2 (mr_eq.1 h).2.1))
      have e1 : ((x.at_ : Int) == (y.at_ : Int)) = true := by rw [h1]; exact beq_self_eq_true _
      have e2 : ((x.cut : Int) == (y.cut : Int)) = false := by simp; omega
      clear hx hy HC h1 h2
      go_enter Try.func41, Try.ntmps41
      go_wp2
      go_returns
      exact ⟨ret_bool HF.out.symm, hb⟩
  · have HF : Hid (decide (x.dat = y.dat) = false) := Lib.hid (decide_eq_false (fun h => h1 (mr_eq.1 h).1))
    have e1 : ((x.at_ : Int) == (y.at_ : Int)) = false := by simp; omega
    clear hx hy HC h1
    go_enter Try.func41, Try.ntmps41
    go_wp2
    go_returns
    exact ⟨ret_bool HF.out.symm, hb⟩
set_option maxHeartbeats 800000 in
theorem l7Same (x y : Mr) (w : World) (hx : MrIn w w.heap.size x) (hy : MrIn w w.heap.size y) : Calls Try.prog 35 #[.agg #[.int .i64 (x.at_ : Int), .int .i64 (x.cut : Int), .slice x.A x.n x.c], .agg #[.int .i64 (y.at_ : Int), .int .i64 (y.cut : Int), .slice y.A y.n y.c]] w fun e w' => e = .returned (.bool (decide (x.dat = y.dat))) ∧ Below w.heap.size w w' := by
  have hb : Below w.heap.size w ((w.alloc (.cells #[.int .i64 (x.at_ : Int), .int .i64 (x.cut : Int), .slice x.A x.n x.c] 37)).alloc (.cells #[.int .i64 (y.at_ : Int), .int .i64 (y.cut : Int), .slice y.A y.n y.c] 37)) := below_next (boxM x w) ((Below.refl _ _).alloc (Nat.le_refl _) _)
  have HC := Lib.hid (l4Same x.A x.n x.c y.A y.n y.c x.put y.put _ (WdsIn.keep hx hb) (WdsIn.keep hy hb))
  by_cases h1 : x.at_ = y.at_
  · by_cases h2 : x.cut = y.cut
    · have HF : Hid (decide (x.dat = y.dat) = decide (x.put = y.put)) := Lib.hid (decide_eq_decide.2 ⟨fun h => (mr_eq.1 h).2.2, fun h => mr_eq.2 ⟨h1, h2, h⟩⟩)
      clear hx hy
      have e1 : ((x.at_ : Int) == (y.at_ : Int)) = true := by rw [h1]; exact beq_self_eq_true _
      have e2 : ((x.cut : Int) == (y.cut : Int)) = true := by rw [h2]; exact beq_self_eq_true _
      clear h1 h2
      go_enter Try.func35, Try.ntmps35
      go_wp2_with fail
      refine HC.out.mono ?_
      rintro e w1 ⟨rfl, hb1⟩
      go_wp2
      go_returns
      exact ⟨ret_bool HF.out.symm, below_next hb hb1⟩
    · have HF : Hid (decide (x.dat = y.dat) = false) := Lib.hid (decide_eq_false (fun h => h2 (mr_eq.1 h).2.1))
      have e1 : ((x.at_ : Int) == (y.at_ : Int)) = true := by rw [h1]; exact beq_self_eq_true _
      have e2 : ((x.cut : Int) == (y.cut : Int)) = false := by simp; omega
      clear hx hy HC h1 h2
      go_enter Try.func35, Try.ntmps35
      go_wp2
      go_returns
      exact ⟨ret_bool HF.out.symm, hb⟩
  · have HF : Hid (decide (x.dat = y.dat) = false) := Lib.hid (decide_eq_false (fun h => h1 (mr_eq.1 h).1))
    have e1 : ((x.at_ : Int) == (y.at_ : Int)) = false := by simp; omega
    clear hx hy HC h1
    go_enter Try.func35, Try.ntmps35
    go_wp2
    go_returns
    exact ⟨ret_bool HF.out.symm, hb⟩
set_option maxHeartbeats 1600000 in
theorem markClashes (x y : Mr) (w : World) (sx : SmM x) (sy : SmM y) (hx : MrIn w w.heap.size x) (hy : MrIn w w.heap.size y) : Calls Try.prog 52 #[.agg #[.int .i64 (x.at_ : Int), .int .i64 (x.cut : Int), .slice x.A x.n x.c], .agg #[.int .i64 (y.at_ : Int), .int .i64 (y.cut : Int), .slice y.A y.n y.c]] w fun e w' => e = .returned (.bool (touchB x.dat y.dat && !decide (x.dat = y.dat))) ∧ Below w.heap.size w w' := by
  obtain ⟨W0, hW0⟩ : ∃ W0, W0 = (w.alloc (.cells #[.int .i64 (x.at_ : Int), .int .i64 (x.cut : Int), .slice x.A x.n x.c] 37)).alloc (.cells #[.int .i64 (y.at_ : Int), .int .i64 (y.cut : Int), .slice y.A y.n y.c] 37) := ⟨_, rfl⟩
  have hb : Below w.heap.size w W0 := by rw [hW0]; exact below_next (boxM x w) ((Below.refl _ _).alloc (Nat.le_refl _) _)
  have x0 : W0.cell? ⟨w.heap.size, 0, none⟩ = some (.int .i64 (x.at_ : Int)) := by rw [hW0]; exact kcell ((Below.refl _ _).alloc (Nat.le_refl _) _) (newcell w _ _ 0 _ rfl)
  have x1 : W0.cell? ⟨w.heap.size, 1, none⟩ = some (.int .i64 (x.cut : Int)) := by rw [hW0]; exact kcell ((Below.refl _ _).alloc (Nat.le_refl _) _) (newcell w _ _ 1 _ rfl)
  have x2 : W0.cell? ⟨w.heap.size, 2, none⟩ = some (.slice x.A x.n x.c) := by rw [hW0]; exact kcell ((Below.refl _ _).alloc (Nat.le_refl _) _) (newcell w _ _ 2 _ rfl)
  have y0 : W0.cell? ⟨w.heap.size + 1, 0, none⟩ = some (.int .i64 (y.at_ : Int)) := by rw [hW0]; have := newcell (w.alloc (.cells #[.int .i64 (x.at_ : Int), .int .i64 (x.cut : Int), .slice x.A x.n x.c] 37)) #[.int .i64 (y.at_ : Int), .int .i64 (y.cut : Int), .slice y.A y.n y.c] 37 0 _ rfl; rwa [World.size_alloc] at this
  have y1 : W0.cell? ⟨w.heap.size + 1, 1, none⟩ = some (.int .i64 (y.cut : Int)) := by rw [hW0]; have := newcell (w.alloc (.cells #[.int .i64 (x.at_ : Int), .int .i64 (x.cut : Int), .slice x.A x.n x.c] 37)) #[.int .i64 (y.at_ : Int), .int .i64 (y.cut : Int), .slice y.A y.n y.c] 37 1 _ rfl; rwa [World.size_alloc] at this
  have y2 : W0.cell? ⟨w.heap.size + 1, 2, none⟩ = some (.slice y.A y.n y.c) := by rw [hW0]; have := newcell (w.alloc (.cells #[.int .i64 (x.at_ : Int), .int .i64 (x.cut : Int), .slice x.A x.n x.c] 37)) #[.int .i64 (y.at_ : Int), .int .i64 (y.cut : Int), .slice y.A y.n y.c] 37 2 _ rfl; rwa [World.size_alloc] at this
  have q0 := qcell x0; have q1 := qcell x1; have q2 := qcell x2; have r0 := qcell y0; have r1 := qcell y1; have r2 := qcell y2
  have HK : Hid (∀ W, Below w.heap.size w W → MrIn W W.heap.size x ∧ MrIn W W.heap.size y) := Lib.hid (fun W h => ⟨hx.keep h, hy.keep h⟩)
  have HC0 : Hid (∀ W, Below W0.heap.size W0 W → Calls Try.prog 41 #[.agg #[.int .i64 (x.at_ : Int), .int .i64 (x.cut : Int), .slice x.A x.n x.c], .agg #[.int .i64 (y.at_ : Int), .int .i64 (y.cut : Int), .slice y.A y.n y.c]] W fun e w' => e = .returned (.bool (decide (x.dat = y.dat))) ∧ Below W.heap.size W w') := Lib.hid (fun W h => implSame x y W (HK.out W (below_next hb h)).1 (HK.out W (below_next hb h)).2)
  have HEx := Lib.hid (fun W => markEnd x W sx)
  have HEy := Lib.hid (fun W => markEnd y W sy)
  have s1 := sx.1; have s2 := sx.2.1; have s3 := sy.1; have s4 := sy.2.1
  clear hx hy HK x0 x1 x2 y0 y1 y2
  by_cases h0 : x.dat = y.dat
  · have HC := HC0
    rw [decide_eq_true h0] at HC
    have HF : Hid ((touchB x.dat y.dat && !decide (x.dat = y.dat)) = false) := Lib.hid (by rw [decide_eq_true h0]; simp)
    clear HC0 h0
    go_enter Try.func52, Try.ntmps52
    go_wp2_with fail
    rw [← hW0]
    clear hW0
    refine region_qb (by kernel_rfl) (by kernel_rfl) ?_
    repeat (first | go_big_quiet_step ((first | (go_at_call 41; exact quietB (HC.out _ (below_regrown _ _ _))) | (go_at_call 44; (first | exact quietB (HEx.out _) | exact quietB (HEy.out _))))) | quiet_step ((first | (go_at_call 41; exact quietB (HC.out _ (below_regrown _ _ _))) | (go_at_call 44; (first | exact quietB (HEx.out _) | exact quietB (HEy.out _))))))
    refine wpQuiet_nil ?_
    intro w5 hb5; have b5 := below_next hb hb5
    go_wp2
    go_returns
    exact ⟨ret_bool HF.out.symm, b5⟩
  · have HC := HC0
    rw [decide_eq_false h0] at HC
    by_cases h1 : x.at_ ≤ y.at_ + y.cut
    · have e1 : (x.at_ : Int) ≤ (y.at_ : Int) + (y.cut : Int) := by omega
      by_cases h2 : y.at_ ≤ x.at_ + x.cut
      · have e2 : (y.at_ : Int) ≤ (x.at_ : Int) + (x.cut : Int) := by omega
        have HF : Hid ((touchB x.dat y.dat && !decide (x.dat = y.dat)) = true) := Lib.hid (by rw [decide_eq_false h0, show touchB x.dat y.dat = true from decide_eq_true ⟨h1, h2⟩]; rfl)
        clear HC0 h0 h1 h2
        go_enter Try.func52, Try.ntmps52
        go_wp2_with fail
        rw [← hW0]
        clear hW0
        refine region_qb (by kernel_rfl) (by kernel_rfl) ?_
        repeat (first | go_big_quiet_step ((first | (go_at_call 41; exact quietB (HC.out _ (below_regrown _ _ _))) | (go_at_call 44; (first | exact quietB (HEx.out _) | exact quietB (HEy.out _))))) | quiet_step ((first | (go_at_call 41; exact quietB (HC.out _ (below_regrown _ _ _))) | (go_at_call 44; (first | exact quietB (HEx.out _) | exact quietB (HEy.out _))))))
        refine wpQuiet_nil ?_
        intro w5 hb5; have b5 := below_next hb hb5
        go_wp2
        go_returns
        exact ⟨ret_bool HF.out.symm, b5⟩
      · have e2 : decide ((y.at_ : Int) ≤ (x.at_ : Int) + (x.cut : Int)) = false := decide_eq_false (by omega)
        have HF : Hid ((touchB x.dat y.dat && !decide (x.dat = y.dat)) = false) := Lib.hid (by rw [show touchB x.dat y.dat = false from decide_eq_false (fun h => h2 h.2)]; rfl)
        clear HC0 h0 h1 h2
        go_enter Try.func52, Try.ntmps52
        go_wp2_with fail
        rw [← hW0]
        clear hW0
        refine region_qb (by kernel_rfl) (by kernel_rfl) ?_
        repeat (first | go_big_quiet_step ((first | (go_at_call 41; exact quietB (HC.out _ (below_regrown _ _ _))) | (go_at_call 44; (first | exact quietB (HEx.out _) | exact quietB (HEy.out _))))) | quiet_step ((first | (go_at_call 41; exact quietB (HC.out _ (below_regrown _ _ _))) | (go_at_call 44; (first | exact quietB (HEx.out _) | exact quietB (HEy.out _))))))
        refine wpQuiet_nil ?_
        intro w5 hb5; have b5 := below_next hb hb5
        go_wp2
        go_returns
        exact ⟨ret_bool HF.out.symm, b5⟩
    · have e1 : decide ((x.at_ : Int) ≤ (y.at_ : Int) + (y.cut : Int)) = false := decide_eq_false (by omega)
      have HF : Hid ((touchB x.dat y.dat && !decide (x.dat = y.dat)) = false) := Lib.hid (by rw [show touchB x.dat y.dat = false from decide_eq_false (fun h => h1 h.1)]; rfl)
      clear HC0 h0 h1
      go_enter Try.func52, Try.ntmps52
      go_wp2_with fail
      rw [← hW0]
      clear hW0
      refine region_qb (by kernel_rfl) (by kernel_rfl) ?_
      repeat (first | go_big_quiet_step ((first | (go_at_call 41; exact quietB (HC.out _ (below_regrown _ _ _))) | (go_at_call 44; (first | exact quietB (HEx.out _) | exact quietB (HEy.out _))))) | quiet_step ((first | (go_at_call 41; exact quietB (HC.out _ (below_regrown _ _ _))) | (go_at_call 44; (first | exact quietB (HEx.out _) | exact quietB (HEy.out _))))))
      refine wpQuiet_nil ?_
      intro w5 hb5; have b5 := below_next hb hb5
      go_wp2
      go_returns
      exact ⟨ret_bool HF.out.symm, b5⟩
end Go.Proofs.Ytlfhgmbmgbbnjaa
