/-
  Written forms: validity and text, of both. Conditions: none.
-/
import Derived.Test.YtppjjbjjbmodbaaOutText
namespace Go.Proofs.Ytppjjbjjbmodbaa
open Go.ChangeShapes Go.WideShapes Go.ChangeAt Go.RowKit
set_option maxRecDepth 100000

def wrB (ss : List Stroke) (p : Int) : Bool := outB ss && decide (0 ≤ p ∧ p ≤ 2)
/-- The mark of a position. -/
def markL (p : Int) : UInt8 := if p = 0 then 94 else if p = 1 then 45 else 95
def wrText (ss : List Stroke) (p : Int) : List UInt8 := if wrB ss p = true then markL p :: outText ss else []
theorem wrText_yes {ss : List Stroke} {p : Int} (h : wrB ss p = true) : wrText ss p = markL p :: outText ss := if_pos h
theorem wrText_no {ss : List Stroke} {p : Int} (h : wrB ss p = false) : wrText ss p = [] := if_neg (by rw [h]; simp)
theorem wrB_iff {ss : List Stroke} {p : Int} : wrB ss p = true ↔ outB ss = true ∧ 0 ≤ p ∧ p ≤ 2 := by unfold wrB; rw [Bool.and_eq_true, decide_eq_true_iff]
theorem outText_len (ss : List Stroke) : (outText ss).length ≤ 16 := by
  cases h : outB ss with
  | false => rw [outText_no h]; simp
  | true => rw [outText_yes h, textS_len]; have := outB_len h; omega

theorem specWrittenValid (A : Option Addr) (n c : Nat) (ss : List Stroke) (p : Int) (w : World) (h : StrokesIn w w.heap.size A n c ss) :
    Calls Try.prog 57 #[.agg #[.slice A n c, .int .i64 p]] w fun e w' => e = .returned (.bool (wrB ss p)) ∧ Below w.heap.size w w' := by
  have hal : Below w.heap.size w (w.alloc (.cells #[.slice A n c, .int .i64 p] 35)) := (Below.refl _ _).alloc (Nat.le_refl _) _
  have HO := Lib.hid (specOutlineValid A n c ss _ (h.keep hal))
  have HR : Hid (wrB ss p = (outB ss && decide (0 ≤ p ∧ p ≤ 2))) := Lib.hid rfl
  have p0 := newcell w #[.slice A n c, .int .i64 p] 35 0 _ rfl
  have p1 := newcell w #[.slice A n c, .int .i64 p] 35 1 _ rfl
  clear h
  generalize outB ss = o at *
  cases o with
  | false =>
    go_enter Try.func57, Try.ntmps57
    go_wp2_with fail
    refine HO.out.mono ?_
    rintro e w1 ⟨rfl, hb1⟩
    have b1 := below_next hal hb1
    go_wp2
    go_returns
    exact ⟨ret_bool (by rw [HR.out]; rfl), b1⟩
  | true =>
    go_enter Try.func57, Try.ntmps57
    go_wp2_with fail
    refine HO.out.mono ?_
    rintro e w1 ⟨rfl, hb1⟩
    have b1 := below_next hal hb1
    have q0 := kcell hb1 p0; have q1 := kcell hb1 p1
    clear hb1 p0 p1
    go_wp2_with fail
    refine (l6In_any _ _ _ _).mono ?_
    rintro e w2 ⟨rfl, rfl⟩
    go_wp2
    go_returns
    exact ⟨ret_bool (by rw [HR.out, Bool.true_and, Bool.decide_and]), b1⟩

theorem implWrittenValid (A : Option Addr) (n c : Nat) (ss : List Stroke) (p : Int) (w : World) (h : StrokesIn w w.heap.size A n c ss) :
    Calls Try.prog 55 #[.agg #[.slice A n c, .int .i64 p]] w fun e w' => e = .returned (.bool (wrB ss p)) ∧ Below w.heap.size w w' := by
  have hal : Below w.heap.size w (w.alloc (.cells #[.slice A n c, .int .i64 p] 35)) := (Below.refl _ _).alloc (Nat.le_refl _) _
  have HO := Lib.hid (implOutlineValid A n c ss _ (h.keep hal))
  have HR : Hid (wrB ss p = (outB ss && decide (0 ≤ p ∧ p ≤ 2))) := Lib.hid rfl
  have p0 := newcell w #[.slice A n c, .int .i64 p] 35 0 _ rfl
  have p1 := newcell w #[.slice A n c, .int .i64 p] 35 1 _ rfl
  clear h
  generalize outB ss = o at *
  cases o with
  | false =>
    go_enter Try.func55, Try.ntmps55
    go_wp2_with fail
    refine HO.out.mono ?_
    rintro e w1 ⟨rfl, hb1⟩
    have b1 := below_next hal hb1
    go_wp2
    go_returns
    exact ⟨ret_bool (by rw [HR.out]; rfl), b1⟩
  | true =>
    by_cases h0 : 0 ≤ p
    · by_cases h2 : p ≤ 2
      · go_enter Try.func55, Try.ntmps55
        go_wp2_with fail
        refine HO.out.mono ?_
        rintro e w1 ⟨rfl, hb1⟩
        have b1 := below_next hal hb1
        have q0 := kcell hb1 p0; have q1 := kcell hb1 p1
        clear hb1 p0 p1
        go_wp2
        go_returns
        exact ⟨ret_bool (by rw [HR.out, Bool.true_and, decide_eq_true (show 0 ≤ p ∧ p ≤ 2 from ⟨h0, h2⟩)]; first | rfl | (apply decide_eq_true; omega)), b1⟩
      · go_enter Try.func55, Try.ntmps55
        go_wp2_with fail
        refine HO.out.mono ?_
        rintro e w1 ⟨rfl, hb1⟩
        have b1 := below_next hal hb1
        have q0 := kcell hb1 p0; have q1 := kcell hb1 p1
        clear hb1 p0 p1
        go_wp2
        go_returns
        exact ⟨ret_bool (by first | (rw [HR.out, Bool.true_and, decide_eq_false (show ¬ (0 ≤ p ∧ p ≤ 2) by omega)]; done) | (rw [HR.out, Bool.true_and, decide_eq_false (show ¬ (0 ≤ p ∧ p ≤ 2) by omega)]; apply decide_eq_false; omega)), b1⟩
    · go_enter Try.func55, Try.ntmps55
      go_wp2_with fail
      refine HO.out.mono ?_
      rintro e w1 ⟨rfl, hb1⟩
      have b1 := below_next hal hb1
      have q0 := kcell hb1 p0; have q1 := kcell hb1 p1
      clear hb1 p0 p1
      go_wp2
      go_returns
      exact ⟨ret_bool (by first | (rw [HR.out, Bool.true_and, decide_eq_false (show ¬ (0 ≤ p ∧ p ≤ 2) by omega)]; done) | (rw [HR.out, Bool.true_and, decide_eq_false (show ¬ (0 ≤ p ∧ p ≤ 2) by omega)]; apply decide_eq_false; omega)), b1⟩

theorem marks_cut : (⟨#[94, 45, 95]⟩ : ByteArray).extract 0 1 = mkStr [markL 0] ∧ (⟨#[94, 45, 95]⟩ : ByteArray).extract 1 2 = mkStr [markL 1] ∧ (⟨#[94, 45, 95]⟩ : ByteArray).extract 2 3 = mkStr [markL 2] := ⟨rfl, rfl, rfl⟩

theorem formOf (A : Option Addr) (n c : Nat) (p : Int) (w : World) :
    Calls Try.prog 53 #[.agg #[.slice A n c, .int .i64 p]] w fun e w' => e = .returned (.agg #[.slice A n c, .int .i64 p]) ∧ Below w.heap.size w w' := by
  go_enter Try.func53, Try.ntmps53
  go_wp2
  go_returns
  exact ⟨rfl, by go_grown⟩

theorem specWrittenText (A : Option Addr) (n c : Nat) (ss : List Stroke) (p : Int) (w : World) (h : StrokesIn w w.heap.size A n c ss) :
    Calls Try.prog 58 #[.agg #[.slice A n c, .int .i64 p]] w fun e w' => e = .returned (.string (mkStr (wrText ss p))) ∧ Below w.heap.size w w' := by
  have hal : Below w.heap.size w (w.alloc (.cells #[.slice A n c, .int .i64 p] 35)) := (Below.refl _ _).alloc (Nat.le_refl _) _
  have HO : Hid (∀ W, Below w.heap.size w W → Calls Try.prog 90 #[.slice A n c] W fun e w' => e = .returned (.string (mkStr (outText ss))) ∧ Below W.heap.size W w') := Lib.hid (fun W hW => specOutlineText A n c ss W (h.keep hW))
  have HV := Lib.hid (specWrittenValid A n c ss p _ (h.keep hal))
  have p0 := newcell w #[.slice A n c, .int .i64 p] 35 0 _ rfl
  have p1 := newcell w #[.slice A n c, .int .i64 p] 35 1 _ rfl
  clear h
  cases hv : wrB ss p with
  | false =>
    have HR := Lib.hid (wrText_no hv)
    rw [hv] at HV
    clear hv
    go_enter Try.func58, Try.ntmps58
    go_wp2_with fail
    refine HV.out.mono ?_
    rintro e w1 ⟨rfl, hb1⟩
    have b1 := below_next hal hb1
    go_wp2
    go_returns
    exact ⟨ret_str (a := []) HR.out.symm, b1⟩
  | true =>
    have HR := Lib.hid (wrText_yes hv)
    obtain ⟨_, h0, h2⟩ := wrB_iff.1 hv
    rw [hv] at HV
    clear hv
    have hl := outText_len ss
    have hA : ∀ W, (Op.stringOp .add (mkStr [markL p]) (mkStr (outText ss))).run Try.prog W = .ok (.string (mkStr (markL p :: outText ss))) W := fun W => run_add _ _ (by simp; omega) W
    clear hl
    obtain ⟨x1, x2, x3⟩ := marks_cut
    have e1 : IntKind.i64.wrap 1 = 1 := rfl
    have e2 : IntKind.i64.wrap 2 = 2 := rfl
    have e3 : IntKind.i64.wrap 3 = 3 := rfl
    have hp : p = 0 ∨ p = 1 ∨ p = 2 := by omega
    rw [← HR.out] at hA
    generalize wrText ss p = tt at *
    generalize outText ss = t at *
    rcases hp with rfl | rfl | rfl
    all_goals (
      go_enter Try.func58, Try.ntmps58
      go_wp2_with fail
      refine HV.out.mono ?_
      rintro e w1 ⟨rfl, hb1⟩
      have b1 := below_next hal hb1
      have q0 := kcell hb1 p0; have q1 := kcell hb1 p1
      have r0 := qcell q0; have r1 := qcell q1
      clear hb1 p0 p1
      go_wp2_with fail
      refine region_qb (by kernel_rfl) (by kernel_rfl) ?_
      repeat (first | go_big_quiet_step ((go_at_call 90; exact quietB (HO.out _ (below_next b1 (below_regrown _ _ _))))) | quiet_step ((go_at_call 90; exact quietB (HO.out _ (below_next b1 (below_regrown _ _ _))))))
      refine wpQuiet_nil ?_
      intro w3 hb3
      have b3 := below_next b1 hb3
      clear r0 r1 q0 q1 hb3
      go_wp2
      go_returns
      exact ⟨rfl, b3⟩)
end Go.Proofs.Ytppjjbjjbmodbaa
