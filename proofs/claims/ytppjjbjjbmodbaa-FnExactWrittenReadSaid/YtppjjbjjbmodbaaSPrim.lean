/-
  Contracts of the functions on one stroke: validity, the pen's number, the text. Conditions: none but validity.
-/
import Derived.Test.YtppjjbjjbmodbaaSOpen
import Derived.Test.YtppjjbjjbmodbaaDec
import Derived.Test.YtppjjbjjbmodbaaBase
namespace Go.Proofs.Ytppjjbjjbmodbaa
open Go.ChangeShapes Go.WideShapes Go.ChangeAt Go.RowKit
set_option maxRecDepth 100000

theorem toStroke (d z : Int) (w : World) : Calls Try.prog 95 #[.agg #[.int .i64 d, .int .i64 z]] w fun e w' => e = .returned (.agg #[.int .i64 d, .int .i64 z]) ∧ Below w.heap.size w w' := by
  go_enter Try.func95, Try.ntmps95
  go_wp2
  go_returns
  exact ⟨rfl, by go_grown⟩

theorem specStrokeValid (d z : Int) (w : World) : Calls Try.prog 83 #[.agg #[.int .i64 d, .int .i64 z]] w fun e w' => e = .returned (.bool (okS ⟨d, z⟩)) ∧ Below w.heap.size w w' := by
  by_cases hd : 0 ≤ d ∧ d ≤ 7
  · have hr : okS ⟨d, z⟩ = decide (1 ≤ z ∧ z ≤ 3) := by unfold okS; rw [decide_eq_true hd]; rfl
    have HR := Lib.hid hr; clear hr
    obtain ⟨hd1, hd2⟩ := hd
    go_enter Try.func83, Try.ntmps83
    go_wp2_with (go_at_call 89; refine (l6In_any _ _ _ _).mono ?_; rintro e w' ⟨rfl, rfl⟩)
    go_returns
    exact ⟨ret_bool (by rw [HR.out, Bool.decide_and]), by go_grown⟩
  · have hr : okS ⟨d, z⟩ = false := by unfold okS; rw [decide_eq_false hd]; rfl
    have HR := Lib.hid hr; clear hr
    have hdd : decide (0 ≤ d ∧ d ≤ 7) = false := decide_eq_false hd
    go_enter Try.func83, Try.ntmps83
    go_wp2_with (go_at_call 89; refine (l6In_any _ _ _ _).mono ?_; rintro e w' ⟨rfl, rfl⟩)
    go_returns
    exact ⟨ret_bool (by rw [HR.out]), by go_grown⟩

theorem implStrokeValid (d z : Int) (w : World) : Calls Try.prog 102 #[.agg #[.int .i64 d, .int .i64 z]] w fun e w' => e = .returned (.bool (okS ⟨d, z⟩)) ∧ Below w.heap.size w w' := by
  by_cases h : 0 ≤ d ∧ d ≤ 7 ∧ 1 ≤ z ∧ z ≤ 3
  · have HR := Lib.hid ((okS_iff (s := ⟨d, z⟩)).2 h)
    obtain ⟨h1, h2, h3, h4⟩ := h
    go_enter Try.func102, Try.ntmps102
    go_wp2
    go_returns
    exact ⟨ret_bool (by rw [HR.out]), by go_grown⟩
  · have HR := Lib.hid ((okS_not (s := ⟨d, z⟩)).2 h)
    by_cases h1 : 0 ≤ d
    · by_cases h2 : d ≤ 7
      · by_cases h3 : 1 ≤ z
        · have h4 : ¬ z ≤ 3 := by omega
          clear h
          go_enter Try.func102, Try.ntmps102
          go_wp2
          go_returns
          exact ⟨ret_bool (by rw [HR.out]), by go_grown⟩
        · clear h
          go_enter Try.func102, Try.ntmps102
          go_wp2
          go_returns
          exact ⟨ret_bool (by rw [HR.out]), by go_grown⟩
      · clear h
        go_enter Try.func102, Try.ntmps102
        go_wp2
        go_returns
        exact ⟨ret_bool (by rw [HR.out]), by go_grown⟩
    · clear h
      go_enter Try.func102, Try.ntmps102
      go_wp2
      go_returns
      exact ⟨ret_bool (by rw [HR.out]), by go_grown⟩

/-- A stroke as one number. -/
def penN (s : Stroke) : Int := s.dir * 3 + s.size - 1
theorem penN_bd {s : Stroke} (h : okS s = true) : 0 ≤ penN s ∧ penN s ≤ 23 := by have := okS_iff.1 h; unfold penN; omega
theorem penN_dir {s : Stroke} (h : okS s = true) : penN s / 3 = s.dir := by have := okS_iff.1 h; unfold penN; omega
theorem penN_size {s : Stroke} (h : okS s = true) : penN s % 3 + 1 = s.size := by have := okS_iff.1 h; unfold penN; omega

theorem penOf (s : Stroke) (h : okS s = true) (w : World) : Calls Try.prog 109 #[.agg #[.int .i64 s.dir, .int .i64 s.size]] w fun e w' => e = .returned (.int .i64 (penN s)) ∧ Below w.heap.size w w' := by
  obtain ⟨h1, h2, h3, h4⟩ := okS_iff.1 h
  have HR : Hid (penN s = s.dir * 3 + s.size - 1) := Lib.hid rfl
  clear h
  go_enter Try.func109, Try.ntmps109
  go_wp2
  go_returns
  exact ⟨ret_int (by rw [HR.out]), by go_grown⟩
theorem penDir (s : Stroke) (h : okS s = true) (w : World) : Calls Try.prog 116 #[.int .i64 (penN s)] w fun e w' => e = .returned (.int .i64 s.dir) ∧ w = w' := by
  obtain ⟨h1, h2⟩ := penN_bd h
  have HR := Lib.hid (penN_dir h)
  clear h
  generalize penN s = p at *
  go_enter Try.func116, Try.ntmps116
  go_wp2
  go_ret
  exact ⟨ret_int HR.out, rfl⟩
theorem specStrokeText (s : Stroke) (w : World) : Calls Try.prog 106 #[.agg #[.int .i64 s.dir, .int .i64 s.size]] w fun e w' => e = .returned (.string (mkStr (if okS s = true then sText s else []))) ∧ Below w.heap.size w w' := by
  have HV := Lib.hid (fun w => specStrokeValid s.dir s.size w)
  have hal : Below w.heap.size w (w.alloc (.cells #[.int .i64 s.dir, .int .i64 s.size] 99)) := (Below.refl _ _).alloc (Nat.le_refl _) _
  have p0 := newcell w #[.int .i64 s.dir, .int .i64 s.size] 99 0 _ rfl
  have p1 := newcell w #[.int .i64 s.dir, .int .i64 s.size] 99 1 _ rfl
  cases ho : okS s with
  | false =>
    have HO : Hid (okS ⟨s.dir, s.size⟩ = false) := Lib.hid ho
    clear ho
    go_enter Try.func106, Try.ntmps106
    go_wp2_with fail
    refine (HV.out _).mono ?_
    rw [HO.out]
    rintro e w1 ⟨rfl, hb1⟩
    have b1 := below_next hal hb1
    go_wp2
    go_returns
    exact ⟨rfl, b1⟩
  | true =>
    have HO : Hid (okS ⟨s.dir, s.size⟩ = true) := Lib.hid ho
    obtain ⟨h1, h2, h3, h4⟩ := okS_iff.1 ho
    have HD := Lib.hid (fun w => l6DecDigit s.dir w h1 (by omega))
    have hA : ∀ W, (Op.stringOp .add (mkStr [UInt8.ofNat (48 + s.dir).toNat]) (mkStr [sizeL s.size])).run Try.prog W = .ok (.string (mkStr (sText s))) W := fun W => run_add _ _ (by simp) W
    have hz : s.size = 1 ∨ s.size = 2 ∨ s.size = 3 := by omega
    clear ho
    generalize sText s = t at *
    obtain ⟨d, z⟩ := s
    simp only at h1 h2 h3 h4 hz HD hA HO HV p0 p1 hal
    generalize mkStr [UInt8.ofNat (48 + d).toNat] = u at *
    have x1 : (⟨#[115, 109, 108]⟩ : ByteArray).extract 0 1 = mkStr [sizeL 1] := rfl
    have x2 : (⟨#[115, 109, 108]⟩ : ByteArray).extract 1 2 = mkStr [sizeL 2] := rfl
    have x3 : (⟨#[115, 109, 108]⟩ : ByteArray).extract 2 3 = mkStr [sizeL 3] := rfl
    rcases hz with rfl | rfl | rfl
    all_goals (
      go_enter Try.func106, Try.ntmps106
      go_wp2_with fail
      refine (HV.out _).mono ?_
      rw [HO.out]
      rintro e w1 ⟨rfl, hb1⟩
      have b1 := below_next hal hb1
      have q0 := kcell hb1 p0; have q1 := kcell hb1 p1
      have r0 := qcell q0; have r1 := qcell q1
      have e0 : IntKind.i64.wrap 0 = 0 := rfl
      have e1 : IntKind.i64.wrap 1 = 1 := rfl
      have e2 : IntKind.i64.wrap 2 = 2 := rfl
      clear hb1
      go_wp2_with fail
      refine region_qb (by kernel_rfl) (by kernel_rfl) ?_
      repeat (first | go_big_quiet_step ((go_at_call 112; exact quietB (HD.out _))) | quiet_step ((go_at_call 112; exact quietB (HD.out _))))
      refine wpQuiet_nil ?_
      intro w3 hb3
      have b3 := below_next b1 hb3
      clear r0 r1 q0 q1 hb3
      go_wp2
      go_returns
      exact ⟨rfl, b3⟩)

end Go.Proofs.Ytppjjbjjbmodbaa
