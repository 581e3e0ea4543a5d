/-
  The law FnExactPadOrder returns true for every input, and what was in memory before the call reads as before: the frame round its walk.
  Conditions: none.
-/
import Derived.Test.YtbeaandjhlpaeaaPadOrder
namespace Go.Proofs.Ytbeaandjhlpaeaa.fnExactPadOrder
open Go.ChangeShapes Go.WideShapes Go.ChangeAt Go.RowKit
set_option linter.unusedVariables false

theorem walk (d : Int) (c : ByteArray) (d' : Int) (c' : ByteArray) (W : World) (_wd : (Lit.int .i64 d).wf = true) (wc : c.size ≤ maxLen) (_wd' : (Lit.int .i64 d').wf = true) (wc' : c'.size ≤ maxLen) :
    Calls Try.prog 4 #[.agg #[.int .i64 d, .string c], .agg #[.int .i64 d', .string c']] W fun e w' => e = .returned (.bool true) ∧ Below W.heap.size W w' := by
  by_cases hl : 1048576 - (c.size : Int) < 0
  · have HS := Lib.hid (subL_neg hl)
    go_enter Try.func4, Try.ntmps4
    go_wp2_with fail
    refine (szPad _ _ _ _ (by omega) (by omega) wc).mono ?_; rintro e w1 ⟨rfl, hb1⟩; rw [HS.out]
    go_wp2
    go_returns
    exact ⟨rfl, below_next (by go_grown) hb1⟩
  have HS := Lib.hid (subL_pos (left := 1048576) (n := c.size) (by omega))
  have hl0 : 0 ≤ 1048576 - (c.size : Int) := by omega
  clear hl
  by_cases hl' : 1048576 - (c.size : Int) - (c'.size : Int) < 0
  · have HS' := Lib.hid (subL_neg hl')
    go_enter Try.func4, Try.ntmps4
    go_wp2_with fail
    refine (szPad _ _ _ _ (by omega) (by omega) wc).mono ?_; rintro e w1 ⟨rfl, hb1⟩; rw [HS.out]
    have b1 : Below W.heap.size W w1 := below_next (by go_grown) hb1
    obtain ⟨p0, p1, q0, q1⟩ := box2 hb1
    go_wp2_with fail
    refine (szPad _ _ _ _ (by omega) (by omega) wc').mono ?_; rintro e w2 ⟨rfl, hb2⟩; rw [HS'.out]
    have b2 := below_next b1 hb2
    go_wp2
    go_returns
    exact ⟨rfl, b2⟩
  have HS' := Lib.hid (subL_pos (left := 1048576 - (c.size : Int)) (n := c'.size) (by omega))
  have hl1 : 0 ≤ 1048576 - (c.size : Int) - (c'.size : Int) := by omega
  clear hl'
  go_enter Try.func4, Try.ntmps4
  go_wp2_with fail
  refine (szPad _ _ _ _ (by omega) (by omega) wc).mono ?_; rintro e w1 ⟨rfl, hb1⟩; rw [HS.out]
  have b1 : Below W.heap.size W w1 := below_next (by go_grown) hb1
  obtain ⟨p0, p1, q0, q1⟩ := box2 hb1
  go_wp2_with fail
  refine (szPad _ _ _ _ (by omega) (by omega) wc').mono ?_; rintro e w2 ⟨rfl, hb2⟩; rw [HS'.out]
  have b2 := below_next b1 hb2; obtain ⟨p0, p1, q0, q1⟩ := keep4 hb2 p0 p1 q0 q1
  go_wp2_with fail
  have r0 := qcell p0; have r1 := qcell p1; have s0 := qcell q0; have s1 := qcell q1
  refine region_qb (by kernel_rfl) (by kernel_rfl) ?_
  repeat (quiet_step (first | (go_at_call 17; exact quietB (toPad _ _ _)) | (go_at_call 19; exact quietB (specPadOrder _ _ _ _ _ wc wc'))))
  refine wpQuiet_nil ?_
  intro w3 hb3; have b3 := below_next b2 hb3; obtain ⟨p0, p1, q0, q1⟩ := keep4 hb3 p0 p1 q0 q1
  clear r0 r1 s0 s1
  go_wp2_with fail
  have r0 := qcell p0; have r1 := qcell p1; have s0 := qcell q0; have s1 := qcell q1
  refine region_qb (by kernel_rfl) (by kernel_rfl) ?_
  repeat (quiet_step (first | (go_at_call 17; exact quietB (toPad _ _ _)) | (go_at_call 20; exact quietB (implPadOrder _ _ _ _ _ wc wc'))))
  refine wpQuiet_nil ?_
  intro w4 hb4; have b4 := below_next b3 hb4
  clear r0 r1 s0 s1
  go_wp2
  go_returns
  exact ⟨rfl, b4⟩

set_option maxRecDepth 100000 in
theorem lifted (os : Os) (started : os.Started) (H : Type) (enc : TypeId × Value → H) :
    ReturnsInHanded {} Try.checked os 4 .any (Rows.fnExactPadOrderSpec.pre6 enc Try.prog Try.f4 Rows.fnExactPadOrderRow.domain false) (Rows.fnExactPadOrderSpec.post enc Try.prog Try.f4 false true false false) := by
  refine returnsInHanded_of_change (C := Try.checked) own started (by kernel_rfl) Try.func4
    (ChangeSpec.witness6 (enc := enc) (C := Try.checked) false ⟨#[], #[.agg #[.int .i64 0, .string ByteArray.empty], .agg #[.int .i64 0, .string ByteArray.empty]], []⟩ 8 (by kernel_rfl) (by kernel_rfl) (by kernel_rfl) (by kernel_rfl)) ?_
  intro W base args ds gs before hval0 hW hcnd _
  have hval : ∀ (j : Nat) t v, Try.f4.params[j]? = some t → args[j]? = some v → Value.okWide Try.prog W .any base t v := hval0
  have hW' := hW
  obtain ⟨p, q, hA0, hV, rfl, hfz, hnd⟩ := hW
  have hA : DataW.TrodAll enc Try.prog W 0 (fun _ => true) true Try.f4.params.toList args.toList ds p := hA0
  rw [Try.params4] at hA hval
  obtain ⟨v0, vs0, d0, ds0, p0, q0, hargs, rfl, rfl, h0, r0⟩ := trodAll_cons hA
  obtain ⟨v1, vs1, d1, ds1, p1, q1, rfl, rfl, rfl, h1, r1⟩ := trodAll_cons r0
  obtain ⟨rfl, rfl, rfl⟩ := trodAll_nil r1
  obtain rfl : args = #[v0, v1] := by cases args; simp_all
  obtain ⟨rfl, rfl⟩ := trodVars_none hV
  have k0 := h0
  have lt0 : ∀ x ∈ p0, x.block < W.heap.size := by obtain ⟨m, hm⟩ := k0; exact DataW.trod_lt m _ _ _ hm
  obtain ⟨d_0, c_0, rfl, wd_0, wc_0⟩ := openPad (hval 0 23 v0 rfl rfl) h0
  have k1 := h1
  have lt1 : ∀ x ∈ p1, x.block < W.heap.size := by obtain ⟨m, hm⟩ := k1; exact DataW.trod_lt m _ _ _ hm
  obtain ⟨d_1, c_1, rfl, wd_1, wc_1⟩ := openPad (hval 1 23 v1 rfl rfl) h1
  clear hA0 hval0
  refine (walk d_0 c_0 d_1 c_1 W wd_0 wc_0 wd_1 wc_1).mono fun e W' ⟨he, bel⟩ => ?_
  subst he
  exact ⟨_, rfl, _, _, _, [], _, [], hW', trodAll_mk1 (shut_bool Try.underlying4 _), (trodAll_cons_mk (Below.trod laidOut (by kernel_rfl) (of_decide_eq_true (by kernel_rfl)) k0 bel lt0) (trodAll_cons_mk (Below.trod laidOut (by kernel_rfl) (of_decide_eq_true (by kernel_rfl)) k1 bel lt1) trodAll_mk0)), rfl, bel.frame _, fun h => by cases h⟩

theorem over : Rows.fnExactPadOrderRow.holds Try.pinned (OpenSpec.ofChange Rows.fnExactPadOrderSpec) :=
  OpenClaim.holds_of_wide 4 Try.f4 rfl rfl rfl rfl rfl rfl rfl ⟨rfl, rfl, rfl, rfl, rfl⟩ rfl rfl rfl rfl rfl (by kernel_rfl) Try.func4 (by kernel_rfl)
    (of_decide_eq_true (by kernel_rfl)) (by unfold Func.isWrapper; first | (rw [if_pos (by decide +kernel)]; kernel_rfl) | (rw [if_neg (by decide +kernel)]; exact ⟨rfl, rfl⟩))
    (fun os started H enc _ => lifted os started H enc)

theorem proved : Rows.FnExactPadOrderSaid := over
end Go.Proofs.Ytbeaandjhlpaeaa.fnExactPadOrder
