/-
  The law FnExactPadValid returns true for every input, and what was in memory before the call reads as before: the frame round its walk.
  Conditions: none.
-/
import Derived.Test.YtbeaandjhlpaeaaPad
import Derived.Test.YtbeaandjhlpaeaaOpen
namespace Go.Proofs.Ytbeaandjhlpaeaa.fnExactPadValid
open Go.ChangeShapes Go.WideShapes Go.ChangeAt Go.RowKit
set_option linter.unusedVariables false

theorem walk (d : Int) (c : ByteArray) (W : World) (_wd : (Lit.int .i64 d).wf = true) (wc : c.size ≤ maxLen) :
    Calls Try.prog 3 #[.agg #[.int .i64 d, .string c]] W fun e w' => e = .returned (.bool true) ∧ Below W.heap.size W w' := by
  by_cases hl : 1048576 - (c.size : Int) < 0
  · have HS := Lib.hid (subL_neg hl)
    go_enter Try.func3, Try.ntmps3
    go_wp2_with (go_at_call 15; refine (szPad _ _ _ _ (by omega) (by omega) wc).mono ?_; rintro e w1 ⟨rfl, hb1⟩; rw [HS.out])
    go_returns
    exact ⟨rfl, below_next (by go_grown) hb1⟩
  · have HS := Lib.hid (subL_pos (left := 1048576) (n := c.size) (by omega))
    go_enter Try.func3, Try.ntmps3
    go_wp2_with (go_at_call 15; refine (szPad _ _ _ _ (by omega) (by omega) wc).mono ?_; rintro e w1 ⟨rfl, hb1⟩; rw [HS.out]; have b1 : Below W.heap.size W w1 := below_next (by go_grown) hb1; have h10 := kcell hb1 (newcell W _ _ 0 _ rfl); have h11 := kcell hb1 (newcell W _ _ 1 _ rfl))
    go_wp2_with (go_at_call 17; refine (toPad _ _ _).mono ?_; rintro e w2 ⟨rfl, hb2⟩; have b2 := below_next b1 hb2; have h20 := kcell hb2 h10; have h21 := kcell hb2 h11)
    go_wp2_with (go_at_call 16; refine (specPadValid _ _ _ wc).mono ?_; rintro e w3 ⟨rfl, hb3⟩; have b3 := below_next b2 hb3; have h30 := kcell hb3 h20; have h31 := kcell hb3 h21)
    go_wp2_with (go_at_call 17; refine (toPad _ _ _).mono ?_; rintro e w4 ⟨rfl, hb4⟩; have b4 := below_next b3 hb4; have h40 := kcell hb4 h30; have h41 := kcell hb4 h31)
    go_wp2_with (go_at_call 18; refine (implPadValid _ _ _ wc).mono ?_; rintro e w5 ⟨rfl, hb5⟩; have b5 := below_next b4 hb5)
    go_returns
    exact ⟨rfl, b5⟩

set_option maxRecDepth 100000 in
theorem lifted (os : Os) (started : os.Started) (H : Type) (enc : TypeId × Value → H) :
    ReturnsInHanded {} Try.checked os 3 .any (Rows.fnExactPadValidSpec.pre6 enc Try.prog Try.f3 Rows.fnExactPadValidRow.domain false) (Rows.fnExactPadValidSpec.post enc Try.prog Try.f3 false true false false) := by
  refine returnsInHanded_of_change (C := Try.checked) own started (by kernel_rfl) Try.func3
    (ChangeSpec.witness6 (enc := enc) (C := Try.checked) false ⟨#[], #[.agg #[.int .i64 0, .string ByteArray.empty]], []⟩ 8 (by kernel_rfl) (by kernel_rfl) (by kernel_rfl) (by kernel_rfl)) ?_
  intro W base args ds gs before hval0 hW hcnd _
  have hval : ∀ (j : Nat) t v, Try.f3.params[j]? = some t → args[j]? = some v → Value.okWide Try.prog W .any base t v := hval0
  have hW' := hW
  obtain ⟨p, q, hA0, hV, rfl, hfz, hnd⟩ := hW
  have hA : DataW.TrodAll enc Try.prog W 0 (fun _ => true) true Try.f3.params.toList args.toList ds p := hA0
  rw [Try.params3] at hA hval
  obtain ⟨v0, vs0, d0, ds0, p0, q0, hargs, rfl, rfl, h0, r0⟩ := trodAll_cons hA
  obtain ⟨rfl, rfl, rfl⟩ := trodAll_nil r0
  obtain rfl : args = #[v0] := by cases args; simp_all
  obtain ⟨rfl, rfl⟩ := trodVars_none hV
  have k0 := h0
  have lt0 : ∀ x ∈ p0, x.block < W.heap.size := by obtain ⟨m, hm⟩ := k0; exact DataW.trod_lt m _ _ _ hm
  obtain ⟨d_0, c_0, rfl, wd_0, wc_0⟩ := openPad (hval 0 23 v0 rfl rfl) h0
  clear hA0 hval0
  refine (walk d_0 c_0 W wd_0 wc_0).mono fun e W' ⟨he, bel⟩ => ?_
  subst he
  exact ⟨_, rfl, _, _, _, [], _, [], hW', trodAll_mk1 (shut_bool Try.underlying4 _), (trodAll_cons_mk (Below.trod laidOut (by kernel_rfl) (of_decide_eq_true (by kernel_rfl)) k0 bel lt0) trodAll_mk0), rfl, bel.frame _, fun h => by cases h⟩

theorem over : Rows.fnExactPadValidRow.holds Try.pinned (OpenSpec.ofChange Rows.fnExactPadValidSpec) :=
  OpenClaim.holds_of_wide 3 Try.f3 rfl rfl rfl rfl rfl rfl rfl ⟨rfl, rfl, rfl, rfl, rfl⟩ rfl rfl rfl rfl rfl (by kernel_rfl) Try.func3 (by kernel_rfl)
    (of_decide_eq_true (by kernel_rfl)) (by unfold Func.isWrapper; first | (rw [if_pos (by decide +kernel)]; kernel_rfl) | (rw [if_neg (by decide +kernel)]; exact ⟨rfl, rfl⟩))
    (fun os started H enc _ => lifted os started H enc)

theorem proved : Rows.FnExactPadValidSaid := over
end Go.Proofs.Ytbeaandjhlpaeaa.fnExactPadValid
