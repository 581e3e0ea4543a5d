/-
  The law FnExactOutlineText returns true for every input, and what was in memory before the call reads as before: the frame round its walk.
  Conditions: none.
-/
import Derived.Test.YtdejgnlmofgdjaaSLaw
import Derived.Test.YtdejgnlmofgdjaaOutText
namespace Go.Proofs.Ytdejgnlmofgdjaa.fnExactOutlineText
open Go.ChangeShapes Go.WideShapes Go.ChangeAt Go.RowKit
set_option linter.unusedVariables false

set_option maxRecDepth 100000 in
theorem walk (A : Option Addr) (n c : Nat) (ss : List Stroke) (W : World) (R : StrokesIn W W.heap.size A n c ss) :
    Calls Try.prog 5 #[.slice A n c] W fun e w' => e = .returned (.bool true) ∧ Below W.heap.size W w' := by
  have HR : Hid (∀ w, Below W.heap.size W w → StrokesIn w w.heap.size A n c ss) := Lib.hid (fun w h => R.keep h)
  have hnc := R.2.1; have hm := R.2.2.1
  have hlen := Lib.hid R.1
  have HG := Lib.hid R.2.2.2.2
  clear R
  go_enter Try.func5, Try.ntmps5
  go_wp2_with fail
  refine (szStrokeS A n c 1048576 W (by omega) (by omega) hm hnc).mono ?_
  rintro e w1 ⟨r, rfl, hr, rfl⟩
  by_cases hneg : r < 0
  · go_wp2
    go_returns
    exact ⟨rfl, Below.refl _ _⟩
  have hpos : 0 ≤ r := by omega
  have hn : n ≤ 1048576 := by rcases hr with h | h <;> omega
  have hmx : n ≤ maxLen := Nat.le_trans hnc hm
  clear hneg hr
  go_wp2_with fail
  refine (toStrokeS A n c ss W hn (HR.out W (Below.refl _ _))).mono ?_
  rintro e w1 ⟨rfl, hB1, b1⟩
  have HS1 := Lib.hid (StrokesIn.ofBlk hB1 hlen.out hmx HG.out)
  clear hB1
  go_wp2_with fail
  refine (specOutlineText _ n n ss w1 HS1.out).mono ?_
  rintro e w2 ⟨rfl, hb2⟩
  have b2 := below_next b1 hb2
  clear hb2 HS1
  go_wp2_with fail
  refine (toStrokeS A n c ss w2 hn (HR.out w2 b2)).mono ?_
  rintro e w3 ⟨rfl, hB3, hb3⟩
  have b3 := below_next b2 hb3
  have HS3 := Lib.hid (StrokesIn.ofBlk hB3 hlen.out hmx HG.out)
  clear hB3 hb3
  go_wp2_with fail
  refine (implOutlineText _ n n ss w3 HS3.out).mono ?_
  rintro e w4 ⟨rfl, hb4⟩
  have b4 := below_next b3 hb4
  have HS4 := Lib.hid (HS3.out.keep hb4)
  clear hb4 HS3
  generalize mkStr (outText ss) = t at *
  have hne : (t.toList != t.toList) = false := by simp
  go_wp2_with fail
  refine (toStrokeS A n c ss w4 hn (HR.out w4 b4)).mono ?_
  rintro e w5 ⟨rfl, hB5, hb5⟩
  have b5 := below_next b4 hb5
  have HS5 := Lib.hid (HS4.out.keep hb5)
  have HT5 := Lib.hid (StrokesIn.ofBlk hB5 hlen.out hmx HG.out)
  clear hB5 hb5 HS4
  go_wp2_with fail
  refine (eqStrokeS _ _ n n n ss w5 HS5.out HT5.out).mono ?_
  rintro e w6 ⟨rfl, hb6⟩
  have b6 := below_next b5 hb6
  go_wp2
  go_returns
  exact ⟨rfl, b6⟩

set_option maxRecDepth 100000 in
theorem lifted (os : Os) (started : os.Started) (H : Type) (enc : TypeId × Value → H) :
    ReturnsInHanded {} Try.checked os 5 .any (Rows.fnExactOutlineTextSpec.pre6 enc Try.prog Try.f5 Rows.fnExactOutlineTextRow.domain false) (Rows.fnExactOutlineTextSpec.post enc Try.prog Try.f5 false true false false) := by
  refine returnsInHanded_of_change (C := Try.checked) own started (by kernel_rfl) Try.func5
    (ChangeSpec.witness6 (enc := enc) (C := Try.checked) false ⟨#[], #[.slice none 0 0], []⟩ 8 (by kernel_rfl) (by kernel_rfl) (by kernel_rfl) (by kernel_rfl)) ?_
  intro W base args ds gs before hval0 hW hcnd _
  have hval : ∀ (j : Nat) t v, Try.f5.params[j]? = some t → args[j]? = some v → Value.okWide Try.prog W .any base t v := hval0
  have hW' := hW
  obtain ⟨p, q, hA0, hV, rfl, hfz, hnd⟩ := hW
  have hA : DataW.TrodAll enc Try.prog W 0 (fun _ => true) true Try.f5.params.toList args.toList ds p := hA0
  rw [Try.params5] at hA hval
  obtain ⟨v0, vs0, d0, ds0, p0, q0, hargs, rfl, rfl, h0, r0⟩ := trodAll_cons hA
  obtain ⟨rfl, rfl, rfl⟩ := trodAll_nil r0
  obtain rfl : args = #[v0] := by cases args; simp_all
  obtain ⟨rfl, rfl⟩ := trodVars_none hV
  have k0 := h0
  have lt0 : ∀ x ∈ p0, x.block < W.heap.size := by obtain ⟨m, hm⟩ := k0; exact DataW.trod_lt m _ _ _ hm
  obtain ⟨A_0, n_0, c_0, ss_0, rfl, R_0⟩ := openStrokes (hval 0 36 v0 rfl rfl) h0
  clear hA0 hval0
  refine (walk A_0 n_0 c_0 ss_0 W R_0).mono fun e W' ⟨he, bel⟩ => ?_
  subst he
  exact ⟨_, rfl, _, _, _, [], _, [], hW', trodAll_mk1 (shut_bool Try.underlying4 _), (trodAll_cons_mk (Below.trod laidOut (by kernel_rfl) (of_decide_eq_true (by kernel_rfl)) k0 bel lt0) trodAll_mk0), rfl, bel.frame _, fun h => by cases h⟩

theorem over : Rows.fnExactOutlineTextRow.holds Try.pinned (OpenSpec.ofChange Rows.fnExactOutlineTextSpec) :=
  OpenClaim.holds_of_wide 5 Try.f5 rfl rfl rfl rfl rfl rfl rfl ⟨rfl, rfl, rfl, rfl, rfl⟩ rfl rfl rfl rfl rfl (by kernel_rfl) Try.func5 (by kernel_rfl)
    (of_decide_eq_true (by kernel_rfl)) (by unfold Func.isWrapper; first | (rw [if_pos (by decide +kernel)]; kernel_rfl) | (rw [if_neg (by decide +kernel)]; exact ⟨rfl, rfl⟩))
    (fun os started H enc _ => lifted os started H enc)

theorem proved : Rows.FnExactOutlineTextSaid := over
end Go.Proofs.Ytdejgnlmofgdjaa.fnExactOutlineText
