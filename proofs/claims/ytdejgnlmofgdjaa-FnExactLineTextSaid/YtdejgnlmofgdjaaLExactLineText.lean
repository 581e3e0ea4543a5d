/-
  The law FnExactLineText returns true for every input, and what was in memory before the call reads as before: the frame round its walk.
  Conditions: none.
-/
import Derived.Test.YtdejgnlmofgdjaaWLaw2
import Derived.Test.YtdejgnlmofgdjaaLine
namespace Go.Proofs.Ytdejgnlmofgdjaa.fnExactLineText
open Go.ChangeShapes Go.WideShapes Go.ChangeAt Go.RowKit
set_option linter.unusedVariables false

set_option maxRecDepth 100000 in
set_option maxHeartbeats 800000 in
theorem walk (A : Option Addr) (n c : Nat) (xs : List Wr) (W : World) (R : WrsIn W W.heap.size A n c xs) :
    Calls Try.prog 11 #[.slice A n c] W fun e w' => e = .returned (.bool true) ∧ Below W.heap.size W w' := by
  have HR : Hid (∀ w, Below W.heap.size W w → WrsIn w w.heap.size A n c xs) := Lib.hid (fun w h => R.keep h)
  have hlen := Lib.hid R.1
  clear R
  go_enter Try.func11, Try.ntmps11
  go_wp2_with fail
  refine (szWrittenS A n c xs 1048576 W (by omega) (by omega) (HR.out W (Below.refl _ _))).mono ?_
  rintro e w1 ⟨r, rfl, hr, b1⟩
  by_cases hneg : r < 0
  · go_wp2
    go_returns
    exact ⟨rfl, b1⟩
  have hpos : 0 ≤ r := by omega
  have hn : n + lineSz xs ≤ 1048576 := by rcases hr with h | h <;> omega
  have HN := Lib.hid hn
  clear hneg hr hn
  go_wp2_with fail
  refine (toWrittenS A n c xs w1 HN.out (HR.out w1 b1)).mono ?_
  rintro e w2 ⟨x2, rfl, hX2, hd2, hb2⟩
  have b2 := below_next b1 hb2
  have HX2 := Lib.hid hX2
  have HS2 := Lib.hid (specLineText _ n n x2 w2 hX2)
  rw [hd2] at HS2
  clear hX2 hd2 hb2
  go_wp2_with fail
  refine HS2.out.mono ?_
  rintro e w3 ⟨rfl, hb3⟩
  have b3 := below_next b2 hb3
  clear hb3 HS2 HX2
  go_wp2_with fail
  refine (toWrittenS A n c xs w3 HN.out (HR.out w3 b3)).mono ?_
  rintro e w4 ⟨x4, rfl, hX4, hd4, hb4⟩
  have b4 := below_next b3 hb4
  have HX4 := Lib.hid hX4; have HD4 := Lib.hid hd4
  have HS4 := Lib.hid (implLineText _ n n x4 w4 hX4)
  rw [hd4] at HS4
  clear hX4 hd4 hb4
  go_wp2_with fail
  refine HS4.out.mono ?_
  rintro e w5 ⟨rfl, hb5⟩
  have b5 := below_next b4 hb5
  have HX5 := Lib.hid (HX4.out.keep hb5)
  clear hb5 HS4 HX4
  generalize mkStr (lineText (xs.map Wr.dat)) = t at *
  have hne : (t.toList != t.toList) = false := by simp
  go_wp2_with fail
  refine (toWrittenS A n c xs w5 HN.out (HR.out w5 b5)).mono ?_
  rintro e w6 ⟨x6, rfl, hX6, hd6, hb6⟩
  have b6 := below_next b5 hb6
  have HX6 := Lib.hid (HX5.out.keep hb6)
  have HE := Lib.hid (eqWrittenS _ _ n n n x4 x6 w6 (by rw [HD4.out, hd6]) HX6.out hX6)
  clear hX6 hd6 hb6 HX5
  go_wp2_with fail
  refine HE.out.mono ?_
  rintro e w7 ⟨rfl, hb7⟩
  have b7 := below_next b6 hb7
  go_wp2
  go_returns
  exact ⟨rfl, b7⟩

set_option maxRecDepth 100000 in
theorem lifted (os : Os) (started : os.Started) (H : Type) (enc : TypeId × Value → H) :
    ReturnsInHanded {} Try.checked os 11 .any (Rows.fnExactLineTextSpec.pre6 enc Try.prog Try.f11 Rows.fnExactLineTextRow.domain false) (Rows.fnExactLineTextSpec.post enc Try.prog Try.f11 false true false false) := by
  refine returnsInHanded_of_change (C := Try.checked) own started (by kernel_rfl) Try.func11
    (ChangeSpec.witness6 (enc := enc) (C := Try.checked) false ⟨#[], #[.slice none 0 0], []⟩ 8 (by kernel_rfl) (by kernel_rfl) (by kernel_rfl) (by kernel_rfl)) ?_
  intro W base args ds gs before hval0 hW hcnd _
  have hval : ∀ (j : Nat) t v, Try.f11.params[j]? = some t → args[j]? = some v → Value.okWide Try.prog W .any base t v := hval0
  have hW' := hW
  obtain ⟨p, q, hA0, hV, rfl, hfz, hnd⟩ := hW
  have hA : DataW.TrodAll enc Try.prog W 0 (fun _ => true) true Try.f11.params.toList args.toList ds p := hA0
  rw [Try.params11] at hA hval
  obtain ⟨v0, vs0, d0, ds0, p0, q0, hargs, rfl, rfl, h0, r0⟩ := trodAll_cons hA
  obtain ⟨rfl, rfl, rfl⟩ := trodAll_nil r0
  obtain rfl : args = #[v0] := by cases args; simp_all
  obtain ⟨rfl, rfl⟩ := trodVars_none hV
  have k0 := h0
  have lt0 : ∀ x ∈ p0, x.block < W.heap.size := by obtain ⟨m, hm⟩ := k0; exact DataW.trod_lt m _ _ _ hm
  obtain ⟨A_0, n_0, c_0, ws_0, rfl, R_0⟩ := openWrittens (hval 0 58 v0 rfl rfl) h0
  clear hA0 hval0
  refine (walk A_0 n_0 c_0 ws_0 W R_0).mono fun e W' ⟨he, bel⟩ => ?_
  subst he
  exact ⟨_, rfl, _, _, _, [], _, [], hW', trodAll_mk1 (shut_bool Try.underlying4 _), (trodAll_cons_mk (Below.trod laidOut (by kernel_rfl) (of_decide_eq_true (by kernel_rfl)) k0 bel lt0) trodAll_mk0), rfl, bel.frame _, fun h => by cases h⟩

theorem over : Rows.fnExactLineTextRow.holds Try.pinned (OpenSpec.ofChange Rows.fnExactLineTextSpec) :=
  OpenClaim.holds_of_wide 11 Try.f11 rfl rfl rfl rfl rfl rfl rfl ⟨rfl, rfl, rfl, rfl, rfl⟩ rfl rfl rfl rfl rfl (by kernel_rfl) Try.func11 (by kernel_rfl)
    (of_decide_eq_true (by kernel_rfl)) (by unfold Func.isWrapper; first | (rw [if_pos (by decide +kernel)]; kernel_rfl) | (rw [if_neg (by decide +kernel)]; exact ⟨rfl, rfl⟩))
    (fun os started H enc _ => lifted os started H enc)

theorem proved : Rows.FnExactLineTextSaid := over
end Go.Proofs.Ytdejgnlmofgdjaa.fnExactLineText
