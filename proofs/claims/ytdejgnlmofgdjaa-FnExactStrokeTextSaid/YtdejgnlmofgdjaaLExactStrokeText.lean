/-
  The law FnExactStrokeText returns true for every input, and what was in memory before the call reads as before: the frame round its walk.
  Conditions: none.
-/
import Derived.Test.YtdejgnlmofgdjaaSPrim
namespace Go.Proofs.Ytdejgnlmofgdjaa.fnExactStrokeText
open Go.ChangeShapes Go.WideShapes Go.ChangeAt Go.RowKit
set_option linter.unusedVariables false

set_option maxRecDepth 100000 in
theorem walk (d z : Int) (W : World) (_wd : (Lit.int .i64 d).wf = true) (_wz : (Lit.int .i64 z).wf = true) :
    Calls Try.prog 3 #[.agg #[.int .i64 d, .int .i64 z]] W fun e w' => e = .returned (.bool true) ∧ Below W.heap.size W w' := by
  have hal : Below W.heap.size W (W.alloc (.cells #[.int .i64 d, .int .i64 z] 23)) := (Below.refl _ _).alloc (Nat.le_refl _) _
  have p0 := newcell W #[.int .i64 d, .int .i64 z] 23 0 _ rfl
  have p1 := newcell W #[.int .i64 d, .int .i64 z] 23 1 _ rfl
  have HS := Lib.hid (fun w => specStrokeText ⟨d, z⟩ w)
  have HI := Lib.hid (fun w => implStrokeText ⟨d, z⟩ w)
  generalize mkStr (if okS ⟨d, z⟩ = true then sText ⟨d, z⟩ else []) = t at *
  go_enter Try.func3, Try.ntmps3
  go_wp2_with fail
  refine (toStroke d z _).mono ?_
  rintro e w1 ⟨rfl, hb1⟩
  have b1 := below_next hal hb1
  have q0 := kcell hb1 p0; have q1 := kcell hb1 p1
  clear hb1 p0 p1
  go_wp2_with fail
  refine (HS.out _).mono ?_
  rintro e w2 ⟨rfl, hb2⟩
  have b2 := below_next b1 hb2
  have p0 := kcell hb2 q0; have p1 := kcell hb2 q1
  clear hb2 q0 q1
  go_wp2_with fail
  refine (toStroke d z _).mono ?_
  rintro e w3 ⟨rfl, hb3⟩
  have b3 := below_next b2 hb3
  clear hb3
  go_wp2_with fail
  refine (HI.out _).mono ?_
  rintro e w4 ⟨rfl, hb4⟩
  have b4 := below_next b3 hb4
  have hne : (t.toList != t.toList) = false := by simp
  go_wp2
  go_returns
  exact ⟨rfl, b4⟩

set_option maxRecDepth 100000 in
theorem lifted (os : Os) (started : os.Started) (H : Type) (enc : TypeId × Value → H) :
    ReturnsInHanded {} Try.checked os 3 .any (Rows.fnExactStrokeTextSpec.pre6 enc Try.prog Try.f3 Rows.fnExactStrokeTextRow.domain false) (Rows.fnExactStrokeTextSpec.post enc Try.prog Try.f3 false true false false) := by
  refine returnsInHanded_of_change (C := Try.checked) own started (by kernel_rfl) Try.func3
    (ChangeSpec.witness6 (enc := enc) (C := Try.checked) false ⟨#[], #[.agg #[.int .i64 0, .int .i64 0]], []⟩ 8 (by kernel_rfl) (by kernel_rfl) (by kernel_rfl) (by kernel_rfl)) ?_
  intro W base args ds gs before hval0 hW hcnd _
  have hval : ∀ (j : Nat) t v, Try.f3.params[j]? = some t → args[j]? = some v → Value.okWide Try.prog W .any base t v := hval0
  have hW' := hW
  obtain ⟨p, q, hA0, hV, rfl, hfz, hnd⟩ := hW
  have hA : DataW.TrodAll enc Try.prog W 0 (fun _ => true) true Try.f3.params.toList args.toList ds p := hA0
  rw [Try.params3] at hA hval
  obtain ⟨v0, vs0, d0, ds0, p0, q0, hargs, rfl, rfl, h0, r0⟩ := trodAll_cons hA
  obtain ⟨rfl, rfl, rfl⟩ := trodAll_nil r0
  obtain rfl : args = #[v0] := by cases args; simp_all
  obtain ⟨rfl, rfl⟩ := trodVars_none hV
  have k0 := h0
  have lt0 : ∀ x ∈ p0, x.block < W.heap.size := by obtain ⟨m, hm⟩ := k0; exact DataW.trod_lt m _ _ _ hm
  obtain ⟨d_0, s_0, rfl, wd_0, ws_0⟩ := openStroke (hval 0 23 v0 rfl rfl) h0
  clear hA0 hval0
  refine (walk d_0 s_0 W wd_0 ws_0).mono fun e W' ⟨he, bel⟩ => ?_
  subst he
  exact ⟨_, rfl, _, _, _, [], _, [], hW', trodAll_mk1 (shut_bool Try.underlying4 _), (trodAll_cons_mk (Below.trod laidOut (by kernel_rfl) (of_decide_eq_true (by kernel_rfl)) k0 bel lt0) trodAll_mk0), rfl, bel.frame _, fun h => by cases h⟩

theorem over : Rows.fnExactStrokeTextRow.holds Try.pinned (OpenSpec.ofChange Rows.fnExactStrokeTextSpec) :=
  OpenClaim.holds_of_wide 3 Try.f3 rfl rfl rfl rfl rfl rfl rfl ⟨rfl, rfl, rfl, rfl, rfl⟩ rfl rfl rfl rfl rfl (by kernel_rfl) Try.func3 (by kernel_rfl)
    (of_decide_eq_true (by kernel_rfl)) (by unfold Func.isWrapper; first | (rw [if_pos (by decide +kernel)]; kernel_rfl) | (rw [if_neg (by decide +kernel)]; exact ⟨rfl, rfl⟩))
    (fun os started H enc _ => lifted os started H enc)

theorem proved : Rows.FnExactStrokeTextSaid := over
end Go.Proofs.Ytdejgnlmofgdjaa.fnExactStrokeText
