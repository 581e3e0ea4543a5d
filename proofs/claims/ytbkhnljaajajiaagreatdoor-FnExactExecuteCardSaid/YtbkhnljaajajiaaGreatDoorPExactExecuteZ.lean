/-
  The law FnExactExecute returns true for every input, and what was in memory before the call reads as before: the frame round its walk.
  Conditions: none.
-/
import Derived.Test.YtbkhnljaajajiaaGreatDoorPExactExecute30
import Derived.Test.YtbkhnljaajajiaaGreatDoorPExactExecute36
import Derived.Test.YtbkhnljaajajiaaGreatDoorTie
import Derived.Test.YtbkhnljaajajiaaGreatDoorCards
import Derived.JoinedCond
import Derived.SevenTiedAt
set_option maxRecDepth 100000
set_option linter.unusedSimpArgs false
set_option linter.unusedVariables false
set_option linter.unnecessarySimpa false
namespace Go.Proofs.YtbkhnljaajajiaaGreatDoor.fnExactExecute
open Go.ChangeShapes Go.WideShapes Go.ChangeAt Go.RowKit
theorem walk (s : ByteArray) (W : World) (_ws : s.size ≤ maxLen) (HLd : laidMet Tryz.prog laidL W) :
  Calls Tryz.prog 10 #[.string s] W fun e w' => e = .returned (.bool true) ∧ Below W.heap.size W w' := by
 have HT := uH (tabOf HLd); clear HLd; by_cases hs1 : 1048576 < s.size
 ·go_enter Tryz.func10, Tryz.ntmps10
  go_wp2; go_returns; exact ⟨rfl, Below.refl _ _⟩
 have HS := uH (specExecute s W (by omega)); have HI := uH (fun V hV => implExecute s V (by omega) (HT.out.keep (w' := V) hV)); go_enter Tryz.func10, Tryz.ntmps10
 (go_wp2_with fail); refine HS.out.mono ?_; rintro e w1 ⟨rfl, b1⟩; have HI1 := uH (HI.out w1 b1); clear HS HI; generalize mkStr (exec s.data.toList) = x at *; have hne : (x.toList != x.toList) = false := (by simp); have heq : (x.toList == x.toList) = true := (by simp); (go_wp2_with fail); refine HI1.out.mono ?_; rintro e w2 ⟨rfl, hb2⟩; have b2 := below_next b1 hb2; clear HI1 hb2; go_wp2; go_returns; exact ⟨rfl, b2⟩
set_option maxRecDepth 100000 in
theorem witness_row (os : Os) {H : Type} (enc : TypeId × Value → H) :
  (OpenSpec.ofChange Rows.fnExactExecuteSpec).preRow enc Tryz.prog Tryz.f10 Rows.fnExactExecuteRow.domain false Rows.fnExactExecuteRow.laid ((laidWorld os).forCall (fun _ _ => 0) ⟨#[], #[.string ByteArray.empty], []⟩).memory #[.string ByteArray.empty] := by
 have hw : (DataW.whole enc Tryz.prog ((laidWorld os).forCall (fun _ _ => 0) ⟨#[], #[.string ByteArray.empty], []⟩).memory Tryz.f10.params.toList (OpenSpec.ofChange Rows.fnExactExecuteSpec).vars false #[.string ByteArray.empty].toList 8).map (fun x => (x.1, x.2.1)) =
   some ([.lit (.string [])], []) := by kernel_rfl
 obtain ⟨⟨x1, x2, x3⟩, hx, hx1⟩ := Option.map_eq_some_iff.1 hw; simp only [Prod.mk.injEq] at hx1; obtain ⟨rfl, rfl⟩ := hx1; exact OpenSpec.preRow_of_cond 8 hx (by kernel_rfl) (fun k hk => by cases hk) (by kernel_rfl) (laid_met os _)
set_option maxRecDepth 100000 in
theorem lifted (os : Os) (started : os.Started) (H : Type) (enc : TypeId × Value → H) (F0 : Stop.Interp) :
  ReturnsInHanded {} Tryz.checked os 10 .any ((OpenSpec.ofChange Rows.fnExactExecuteSpec).preRow enc Tryz.prog Tryz.f10 Rows.fnExactExecuteRow.domain false Rows.fnExactExecuteRow.laid) (((OpenSpec.ofChange Rows.fnExactExecuteSpec).at F0).post enc Tryz.prog Tryz.f10 false true false false) := by
 refine returnsInHanded_of_row (C := Tryz.checked) (s := OpenSpec.ofChange Rows.fnExactExecuteSpec) own started (by kernel_rfl) Tryz.func10
  (witness_row_atRef (enc := enc) (C := Tryz.checked) false (laidWorld os) #[.string ByteArray.empty] rfl (by kernel_rfl) (by kernel_rfl) (by kernel_rfl) (witness_row os enc)) ?_
 intro W base args ds gs before hval0 hW _ _ _ hL _ _; have HLd : laidMet Tryz.prog laidL W := hL; have hval : ∀ (j : Nat) t v, Tryz.f10.params[j]? = some t → args[j]? = some v → Value.okWide Tryz.prog W .any base t v := hval0; have hW' := hW; obtain ⟨p, q, hA0, hV, rfl, hfz, hnd⟩ := hW; have hA : DataW.TrodAll enc Tryz.prog W 0 (fun _ => true) true Tryz.f10.params.toList args.toList ds p := hA0; rw [Tryz.params10] at hA hval; obtain ⟨v0, vs0, d0, ds0, p0, q0, hargs, rfl, rfl, h0, r0⟩ := trodAll_cons hA; obtain ⟨rfl, rfl, rfl⟩ := trodAll_nil r0; obtain rfl : args = #[v0] := (by cases args; simp_all); obtain ⟨rfl, rfl⟩ := trodVars_none hV; have k0 := h0; have lt0 : ∀ x ∈ p0, x.block < W.heap.size := (by obtain ⟨m, hm⟩ := k0; exact DataW.trod_lt m _ _ _ hm); obtain ⟨s_0, rfl, hs_0⟩ := openStr (hval 0 9 v0 rfl rfl) h0; clear hA0 hval0; refine (walk s_0 W hs_0 HLd).mono fun e W' ⟨he, bel⟩ => ?_; subst he; exact ⟨_, rfl, _, _, _, [], _, [], hW', trodAll_mk1 (shut_bool Tryz.underlying4 _), (trodAll_cons_mk (Below.trod laidOut (by kernel_rfl) (of_decide_eq_true (by kernel_rfl)) k0 bel lt0) trodAll_mk0), rfl, bel.frame _, fun h => by cases h⟩
set_option maxHeartbeats 16000000 in
set_option maxRecDepth 100000 in
theorem closed : joinedFacts Tryz.prog 10 Tryz.f10 (OpenSpec.ofChange Rows.fnExactExecuteSpec).bare Rows.fnExactExecuteRow = true := by
 unfold joinedFacts; simp only [Bool.and_eq_true]
 repeat' apply And.intro
 all_goals (as_aux_lemma => kernel_rfl)
theorem over : Rows.fnExactExecuteRow.holds Tryz.pinned (OpenSpec.ofChange Rows.fnExactExecuteSpec) :=
 OpenClaim.holds_of_cond 10 Tryz.f10 rfl rfl rfl rfl rfl rfl rfl ⟨rfl, rfl, rfl, rfl, rfl⟩ rfl rfl rfl rfl rfl (by kernel_rfl) Tryz.func10 closed
  (of_decide_eq_true (by kernel_rfl)) (by unfold Func.isWrapper; first | (rw [if_pos (by decide +kernel)]; kernel_rfl) | (rw [if_neg (by decide +kernel)]; exact ⟨rfl, rfl⟩))
  (fun os started H enc _ F0 => by rw [OpenClaim.pre_eq_preRow]; exact lifted os started H enc F0)
theorem proved : Rows.FnExactExecuteCardSaid :=
 Claim7.holds_tied_plain_at .later [] Rows.fnExactExecuteCard.laidKinds true Rows.fnExactExecuteCard.stood.harness Rows.fnExactExecuteCard.stood.looks
  over (fun _ h => by cases h) (by kernel_rfl) (fun _ h => by cases h) fnExactExecute_row_tie rfl ⟨rfl, rfl⟩ (by kernel_rfl) rfl
  (fun f fn hf hfn => by
   obtain rfl : f = 10 := Option.some.inj ((show Tryz.prog.funcNamed "loop.example/shorthand/laws.FnExactExecute" = some 10 by kernel_rfl).symm.trans hf) |>.symm; obtain rfl : fn = Tryz.f10 := (Option.some.inj (Tryz.func10.symm.trans hfn)).symm; exact ⟨by kernel_rfl, fun j t ht => by
    rw [Tryz.params10] at ht; have h3 : t = 9 := by
     rcases j with _ | j
     ·simpa using ht.symm
     ·simp at ht
    subst h3; exact (show Tryz.prog.wantsStandIn 9 = false by kernel_rfl)⟩)
  (by kernel_rfl)
end Go.Proofs.YtbkhnljaajajiaaGreatDoor.fnExactExecute
