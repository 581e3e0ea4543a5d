/-
  The law FnExactCabinetText returns true for every input, and what was in memory before the call reads as before: the frame round its walk.
  Conditions: none.
-/
import Derived.Test.YtlphefpgnfogfaaDoorLaidTab
import Derived.Test.YtlphefpgnfogfaaDoorTextS
import Derived.Test.YtlphefpgnfogfaaDoorTreeB
import Derived.Test.YtlphefpgnfogfaaDoorTie
import Derived.Test.YtlphefpgnfogfaaDoorCards
import Derived.JoinedCond
import Derived.SevenTiedAt
namespace Go.Proofs.YtlphefpgnfogfaaDoor.fnExactCabinetText
open Go.ChangeShapes Go.WideShapes Go.ChangeAt Go.RowKit
set_option linter.unusedVariables false

theorem walk (A : Option Addr) (n c : Nat) (ds : List Drawer) (W : World) (R : DrawersIn W W.heap.size A n c ds) (HLd : laidMet Tryd.prog laidL W) :
    Calls Tryd.prog 3 #[.slice A n c] W fun e w' => e = .returned (.bool true) ∧ Below W.heap.size W w' := by
  have HR := Lib.hid R; clear R
  have HTb := Lib.hid (tabOf HLd); clear HLd
  go_enter Tryd.func3, Tryd.ntmps3
  go_wp2_with fail
  refine (szPadSS A n c ds 1048576 W (by omega) (by omega) HR.out).mono ?_
  rintro e w1 ⟨r, rfl, hr, b1⟩
  rcases sz_split hr with hr | ⟨hr, hs⟩
  · go_wp2
    go_returns
    exact ⟨rfl, b1⟩
  have H1 := Lib.hid (HR.out.keep b1)
  go_wp2_with fail
  refine (copyCab A n c ds w1 hs H1.out).mono ?_
  rintro e w2 ⟨d2, rfl, hc2, hb2⟩
  have b2 := below_next b1 hb2
  have H2 := Lib.hid (H1.out.keep hb2)
  have C2 := Lib.hid hc2; clear hc2
  go_wp2_with fail
  refine (specCabinetText _ _ _ d2 w2 C2.out.2.2.1 C2.out.1).mono ?_
  rintro e w3 ⟨rfl, hb3⟩
  have b3 := below_next b2 hb3
  rw [C2.out.2.1]
  have H3 := Lib.hid (H2.out.keep hb3)
  go_wp2_with fail
  refine (copyCab A n c ds w3 hs H3.out).mono ?_
  rintro e w4 ⟨d4, rfl, hc4, hb4⟩
  have b4 := below_next b3 hb4
  have H4 := Lib.hid (H3.out.keep hb4)
  have C4 := Lib.hid hc4; clear hc4
  go_wp2_with fail
  refine (implCabinetText _ _ _ d4 w4 C4.out.1 (HTb.out.keep b4)).mono ?_
  rintro e w5 ⟨rfl, hb5⟩
  have b5 := below_next b4 hb5
  rw [C4.out.2.1]
  have H5 := Lib.hid (H4.out.keep hb5)
  have D5 := Lib.hid (C4.out.1.keep hb5)
  have E5 := Lib.hid C4.out.2.1
  generalize mkStr (cabText (ds.map (·.ps))) = ans
  have hne : (ans.toList != ans.toList) = false := by simp
  go_wp2_with fail
  refine (copyCab A n c ds w5 hs H5.out).mono ?_
  rintro e w6 ⟨d6, rfl, hc6, hb6⟩
  have b6 := below_next b5 hb6
  have D6 := Lib.hid (D5.out.keep hb6)
  have C6 := Lib.hid hc6; clear hc6
  go_wp2_with fail
  refine (eqPadSS _ _ n n n d4 d6 w6 (by rw [E5.out, C6.out.2.1]) D6.out C6.out.1).mono ?_
  rintro e w7 ⟨rfl, hb7⟩
  have b7 := below_next b6 hb7
  go_wp2
  go_returns
  exact ⟨rfl, b7⟩


set_option maxRecDepth 100000 in
theorem witness_row (os : Os) {H : Type} (enc : TypeId × Value → H) :
    (OpenSpec.ofChange Rows.fnExactCabinetTextSpec).preRow enc Tryd.prog Tryd.f3 Rows.fnExactCabinetTextRow.domain false Rows.fnExactCabinetTextRow.laid ((laidWorld os).forCall (fun _ _ => 0) ⟨#[], #[.slice none 0 0], []⟩).memory #[.slice none 0 0] := by
  have hw : (DataW.whole enc Tryd.prog ((laidWorld os).forCall (fun _ _ => 0) ⟨#[], #[.slice none 0 0], []⟩).memory Tryd.f3.params.toList (OpenSpec.ofChange Rows.fnExactCabinetTextSpec).vars false #[.slice none 0 0].toList 8).map (fun x => (x.1, x.2.1)) =
      some ([.nil], []) := by kernel_rfl
  obtain ⟨⟨x1, x2, x3⟩, hx, hx1⟩ := Option.map_eq_some_iff.1 hw
  simp only [Prod.mk.injEq] at hx1
  obtain ⟨rfl, rfl⟩ := hx1
  exact OpenSpec.preRow_of_cond 8 hx (by kernel_rfl) (fun k hk => by cases hk) (by kernel_rfl) (laid_met os _)
set_option maxRecDepth 100000 in
theorem lifted (os : Os) (started : os.Started) (H : Type) (enc : TypeId × Value → H) (F0 : Stop.Interp) :
    ReturnsInHanded {} Tryd.checked os 3 .any ((OpenSpec.ofChange Rows.fnExactCabinetTextSpec).preRow enc Tryd.prog Tryd.f3 Rows.fnExactCabinetTextRow.domain false Rows.fnExactCabinetTextRow.laid) (((OpenSpec.ofChange Rows.fnExactCabinetTextSpec).at F0).post enc Tryd.prog Tryd.f3 false true false false) := by
  refine returnsInHanded_of_row (C := Tryd.checked) (s := OpenSpec.ofChange Rows.fnExactCabinetTextSpec) own started (by kernel_rfl) Tryd.func3
    (witness_row_atRef (enc := enc) (C := Tryd.checked) false (laidWorld os) #[.slice none 0 0] rfl (by kernel_rfl) (by kernel_rfl) (by kernel_rfl) (witness_row os enc)) ?_
  intro W base args ds gs before hval0 hW _ _ _ hL _ _
  have HLd : laidMet Tryd.prog laidL W := hL
  have hval : ∀ (j : Nat) t v, Tryd.f3.params[j]? = some t → args[j]? = some v → Value.okWide Tryd.prog W .any base t v := hval0
  have hW' := hW
  obtain ⟨p, q, hA0, hV, rfl, hfz, hnd⟩ := hW
  have hA : DataW.TrodAll enc Tryd.prog W 0 (fun _ => true) true Tryd.f3.params.toList args.toList ds p := hA0
  rw [Tryd.params3] at hA hval
  obtain ⟨v0, vs0, d0, ds0, p0, q0, hargs, rfl, rfl, h0, r0⟩ := trodAll_cons hA
  obtain ⟨rfl, rfl, rfl⟩ := trodAll_nil r0
  obtain rfl : args = #[v0] := by cases args; simp_all
  obtain ⟨rfl, rfl⟩ := trodVars_none hV
  have k0 := h0
  have lt0 : ∀ x ∈ p0, x.block < W.heap.size := by obtain ⟨m, hm⟩ := k0; exact DataW.trod_lt m _ _ _ hm
  obtain ⟨A_0, n_0, c_0, ds_0, rfl, R_0⟩ := openPadss (hval 0 22 v0 rfl rfl) h0
  clear hA0 hval0
  refine (walk A_0 n_0 c_0 ds_0 W R_0 HLd).mono fun e W' ⟨he, bel⟩ => ?_
  subst he
  exact ⟨_, rfl, _, _, _, [], _, [], hW', trodAll_mk1 (shut_bool Tryd.underlying4 _), (trodAll_cons_mk (Below.trod laidOut (by kernel_rfl) (of_decide_eq_true (by kernel_rfl)) k0 bel lt0) trodAll_mk0), rfl, bel.frame _, fun h => by cases h⟩

theorem over : Rows.fnExactCabinetTextRow.holds Tryd.pinned (OpenSpec.ofChange Rows.fnExactCabinetTextSpec) :=
  OpenClaim.holds_of_cond 3 Tryd.f3 rfl rfl rfl rfl rfl rfl rfl ⟨rfl, rfl, rfl, rfl, rfl⟩ rfl rfl rfl rfl rfl (by kernel_rfl) Tryd.func3 (by kernel_rfl)
    (of_decide_eq_true (by kernel_rfl)) (by unfold Func.isWrapper; first | (rw [if_pos (by decide +kernel)]; kernel_rfl) | (rw [if_neg (by decide +kernel)]; exact ⟨rfl, rfl⟩))
    (fun os started H enc _ F0 => by rw [OpenClaim.pre_eq_preRow]; exact lifted os started H enc F0)

theorem proved : Rows.FnExactCabinetTextCardSaid :=
  Claim7.holds_tied_plain_at .later [] Rows.fnExactCabinetTextCard.laidKinds true Rows.fnExactCabinetTextCard.stood.harness false
    over (fun _ h => by cases h) (by kernel_rfl) (fun _ h => by cases h) fnExactCabinetText_row_tie rfl ⟨rfl, rfl⟩ (by kernel_rfl) rfl
    (fun f fn hf hfn => by
      obtain rfl : f = 3 := Option.some.inj ((show Tryd.prog.funcNamed "loop.example/shorthand/laws.FnExactCabinetText" = some 3 by kernel_rfl).symm.trans hf) |>.symm
      obtain rfl : fn = Tryd.f3 := (Option.some.inj (Tryd.func3.symm.trans hfn)).symm
      exact ⟨by kernel_rfl, fun j t ht => by
        rw [Tryd.params3] at ht
        have h3 : t = 22 := by
          rcases j with _ | j
          · simpa using ht.symm
          · simp at ht
        subst h3
        exact (show Tryd.prog.wantsStandIn 22 = false by kernel_rfl)⟩)
    (by kernel_rfl)
end Go.Proofs.YtlphefpgnfogfaaDoor.fnExactCabinetText
