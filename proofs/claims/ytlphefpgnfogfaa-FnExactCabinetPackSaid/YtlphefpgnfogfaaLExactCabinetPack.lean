/-
  The law FnExactCabinetPack returns true for every input, and what was in memory before the call reads as before: the frame round its walk.
  Conditions: none.
-/
import Derived.Test.YtlphefpgnfogfaaPackI
import Derived.Test.YtlphefpgnfogfaaPackS
import Derived.Test.YtlphefpgnfogfaaMarkLaw
namespace Go.Proofs.Ytlphefpgnfogfaa.fnExactCabinetPack
open Go.ChangeShapes Go.WideShapes Go.ChangeAt Go.RowKit
set_option linter.unusedVariables false

theorem ans_small (ds : List Drawer) (_ : cabSz ds ≤ 1048576) : ((packO (ds.map (·.ps))).getD []).length ≤ 1000 ∧ ((packO (ds.map (·.ps))).getD []).flatten.length ≤ 1000 := by
  cases h : cabB (ds.map (·.ps)) with
  | false => rw [packO_no h]; simp
  | true =>
    have hc := cabB_iff.1 h
    rw [packO_yes h]
    have h1 := flat_le hc.2.1
    have h2 := packed_len (ds.map (·.ps)).flatten
    have h3 := hc.1
    simp only [Option.getD_some, packed_flat]
    omega

theorem walk (A : Option Addr) (n c : Nat) (ds : List Drawer)  (W : World) (R : DrawersIn W W.heap.size A n c ds)  :
    Calls Try.prog 3 #[.slice A n c] W fun e w' => e = .returned (.bool true) ∧ Below W.heap.size W w' := by
  have HR := Lib.hid R; clear R
  have HP : Hid (∀ w, Below W.heap.size W w → DrawersIn w w.heap.size A n c ds) := Lib.hid (fun w h => HR.out.keep h)
  go_enter Try.func3, Try.ntmps3
  go_wp2_with fail
  refine (szPadSS A n c ds 1048576 W (by omega) (by omega) HR.out).mono ?_
  rintro e w1 ⟨r, rfl, hr, b1⟩
  rcases sz_split hr with hr | ⟨hr, hs⟩
  · go_wp2
    go_returns
    exact ⟨rfl, b1⟩
  have hN : n ≤ 1048576 := by have := cabSz_len ds; have := HR.out.1; omega
  have hsm := ans_small ds  hs
  -- the reference
  go_wp2_with fail
  refine (copyCab A n c ds w1 hs (HP.out w1 b1)).mono ?_
  rintro e w2 ⟨d2, rfl, hc2, hb2⟩
  have b2 := below_next b1 hb2
  have C2 := Lib.hid hc2; clear hc2
  go_wp2_with fail
  refine (specCabinetPack _ _ _ d2  w2 C2.out.2.2.1 C2.out.1).mono ?_
  rintro e w3 ⟨hA, hb3⟩
  rw [C2.out.2.1] at hA
  obtain ⟨A3, c3, s3, rfl, hO3, hM3⟩ := hA.form
  have b3 := below_next b2 hb3
  have W3 := Lib.hid hO3; clear hO3 C2 hA
  -- the copy, the program
  go_wp2_with fail
  refine (copyCab A n c ds w3 hs (HP.out w3 b3)).mono ?_
  rintro e w4 ⟨d4, rfl, hc4, hb4⟩
  have b4 := below_next b3 hb4
  have C4 := Lib.hid hc4; clear hc4
  have W4 := Lib.hid (W3.out.keep hb4)
  go_wp2_with fail
  refine (implCabinetPack _ _ _ d4  w4 C4.out.2.2.1 C4.out.1).mono ?_
  rintro e w5 ⟨hA, hb5⟩
  rw [C4.out.2.1] at hA
  obtain ⟨A5, c5, s5, rfl, hO5, hM5⟩ := hA.form
  have b5 := below_next b4 hb5
  have G5 := Lib.hid hO5; clear hO5 hA
  have W5 := Lib.hid (W4.out.keep hb5)
  have C5 := Lib.hid (C4.out.keep hb5)
  have hU := Lib.hid C4.out.under
  have z45 := hb5.size
  have z34 := hb4.size
  have hWl : Hid (s3.length = ((packO (ds.map (·.ps))).getD []).length) := Lib.hid (by rw [← hM3, List.length_map])
  have hGl : Hid (s5.length = ((packO (ds.map (·.ps))).getD []).length) := Lib.hid (by rw [← hM5, List.length_map])
  have HM3 := Lib.hid hM3; have HM5 := Lib.hid hM5
  have hq5 := totN_own G5.out hM5
  have hWu := W3.out.under
  rw [show s3.length = ((packO (ds.map (·.ps))).getD []).length from hWl.out] at hWu
  clear W3 W4 C4 hM3 hM5
  generalize hea : (packO (ds.map (·.ps))).isSome = ans
  have EA := Lib.hid hea; clear hea
  have hne : (ans != ans) = false := by simp
  generalize hep : (packO (ds.map (·.ps))).getD [] = P at *
  have EP := Lib.hid hep; clear hep
  have HWb := Lib.hid hWu; clear hWu
  generalize hpn : P.length = N at *
  clear hpn
  rw [hWl.out, hGl.out]
  have W5 : Hid (CabOwn w5 w2.heap.size (.slice A3 N c3) s3) := Lib.hid (by rw [← hWl.out]; exact W5.out)
  have G5 : Hid (CabOwn w5 w4.heap.size (.slice A5 N c5) s5) := Lib.hid (by rw [← hGl.out]; exact G5.out)
  have hW53 : Hid (∀ b, (b < w3.heap.size) → b < w4.heap.size) := Lib.hid (fun b h => by omega)
  -- the answers agree
  go_wp2_with fail
  refine (eqPadSS A5 A3 N c5 c3 s5 s3 w5 (by rw [HM5.out, HM3.out]) (G5.out.reads hGl.out) (W5.out.reads hWl.out)).mono ?_
  rintro e w6 ⟨rfl, hb6⟩
  have b6 := below_next b5 hb6
  have G6 := Lib.hid (G5.out.keep hb6)
  have W6 := Lib.hid (W5.out.keep hb6)
  have C6 := Lib.hid (C5.out.keep hb6)
  have z56 := hb6.size
  clear G5 W5 C5
  go_wp2_with fail
  refine (copyCab A n c ds w6 hs (HP.out w6 b6)).mono ?_
  rintro e w7 ⟨d7, rfl, hc7, hb7⟩
  have b7 := below_next b6 hb7
  have C7 := Lib.hid hc7; clear hc7
  have G7 := Lib.hid (G6.out.keep hb7)
  have W7 := Lib.hid (W6.out.keep hb7)
  have CA7 := Lib.hid (C6.out.keep hb7)
  have z67 := hb7.size
  clear G6 W6 C6
  go_wp2_with fail
  refine (eqPadSS _ _ n n n d4 d7 w7 (by rw [CA7.out.2.1, C7.out.2.1]) CA7.out.1 C7.out.1).mono ?_
  rintro e w8 ⟨rfl, hb8⟩
  have b8 := below_next b7 hb8
  have G8 := Lib.hid (G7.out.keep hb8)
  have W8 := Lib.hid (W7.out.keep hb8)
  have CA8 := Lib.hid (CA7.out.keep hb8)
  have z78 := hb8.size
  clear G7 W7 CA7 C7
  -- the copy is marked
  go_wp2_with fail
  refine (markPadSS w3.heap.size n w4.heap.size ds d4 w8 hN CA8.out.2.2.1 CA8.out hU.out).mono ?_
  rintro e w9 ⟨⟨m, rfl⟩, hw9⟩
  have z01 := b1.size
  have z3 := b3.size
  have z8 := b8.size
  have b9 := hw9.below b8 (by omega) z8
  have G9 := Lib.hid (G8.out.within hw9 (fun b hv => .inr (own_base G8.out.1 hv)) (fun d hd b hv => .inr (own_base (G8.out.2.1 d hd).2.1 hv)))
  have W9 := Lib.hid (W8.out.within hw9 (fun b hv => .inl (by have := HWb.out.1 b hv; omega)) (fun d hd b hv => .inl (by have := HWb.out.2 d hd b hv; omega)))
  have z89 := hw9.size
  clear G8 W8 CA8 hU
  have hm0 : ¬ ((m : Int) < 0) := by omega
  go_wp2_with fail
  refine (eqPadSS A5 A3 N c5 c3 s5 s3 w9 (by rw [HM5.out, HM3.out]) (G9.out.reads hGl.out) (W9.out.reads hWl.out)).mono ?_
  rintro e w10 ⟨rfl, hb10⟩
  have b10 := below_next b9 hb10
  have G10 := Lib.hid (G9.out.keep hb10)
  have W10 := Lib.hid (W9.out.keep hb10)
  have z910 := hb10.size
  clear G9 W9
  -- the answer is marked
  go_wp2_with fail
  refine (markCab A5 N c5 1 w4.heap.size w4.heap.size w10.heap.size s5 w10 (by omega) (by omega) (by omega) (by omega) hGl.out (Nat.le_refl _) (Nat.le_refl _) G10.out).mono ?_
  rintro e w11 ⟨rfl, hg11, hM11⟩
  have b11 : Below W.heap.size W w11 := hg11.below b10 (by have := b4.size; omega) b10.size
  have W11 := Lib.hid (W10.out.within hg11 (fun b hv => .inl (by have := HWb.out.1 b hv; omega)) (fun d hd b hv => .inl (by have := HWb.out.2 d hd b hv; omega)))
  have M11 := Lib.hid (hM11.reads (by rw [markDs_len]; exact hGl.out))
  have z1011 := hg11.size
  clear hM11 hg11 G10 W10
  generalize htn : totN s5 = T at *
  have HTN := Lib.hid htn; clear htn
  go_wp2_with fail
  refine (heldCab A5 N c5 1 s5 w11 (by omega) (by omega) (by rw [HTN.out]; omega) M11.out).mono ?_
  rw [HTN.out]
  rintro e w12 ⟨rfl, hb12⟩
  have b12 := below_next b11 hb12
  have M12 := Lib.hid (M11.out.keep hb12)
  have W12 := Lib.hid (W11.out.keep hb12)
  clear M11 W11
  -- the program once more
  go_wp2_with fail
  refine (copyCab A n c ds w12 hs (HP.out w12 b12)).mono ?_
  rintro e w13 ⟨d13, rfl, hc13, hb13⟩
  have b13 := below_next b12 hb13
  have C13 := Lib.hid hc13; clear hc13
  have M13 := Lib.hid (M12.out.keep hb13)
  have W13 := Lib.hid (W12.out.keep hb13)
  clear M12 W12
  have hAns : Hid (Calls Try.prog 8 #[.slice (some ⟨w12.heap.size, 0, none⟩) n n] w13 fun e w' => ∃ A c s, e = .returned (.tuple #[.slice A N c, .bool ans]) ∧ CabOwn w' w13.heap.size (.slice A N c) s ∧ s.length = N ∧ s.map (·.ps) = P ∧ Below w13.heap.size w13 w') := Lib.hid ((implCabinetPack _ _ _ d13  w13 C13.out.2.2.1 C13.out.1).mono (by
    rintro e w ⟨hA, hb⟩
    rw [C13.out.2.1] at hA
    obtain ⟨A, c, s, rfl, hO, hM⟩ := hA.form
    rw [EP.out] at hM
    have hl : s.length = N := by rw [← hGl.out, ← List.length_map (f := (·.ps)), hM, ← HM5.out, List.length_map]
    rw [EA.out, hl]
    rw [hl] at hO
    exact ⟨A, c, s, rfl, hO, hl, hM, hb⟩))
  go_wp2_with fail
  refine hAns.out.mono ?_
  rintro e w14 ⟨A14, c14, s14, rfl, hO14, hl14, hM14, hb14⟩
  have b14 := below_next b13 hb14
  have G14 := Lib.hid hO14; have HM14 := Lib.hid hM14; have HL14 := Lib.hid hl14; clear hO14 C13 hAns hM14 hl14
  have M14 := Lib.hid (M13.out.keep hb14)
  have W14 := Lib.hid (W13.out.keep hb14)
  clear M13 W13
  go_wp2_with fail
  refine (eqPadSS A14 A3 N c14 c3 s14 s3 w14 (by rw [HM14.out, HM3.out]) (G14.out.reads HL14.out) (W14.out.reads hWl.out)).mono ?_
  rintro e w15 ⟨rfl, hb15⟩
  have b15 := below_next b14 hb15
  have M15 := Lib.hid (M14.out.keep hb15)
  clear M14 W14 G14
  go_wp2_with fail
  refine (heldCab A5 N c5 1 s5 w15 (by omega) (by omega) (by rw [HTN.out]; omega) M15.out).mono ?_
  rw [HTN.out]
  rintro e w16 ⟨rfl, hb16⟩
  have b16 := below_next b15 hb16
  go_wp2
  go_returns
  exact ⟨rfl, b16⟩


set_option maxRecDepth 100000 in
theorem lifted (os : Os) (started : os.Started) (H : Type) (enc : TypeId × Value → H) :
    ReturnsInHanded {} Try.checked os 3 .any (Rows.fnExactCabinetPackSpec.pre6 enc Try.prog Try.f3 Rows.fnExactCabinetPackRow.domain false) (Rows.fnExactCabinetPackSpec.post enc Try.prog Try.f3 false true false false) := by
  refine returnsInHanded_of_change (C := Try.checked) own started (by kernel_rfl) Try.func3
    (ChangeSpec.witness6 (enc := enc) (C := Try.checked) false ⟨#[], #[.slice none 0 0], []⟩ 8 (by kernel_rfl) (by kernel_rfl) (by kernel_rfl) (by kernel_rfl)) ?_
  intro W base args ds gs before hval0 hW hcnd _
  have hval : ∀ (j : Nat) t v, Try.f3.params[j]? = some t → args[j]? = some v → Value.okWide Try.prog W .any base t v := hval0
  have hW' := hW
  obtain ⟨p, q, hA0, hV, rfl, hfz, hnd⟩ := hW
  have hA : DataW.TrodAll enc Try.prog W 0 (fun _ => true) true Try.f3.params.toList args.toList ds p := hA0
  rw [Try.params3] at hA hval
  obtain ⟨v0, vs0, d0, ds0, p0, q0, hargs, rfl, rfl, h0, r0⟩ := trodAll_cons hA
  obtain ⟨rfl, rfl, rfl⟩ := trodAll_nil r0
  obtain rfl : args = #[v0] := by cases args; simp_all
  obtain ⟨rfl, rfl⟩ := trodVars_none hV
  have k0 := h0
  have lt0 : ∀ x ∈ p0, x.block < W.heap.size := by obtain ⟨m, hm⟩ := k0; exact DataW.trod_lt m _ _ _ hm
  obtain ⟨A_0, n_0, c_0, ds_0, rfl, R_0⟩ := openPadss (hval 0 22 v0 rfl rfl) h0
  clear hA0 hval0
  refine (walk A_0 n_0 c_0 ds_0 W R_0).mono fun e W' ⟨he, bel⟩ => ?_
  subst he
  exact ⟨_, rfl, _, _, _, [], _, [], hW', trodAll_mk1 (shut_bool Try.underlying4 _), (trodAll_cons_mk (Below.trod laidOut (by kernel_rfl) (of_decide_eq_true (by kernel_rfl)) k0 bel lt0) trodAll_mk0), rfl, bel.frame _, fun h => by cases h⟩

theorem over : Rows.fnExactCabinetPackRow.holds Try.pinned (OpenSpec.ofChange Rows.fnExactCabinetPackSpec) :=
  OpenClaim.holds_of_wide 3 Try.f3 rfl rfl rfl rfl rfl rfl rfl ⟨rfl, rfl, rfl, rfl, rfl⟩ rfl rfl rfl rfl rfl (by kernel_rfl) Try.func3 (by kernel_rfl)
    (of_decide_eq_true (by kernel_rfl)) (by unfold Func.isWrapper; first | (rw [if_pos (by decide +kernel)]; kernel_rfl) | (rw [if_neg (by decide +kernel)]; exact ⟨rfl, rfl⟩))
    (fun os started H enc _ => lifted os started H enc)

theorem proved : Rows.FnExactCabinetPackSaid := over
end Go.Proofs.Ytlphefpgnfogfaa.fnExactCabinetPack
