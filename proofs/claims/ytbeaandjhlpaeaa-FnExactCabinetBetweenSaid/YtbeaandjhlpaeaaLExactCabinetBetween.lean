/-
  The law FnExactCabinetBetween returns true for every input, and what was in memory before the call reads as before: the frame round its walk.
  Conditions: none.
-/
import Derived.Test.YtbeaandjhlpaeaaCabBetween2
import Derived.Test.YtbeaandjhlpaeaaHeldPads
namespace Go.Proofs.Ytbeaandjhlpaeaa.fnExactCabinetBetween
open Go.ChangeShapes Go.WideShapes Go.ChangeAt Go.RowKit
set_option linter.unusedVariables false

theorem bet_len {ds : List Drawer} (x y : Int) (hsz : cabSz ds ≤ 1048576) : ((ansP (ds.map (·.ps))).filter (inDays x y)).length ≤ 1048576 := by
  refine Nat.le_trans (List.length_filter_le _ _) ?_
  by_cases h : cabB (ds.map (·.ps)) = true
  · rw [ansP_yes h, allPads_flat]; exact flat_len_le hsz
  · rw [ansP_no (by simpa using h)]; simp
theorem bet_good {w : World} {B n c : Nat} {A : Option Addr} {ds : List Drawer} (x y : Int) (h : DrawersIn w B A n c ds) : ∀ p ∈ (ansP (ds.map (·.ps))).filter (inDays x y), p.good := by
  intro p hp
  have hp := (List.mem_filter.1 hp).1
  by_cases hc : cabB (ds.map (·.ps)) = true
  · rw [ansP_yes hc, allPads_flat] at hp; exact allPads_good h p hp
  · rw [ansP_no (by simpa using hc)] at hp; simp at hp

theorem walk (A : Option Addr) (n c : Nat) (ds : List Drawer) (x y : Int) (W : World) (R : DrawersIn W W.heap.size A n c ds) (_wx : (Lit.int .i64 x).wf = true) (_wy : (Lit.int .i64 y).wf = true) :
    Calls Try.prog 12 #[.slice A n c, .int .i64 x, .int .i64 y] W fun e w' => e = .returned (.bool true) ∧ Below W.heap.size W w' := by
  have HR := Lib.hid R; clear R
  have HP : Hid (∀ w, Below W.heap.size W w → DrawersIn w w.heap.size A n c ds) := Lib.hid (fun w h => HR.out.keep h)
  go_enter Try.func12, Try.ntmps12
  go_wp2_with fail
  refine (szPadSS A n c ds 1048576 W (by omega) (by omega) HR.out).mono ?_
  rintro e w1 ⟨r, rfl, hr, b1⟩
  rcases sz_split hr with hr | ⟨hr, hs⟩
  · go_wp2
    go_returns
    exact ⟨rfl, b1⟩
  have hN : n ≤ 1048576 := by have := cabSz_len ds; have := HR.out.1; omega
  have HLn := Lib.hid (bet_len x y hs)
  have HGd := Lib.hid (bet_good x y HR.out)
  -- the reference
  go_wp2_with fail
  refine (copyCab A n c ds w1 hs (HP.out w1 b1)).mono ?_
  rintro e w2 ⟨d2, rfl, hc2, hb2⟩
  have b2 := below_next b1 hb2
  have C2 := Lib.hid hc2; clear hc2
  go_wp2_with fail
  refine (specCabinetBetween _ _ _ d2 x y w2 C2.out.2.2.1 C2.out.1).mono ?_
  rintro e w3 ⟨hA, hb3⟩
  rw [C2.out.2.1] at hA
  obtain ⟨A3, c3, rfl, hO3⟩ := hA
  have b3 := below_next b2 hb3
  have W3 := Lib.hid hO3; clear hO3 C2
  -- the copy, the program
  go_wp2_with fail
  refine (copyCab A n c ds w3 hs (HP.out w3 b3)).mono ?_
  rintro e w4 ⟨d4, rfl, hc4, hb4⟩
  have b4 := below_next b3 hb4
  have C4 := Lib.hid hc4; clear hc4
  have W4 := Lib.hid (W3.out.keep hb4)
  go_wp2_with fail
  refine (implCabinetBetween _ _ _ d4 x y w4 C4.out.2.2.1 C4.out.1).mono ?_
  rintro e w5 ⟨hA, hb5⟩
  rw [C4.out.2.1] at hA
  obtain ⟨A5, c5, rfl, hO5⟩ := hA
  have b5 := below_next b4 hb5
  have G5 := Lib.hid hO5; clear hO5
  have W5 := Lib.hid (W4.out.keep hb5)
  have C5 := Lib.hid (C4.out.keep hb5)
  have hU := Lib.hid C4.out.under
  have wlt : Hid (∀ b, (Value.slice A3 ((ansP (ds.map (·.ps))).filter (inDays x y)).length c3).ownBlock = some b → b < w3.heap.size) := Lib.hid (fun b hv => own_lt W3.out hv)
  have glt : Hid (∀ b, (Value.slice A5 ((ansP (ds.map (·.ps))).filter (inDays x y)).length c5).ownBlock = some b → w4.heap.size ≤ b) := Lib.hid (fun b hv => own_base G5.out hv)
  have z45 := hb5.size
  have z34 := hb4.size
  clear W3 W4 C4
  generalize hep : (ansP (ds.map (·.ps))).filter (inDays x y) = P at *
  have EP := Lib.hid hep; clear hep
  have hpl := HLn.out
  generalize hpn : P.length = N at *
  have HPN := Lib.hid hpn; clear hpn
  -- the answers agree
  go_wp2_with fail
  refine (eqPadS A5 A3 N c5 c3 P w5 (G5.out.reads HPN.out HGd.out) (W5.out.reads HPN.out HGd.out)).mono ?_
  rintro e w6 ⟨rfl, hb6⟩
  have b6 := below_next b5 hb6
  have G6 := Lib.hid (G5.out.keep hb6)
  have W6 := Lib.hid (W5.out.keep hb6)
  have C6 := Lib.hid (C5.out.keep hb6)
  have z56 := hb6.size
  clear G5 W5 C5
  go_wp2_with fail
  refine (copyCab A n c ds w6 hs (HP.out w6 b6)).mono ?_
  rintro e w7 ⟨d7, rfl, hc7, hb7⟩
  have b7 := below_next b6 hb7
  have C7 := Lib.hid hc7; clear hc7
  have G7 := Lib.hid (G6.out.keep hb7)
  have W7 := Lib.hid (W6.out.keep hb7)
  have CA7 := Lib.hid (C6.out.keep hb7)
  have z67 := hb7.size
  clear G6 W6 C6
  go_wp2_with fail
  refine (eqPadSS _ _ n n n d4 d7 w7 (by rw [CA7.out.2.1, C7.out.2.1]) CA7.out.1 C7.out.1).mono ?_
  rintro e w8 ⟨rfl, hb8⟩
  have b8 := below_next b7 hb8
  have G8 := Lib.hid (G7.out.keep hb8)
  have W8 := Lib.hid (W7.out.keep hb8)
  have CA8 := Lib.hid (CA7.out.keep hb8)
  have z78 := hb8.size
  clear G7 W7 CA7 C7
  -- the copy is marked
  go_wp2_with fail
  refine (markPadSS w3.heap.size n w4.heap.size ds d4 w8 hN CA8.out.2.2.1 CA8.out hU.out).mono ?_
  rintro e w9 ⟨⟨m, rfl⟩, hw9⟩
  have z01 := b1.size
  have z3 := b3.size
  have z8 := b8.size
  have b9 := hw9.below b8 (by omega) z8
  have G9 := Lib.hid (G8.out.within hw9 (fun b hv => .inr (glt.out b hv)))
  have W9 := Lib.hid (W8.out.within hw9 (fun b hv => .inl (by have := wlt.out b hv; omega)))
  have z89 := hw9.size
  clear G8 W8 CA8 hU
  have hm0 : ¬ ((m : Int) < 0) := by omega
  go_wp2_with fail
  refine (eqPadS A5 A3 N c5 c3 P w9 (G9.out.reads HPN.out HGd.out) (W9.out.reads HPN.out HGd.out)).mono ?_
  rintro e w10 ⟨rfl, hb10⟩
  have b10 := below_next b9 hb10
  have G10 := Lib.hid (G9.out.keep hb10)
  have W10 := Lib.hid (W9.out.keep hb10)
  have z910 := hb10.size
  clear G9 W9
  -- the answer is marked
  go_wp2_with fail
  refine (markPadS A5 N c5 1 w4.heap.size P w10 (by omega) (by omega) hpl HPN.out G10.out).mono ?_
  rintro e w11 ⟨rfl, hg11, hM11⟩
  have b11 : Below W.heap.size W w11 := b10.grown hg11 b10.size (fun b hv => by have := glt.out b hv; have := b4.size; omega)
  have W11 := Lib.hid (W10.out.only hg11 (fun b hv e => by have := wlt.out b hv; have := glt.out b e; omega))
  have M11 := Lib.hid (hM11.reads (marked_len 1 N) (marked_good 1 N (by omega)))
  have z1011 := hg11.size
  clear hM11 hg11 G10 W10
  go_wp2_with fail
  refine (heldPadS A5 N c5 1 w11 (by omega) (by omega) hpl M11.out).mono ?_
  rintro e w12 ⟨rfl, hb12⟩
  have b12 := below_next b11 hb12
  have M12 := Lib.hid (M11.out.keep hb12)
  have W12 := Lib.hid (W11.out.keep hb12)
  clear M11 W11
  -- the program once more
  go_wp2_with fail
  refine (copyCab A n c ds w12 hs (HP.out w12 b12)).mono ?_
  rintro e w13 ⟨d13, rfl, hc13, hb13⟩
  have b13 := below_next b12 hb13
  have C13 := Lib.hid hc13; clear hc13
  have M13 := Lib.hid (M12.out.keep hb13)
  have W13 := Lib.hid (W12.out.keep hb13)
  clear M12 W12
  have hAns : Hid (Calls Try.prog 44 #[.slice (some ⟨w12.heap.size, 0, none⟩) n n, .int .i64 x, .int .i64 y] w13 fun e w' => ∃ A c, e = .returned (.slice A N c) ∧ PadsOwn w' w13.heap.size (.slice A N c) P ∧ Below w13.heap.size w13 w') := Lib.hid ((implCabinetBetween _ _ _ d13 x y w13 C13.out.2.2.1 C13.out.1).mono (by
    rintro e w ⟨hA, hb⟩
    rw [C13.out.2.1] at hA
    obtain ⟨A, c, rfl, hO⟩ := hA
    rw [EP.out] at hO ⊢
    rw [HPN.out] at hO ⊢
    exact ⟨A, c, rfl, hO, hb⟩))
  go_wp2_with fail
  refine hAns.out.mono ?_
  rintro e w14 ⟨A14, c14, rfl, hO14, hb14⟩
  have b14 := below_next b13 hb14
  have G14 := Lib.hid hO14; clear hO14 C13 hAns
  have M14 := Lib.hid (M13.out.keep hb14)
  have W14 := Lib.hid (W13.out.keep hb14)
  clear M13 W13
  go_wp2_with fail
  refine (eqPadS A14 A3 N c14 c3 P w14 (G14.out.reads HPN.out HGd.out) (W14.out.reads HPN.out HGd.out)).mono ?_
  rintro e w15 ⟨rfl, hb15⟩
  have b15 := below_next b14 hb15
  have M15 := Lib.hid (M14.out.keep hb15)
  clear M14 W14 G14
  go_wp2_with fail
  refine (heldPadS A5 N c5 1 w15 (by omega) (by omega) hpl M15.out).mono ?_
  rintro e w16 ⟨rfl, hb16⟩
  have b16 := below_next b15 hb16
  go_wp2
  go_returns
  exact ⟨rfl, b16⟩


set_option maxRecDepth 100000 in
theorem lifted (os : Os) (started : os.Started) (H : Type) (enc : TypeId × Value → H) :
    ReturnsInHanded {} Try.checked os 12 .any (Rows.fnExactCabinetBetweenSpec.pre6 enc Try.prog Try.f12 Rows.fnExactCabinetBetweenRow.domain false) (Rows.fnExactCabinetBetweenSpec.post enc Try.prog Try.f12 false true false false) := by
  refine returnsInHanded_of_change (C := Try.checked) own started (by kernel_rfl) Try.func12
    (ChangeSpec.witness6 (enc := enc) (C := Try.checked) false ⟨#[], #[.slice none 0 0, .int .i64 0, .int .i64 0], []⟩ 8 (by kernel_rfl) (by kernel_rfl) (by kernel_rfl) (by kernel_rfl)) ?_
  intro W base args ds gs before hval0 hW hcnd _
  have hval : ∀ (j : Nat) t v, Try.f12.params[j]? = some t → args[j]? = some v → Value.okWide Try.prog W .any base t v := hval0
  have hW' := hW
  obtain ⟨p, q, hA0, hV, rfl, hfz, hnd⟩ := hW
  have hA : DataW.TrodAll enc Try.prog W 0 (fun _ => true) true Try.f12.params.toList args.toList ds p := hA0
  rw [Try.params12] at hA hval
  obtain ⟨v0, vs0, d0, ds0, p0, q0, hargs, rfl, rfl, h0, r0⟩ := trodAll_cons hA
  obtain ⟨v1, vs1, d1, ds1, p1, q1, rfl, rfl, rfl, h1, r1⟩ := trodAll_cons r0
  obtain ⟨v2, vs2, d2, ds2, p2, q2, rfl, rfl, rfl, h2, r2⟩ := trodAll_cons r1
  obtain ⟨rfl, rfl, rfl⟩ := trodAll_nil r2
  obtain rfl : args = #[v0, v1, v2] := by cases args; simp_all
  obtain ⟨rfl, rfl⟩ := trodVars_none hV
  have k0 := h0
  have lt0 : ∀ x ∈ p0, x.block < W.heap.size := by obtain ⟨m, hm⟩ := k0; exact DataW.trod_lt m _ _ _ hm
  obtain ⟨A_0, n_0, c_0, ds_0, rfl, R_0⟩ := openPadss (hval 0 36 v0 rfl rfl) h0
  have k1 := h1
  have lt1 : ∀ x ∈ p1, x.block < W.heap.size := by obtain ⟨m, hm⟩ := k1; exact DataW.trod_lt m _ _ _ hm
  obtain ⟨x_1, rfl, wx_1⟩ := openInt (hval 1 3 v1 rfl rfl) h1
  have k2 := h2
  have lt2 : ∀ x ∈ p2, x.block < W.heap.size := by obtain ⟨m, hm⟩ := k2; exact DataW.trod_lt m _ _ _ hm
  obtain ⟨x_2, rfl, wx_2⟩ := openInt (hval 2 3 v2 rfl rfl) h2
  clear hA0 hval0
  refine (walk A_0 n_0 c_0 ds_0 x_1 x_2 W R_0 wx_1 wx_2).mono fun e W' ⟨he, bel⟩ => ?_
  subst he
  exact ⟨_, rfl, _, _, _, [], _, [], hW', trodAll_mk1 (shut_bool Try.underlying4 _), (trodAll_cons_mk (Below.trod laidOut (by kernel_rfl) (of_decide_eq_true (by kernel_rfl)) k0 bel lt0) (trodAll_cons_mk (Below.trod laidOut (by kernel_rfl) (of_decide_eq_true (by kernel_rfl)) k1 bel lt1) (trodAll_cons_mk (Below.trod laidOut (by kernel_rfl) (of_decide_eq_true (by kernel_rfl)) k2 bel lt2) trodAll_mk0))), rfl, bel.frame _, fun h => by cases h⟩

theorem over : Rows.fnExactCabinetBetweenRow.holds Try.pinned (OpenSpec.ofChange Rows.fnExactCabinetBetweenSpec) :=
  OpenClaim.holds_of_wide 12 Try.f12 rfl rfl rfl rfl rfl rfl rfl ⟨rfl, rfl, rfl, rfl, rfl⟩ rfl rfl rfl rfl rfl (by kernel_rfl) Try.func12 (by kernel_rfl)
    (of_decide_eq_true (by kernel_rfl)) (by unfold Func.isWrapper; first | (rw [if_pos (by decide +kernel)]; kernel_rfl) | (rw [if_neg (by decide +kernel)]; exact ⟨rfl, rfl⟩))
    (fun os started H enc _ => lifted os started H enc)

theorem proved : Rows.FnExactCabinetBetweenSaid := over
end Go.Proofs.Ytbeaandjhlpaeaa.fnExactCabinetBetween
