/-
  The law FnExactCabinetFind returns true for every input, and what was in memory before the call reads as before: the frame round its walk.
  Conditions: none.
-/
import Derived.Test.YtbeaandjhlpaeaaFind3
import Derived.Test.YtbeaandjhlpaeaaHeldPads
import Derived.Deep.RegionHeld3
namespace Go.Proofs.Ytbeaandjhlpaeaa.fnExactCabinetFind
open Go.ChangeShapes Go.WideShapes Go.ChangeAt Go.RowKit
set_option linter.unusedVariables false

theorem findV_form (o : Option (Nat × Nat)) : ∃ (a b : Int) (h : Bool), findV o = .tuple #[.int .i64 a, .int .i64 b, .bool h] := by
  rcases o with _ | ⟨i, k⟩
  · exact ⟨_, _, _, rfl⟩
  · exact ⟨_, _, _, rfl⟩
theorem walk (A : Option Addr) (n c : Nat) (ds : List Drawer) (d : Int) (cs : ByteArray) (W : World) (R : DrawersIn W W.heap.size A n c ds) (wd : (Lit.int .i64 d).wf = true) (wc : cs.size ≤ maxLen) :
    Calls Try.prog 8 #[.slice A n c, .agg #[.int .i64 d, .string cs]] W fun e w' => e = .returned (.bool true) ∧ Below W.heap.size W w' := by
  have hal : Below W.heap.size W (W.alloc (.cells #[.int .i64 d, .string cs] 23)) := (Below.refl _ _).alloc (Nat.le_refl _) _
  have HP : Hid (∀ w, Below W.heap.size W w → DrawersIn w w.heap.size A n c ds) := Lib.hid (fun w h => R.keep h)
  have HR := Lib.hid (R.keep hal); clear R
  obtain ⟨va, vb, vh, hv⟩ := findV_form (findO (ds.map (·.ps)) ⟨d, cs⟩)
  have HVV := Lib.hid hv; clear hv
  have hne1 : (va != va) = false := by simp
  have hne2 : (vb != vb) = false := by simp
  have hne3 : (vh != vh) = false := by simp
  go_enter Try.func8, Try.ntmps8
  go_wp2_with fail
  refine (szPadSS A n c ds 1048576 _ (by omega) (by omega) HR.out).mono ?_
  rintro e w1 ⟨r, rfl, hr, hb1⟩
  have b1 := below_next hal hb1
  have p0 := kcell hb1 (newcell W #[.int .i64 d, .string cs] 23 0 _ rfl)
  have p1 := kcell hb1 (newcell W #[.int .i64 d, .string cs] 23 1 _ rfl)
  have H1 := Lib.hid (HR.out.keep hb1)
  clear hb1
  have hr9 : r ≤ 1048576 := by rcases hr with h | ⟨_, h⟩ <;> omega
  rcases sz_split hr with hr | ⟨hr, hs⟩
  · go_wp2
    go_returns
    exact ⟨rfl, b1⟩
  go_wp2_with fail
  refine (szPad d cs r _ hr hr9 wc).mono ?_
  rintro e w2 ⟨rfl, hb2⟩
  have b2 := below_next b1 hb2
  have q0 := kcell hb2 p0; have q1 := kcell hb2 p1
  clear hb2 p0 p1 H1
  by_cases hneg : subL r cs.size < 0
  · go_wp2
    go_returns
    exact ⟨rfl, b2⟩
  have hneg2 : 0 ≤ subL r cs.size := by omega
  clear hneg
  -- the reference
  have d0 : w2.drew.cell? ⟨W.heap.size, 0, none⟩ = some (.int .i64 d) := q0
  have d1 : w2.drew.cell? ⟨W.heap.size, 1, none⟩ = some (.string cs) := q1
  have bd2 : Below W.heap.size W w2.drew := b2.drew
  clear q0 q1
  go_wp2_with fail
  go_region_held3 (fun w' => w'.cell? ⟨W.heap.size, 0, none⟩ = some (.int .i64 d) ∧ w'.cell? ⟨W.heap.size, 1, none⟩ = some (.string cs)) (first | exact ⟨by assumption, by assumption⟩ | go_keep)
    (first
      | (go_at_call 24; refine (copyCab A n c ds _ hs (HP.out _ bd2)).mono ?_; rintro e w3 ⟨d3, rfl, hc3, hb3⟩; have e0 := kcell hb3 d0; have e1 := kcell hb3 d1; have b3 := below_next bd2 hb3)
      | (go_at_call 17; refine (toPad d cs _).mono ?_; rintro e w4 ⟨rfl, hb4⟩; have f0 := kcell hb4 e0; have f1 := kcell hb4 e1; have b4 := below_next b3 hb4; have hc4 := hc3.keep hb4)
      | (go_at_call 29; refine (specCabinetFind _ _ _ d3 ⟨d, cs⟩ _ hc4.2.2.1 hc4.1).mono ?_; rintro e w5 ⟨hA, hb5⟩; unfold FindAns at hA; rw [hc4.2.1, HVV.out] at hA; subst hA; have b5 := below_next b4 hb5; have g0 := kcell hb5 f0; have g1 := kcell hb5 f1))
  clear d0 d1 e0 e1 f0 f1 hb5 hb4 hb3 hc3 hc4 bd2 b4 b3
  -- the copy, the program
  go_wp2_with fail
  refine (copyCab A n c ds _ hs (HP.out _ b5)).mono ?_
  rintro e w6 ⟨d6, rfl, hc6, hb6⟩
  have b6 := below_next b5 hb6
  have q0 := kcell hb6 g0; have q1 := kcell hb6 g1
  have C6 := Lib.hid hc6; clear hc6 hb6 g0 g1
  go_wp2_with fail
  refine (toPad d cs _).mono ?_
  rintro e w7 ⟨rfl, hb7⟩
  have b7 := below_next b6 hb7
  have C7 := Lib.hid (C6.out.keep hb7)
  clear C6 hb7 q0 q1
  go_wp2_with fail
  refine (implCabinetFind _ _ _ d6 ⟨d, cs⟩ _ C7.out.1).mono ?_
  rintro e w8 ⟨hA, hb8⟩
  unfold FindAns at hA
  rw [C7.out.2.1, HVV.out] at hA
  subst hA
  have b8 := below_next b7 hb8
  have C8 := Lib.hid (C7.out.keep hb8)
  clear hb8 C7
  go_wp2_with fail
  refine (copyCab A n c ds _ hs (HP.out _ b8)).mono ?_
  rintro e w9 ⟨d9, rfl, hc9, hb9⟩
  have b9 := below_next b8 hb9
  have C9 := Lib.hid hc9; clear hc9
  have D9 := Lib.hid (C8.out.keep hb9)
  go_wp2_with fail
  refine (eqPadSS _ _ n n n d6 d9 w9 (by rw [D9.out.2.1, C9.out.2.1]) D9.out.1 C9.out.1).mono ?_
  rintro e w10 ⟨rfl, hb10⟩
  have b10 := below_next b9 hb10
  go_wp2
  go_returns
  exact ⟨rfl, b10⟩

set_option maxRecDepth 100000 in
theorem lifted (os : Os) (started : os.Started) (H : Type) (enc : TypeId × Value → H) :
    ReturnsInHanded {} Try.checked os 8 .any (Rows.fnExactCabinetFindSpec.pre6 enc Try.prog Try.f8 Rows.fnExactCabinetFindRow.domain false) (Rows.fnExactCabinetFindSpec.post enc Try.prog Try.f8 false true false false) := by
  refine returnsInHanded_of_change (C := Try.checked) own started (by kernel_rfl) Try.func8
    (ChangeSpec.witness6 (enc := enc) (C := Try.checked) false ⟨#[], #[.slice none 0 0, .agg #[.int .i64 0, .string ByteArray.empty]], []⟩ 8 (by kernel_rfl) (by kernel_rfl) (by kernel_rfl) (by kernel_rfl)) ?_
  intro W base args ds gs before hval0 hW hcnd _
  have hval : ∀ (j : Nat) t v, Try.f8.params[j]? = some t → args[j]? = some v → Value.okWide Try.prog W .any base t v := hval0
  have hW' := hW
  obtain ⟨p, q, hA0, hV, rfl, hfz, hnd⟩ := hW
  have hA : DataW.TrodAll enc Try.prog W 0 (fun _ => true) true Try.f8.params.toList args.toList ds p := hA0
  rw [Try.params8] at hA hval
  obtain ⟨v0, vs0, d0, ds0, p0, q0, hargs, rfl, rfl, h0, r0⟩ := trodAll_cons hA
  obtain ⟨v1, vs1, d1, ds1, p1, q1, rfl, rfl, rfl, h1, r1⟩ := trodAll_cons r0
  obtain ⟨rfl, rfl, rfl⟩ := trodAll_nil r1
  obtain rfl : args = #[v0, v1] := by cases args; simp_all
  obtain ⟨rfl, rfl⟩ := trodVars_none hV
  have k0 := h0
  have lt0 : ∀ x ∈ p0, x.block < W.heap.size := by obtain ⟨m, hm⟩ := k0; exact DataW.trod_lt m _ _ _ hm
  obtain ⟨A_0, n_0, c_0, ds_0, rfl, R_0⟩ := openPadss (hval 0 36 v0 rfl rfl) h0
  have k1 := h1
  have lt1 : ∀ x ∈ p1, x.block < W.heap.size := by obtain ⟨m, hm⟩ := k1; exact DataW.trod_lt m _ _ _ hm
  obtain ⟨d_1, c_1, rfl, wd_1, wc_1⟩ := openPad (hval 1 23 v1 rfl rfl) h1
  clear hA0 hval0
  refine (walk A_0 n_0 c_0 ds_0 d_1 c_1 W R_0 wd_1 wc_1).mono fun e W' ⟨he, bel⟩ => ?_
  subst he
  exact ⟨_, rfl, _, _, _, [], _, [], hW', trodAll_mk1 (shut_bool Try.underlying4 _), (trodAll_cons_mk (Below.trod laidOut (by kernel_rfl) (of_decide_eq_true (by kernel_rfl)) k0 bel lt0) (trodAll_cons_mk (Below.trod laidOut (by kernel_rfl) (of_decide_eq_true (by kernel_rfl)) k1 bel lt1) trodAll_mk0)), rfl, bel.frame _, fun h => by cases h⟩

theorem over : Rows.fnExactCabinetFindRow.holds Try.pinned (OpenSpec.ofChange Rows.fnExactCabinetFindSpec) :=
  OpenClaim.holds_of_wide 8 Try.f8 rfl rfl rfl rfl rfl rfl rfl ⟨rfl, rfl, rfl, rfl, rfl⟩ rfl rfl rfl rfl rfl (by kernel_rfl) Try.func8 (by kernel_rfl)
    (of_decide_eq_true (by kernel_rfl)) (by unfold Func.isWrapper; first | (rw [if_pos (by decide +kernel)]; kernel_rfl) | (rw [if_neg (by decide +kernel)]; exact ⟨rfl, rfl⟩))
    (fun os started H enc _ => lifted os started H enc)

theorem proved : Rows.FnExactCabinetFindSaid := over
end Go.Proofs.Ytbeaandjhlpaeaa.fnExactCabinetFind
