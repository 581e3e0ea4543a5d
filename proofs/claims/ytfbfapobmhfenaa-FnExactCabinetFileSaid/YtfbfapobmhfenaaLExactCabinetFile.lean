/-
  The law FnExactCabinetFile returns true for every input, and what was in memory before the call reads as before: the frame round its walk.
  Conditions: none.
-/
import Derived.Test.YtfbfapobmhfenaaCabFile
import Derived.Test.YtfbfapobmhfenaaFileA
import Derived.Test.YtfbfapobmhfenaaMarkLaw
import Derived.Test.YtfbfapobmhfenaaTakeS
import Derived.Deep.RegionHeld3
namespace Go.Proofs.Ytfbfapobmhfenaa.fnExactCabinetFile
open Go.ChangeShapes Go.WideShapes Go.ChangeAt Go.RowKit
set_option linter.unusedVariables false

/-- The pad of a law in memory. -/
def BoxP (b : Nat) (d : Int) (c : ByteArray) (w : World) : Prop := w.cell? ⟨b, 0, none⟩ = some (.int .i64 d) ∧ w.cell? ⟨b, 1, none⟩ = some (.string c)
theorem BoxP.keep {b : Nat} {d : Int} {c : ByteArray} {w w' : World} (h : BoxP b d c w) (hb : Below w.heap.size w w') : BoxP b d c w' := ⟨kcell hb h.1, kcell hb h.2⟩
theorem BoxP.within {b lo hi : Nat} {d : Int} {c : ByteArray} {w w' : World} (h : BoxP b d c w) (hw : Within lo hi w w') (hb : b < lo) : BoxP b d c w' := by
  have hz := World.block_lt_of_cell? _ _ h.1
  have hk := hw.block b hz (.inl hb)
  exact ⟨(World.cell?_of_block (a := ⟨b, 0, none⟩) hk).trans h.1, (World.cell?_of_block (a := ⟨b, 1, none⟩) hk).trans h.2⟩
theorem flat_small {L : List (List Pad)} (h : ∀ l ∈ L, l.length ≤ 4) : L.flatten.length ≤ 4 * L.length := by
  induction L with
  | nil => simp
  | cons a r ih =>
    have := h a (by simp); have := ih (fun l hl => h l (by simp [hl]))
    rw [List.flatten_cons, List.length_append, List.length_cons]; omega
theorem ans_small (ds : List Drawer) (p : Pad) (_ : cabSz ds ≤ 1048576) : ((fileO (ds.map (·.ps)) p).getD []).length ≤ 1000 ∧ ((fileO (ds.map (·.ps)) p).getD []).flatten.length ≤ 1000 := by
  cases h : fileO (ds.map (·.ps)) p with
  | none => simp
  | some css =>
    have hc := fileO_ok h
    have := flat_small (fun l hl => (hc.2.1 l hl).2)
    have := hc.1
    simp only [Option.getD_some]; omega

set_option maxRecDepth 100000 in
set_option maxHeartbeats 1600000 in
theorem walk (A : Option Addr) (n c : Nat) (ds : List Drawer) (dd : Int) (pc : ByteArray) (W : World) (R : DrawersIn W W.heap.size A n c ds) (wd : (Lit.int .i64 dd).wf = true) (wc : pc.size ≤ maxLen) :
    Calls Try.prog 12 #[.slice A n c, .agg #[.int .i64 dd, .string pc]] W fun e w' => e = .returned (.bool true) ∧ Below W.heap.size W w' := by
  have hal : Below W.heap.size W (W.alloc (.cells #[.int .i64 dd, .string pc] 46)) := (Below.refl _ _).alloc (Nat.le_refl _) _
  have HP : Hid (∀ w, Below W.heap.size W w → DrawersIn w w.heap.size A n c ds) := Lib.hid (fun w h => R.keep h)
  have HR := Lib.hid (R.keep hal); clear R
  have BP0 : Hid (BoxP W.heap.size dd pc (W.alloc (.cells #[.int .i64 dd, .string pc] 46))) := Lib.hid ⟨newcell W #[.int .i64 dd, .string pc] _ 0 _ rfl, newcell W #[.int .i64 dd, .string pc] _ 1 _ rfl⟩
  have hgp : (⟨dd, pc⟩ : Pad).good := ⟨wd, wc⟩
  have HGP := Lib.hid hgp; clear hgp
  go_enter Try.func12, Try.ntmps12
  go_wp2_with fail
  refine (szPadSS A n c ds 1048576 _ (by omega) (by omega) HR.out).mono ?_
  rintro e w1 ⟨r, rfl, hr, hb1⟩
  have b1 := below_next hal hb1
  have BP1 := Lib.hid (BP0.out.keep hb1)
  have z01 : W.heap.size + 1 ≤ w1.heap.size := by have := hb1.size; simpa using this
  clear hb1 BP0
  have hr9 : r ≤ 1048576 := by rcases hr with h | ⟨_, h⟩ <;> omega
  rcases sz_split hr with hr | ⟨hr, hs⟩
  · go_wp2
    go_returns
    exact ⟨rfl, b1⟩
  have hN : n ≤ 1048576 := by have := cabSz_len ds; have := (HP.out w1 b1).1; omega
  have hsm := ans_small ds ⟨dd, pc⟩ hs
  obtain ⟨p0, p1⟩ := BP1.out
  go_wp2_with fail
  refine (szPad dd pc r _ hr hr9 wc).mono ?_
  rintro e w1' ⟨rfl, hb1⟩
  have b1 := below_next b1 hb1
  have BP1 := Lib.hid (BP1.out.keep hb1)
  have z01 := Nat.le_trans z01 hb1.size
  clear hb1 p0 p1
  by_cases hneg : subL r pc.size < 0
  · go_wp2
    go_returns
    exact ⟨rfl, b1⟩
  have hneg2 : 0 ≤ subL r pc.size := by omega
  clear hneg
  -- the reference
  have hp1 := BP1.out
  obtain ⟨d0, d1⟩ : w1'.drew.cell? ⟨W.heap.size, 0, none⟩ = some (.int .i64 dd) ∧ w1'.drew.cell? ⟨W.heap.size, 1, none⟩ = some (.string pc) := hp1
  have bd2 : Below W.heap.size W w1'.drew := b1.drew
  have z02 : W.heap.size + 1 ≤ w1'.drew.heap.size := z01
  go_wp2_with fail
  go_region_held3 (fun w' => w'.cell? ⟨W.heap.size, 0, none⟩ = some (.int .i64 dd) ∧ w'.cell? ⟨W.heap.size, 1, none⟩ = some (.string pc)) (first | exact ⟨by assumption, by assumption⟩ | go_keep)
    (first
      | (go_at_call 17; refine (copyCab A n c ds _ hs (HP.out _ bd2)).mono ?_; rintro e w2 ⟨d2, rfl, hc2, hb2⟩; have e0 := kcell hb2 d0; have e1 := kcell hb2 d1; have b2 := below_next bd2 hb2; have z03 := Nat.le_trans z02 hb2.size)
      | (go_at_call 34; refine (toPad dd pc _).mono ?_; rintro e w2' ⟨rfl, hb2'⟩; have f0 := kcell hb2' e0; have f1 := kcell hb2' e1; have b2' := below_next b2 hb2'; have hc2' := hc2.keep hb2'; have z04 := Nat.le_trans z03 hb2'.size)
      | (go_at_call 49; refine (specCabinetFile _ _ _ d2 ⟨dd, pc⟩ _ hc2'.2.2.1 HGP.out hc2'.1).mono ?_; rintro e w3 ⟨hA, hb3⟩; rw [hc2'.2.1] at hA; obtain ⟨A3, c3, s3, rfl, hO3, hM3⟩ := hA.form; have b3 := below_next b2' hb3; have g0 := kcell hb3 f0; have g1 := kcell hb3 f1; have z05 := Nat.le_trans z04 hb3.size))
  have BP3 : Hid (BoxP W.heap.size dd pc w3) := Lib.hid ⟨g0, g1⟩
  have W3 := Lib.hid hO3
  clear d0 d1 e0 e1 f0 f1 g0 g1 hb3 hb2' hb2 hc2 hc2' hO3 hA bd2 b2 b2' z02 z03 z04 BP1 b1 z01
  -- the copy, the program
  go_wp2_with fail
  refine (copyCab A n c ds w3 hs (HP.out w3 b3)).mono ?_
  rintro e w4 ⟨d4, rfl, hc4, hb4⟩
  have b4 := below_next b3 hb4
  have BP4 := Lib.hid (BP3.out.keep hb4)
  have C4 := Lib.hid hc4; clear hc4
  have W4 := Lib.hid (W3.out.keep hb4)
  have z34 := hb4.size
  obtain ⟨p0, p1⟩ := BP4.out
  go_wp2_with fail
  refine (toPad dd pc _).mono ?_
  rintro e w4' ⟨rfl, hb4'⟩
  have hU := Lib.hid C4.out.under
  have b4' := below_next b4 hb4'
  have BP4' := Lib.hid (BP4.out.keep hb4')
  have C4' := Lib.hid (C4.out.keep hb4')
  have W4' := Lib.hid (W4.out.keep hb4')
  have z44 := hb4'.size
  clear p0 p1 hb4' BP4 BP3 W4 C4
  go_wp2_with fail
  refine (implCabinetFile _ _ _ d4 ⟨dd, pc⟩ w4' C4'.out.2.2.1 HGP.out C4'.out.1).mono ?_
  rintro e w5 ⟨hA, hb5⟩
  rw [C4'.out.2.1] at hA
  obtain ⟨A5, c5, s5, rfl, hO5, hM5⟩ := hA.form
  have b5 := below_next b4' hb5
  have BP5 := Lib.hid (BP4'.out.keep hb5)
  have G5 := Lib.hid hO5; clear hO5 hA
  have W5 := Lib.hid (W4'.out.keep hb5)
  have C5 := Lib.hid (C4'.out.keep hb5)
  have z45 := hb5.size
  have hWl : Hid (s3.length = ((fileO (ds.map (·.ps)) ⟨dd, pc⟩).getD []).length) := Lib.hid (by rw [← hM3, List.length_map])
  have hGl : Hid (s5.length = ((fileO (ds.map (·.ps)) ⟨dd, pc⟩).getD []).length) := Lib.hid (by rw [← hM5, List.length_map])
  have HM3 := Lib.hid hM3; have HM5 := Lib.hid hM5
  have hq5 := totN_own G5.out hM5
  have hWu := W3.out.under
  rw [show s3.length = ((fileO (ds.map (·.ps)) ⟨dd, pc⟩).getD []).length from hWl.out] at hWu
  clear W3 W4' C4' hM3 hM5 BP4'
  generalize hea : (fileO (ds.map (·.ps)) ⟨dd, pc⟩).isSome = ans
  have EA := Lib.hid hea; clear hea
  have hne : (ans != ans) = false := by simp
  generalize hep : (fileO (ds.map (·.ps)) ⟨dd, pc⟩).getD [] = P at *
  have EP := Lib.hid hep; clear hep
  have HWb := Lib.hid hWu; clear hWu
  generalize hpn : P.length = N at *
  clear hpn
  rw [hWl.out, hGl.out]
  have W5 : Hid (CabOwn w5 w2'.heap.size (.slice A3 N c3) s3) := Lib.hid (by rw [← hWl.out]; exact W5.out)
  have G5 : Hid (CabOwn w5 w4'.heap.size (.slice A5 N c5) s5) := Lib.hid (by rw [← hGl.out]; exact G5.out)
  have hW53 : Hid (∀ b, (b < w3.heap.size) → b < w4.heap.size) := Lib.hid (fun b h => by omega)
  -- the answers agree
  go_wp2_with fail
  refine (eqPadSS A5 A3 N c5 c3 s5 s3 w5 (by rw [HM5.out, HM3.out]) (G5.out.reads hGl.out) (W5.out.reads hWl.out)).mono ?_
  rintro e w6 ⟨rfl, hb6⟩
  have b6 := below_next b5 hb6
  have BP6 := Lib.hid (BP5.out.keep hb6)
  have G6 := Lib.hid (G5.out.keep hb6)
  have W6 := Lib.hid (W5.out.keep hb6)
  have C6 := Lib.hid (C5.out.keep hb6)
  have z56 := hb6.size
  clear G5 W5 C5
  go_wp2_with fail
  refine (copyCab A n c ds w6 hs (HP.out w6 b6)).mono ?_
  rintro e w7 ⟨d7, rfl, hc7, hb7⟩
  have b7 := below_next b6 hb7
  have BP7 := Lib.hid (BP6.out.keep hb7)
  have C7 := Lib.hid hc7; clear hc7
  have G7 := Lib.hid (G6.out.keep hb7)
  have W7 := Lib.hid (W6.out.keep hb7)
  have CA7 := Lib.hid (C6.out.keep hb7)
  have z67 := hb7.size
  clear G6 W6 C6
  go_wp2_with fail
  refine (eqPadSS _ _ n n n d4 d7 w7 (by rw [CA7.out.2.1, C7.out.2.1]) CA7.out.1 C7.out.1).mono ?_
  rintro e w8 ⟨rfl, hb8⟩
  have b8 := below_next b7 hb8
  have BP8 := Lib.hid (BP7.out.keep hb8)
  have G8 := Lib.hid (G7.out.keep hb8)
  have W8 := Lib.hid (W7.out.keep hb8)
  have CA8 := Lib.hid (CA7.out.keep hb8)
  have z78 := hb8.size
  clear G7 W7 CA7 C7
  -- the copy is marked
  go_wp2_with fail
  refine (markPadSS w3.heap.size n w4.heap.size ds d4 w8 hN CA8.out.2.2.1 CA8.out hU.out).mono ?_
  rintro e w9 ⟨⟨m, rfl⟩, hw9⟩
  have z3 := b3.size
  have z8 := b8.size
  have b9 := hw9.below b8 (by omega) z8
  have G9 := Lib.hid (G8.out.within hw9 (fun b hv => .inr (Nat.le_trans z44 (own_base G8.out.1 hv))) (fun d hd b hv => .inr (Nat.le_trans z44 (own_base (G8.out.2.1 d hd).2.1 hv))))
  have W9 := Lib.hid (W8.out.within hw9 (fun b hv => .inl (by have := HWb.out.1 b hv; omega)) (fun d hd b hv => .inl (by have := HWb.out.2 d hd b hv; omega)))
  have z89 := hw9.size
  have BP9 := Lib.hid (BP8.out.within hw9 (by omega))
  clear G8 W8 CA8 hU
  have hm0 : ¬ ((m : Int) < 0) := by omega
  go_wp2_with fail
  refine (eqPadSS A5 A3 N c5 c3 s5 s3 w9 (by rw [HM5.out, HM3.out]) (G9.out.reads hGl.out) (W9.out.reads hWl.out)).mono ?_
  rintro e w10 ⟨rfl, hb10⟩
  have b10 := below_next b9 hb10
  have BP10 := Lib.hid (BP9.out.keep hb10)
  have G10 := Lib.hid (G9.out.keep hb10)
  have W10 := Lib.hid (W9.out.keep hb10)
  have z910 := hb10.size
  clear G9 W9
  -- the answer is marked
  go_wp2_with fail
  refine (markCab A5 N c5 1 w4'.heap.size w4'.heap.size w10.heap.size s5 w10 (by omega) (by omega) (by omega) (by omega) hGl.out (Nat.le_refl _) (Nat.le_refl _) G10.out).mono ?_
  rintro e w11 ⟨rfl, hg11, hM11⟩
  have b11 : Below W.heap.size W w11 := hg11.below b10 (by have := b4'.size; omega) b10.size
  have W11 := Lib.hid (W10.out.within hg11 (fun b hv => .inl (by have := HWb.out.1 b hv; omega)) (fun d hd b hv => .inl (by have := HWb.out.2 d hd b hv; omega)))
  have M11 := Lib.hid (hM11.reads (by rw [markDs_len]; exact hGl.out))
  have z1011 := hg11.size
  have BP11 := Lib.hid (BP10.out.within hg11 (by omega))
  clear hM11 hg11 G10 W10
  generalize htn : totN s5 = T at *
  have HTN := Lib.hid htn; clear htn
  go_wp2_with fail
  refine (heldCab A5 N c5 1 s5 w11 (by omega) (by omega) (by rw [HTN.out]; omega) M11.out).mono ?_
  rw [HTN.out]
  rintro e w12 ⟨rfl, hb12⟩
  have b12 := below_next b11 hb12
  have BP12 := Lib.hid (BP11.out.keep hb12)
  have M12 := Lib.hid (M11.out.keep hb12)
  have W12 := Lib.hid (W11.out.keep hb12)
  clear M11 W11
  -- the program once more
  have hAns : Hid (∀ (w13 : World) (d13 : List Drawer) (g13 : Nat), Copy w13 n (some ⟨g13, 0, none⟩) ds d13 → Calls Try.prog 48 #[.slice (some ⟨g13, 0, none⟩) n n, .agg #[.int .i64 dd, .string pc]] w13 fun e w' => ∃ A c s, e = .returned (.tuple #[.slice A N c, .bool ans]) ∧ CabOwn w' w13.heap.size (.slice A N c) s ∧ s.length = N ∧ s.map (·.ps) = P ∧ Below w13.heap.size w13 w') := Lib.hid (fun w13 d13 g13 hc13 => (implCabinetFile _ _ _ d13 ⟨dd, pc⟩ w13 hc13.2.2.1 HGP.out hc13.1).mono (by
    rintro e w ⟨hA, hb⟩
    rw [hc13.2.1] at hA
    obtain ⟨A, c, s, rfl, hO, hM⟩ := hA.form
    rw [EP.out] at hM
    have hl : s.length = N := by rw [← hGl.out, ← List.length_map (f := (·.ps)), hM, ← HM5.out, List.length_map]
    rw [EA.out, hl]
    rw [hl] at hO
    exact ⟨A, c, s, rfl, hO, hl, hM, hb⟩))
  have hp12 := BP12.out
  obtain ⟨d0, d1⟩ : w12.drew.cell? ⟨W.heap.size, 0, none⟩ = some (.int .i64 dd) ∧ w12.drew.cell? ⟨W.heap.size, 1, none⟩ = some (.string pc) := hp12
  have bd12 : Below W.heap.size W w12.drew := b12.drew
  have Md12 : Hid (DrawersIn w12.drew w12.drew.heap.size A5 N c5 (markDs 1 s5)) := Lib.hid M12.out
  have Wd12 : Hid (CabOwn w12.drew w2'.heap.size (.slice A3 N c3) s3) := Lib.hid W12.out
  clear BP12 M12 W12
  go_wp2_with fail
  go_region_held3 (fun w' => w'.cell? ⟨W.heap.size, 0, none⟩ = some (.int .i64 dd) ∧ w'.cell? ⟨W.heap.size, 1, none⟩ = some (.string pc)) (first | exact ⟨by assumption, by assumption⟩ | go_keep)
    (first
      | (go_at_call 17; refine (copyCab A n c ds _ hs (HP.out _ bd12)).mono ?_; rintro e w13 ⟨d13, rfl, hc13, hb13⟩; have e0 := kcell hb13 d0; have e1 := kcell hb13 d1; have b13 := below_next bd12 hb13)
      | (go_at_call 34; refine (toPad dd pc _).mono ?_; rintro e w13' ⟨rfl, hb13'⟩; have f0 := kcell hb13' e0; have f1 := kcell hb13' e1; have b13' := below_next b13 hb13'; have hc13' := hc13.keep hb13')
      | (go_at_call 48; refine (hAns.out _ _ _ hc13').mono ?_; rintro e w14 ⟨A14, c14, s14, rfl, hO14, hl14, hM14, hb14⟩; have b14 := below_next b13' hb14; have g0 := kcell hb14 f0; have g1 := kcell hb14 f1))
  have G14 := Lib.hid hO14; have HM14 := Lib.hid hM14; have HL14 := Lib.hid hl14
  have M14 := Lib.hid (((Md12.out.keep hb13).keep hb13').keep hb14)
  have W14 := Lib.hid (((Wd12.out.keep hb13).keep hb13').keep hb14)
  clear hO14 hAns hM14 hl14 d0 d1 e0 e1 f0 f1 g0 g1 hb13 hb13' hb14 hc13 hc13' Md12 Wd12 bd12 b13 b13'
  go_wp2_with fail
  refine (eqPadSS A14 A3 N c14 c3 s14 s3 w14 (by rw [HM14.out, HM3.out]) (G14.out.reads HL14.out) (W14.out.reads hWl.out)).mono ?_
  rintro e w15 ⟨rfl, hb15⟩
  have b15 := below_next b14 hb15
  have M15 := Lib.hid (M14.out.keep hb15)
  clear M14 W14 G14
  go_wp2_with fail
  refine (heldCab A5 N c5 1 s5 w15 (by omega) (by omega) (by rw [HTN.out]; omega) M15.out).mono ?_
  rw [HTN.out]
  rintro e w16 ⟨rfl, hb16⟩
  have b16 := below_next b15 hb16
  go_wp2
  go_returns
  exact ⟨rfl, b16⟩


set_option maxRecDepth 100000 in
theorem lifted (os : Os) (started : os.Started) (H : Type) (enc : TypeId × Value → H) :
    ReturnsInHanded {} Try.checked os 12 .any (Rows.fnExactCabinetFileSpec.pre6 enc Try.prog Try.f12 Rows.fnExactCabinetFileRow.domain false) (Rows.fnExactCabinetFileSpec.post enc Try.prog Try.f12 false true false false) := by
  refine returnsInHanded_of_change (C := Try.checked) own started (by kernel_rfl) Try.func12
    (ChangeSpec.witness6 (enc := enc) (C := Try.checked) false ⟨#[], #[.slice none 0 0, .agg #[.int .i64 0, .string ByteArray.empty]], []⟩ 8 (by kernel_rfl) (by kernel_rfl) (by kernel_rfl) (by kernel_rfl)) ?_
  intro W base args ds gs before hval0 hW hcnd _
  have hval : ∀ (j : Nat) t v, Try.f12.params[j]? = some t → args[j]? = some v → Value.okWide Try.prog W .any base t v := hval0
  have hW' := hW
  obtain ⟨p, q, hA0, hV, rfl, hfz, hnd⟩ := hW
  have hA : DataW.TrodAll enc Try.prog W 0 (fun _ => true) true Try.f12.params.toList args.toList ds p := hA0
  rw [Try.params12] at hA hval
  obtain ⟨v0, vs0, d0, ds0, p0, q0, hargs, rfl, rfl, h0, r0⟩ := trodAll_cons hA
  obtain ⟨v1, vs1, d1, ds1, p1, q1, rfl, rfl, rfl, h1, r1⟩ := trodAll_cons r0
  obtain ⟨rfl, rfl, rfl⟩ := trodAll_nil r1
  obtain rfl : args = #[v0, v1] := by cases args; simp_all
  obtain ⟨rfl, rfl⟩ := trodVars_none hV
  have k0 := h0
  have lt0 : ∀ x ∈ p0, x.block < W.heap.size := by obtain ⟨m, hm⟩ := k0; exact DataW.trod_lt m _ _ _ hm
  obtain ⟨A_0, n_0, c_0, ds_0, rfl, R_0⟩ := openPadss (hval 0 22 v0 rfl rfl) h0
  have k1 := h1
  have lt1 : ∀ x ∈ p1, x.block < W.heap.size := by obtain ⟨m, hm⟩ := k1; exact DataW.trod_lt m _ _ _ hm
  obtain ⟨d_1, c_1, rfl, wd_1, wc_1⟩ := openPad (hval 1 46 v1 rfl rfl) h1
  clear hA0 hval0
  refine (walk A_0 n_0 c_0 ds_0 d_1 c_1 W R_0 wd_1 wc_1).mono fun e W' ⟨he, bel⟩ => ?_
  subst he
  exact ⟨_, rfl, _, _, _, [], _, [], hW', trodAll_mk1 (shut_bool Try.underlying4 _), (trodAll_cons_mk (Below.trod laidOut (by kernel_rfl) (of_decide_eq_true (by kernel_rfl)) k0 bel lt0) (trodAll_cons_mk (Below.trod laidOut (by kernel_rfl) (of_decide_eq_true (by kernel_rfl)) k1 bel lt1) trodAll_mk0)), rfl, bel.frame _, fun h => by cases h⟩

theorem over : Rows.fnExactCabinetFileRow.holds Try.pinned (OpenSpec.ofChange Rows.fnExactCabinetFileSpec) :=
  OpenClaim.holds_of_wide 12 Try.f12 rfl rfl rfl rfl rfl rfl rfl ⟨rfl, rfl, rfl, rfl, rfl⟩ rfl rfl rfl rfl rfl (by kernel_rfl) Try.func12 (by kernel_rfl)
    (of_decide_eq_true (by kernel_rfl)) (by unfold Func.isWrapper; first | (rw [if_pos (by decide +kernel)]; kernel_rfl) | (rw [if_neg (by decide +kernel)]; exact ⟨rfl, rfl⟩))
    (fun os started H enc _ => lifted os started H enc)

theorem proved : Rows.FnExactCabinetFileSaid := over
end Go.Proofs.Ytfbfapobmhfenaa.fnExactCabinetFile
