/-
  The law FnOutlineJoin returns true for every input, and what was in memory before the call reads as before: the frame round its walk.
  Conditions: none.
-/
import Derived.Test.YtdejgnlmofgdjaaDoorLaidStep
import Derived.Test.YtdejgnlmofgdjaaDoorJoin
import Derived.Test.YtdejgnlmofgdjaaDoorDrawOut
import Derived.Test.YtdejgnlmofgdjaaDoorSameS
import Derived.Test.YtdejgnlmofgdjaaDoorTie
import Derived.Test.YtdejgnlmofgdjaaDoorCards
import Derived.JoinedCond
import Derived.SevenTiedAt
namespace Go.Proofs.YtdejgnlmofgdjaaDoor.fnOutlineJoin
open Go.ChangeShapes Go.WideShapes Go.ChangeAt Go.RowKit
set_option linter.unusedVariables false

theorem smReads {w : World} {B N : Nat} {v : Value} (h : SmOwn w B N v) : ∃ A c ss, ss.length = N ∧ v = .slice A N c ∧ StrokesIn w w.heap.size A N c ss := by
  obtain ⟨ss, hl, hO, hS⟩ := h
  obtain ⟨A, c, rfl, _, _⟩ := ownG_form hO
  subst hl
  exact ⟨A, c, ss, rfl, rfl, hO.reads rfl fun s hs => (hS s hs).good⟩
set_option maxRecDepth 100000 in
theorem drawOutlineJoin (A : Option Addr) (n c : Nat) (bs : List Int) (w : World) (hb : BytesIn w w.heap.size A n c bs) :
    Calls Tryd.prog 6 #[.slice A n c] w fun e w' => (∃ A N c ss A' N' c' ss', e = .returned (.tuple #[.slice A N c, .slice A' N' c']) ∧ N ≤ 5 ∧ N' ≤ 5 ∧ StrokesIn w' w'.heap.size A N c ss ∧ StrokesIn w' w'.heap.size A' N' c' ss') ∧ Below w.heap.size w w' := by
  have HO := Lib.hid (l6Open A n c bs w.heap.size w (Nat.le_refl _) hb)
  clear hb
  go_enter Tryd.func6, Tryd.ntmps6
  go_wp2_with fail
  refine HO.out.mono ?_
  rintro e w1 ⟨rfl, b1, hr1⟩
  have hg1 := hr1.lt
  have hB1 := b1.size
  have HL := Lib.hid (l91Outline w.heap.size w.heap.size 0 5 w1 (by omega) (by omega) hr1 hB1)
  clear hr1 HO
  go_wp2_with fail
  refine HL.out.mono ?_
  rintro e w2 ⟨N, v, hN, rfl, hO2, hg2, hr2⟩
  have b2 := b1.grown hg2 hB1 (fun k hk => by injection hk with hk; omega)
  have hB2 := b2.size
  have HL2 := Lib.hid (l91Outline w.heap.size w.heap.size (0 + 100) 5 w2 (by omega) (by omega) hr2 hB2)
  have HO2 := Lib.hid hO2
  clear hO2 hg2 hr2 HL
  go_wp2_with fail
  refine HL2.out.mono ?_
  rintro e w3 ⟨N', v', hN', rfl, hO3, hg3, _⟩
  have b3 := b2.grown hg3 hB2 (fun k hk => by injection hk with hk; omega)
  have HS := Lib.hid (smReads (HO2.out.only hg3 hg1))
  have HS' := Lib.hid (smReads hO3)
  clear hO3 hg3 HL2 HO2
  go_wp2
  go_returns
  obtain ⟨A2, c2, ss, _, rfl, hS⟩ := HS.out
  obtain ⟨A3, c3, ss', _, rfl, hS'⟩ := HS'.out
  exact ⟨⟨A2, N, c2, ss, A3, N', c3, ss', rfl, hN, hN', hS, hS'⟩, b3⟩
theorem outTextLen (ss : List Stroke) : (outText ss).length ≤ 16 := by
  cases h : outB ss with
  | false => rw [outText_no h]; simp
  | true => rw [outText_yes h, textS_len]; have := outB_len h; omega
set_option maxRecDepth 100000 in
set_option maxHeartbeats 3200000 in
theorem walk (A : Option Addr) (n c : Nat) (bs : List Int) (W : World) (hb : BytesIn W W.heap.size A n c bs) (HLd : laidMet Tryd.prog laidL W) :
    Calls Tryd.prog 3 #[.slice A n c] W fun e w' => e = .returned (.bool true) ∧ Below W.heap.size W w' := by
  have hm := hb.2.2.1
  have hnc := hb.2.1
  unfold maxLen at hm
  have HTb := Lib.hid (tabOf HLd)
  clear HLd
  by_cases hn : 1048576 < n
  · clear hb
    go_enter Tryd.func3, Tryd.ntmps3
    go_wp2
    go_returns
    exact ⟨rfl, by go_grown⟩
  have HD := Lib.hid (drawOutlineJoin A n c bs W hb)
  clear hb
  go_enter Tryd.func3, Tryd.ntmps3
  go_wp2_with fail
  refine HD.out.mono ?_
  rintro e w1 ⟨⟨A1, N1, c1, a, A2, N2, c2, b, rfl, h5, h5', ha, hb⟩, b1⟩
  have HTw := Lib.hid (HTb.out.keep b1)
  have Ha := Lib.hid ha; have Hb := Lib.hid hb
  have HI := Lib.hid (implOutlineJoin A1 N1 c1 A2 N2 c2 a b w1 ha hb)
  have HS : Hid (∀ w, Below w1.heap.size w1 w → Calls Tryd.prog 8 #[.slice A1 N1 c1, .slice A2 N2 c2] w fun e w' => JoinAns w' w.heap.size a b e ∧ Below w.heap.size w w') := Lib.hid (fun w h => specOutlineJoin A1 N1 c1 A2 N2 c2 a b w h5 h5' (ha.keep h) (hb.keep h))
  clear ha hb HD HTb
  go_wp2_with fail
  refine HI.out.mono ?_
  rintro e w2 ⟨hA2, hb2⟩
  have b2 := below_next b1 hb2
  have k2 := hb2
  clear hb2 HI
  have HS2 := Lib.hid (HS.out w2 k2)
  clear HS
  rcases hA2 with ⟨hno, A3, c3, rfl, hO3⟩ | ⟨A3, c3, hoa, hob, hoj, rfl, hR3⟩
  · have HR3 := Lib.hid (hO3.reads (n := 0) rfl (by simp))
    have HNo := Lib.hid hno
    clear hO3 hno
    go_wp2_with fail
    refine HS2.out.mono ?_
    rintro e w3 ⟨hA3, hb3⟩
    rcases hA3 with ⟨_, A4, c4, rfl, hO4⟩ | ⟨A4, c4, hoa, hob, hoj, _, _⟩
    rotate_left
    · exact absurd ⟨hoa, hob, hoj⟩ HNo.out
    have b3 := below_next b2 hb3
    have HR4 := Lib.hid (hO4.reads (n := 0) rfl (by simp))
    have HSm : Hid (∀ w, Below w3.heap.size w3 w → Calls Tryd.prog 9 #[.slice A3 0 c3, .slice A4 0 c4] w fun e w' => e = .returned (.bool true) ∧ Below w.heap.size w w') := Lib.hid (fun w h => sameStrokes A3 A4 0 c3 c4 [] w ((HR3.out.keep hb3).keep h) (HR4.out.keep h))
    clear hO4 HS2
    go_wp2_with fail
    refine (HSm.out w3 (Below.refl _ _)).mono ?_
    rintro e w4 ⟨rfl, hb4⟩
    have b4 := below_next b3 hb4
    go_wp2_with fail
    refine (HSm.out w4 hb4).mono ?_
    rintro e w5 ⟨rfl, hb5⟩
    have b5 := below_next b4 hb5
    go_wp2
    go_returns
    exact ⟨rfl, b5⟩
  · have HR3 := Lib.hid hR3
    have HOa := Lib.hid hoa; have HOb := Lib.hid hob; have HOj := Lib.hid hoj
    have ua := unitsS_len (ss := a) fun s hs => outB_ok hoa hs
    have ub := unitsS_len (ss := b) fun s hs => outB_ok hob hs
    have uj := unitsS_len (ss := a ++ b) fun s hs => outB_ok hoj hs
    have la := outB_len hoa; have lb := outB_len hob; have lj := outB_len hoj
    have hEa := endU_bd (0, 0) (unitsS a)
    have hEb := endU_bd (0, 0) (unitsS b)
    have hEj := endS_app a b
    have hTa := touchN_le [] (ptsS a); have hTb := touchN_le [] (ptsS b); have hTj := touchN_le [] (ptsS (a ++ b))
    have hTT := touchS_app a b
    have hpa : (ptsS a).length = _ := trailU_len (0, 0) (unitsS a)
    have hpb : (ptsS b).length = _ := trailU_len (0, 0) (unitsS b)
    have hpj : (ptsS (a ++ b)).length = _ := trailU_len (0, 0) (unitsS (a ++ b))
    have hLa : lenO a = lenS a := by unfold lenO; rw [if_pos hoa]
    have hLb : lenO b = lenS b := by unfold lenO; rw [if_pos hob]
    have hLj : lenO (a ++ b) = lenS (a ++ b) := by unfold lenO; rw [if_pos hoj]
    have hLL : lenS (a ++ b) = lenS a + lenS b := by simp [lenS]
    have hLba := lenS_bd (ss := a) fun s hs => outB_ok hoa hs
    have hLbb := lenS_bd (ss := b) fun s hs => outB_ok hob hs
    have hX : outText a ++ outText b = outText (a ++ b) := by rw [outText_yes hoa, outText_yes hob, outText_yes hoj]; simp [textS]
    have hXa := outTextLen a; have hXb := outTextLen b
    have hadd : ∀ W', (Op.stringOp .add (mkStr (outText a)) (mkStr (outText b))).run Tryd.prog W' = .ok (.string (mkStr (outText (a ++ b)))) W' := fun W' => by
      have h := run_add (P := Tryd.prog) (outText a) (outText b) (by omega) W'
      rwa [hX] at h
    have hxe : (endS (a ++ b)).1 = (endS a).1 + (endS b).1 := by rw [hEj]
    have hye : (endS (a ++ b)).2 = (endS a).2 + (endS b).2 := by rw [hEj]
    have QEa : Hid (∀ w, Below w1.heap.size w1 w → Calls Tryd.prog 10 #[.slice A1 N1 c1] w fun e w' => e = .returned (.tuple #[.int .i64 (endS a).1, .int .i64 (endS a).2, .bool true]) ∧ Below w.heap.size w w') := Lib.hid (fun w h => implOutlineEnd A1 N1 c1 a w (Ha.out.keep h) HOa.out (HTw.out.keep h))
    have QEb : Hid (∀ w, Below w1.heap.size w1 w → Calls Tryd.prog 10 #[.slice A2 N2 c2] w fun e w' => e = .returned (.tuple #[.int .i64 (endS b).1, .int .i64 (endS b).2, .bool true]) ∧ Below w.heap.size w w') := Lib.hid (fun w h => implOutlineEnd A2 N2 c2 b w (Hb.out.keep h) HOb.out (HTw.out.keep h))
    have QEj : Hid (∀ w, Below w2.heap.size w2 w → Calls Tryd.prog 10 #[.slice A3 (a ++ b).length c3] w fun e w' => e = .returned (.tuple #[.int .i64 ((endS a).1 + (endS b).1), .int .i64 ((endS a).2 + (endS b).2), .bool true]) ∧ Below w.heap.size w w') := Lib.hid (fun w h => by
      have h1 := implOutlineEnd A3 (a ++ b).length c3 (a ++ b) w (HR3.out.keep h) HOj.out (HTw.out.keep (below_next k2 h))
      rwa [hxe, hye] at h1)
    have QLa : Hid (∀ w, Below w1.heap.size w1 w → Calls Tryd.prog 11 #[.slice A1 N1 c1] w fun e w' => e = .returned (.int .i64 (lenS a)) ∧ Below w.heap.size w w') := Lib.hid (fun w h => by have h1 := implOutlineLength A1 N1 c1 a w (Ha.out.keep h); rwa [hLa] at h1)
    have QLb : Hid (∀ w, Below w1.heap.size w1 w → Calls Tryd.prog 11 #[.slice A2 N2 c2] w fun e w' => e = .returned (.int .i64 (lenS b)) ∧ Below w.heap.size w w') := Lib.hid (fun w h => by have h1 := implOutlineLength A2 N2 c2 b w (Hb.out.keep h); rwa [hLb] at h1)
    have QLj : Hid (∀ w, Below w2.heap.size w2 w → Calls Tryd.prog 11 #[.slice A3 (a ++ b).length c3] w fun e w' => e = .returned (.int .i64 (lenS a + lenS b)) ∧ Below w.heap.size w w') := Lib.hid (fun w h => by have h1 := implOutlineLength A3 (a ++ b).length c3 (a ++ b) w (HR3.out.keep h); rwa [hLj, hLL] at h1)
    have QTa : Hid (∀ w, Below w1.heap.size w1 w → Calls Tryd.prog 12 #[.slice A1 N1 c1] w fun e w' => e = .returned (.int .i64 (touchS a : Int)) ∧ Below w.heap.size w w') := Lib.hid (fun w h => implOutlineTouches A1 N1 c1 a w (Ha.out.keep h) HOa.out (HTw.out.keep h))
    have QTb : Hid (∀ w, Below w1.heap.size w1 w → Calls Tryd.prog 12 #[.slice A2 N2 c2] w fun e w' => e = .returned (.int .i64 (touchS b : Int)) ∧ Below w.heap.size w w') := Lib.hid (fun w h => implOutlineTouches A2 N2 c2 b w (Hb.out.keep h) HOb.out (HTw.out.keep h))
    have QTj : Hid (∀ w, Below w2.heap.size w2 w → Calls Tryd.prog 12 #[.slice A3 (a ++ b).length c3] w fun e w' => e = .returned (.int .i64 (touchS (a ++ b) : Int)) ∧ Below w.heap.size w w') := Lib.hid (fun w h => implOutlineTouches A3 (a ++ b).length c3 (a ++ b) w (HR3.out.keep h) HOj.out (HTw.out.keep (below_next k2 h)))
    have QXa : Hid (∀ w, Below w1.heap.size w1 w → Calls Tryd.prog 13 #[.slice A1 N1 c1] w fun e w' => e = .returned (.string (mkStr (outText a))) ∧ Below w.heap.size w w') := Lib.hid (fun w h => implOutlineText A1 N1 c1 a w (Ha.out.keep h))
    have QXb : Hid (∀ w, Below w1.heap.size w1 w → Calls Tryd.prog 13 #[.slice A2 N2 c2] w fun e w' => e = .returned (.string (mkStr (outText b))) ∧ Below w.heap.size w w') := Lib.hid (fun w h => implOutlineText A2 N2 c2 b w (Hb.out.keep h))
    have QXj : Hid (∀ w, Below w2.heap.size w2 w → Calls Tryd.prog 13 #[.slice A3 (a ++ b).length c3] w fun e w' => e = .returned (.string (mkStr (outText (a ++ b)))) ∧ Below w.heap.size w w') := Lib.hid (fun w h => implOutlineText A3 (a ++ b).length c3 (a ++ b) w (HR3.out.keep h))
    have hEa' : -24 ≤ (endS a).1 ∧ (endS a).1 ≤ 24 ∧ -24 ≤ (endS a).2 ∧ (endS a).2 ≤ 24 := by unfold endS; dsimp only at hEa; omega
    have hEb' : -24 ≤ (endS b).1 ∧ (endS b).1 ≤ 24 ∧ -24 ≤ (endS b).2 ∧ (endS b).2 ≤ 24 := by unfold endS; dsimp only at hEb; omega
    have hTa' : touchS a ≤ 25 := by unfold touchS; omega
    have hTb' : touchS b ≤ 25 := by unfold touchS; omega
    have hTj' : touchS (a ++ b) ≤ 25 := by unfold touchS; omega
    have hl1 : 0 ≤ lenS a ∧ lenS a ≤ 24 := by omega
    have hl2 : 0 ≤ lenS b ∧ lenS b ≤ 24 := by omega
    clear hEa hEb hTa hTb hTj hpa hpb hpj ua ub uj hLa hLb hLj hLL hLba hLbb hX hXa hXb hEj hxe hye hoa hob hoj hR3
    generalize (endS a).1 = xa at *
    generalize (endS a).2 = ya at *
    generalize (endS b).1 = xb at *
    generalize (endS b).2 = yb at *
    generalize lenS a = za at *
    generalize lenS b = zb at *
    generalize touchS a = ta at *
    generalize touchS b = tb at *
    generalize touchS (a ++ b) = tj at *
    generalize mkStr (outText a) = sa at *
    generalize mkStr (outText b) = sb at *
    generalize mkStr (outText (a ++ b)) = sj at *
    have hw1 : IntKind.i64.wrap (xa + xb) = xa + xb := IntWalk.i64_in _ (by omega)
    have hw2 : IntKind.i64.wrap (ya + yb) = ya + yb := IntWalk.i64_in _ (by omega)
    have hw3 : IntKind.i64.wrap (za + zb) = za + zb := IntWalk.i64_in _ (by omega)
    have hw4 : IntKind.i64.wrap ((ta : Int) + (tb : Int)) = (ta : Int) + (tb : Int) := IntWalk.i64_in _ (by omega)
    have hge : (ta : Int) + (tb : Int) ≤ (tj : Int) := by omega
    generalize hNn : (a ++ b).length = N3 at *
    have HNn := Lib.hid hNn; clear hNn
    go_wp2_with fail
    refine HS2.out.mono ?_
    rintro e w3 ⟨hA3, hb3⟩
    rcases hA3 with ⟨hno, _⟩ | ⟨A4, c4, _, _, _, rfl, hR4⟩
    · exact absurd ⟨HOa.out, HOb.out, HOj.out⟩ hno
    have b3 := below_next b2 hb3
    have k3 := below_next k2 hb3
    have j3 := hb3
    have HR4 := Lib.hid hR4
    rw [HNn.out] at HR4 ⊢
    have HSm : Hid (Calls Tryd.prog 9 #[.slice A3 N3 c3, .slice A4 N3 c4] w3 fun e w' => e = .returned (.bool true) ∧ Below w3.heap.size w3 w') := Lib.hid (sameStrokes A3 A4 N3 c3 c4 (a ++ b) w3 (HR3.out.keep hb3) HR4.out)
    clear hR4 hb3 HS2
    go_wp2_with fail
    refine HSm.out.mono ?_
    rintro e w4 ⟨rfl, hb4⟩
    have b4 := below_next b3 hb4
    have k4 := below_next k3 hb4
    have j4 := below_next j3 hb4
    clear hb4 HSm b3 k3 j3
    go_wp2_with fail
    refine (QEa.out _ k4).mono ?_
    rintro e w5 ⟨rfl, hb5⟩
    have b5 := below_next b4 hb5
    have k5 := below_next k4 hb5
    have j5 := below_next j4 hb5
    clear hb5 QEa b4 k4 j4
    go_wp2_with fail
    refine (QEb.out _ k5).mono ?_
    rintro e w6 ⟨rfl, hb6⟩
    have b6 := below_next b5 hb6
    have k6 := below_next k5 hb6
    have j6 := below_next j5 hb6
    clear hb6 QEb b5 k5 j5
    go_wp2_with fail
    refine (QEj.out _ j6).mono ?_
    rintro e w7 ⟨rfl, hb7⟩
    have b7 := below_next b6 hb7
    have k7 := below_next k6 hb7
    have j7 := below_next j6 hb7
    clear hb7 QEj b6 k6 j6
    go_wp2_with fail
    refine (QLj.out _ j7).mono ?_
    rintro e w8 ⟨rfl, hb8⟩
    have b8 := below_next b7 hb8
    have k8 := below_next k7 hb8
    have j8 := below_next j7 hb8
    clear hb8 QLj b7 k7 j7
    go_wp2_with fail
    refine (QLa.out _ k8).mono ?_
    rintro e w9 ⟨rfl, hb9⟩
    have b9 := below_next b8 hb9
    have k9 := below_next k8 hb9
    have j9 := below_next j8 hb9
    clear hb9 QLa b8 k8 j8
    go_wp2_with fail
    refine (QLb.out _ k9).mono ?_
    rintro e w10 ⟨rfl, hb10⟩
    have b10 := below_next b9 hb10
    have k10 := below_next k9 hb10
    have j10 := below_next j9 hb10
    clear hb10 QLb b9 k9 j9
    go_wp2_with fail
    refine (QTj.out _ j10).mono ?_
    rintro e w11 ⟨rfl, hb11⟩
    have b11 := below_next b10 hb11
    have k11 := below_next k10 hb11
    have j11 := below_next j10 hb11
    clear hb11 QTj b10 k10 j10
    go_wp2_with fail
    refine (QTa.out _ k11).mono ?_
    rintro e w12 ⟨rfl, hb12⟩
    have b12 := below_next b11 hb12
    have k12 := below_next k11 hb12
    have j12 := below_next j11 hb12
    clear hb12 QTa b11 k11 j11
    go_wp2_with fail
    refine (QTb.out _ k12).mono ?_
    rintro e w13 ⟨rfl, hb13⟩
    have b13 := below_next b12 hb13
    have k13 := below_next k12 hb13
    have j13 := below_next j12 hb13
    clear hb13 QTb b12 k12 j12
    go_wp2_with fail
    refine (QXj.out _ j13).mono ?_
    rintro e w14 ⟨rfl, hb14⟩
    have b14 := below_next b13 hb14
    have k14 := below_next k13 hb14
    have j14 := below_next j13 hb14
    clear hb14 QXj b13 k13 j13
    go_wp2_with fail
    refine (QXa.out _ k14).mono ?_
    rintro e w15 ⟨rfl, hb15⟩
    have b15 := below_next b14 hb15
    have k15 := below_next k14 hb15
    have j15 := below_next j14 hb15
    clear hb15 QXa b14 k14 j14
    go_wp2_with fail
    refine (QXb.out _ k15).mono ?_
    rintro e w16 ⟨rfl, hb16⟩
    have b16 := below_next b15 hb16
    have k16 := below_next k15 hb16
    have j16 := below_next j15 hb16
    clear hb16 QXb b15 k15 j15
    go_wp2
    go_returns
    refine ⟨?_, b16⟩
    simp

set_option maxRecDepth 100000 in
theorem witness_row (os : Os) {H : Type} (enc : TypeId × Value → H) :
    (OpenSpec.ofChange Rows.fnOutlineJoinSpec).preRow enc Tryd.prog Tryd.f3 Rows.fnOutlineJoinRow.domain false Rows.fnOutlineJoinRow.laid ((laidWorld os).forCall (fun _ _ => 0) ⟨#[], #[.slice none 0 0], []⟩).memory #[.slice none 0 0] := by
  have hw : (DataW.whole enc Tryd.prog ((laidWorld os).forCall (fun _ _ => 0) ⟨#[], #[.slice none 0 0], []⟩).memory Tryd.f3.params.toList (OpenSpec.ofChange Rows.fnOutlineJoinSpec).vars false #[.slice none 0 0].toList 8).map (fun x => (x.1, x.2.1)) =
      some ([.nil], [Rows.laid_loop_example_shorthand_impl_stepsAcross, Rows.laid_loop_example_shorthand_impl_stepsUp]) := by kernel_rfl
  obtain ⟨⟨x1, x2, x3⟩, hx, hx1⟩ := Option.map_eq_some_iff.1 hw
  simp only [Prod.mk.injEq] at hx1
  obtain ⟨rfl, rfl⟩ := hx1
  exact OpenSpec.preRow_of_cond 8 hx (by kernel_rfl) (fun k hk => by cases hk) (by kernel_rfl) (laid_met os _)
set_option maxRecDepth 100000 in
theorem lifted (os : Os) (started : os.Started) (H : Type) (enc : TypeId × Value → H) (F0 : Stop.Interp) :
    ReturnsInHanded {} Tryd.checked os 3 .any ((OpenSpec.ofChange Rows.fnOutlineJoinSpec).preRow enc Tryd.prog Tryd.f3 Rows.fnOutlineJoinRow.domain false Rows.fnOutlineJoinRow.laid) (((OpenSpec.ofChange Rows.fnOutlineJoinSpec).at F0).post enc Tryd.prog Tryd.f3 false true false false) := by
  refine returnsInHanded_of_row (C := Tryd.checked) (s := OpenSpec.ofChange Rows.fnOutlineJoinSpec) own started (by kernel_rfl) Tryd.func3
    (witness_row_atRef (enc := enc) (C := Tryd.checked) false (laidWorld os) #[.slice none 0 0] rfl (by kernel_rfl) (by kernel_rfl) (by kernel_rfl) (witness_row os enc)) ?_
  intro W base args ds gs before hval0 hW _ _ _ hL _ _
  have HLd : laidMet Tryd.prog laidL W := hL
  have hval : ∀ (j : Nat) t v, Tryd.f3.params[j]? = some t → args[j]? = some v → Value.okWide Tryd.prog W .any base t v := hval0
  have hW' := hW
  obtain ⟨p, q, hA0, hV, rfl, hfz, hnd⟩ := hW
  have hA : DataW.TrodAll enc Tryd.prog W 0 (fun _ => true) true Tryd.f3.params.toList args.toList ds p := hA0
  rw [Tryd.params3] at hA hval
  obtain ⟨v0, vs0, d0, ds0, p0, q0, hargs, rfl, rfl, h0, r0⟩ := trodAll_cons hA
  obtain ⟨rfl, rfl, rfl⟩ := trodAll_nil r0
  obtain rfl : args = #[v0] := by cases args; simp_all
  have hV2 : DataW.TrodVars enc Tryd.prog W (fun _ => true) ["loop.example/shorthand/impl.stepsAcross", "loop.example/shorthand/impl.stepsUp"] gs q := hV
  obtain ⟨_, _, _, _, e0, _, _, _, _, _, e1, _, rfl, _, _, _, _, _, _, _, _, _⟩ := trodVars_two hV2
  have k0 := h0
  have lt0 : ∀ x ∈ p0, x.block < W.heap.size := by obtain ⟨m, hm⟩ := k0; exact DataW.trod_lt m _ _ _ hm
  obtain ⟨A_0, n_0, c_0, bs_0, rfl, R_0⟩ := openBytes (hval 0 22 v0 rfl rfl) h0
  clear hA0 hval0
  refine (walk A_0 n_0 c_0 bs_0 W R_0 HLd).mono fun e W' ⟨he, bel⟩ => ?_
  subst he
  exact ⟨_, rfl, _, _, _, [], _, _, hW', trodAll_mk1 (shut_bool Tryd.underlying4 _), (trodAll_cons_mk (Below.trod laidOut (by kernel_rfl) (of_decide_eq_true (by kernel_rfl)) k0 bel lt0) trodAll_mk0), Below.trodVars laidOut bel (by kernel_rfl) hV2, bel.frame _, fun h => by cases h⟩

theorem over : Rows.fnOutlineJoinRow.holds Tryd.pinned (OpenSpec.ofChange Rows.fnOutlineJoinSpec) :=
  OpenClaim.holds_of_cond 3 Tryd.f3 rfl rfl rfl rfl rfl rfl rfl ⟨rfl, rfl, rfl, rfl, rfl⟩ rfl rfl rfl rfl rfl (by kernel_rfl) Tryd.func3 (by kernel_rfl)
    (of_decide_eq_true (by kernel_rfl)) (by unfold Func.isWrapper; first | (rw [if_pos (by decide +kernel)]; kernel_rfl) | (rw [if_neg (by decide +kernel)]; exact ⟨rfl, rfl⟩))
    (fun os started H enc _ F0 => by rw [OpenClaim.pre_eq_preRow]; exact lifted os started H enc F0)

theorem proved : Rows.FnOutlineJoinCardSaid :=
  Claim7.holds_tied_plain_at .later [] Rows.fnOutlineJoinCard.laidKinds true Rows.fnOutlineJoinCard.stood.harness false
    over (fun _ h => by cases h) (by kernel_rfl) (fun _ h => by cases h) fnOutlineJoin_row_tie rfl ⟨rfl, rfl⟩ (by kernel_rfl) rfl
    (fun f fn hf hfn => by
      obtain rfl : f = 3 := Option.some.inj ((show Tryd.prog.funcNamed "loop.example/shorthand/laws.FnOutlineJoin" = some 3 by kernel_rfl).symm.trans hf) |>.symm
      obtain rfl : fn = Tryd.f3 := (Option.some.inj (Tryd.func3.symm.trans hfn)).symm
      exact ⟨by kernel_rfl, fun j t ht => by
        rw [Tryd.params3] at ht
        have h3 : t = 22 := by
          rcases j with _ | j
          · simpa using ht.symm
          · simp at ht
        subst h3
        exact (show Tryd.prog.wantsStandIn 22 = false by kernel_rfl)⟩)
    (by kernel_rfl)
end Go.Proofs.YtdejgnlmofgdjaaDoor.fnOutlineJoin
