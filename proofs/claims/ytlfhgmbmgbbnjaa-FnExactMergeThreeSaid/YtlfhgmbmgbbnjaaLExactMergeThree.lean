/-
  The law FnExactMergeThree returns true for every input, and what was in memory before the call reads as before: the frame round its walk.
  Conditions: none.
-/
import Derived.Test.YtlfhgmbmgbbnjaaMkMg
import Derived.Test.YtlfhgmbmgbbnjaaStrLaw
namespace Go.Proofs.Ytlfhgmbmgbbnjaa.fnExactMergeThree
open Go.ChangeShapes Go.WideShapes Go.ChangeAt Go.RowKit
set_option linter.unusedVariables false

theorem wdFar {w w' : World} {B : Nat} {v : Value} {row : Option Nat} {is : List Wd} (h : WdOwn w B v is) (hg : w.grownBy w' row) (hne : ∀ b, v.ownBlock = some b → row ≠ some b) : WdOwn w' B v is :=
  ownG_congr h (fun b hb => hg.block b (ownG_lt h hb) (fun e => hne b hb e.symm))
set_option maxRecDepth 100000 in
set_option maxHeartbeats 6400000 in
theorem walk (A0 : Option Addr) (n0 c0 : Nat) (base : List Wd) (A1 : Option Addr) (n1 c1 : Nat) (a : List Wd) (A2 : Option Addr) (n2 c2 : Nat) (b : List Wd) (W : World) (R0 : WdsIn W W.heap.size A0 n0 c0 base) (X0 : ∀ l ∈ base, l.length ≤ maxLen) (R1 : WdsIn W W.heap.size A1 n1 c1 a) (X1 : ∀ l ∈ a, l.length ≤ maxLen) (R2 : WdsIn W W.heap.size A2 n2 c2 b) (X2 : ∀ l ∈ b, l.length ≤ maxLen) :
    Calls Try.prog 3 #[.slice A0 n0 c0, .slice A1 n1 c1, .slice A2 n2 c2] W fun e w' => e = .returned (.bool true) ∧ Below W.heap.size W w' := by
  have HX0 := Lib.hid X0; have HX1 := Lib.hid X1; have HX2 := Lib.hid X2
  have HL0 := Lib.hid R0.1; have HL1 := Lib.hid R1.1; have HL2 := Lib.hid R2.1
  go_enter Try.func3, Try.ntmps3
  go_wp2_with fail
  refine (szStringS A0 n0 c0 base 1048576 W (by omega) (by omega) R0 HX0.out).mono ?_
  rintro e w' ⟨r0, rfl, hr0, rfl⟩
  by_cases hneg : r0 < 0
  · go_wp2
    go_returns
    exact ⟨rfl, Below.refl _ _⟩
  obtain ⟨hp0, hs0⟩ := szl hr0 hneg
  have hn0 : n0 ≤ 1048576 := by omega
  have hm0 : n0 ≤ maxLen := by unfold maxLen; omega
  have hq0 : r0 ≤ 1048576 := by omega
  clear hneg hr0 hs0
  go_wp2_with fail
  refine (szStringS A1 n1 c1 a r0 W hp0 hq0 R1 HX1.out).mono ?_
  rintro e w' ⟨r1, rfl, hr1, rfl⟩
  by_cases hneg : r1 < 0
  · go_wp2
    go_returns
    exact ⟨rfl, Below.refl _ _⟩
  obtain ⟨hp1, hs1⟩ := szl hr1 hneg
  have hn1 : n1 ≤ 1048576 := by omega
  have hm1 : n1 ≤ maxLen := by unfold maxLen; omega
  have hq1 : r1 ≤ 1048576 := by omega
  clear hneg hr1 hs1
  go_wp2_with fail
  refine (szStringS A2 n2 c2 b r1 W hp1 hq1 R2 HX2.out).mono ?_
  rintro e w' ⟨r2, rfl, hr2, rfl⟩
  by_cases hneg : r2 < 0
  · go_wp2
    go_returns
    exact ⟨rfl, Below.refl _ _⟩
  obtain ⟨hp2, hs2⟩ := szl hr2 hneg
  have hn2 : n2 ≤ 1048576 := by omega
  have hm2 : n2 ≤ maxLen := by unfold maxLen; omega
  have hq2 : r2 ≤ 1048576 := by omega
  clear hneg hr2 hs2
  have HC0 := Lib.hid (fun w (h : Below W.heap.size W w) => toStringS A0 n0 c0 base w hn0 (R0.keep h))
  have HC1 := Lib.hid (fun w (h : Below W.heap.size W w) => toStringS A1 n1 c1 a w hn1 (R1.keep h))
  have HC2 := Lib.hid (fun w (h : Below W.heap.size W w) => toStringS A2 n2 c2 b w hn2 (R2.keep h))
  clear hp0 hp1 hq0 hq1 hq2 R0 R1 R2 X0 X1 X2
  have b0 : Below W.heap.size W W := Below.refl _ _
  go_wp2_with fail
  refine (HC0.out _ b0).mono ?_
  rintro e u0 ⟨rfl, hBu0, hbu0⟩
  have bu0 := below_next b0 hbu0
  have Tu0_0 := Lib.hid hBu0
  have Ku0 := Lib.hid hbu0
  have zu0 := hbu0.size
  have yu0 := hBu0.lt
  clear hBu0 hbu0
  go_wp2_with fail
  refine (HC1.out _ bu0).mono ?_
  rintro e u1 ⟨rfl, hBu1, hbu1⟩
  have bu1 := below_next bu0 hbu1
  have Tu1_1 := Lib.hid hBu1
  have Tu1_0 := Lib.hid (Tu0_0.out.below hbu1)
  have Ku1 := Lib.hid hbu1
  have zu1 := hbu1.size
  have yu1 := hBu1.lt
  clear hBu1 hbu1 Tu0_0
  go_wp2_with fail
  refine (HC2.out _ bu1).mono ?_
  rintro e u2 ⟨rfl, hBu2, hbu2⟩
  have bu2 := below_next bu1 hbu2
  have Tu2_2 := Lib.hid hBu2
  have Tu2_0 := Lib.hid (Tu1_0.out.below hbu2)
  have Tu2_1 := Lib.hid (Tu1_1.out.below hbu2)
  have Ku2 := Lib.hid hbu2
  have zu2 := hbu2.size
  have yu2 := hBu2.lt
  clear hBu2 hbu2 Tu1_0 Tu1_1
  have HS := Lib.hid (specMergeThree _ n0 n0 base _ n1 n1 a _ n2 n2 b u2 HX0.out HX1.out HX2.out (WdsIn.ofBlk Tu2_0.out HL0.out hm0) (WdsIn.ofBlk Tu2_1.out HL1.out hm1) (WdsIn.ofBlk Tu2_2.out HL2.out hm2))
  clear Tu2_0 Tu2_1 Tu2_2
  go_wp2_with fail
  refine HS.out.mono ?_
  rintro e w3 ⟨⟨A3, c3, rfl, hO3⟩, hb3⟩
  have b3 := below_next bu2 hb3
  have z3 := hb3.size
  have O3 := Lib.hid hO3
  have V3 : Hid (∀ q, (Value.slice A3 ((mergeThree base a b).getD []).length c3).ownBlock = some q → W.heap.size ≤ q ∧ q < w3.heap.size) := Lib.hid (fun q hq => ⟨Nat.le_trans bu2.size (ownG_base hO3 hq), ownG_lt hO3 hq⟩)
  clear hO3 HS hb3
  have HM : Hid (∀ B0 B1 B2 c0 c1 c2 w, Below W.heap.size W w → WdsIn w w.heap.size B0 n0 c0 base → WdsIn w w.heap.size B1 n1 c1 a → WdsIn w w.heap.size B2 n2 c2 b → Calls Try.prog 8 #[.slice B0 n0 c0, .slice B1 n1 c1, .slice B2 n2 c2] w fun e w' => MgAns w' w.heap.size (mergeThree base a b) e ∧ Below w.heap.size w w') := Lib.hid (fun B0 B1 B2 c0 c1 c2 w _ h0 h1 h2 => implMergeThree B0 n0 c0 base B1 n1 c1 a B2 n2 c2 b w HX0.out HX1.out HX2.out h0 h1 h2)
  have hML : ((mergeThree base a b).getD []).length ≤ 1048576 := merge_len base a b
  unfold MgAns at HM
  obtain ⟨ws, hws⟩ : ∃ ws, ws = (mergeThree base a b).getD [] := ⟨_, rfl⟩
  obtain ⟨fl, hfl⟩ : ∃ fl, fl = (mergeThree base a b).isSome := ⟨_, rfl⟩
  rw [← hws] at O3 V3 HM hML
  rw [← hfl] at HM
  rw [← hws, ← hfl]
  clear hws hfl
  obtain ⟨L, hL⟩ : ∃ L, L = ws.length := ⟨_, rfl⟩
  rw [← hL] at O3 V3 HM hML
  rw [← hL]
  have HLw := Lib.hid hL.symm
  clear hL
  have hneF : (fl != fl) = false := by simp
  go_wp2_with fail
  refine (HC0.out _ b3).mono ?_
  rintro e v0 ⟨rfl, hBv0, hbv0⟩
  have bv0 := below_next b3 hbv0
  have Tv0_0 := Lib.hid hBv0
  have Kv0 := Lib.hid hbv0
  have zv0 := hbv0.size
  have yv0 := hBv0.lt
  clear hBv0 hbv0
  go_wp2_with fail
  refine (HC1.out _ bv0).mono ?_
  rintro e v1 ⟨rfl, hBv1, hbv1⟩
  have bv1 := below_next bv0 hbv1
  have Tv1_1 := Lib.hid hBv1
  have Tv1_0 := Lib.hid (Tv0_0.out.below hbv1)
  have Kv1 := Lib.hid hbv1
  have zv1 := hbv1.size
  have yv1 := hBv1.lt
  clear hBv1 hbv1 Tv0_0
  go_wp2_with fail
  refine (HC2.out _ bv1).mono ?_
  rintro e v2 ⟨rfl, hBv2, hbv2⟩
  have bv2 := below_next bv1 hbv2
  have Tv2_2 := Lib.hid hBv2
  have Tv2_0 := Lib.hid (Tv1_0.out.below hbv2)
  have Tv2_1 := Lib.hid (Tv1_1.out.below hbv2)
  have Kv2 := Lib.hid hbv2
  have zv2 := hbv2.size
  have yv2 := hBv2.lt
  clear hBv2 hbv2 Tv1_0 Tv1_1
  have O3v : Hid (WdOwn v2 u2.heap.size (.slice A3 L c3) ws) := Lib.hid (((O3.out.keep Kv0.out).keep Kv1.out).keep Kv2.out)
  have HI := Lib.hid (HM.out _ _ _ _ _ _ v2 bv2 (WdsIn.ofBlk Tv2_0.out HL0.out hm0) (WdsIn.ofBlk Tv2_1.out HL1.out hm1) (WdsIn.ofBlk Tv2_2.out HL2.out hm2))
  have Mv0 : Hid (WdOwn v2 W.heap.size (.slice (some ⟨w3.heap.size, 0, none⟩) n0 n0) base) := Lib.hid (WdOwn.ofBlk Tv2_0.out HL0.out hm0 b3.size)
  have Mv1 : Hid (WdOwn v2 W.heap.size (.slice (some ⟨v0.heap.size, 0, none⟩) n1 n1) a) := Lib.hid (WdOwn.ofBlk Tv2_1.out HL1.out hm1 bv0.size)
  have Mv2 : Hid (WdOwn v2 W.heap.size (.slice (some ⟨v1.heap.size, 0, none⟩) n2 n2) b) := Lib.hid (WdOwn.ofBlk Tv2_2.out HL2.out hm2 bv1.size)
  clear Tv2_0 Tv2_1 Tv2_2 O3 Kv0 Kv1 Kv2 Ku0 Ku1 Ku2
  go_wp2_with fail
  refine HI.out.mono ?_
  rintro e w4 ⟨⟨A4, c4, rfl, hO4⟩, hb4⟩
  have b4 := below_next bv2 hb4
  have z4 := hb4.size
  have O4 : Hid (WdOwn w4 v2.heap.size (.slice A4 L c4) ws) := Lib.hid hO4
  have P4 := Lib.hid (O3v.out.keep hb4)
  have Q4_0 := Lib.hid (Mv0.out.keep hb4); have Q4_1 := Lib.hid (Mv1.out.keep hb4); have Q4_2 := Lib.hid (Mv2.out.keep hb4)
  have V4 : Hid (∀ q, (Value.slice A4 L c4).ownBlock = some q → v2.heap.size ≤ q) := Lib.hid (fun q hq => ownG_base hO4 hq)
  clear hO4 hb4 HI O3v Mv0 Mv1 Mv2
  have HE4 := Lib.hid (eqStringS A4 A3 L c4 c3 ws w4 (WdOwn.reads O4.out HLw.out) (WdOwn.reads P4.out HLw.out))
  go_wp2_with fail
  refine HE4.out.mono ?_
  rintro e w5 ⟨rfl, hb5⟩
  have b5 := below_next b4 hb5
  have K5 := Lib.hid hb5
  have z5 := hb5.size
  clear hb5 HE4
  go_wp2_with fail
  refine (HC0.out _ b5).mono ?_
  rintro e x0 ⟨rfl, hB, hb⟩
  have bx0 := below_next b5 hb
  have Kx0 := Lib.hid (below_next K5.out hb)
  have HE := Lib.hid (eqStringS _ _ n0 n0 n0 base x0 (WdOwn.reads (Q4_0.out.keep Kx0.out) HL0.out) (WdsIn.ofBlk hB HL0.out hm0))
  clear hB hb
  go_wp2_with fail
  refine HE.out.mono ?_
  rintro e y0 ⟨rfl, hb⟩
  have by0 := below_next bx0 hb
  have Ky0 := Lib.hid (below_next Kx0.out hb)
  clear hb HE K5 Kx0
  go_wp2_with fail
  refine (HC1.out _ by0).mono ?_
  rintro e x1 ⟨rfl, hB, hb⟩
  have bx1 := below_next by0 hb
  have Kx1 := Lib.hid (below_next Ky0.out hb)
  have HE := Lib.hid (eqStringS _ _ n1 n1 n1 a x1 (WdOwn.reads (Q4_1.out.keep Kx1.out) HL1.out) (WdsIn.ofBlk hB HL1.out hm1))
  clear hB hb
  go_wp2_with fail
  refine HE.out.mono ?_
  rintro e y1 ⟨rfl, hb⟩
  have by1 := below_next bx1 hb
  have Ky1 := Lib.hid (below_next Kx1.out hb)
  clear hb HE Ky0 Kx1
  go_wp2_with fail
  refine (HC2.out _ by1).mono ?_
  rintro e x2 ⟨rfl, hB, hb⟩
  have bx2 := below_next by1 hb
  have Kx2 := Lib.hid (below_next Ky1.out hb)
  have HE := Lib.hid (eqStringS _ _ n2 n2 n2 b x2 (WdOwn.reads (Q4_2.out.keep Kx2.out) HL2.out) (WdsIn.ofBlk hB HL2.out hm2))
  clear hB hb
  go_wp2_with fail
  refine HE.out.mono ?_
  rintro e y2 ⟨rfl, hb⟩
  have by2 := below_next bx2 hb
  have Ky2 := Lib.hid (below_next Kx2.out hb)
  clear hb HE Ky1 Kx2
  have O5 := Lib.hid (O4.out.keep Ky2.out); have P5 := Lib.hid (P4.out.keep Ky2.out)
  have Q5_0 := Lib.hid (Q4_0.out.keep Ky2.out); have Q5_1 := Lib.hid (Q4_1.out.keep Ky2.out); have Q5_2 := Lib.hid (Q4_2.out.keep Ky2.out)
  have zy := Ky2.out.size
  clear O4 P4 Q4_0 Q4_1 Q4_2 Ky2
  go_wp2_with fail
  refine (markWords (some ⟨w3.heap.size, 0, none⟩) n0 n0 1 W.heap.size _ y2 (by omega) (by omega) hn0 HL0.out Q5_0.out).mono ?_
  rintro e m0 ⟨rfl, hg, _⟩
  have bm0 := by2.grown hg by2.size (fun q hq => by have h2 : some w3.heap.size = some q := hq; injection h2 with h2; omega)
  have Pm0 := Lib.hid (wdFar P5.out hg (fun q hq e => by have h2 : some w3.heap.size = some q := e; injection h2 with h2; have := (V3.out q hq).2; omega))
  have Om0 := Lib.hid (wdFar O5.out hg (fun q hq e => by have h2 : some w3.heap.size = some q := e; injection h2 with h2; have := V4.out q hq; omega))
  have Qm0_1 := Lib.hid (wdFar Q5_1.out hg (fun q hq e => by have h2 : some w3.heap.size = some q := e; injection h2 with h2; have h3 : some v0.heap.size = some q := hq; injection h3 with h3; omega))
  have Qm0_2 := Lib.hid (wdFar Q5_2.out hg (fun q hq e => by have h2 : some w3.heap.size = some q := e; injection h2 with h2; have h3 : some v1.heap.size = some q := hq; injection h3 with h3; omega))
  have zm0 := hg.size
  clear hg P5 O5 Q5_0 Q5_1 Q5_2
  go_wp2_with fail
  refine (markWords (some ⟨v0.heap.size, 0, none⟩) n1 n1 (1 + n0) W.heap.size _ m0 (by omega) (by omega) hn1 HL1.out Qm0_1.out).mono ?_
  rintro e m1 ⟨rfl, hg, _⟩
  have bm1 := bm0.grown hg bm0.size (fun q hq => by have h2 : some v0.heap.size = some q := hq; injection h2 with h2; omega)
  have Pm1 := Lib.hid (wdFar Pm0.out hg (fun q hq e => by have h2 : some v0.heap.size = some q := e; injection h2 with h2; have := (V3.out q hq).2; omega))
  have Om1 := Lib.hid (wdFar Om0.out hg (fun q hq e => by have h2 : some v0.heap.size = some q := e; injection h2 with h2; have := V4.out q hq; omega))
  have Qm1_2 := Lib.hid (wdFar Qm0_2.out hg (fun q hq e => by have h2 : some v0.heap.size = some q := e; injection h2 with h2; have h3 : some v1.heap.size = some q := hq; injection h3 with h3; omega))
  have zm1 := hg.size
  clear hg Pm0 Om0 Qm0_1 Qm0_2
  go_wp2_with fail
  refine (markWords (some ⟨v1.heap.size, 0, none⟩) n2 n2 (1 + n0 + n1) W.heap.size _ m1 (by omega) (by omega) hn2 HL2.out Qm1_2.out).mono ?_
  rintro e m2 ⟨rfl, hg, _⟩
  have bm2 := bm1.grown hg bm1.size (fun q hq => by have h2 : some v1.heap.size = some q := hq; injection h2 with h2; omega)
  have Pm2 := Lib.hid (wdFar Pm1.out hg (fun q hq e => by have h2 : some v1.heap.size = some q := e; injection h2 with h2; have := (V3.out q hq).2; omega))
  have Om2 := Lib.hid (wdFar Om1.out hg (fun q hq e => by have h2 : some v1.heap.size = some q := e; injection h2 with h2; have := V4.out q hq; omega))
  have zm2 := hg.size
  clear hg Pm1 Om1 Qm1_2
  have HE6 := Lib.hid (eqStringS A4 A3 L c4 c3 ws m2 (WdOwn.reads Om2.out HLw.out) (WdOwn.reads Pm2.out HLw.out))
  have hk0 : ¬ (((1 + n0 + n1 + n2 : Nat) : Int) < 0) := by omega
  go_wp2_with fail
  refine HE6.out.mono ?_
  rintro e w6 ⟨rfl, hb6⟩
  have b6 := below_next bm2 hb6
  have O6 := Lib.hid (Om2.out.keep hb6); have P6 := Lib.hid (Pm2.out.keep hb6)
  clear hb6 HE6 Om2 Pm2 hk0
  go_wp2_with fail
  refine (markWords A4 L c4 1 v2.heap.size ws w6 (by omega) (by omega) hML HLw.out O6.out).mono ?_
  rintro e w7 ⟨rfl, hg7, hM7⟩
  have b7 := b6.grown hg7 b6.size (fun q hq => by have := V4.out q hq; have := bv2.size; omega)
  have P7 := Lib.hid (wdFar P6.out hg7 (fun q hq e => by have := (V3.out q hq).2; have := V4.out q e; omega))
  have M7 : Hid (∀ V, Below w7.heap.size w7 V → WdsIn V V.heap.size A4 L c4 (marksW 1 L)) := Lib.hid (fun V hV => by
    have hm := hM7
    have := WdOwn.reads (n := L) (by unfold WdOwn at hm ⊢; exact hm) (marksW_len 1 L)
    exact this.keep hV)
  clear hg7 hM7 O6 P6
  go_wp2_with fail
  refine (heldWords A4 L c4 1 w7 (by omega) (by omega) hML (M7.out _ (Below.refl _ _))).mono ?_
  rintro e w8 ⟨rfl, hb8⟩
  have b8 := below_next b7 hb8
  have K8 := Lib.hid hb8
  clear hb8
  have hm1' : ¬ (((1 + L : Nat) : Int) < 0) := by omega
  have hm2' : (((1 + L : Nat) : Int) != ((1 + L : Nat) : Int)) = false := by simp
  go_wp2_with fail
  refine (HC0.out _ b8).mono ?_
  rintro e s0 ⟨rfl, hBs0, hbs0⟩
  have bs0 := below_next b8 hbs0
  have Ts0_0 := Lib.hid hBs0
  have Ks0 := Lib.hid hbs0
  have zs0 := hbs0.size
  have ys0 := hBs0.lt
  clear hBs0 hbs0
  go_wp2_with fail
  refine (HC1.out _ bs0).mono ?_
  rintro e s1 ⟨rfl, hBs1, hbs1⟩
  have bs1 := below_next bs0 hbs1
  have Ts1_1 := Lib.hid hBs1
  have Ts1_0 := Lib.hid (Ts0_0.out.below hbs1)
  have Ks1 := Lib.hid hbs1
  have zs1 := hbs1.size
  have ys1 := hBs1.lt
  clear hBs1 hbs1 Ts0_0
  go_wp2_with fail
  refine (HC2.out _ bs1).mono ?_
  rintro e s2 ⟨rfl, hBs2, hbs2⟩
  have bs2 := below_next bs1 hbs2
  have Ts2_2 := Lib.hid hBs2
  have Ts2_0 := Lib.hid (Ts1_0.out.below hbs2)
  have Ts2_1 := Lib.hid (Ts1_1.out.below hbs2)
  have Ks2 := Lib.hid hbs2
  have zs2 := hbs2.size
  have ys2 := hBs2.lt
  clear hBs2 hbs2 Ts1_0 Ts1_1
  have HI2 := Lib.hid (HM.out _ _ _ _ _ _ s2 bs2 (WdsIn.ofBlk Ts2_0.out HL0.out hm0) (WdsIn.ofBlk Ts2_1.out HL1.out hm1) (WdsIn.ofBlk Ts2_2.out HL2.out hm2))
  have Ks := Lib.hid (below_next (below_next (below_next K8.out Ks0.out) Ks1.out) Ks2.out)
  clear Ts2_0 Ts2_1 Ts2_2 Ks0 Ks1 Ks2 K8
  go_wp2_with fail
  refine HI2.out.mono ?_
  rintro e w9 ⟨⟨A9, c9, rfl, hO9⟩, hb9⟩
  have b9 := below_next bs2 hb9
  have K9 := Lib.hid (below_next Ks.out hb9)
  have HE9 := Lib.hid (eqStringS A9 A3 L c9 c3 ws w9 (WdOwn.reads hO9 HLw.out) (WdOwn.reads (P7.out.keep K9.out) HLw.out))
  clear hO9 hb9 HI2 Ks
  go_wp2_with fail
  refine HE9.out.mono ?_
  rintro e w10 ⟨rfl, hb10⟩
  have b10 := below_next b9 hb10
  have HH := Lib.hid (heldWords A4 L c4 1 w10 (by omega) (by omega) hML (M7.out _ (below_next K9.out hb10)))
  clear hb10 HE9 K9 P7 M7
  go_wp2_with fail
  refine HH.out.mono ?_
  rintro e w11 ⟨rfl, hb11⟩
  have b11 := below_next b10 hb11
  go_wp2
  go_returns
  exact ⟨rfl, b11⟩

set_option maxRecDepth 100000 in
theorem lifted (os : Os) (started : os.Started) (H : Type) (enc : TypeId × Value → H) :
    ReturnsInHanded {} Try.checked os 3 .any (Rows.fnExactMergeThreeSpec.pre6 enc Try.prog Try.f3 Rows.fnExactMergeThreeRow.domain false) (Rows.fnExactMergeThreeSpec.post enc Try.prog Try.f3 false true false false) := by
  refine returnsInHanded_of_change (C := Try.checked) own started (by kernel_rfl) Try.func3
    (ChangeSpec.witness6 (enc := enc) (C := Try.checked) false ⟨#[], #[.slice none 0 0, .slice none 0 0, .slice none 0 0], []⟩ 8 (by kernel_rfl) (by kernel_rfl) (by kernel_rfl) (by kernel_rfl)) ?_
  intro W base args ds gs before hval0 hW hcnd _
  have hval : ∀ (j : Nat) t v, Try.f3.params[j]? = some t → args[j]? = some v → Value.okWide Try.prog W .any base t v := hval0
  have hW' := hW
  obtain ⟨p, q, hA0, hV, rfl, hfz, hnd⟩ := hW
  have hA : DataW.TrodAll enc Try.prog W 0 (fun _ => true) true Try.f3.params.toList args.toList ds p := hA0
  rw [Try.params3] at hA hval
  obtain ⟨v0, vs0, d0, ds0, p0, q0, hargs, rfl, rfl, h0, r0⟩ := trodAll_cons hA
  obtain ⟨v1, vs1, d1, ds1, p1, q1, rfl, rfl, rfl, h1, r1⟩ := trodAll_cons r0
  obtain ⟨v2, vs2, d2, ds2, p2, q2, rfl, rfl, rfl, h2, r2⟩ := trodAll_cons r1
  obtain ⟨rfl, rfl, rfl⟩ := trodAll_nil r2
  obtain rfl : args = #[v0, v1, v2] := by cases args; simp_all
  obtain ⟨rfl, rfl⟩ := trodVars_none hV
  have k0 := h0
  have lt0 : ∀ x ∈ p0, x.block < W.heap.size := by obtain ⟨m, hm⟩ := k0; exact DataW.trod_lt m _ _ _ hm
  obtain ⟨A_0, n_0, c_0, ws_0, rfl, R_0, X_0⟩ := openWords (hval 0 22 v0 rfl rfl) h0
  have k1 := h1
  have lt1 : ∀ x ∈ p1, x.block < W.heap.size := by obtain ⟨m, hm⟩ := k1; exact DataW.trod_lt m _ _ _ hm
  obtain ⟨A_1, n_1, c_1, ws_1, rfl, R_1, X_1⟩ := openWords (hval 1 22 v1 rfl rfl) h1
  have k2 := h2
  have lt2 : ∀ x ∈ p2, x.block < W.heap.size := by obtain ⟨m, hm⟩ := k2; exact DataW.trod_lt m _ _ _ hm
  obtain ⟨A_2, n_2, c_2, ws_2, rfl, R_2, X_2⟩ := openWords (hval 2 22 v2 rfl rfl) h2
  clear hA0 hval0
  refine (walk A_0 n_0 c_0 ws_0 A_1 n_1 c_1 ws_1 A_2 n_2 c_2 ws_2 W R_0 X_0 R_1 X_1 R_2 X_2).mono fun e W' ⟨he, bel⟩ => ?_
  subst he
  exact ⟨_, rfl, _, _, _, [], _, [], hW', trodAll_mk1 (shut_bool Try.underlying4 _), (trodAll_cons_mk (Below.trod laidOut (by kernel_rfl) (of_decide_eq_true (by kernel_rfl)) k0 bel lt0) (trodAll_cons_mk (Below.trod laidOut (by kernel_rfl) (of_decide_eq_true (by kernel_rfl)) k1 bel lt1) (trodAll_cons_mk (Below.trod laidOut (by kernel_rfl) (of_decide_eq_true (by kernel_rfl)) k2 bel lt2) trodAll_mk0))), rfl, bel.frame _, fun h => by cases h⟩

theorem over : Rows.fnExactMergeThreeRow.holds Try.pinned (OpenSpec.ofChange Rows.fnExactMergeThreeSpec) :=
  OpenClaim.holds_of_wide 3 Try.f3 rfl rfl rfl rfl rfl rfl rfl ⟨rfl, rfl, rfl, rfl, rfl⟩ rfl rfl rfl rfl rfl (by kernel_rfl) Try.func3 (by kernel_rfl)
    (of_decide_eq_true (by kernel_rfl)) (by unfold Func.isWrapper; first | (rw [if_pos (by decide +kernel)]; kernel_rfl) | (rw [if_neg (by decide +kernel)]; exact ⟨rfl, rfl⟩))
    (fun os started H enc _ => lifted os started H enc)

theorem proved : Rows.FnExactMergeThreeSaid := over
end Go.Proofs.Ytlfhgmbmgbbnjaa.fnExactMergeThree
