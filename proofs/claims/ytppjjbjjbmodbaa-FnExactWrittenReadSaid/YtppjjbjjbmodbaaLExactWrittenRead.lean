/-
  The law FnExactWrittenRead returns true for every input, and what was in memory before the call reads as before: the frame round its walk.
  Conditions: none.
-/
import Derived.Test.YtppjjbjjbmodbaaReadT
import Derived.Test.YtppjjbjjbmodbaaWLaw
import Derived.Test.YtppjjbjjbmodbaaMkSg
import Derived.Test.YtppjjbjjbmodbaaIntN
namespace Go.Proofs.Ytppjjbjjbmodbaa.fnExactWrittenRead
open Go.ChangeShapes Go.WideShapes Go.ChangeAt Go.RowKit
set_option linter.unusedVariables false

theorem szl {left r : Int} {n : Nat} (h : SzL left r n) (hr : ¬ r < 0) : 0 ≤ r ∧ r + n ≤ left := by
  rcases h with h | h
  · omega
  · exact h
theorem readAll_len (xs : List Sg) (ws : List (List UInt8)) (d : Dat) : (readAll xs ws d).length ≤ ws.length := by
  unfold readAll
  split
  · exact readOf_len xs ws d
  · simp
theorem natFar {w w' : World} {B g : Nat} {v : Value} {is : List Nat} (h : NatOwn w B v is) (hg : w.grownBy w' (some g)) (hne : ∀ b, v.ownBlock = some b → b ≠ g) : NatOwn w' B v is :=
  ownG_congr h (fun b hb => hg.block b (ownG_lt h hb) (fun e => hne b hb (by injection e)))
theorem cells2 {w w' : World} {b : Nat} {u v : Value} (h : w.cell? ⟨b, 0, none⟩ = some u ∧ w.cell? ⟨b, 1, none⟩ = some v) (hb : Below w.heap.size w w') : w'.cell? ⟨b, 0, none⟩ = some u ∧ w'.cell? ⟨b, 1, none⟩ = some v := ⟨kcell hb h.1, kcell hb h.2⟩
theorem cells2g {w w' : World} {b g : Nat} {u v : Value} (h : w.cell? ⟨b, 0, none⟩ = some u ∧ w.cell? ⟨b, 1, none⟩ = some v) (hg : w.grownBy w' (some g)) (hne : b ≠ g) : w'.cell? ⟨b, 0, none⟩ = some u ∧ w'.cell? ⟨b, 1, none⟩ = some v := ⟨hg.cell h.1 (fun e => hne (by injection e)), hg.cell h.2 (fun e => hne (by injection e))⟩
set_option maxRecDepth 100000 in
set_option maxHeartbeats 6400000 in
theorem walk (A : Option Addr) (n c : Nat) (xs : List Sg) (A' : Option Addr) (n' c' : Nat) (ws : List (List UInt8)) (A2 : Option Addr) (n2 c2 : Nat) (ss : List Stroke) (p : Int) (W : World) (R : SgsIn W W.heap.size A n c xs) (X : ∀ x ∈ xs, x.l.length ≤ maxLen) (R' : WdsIn W W.heap.size A' n' c' ws) (X' : ∀ l ∈ ws, l.length ≤ maxLen) (R2 : StrokesIn W W.heap.size A2 n2 c2 ss) (_wp : (Lit.int .i64 p).wf = true) :
    Calls Try.prog 6 #[.slice A n c, .slice A' n' c', .agg #[.slice A2 n2 c2, .int .i64 p]] W fun e w' => e = .returned (.bool true) ∧ Below W.heap.size W w' := by
  have hal : Below W.heap.size W (W.alloc (.cells #[.slice A2 n2 c2, .int .i64 p] 50)) := (Below.refl _ _).alloc (Nat.le_refl _) _
  have HR : Hid (∀ w, Below W.heap.size W w → SgsIn w w.heap.size A n c xs) := Lib.hid (fun w h => R.keep h)
  have HR' : Hid (∀ w, Below W.heap.size W w → WdsIn w w.heap.size A' n' c' ws) := Lib.hid (fun w h => R'.keep h)
  have HR2 : Hid (∀ w, Below W.heap.size W w → StrokesIn w w.heap.size A2 n2 c2 ss) := Lib.hid (fun w h => R2.keep h)
  have PK : Hid (∀ w, Below (W.heap.size + 1) (W.alloc (.cells #[.slice A2 n2 c2, .int .i64 p] 50)) w → w.cell? ⟨W.heap.size, 0, none⟩ = some (.slice A2 n2 c2) ∧ w.cell? ⟨W.heap.size, 1, none⟩ = some (.int .i64 p)) := Lib.hid (fun w hw => by
    have hw' : Below (W.alloc (.cells #[.slice A2 n2 c2, .int .i64 p] 50)).heap.size (W.alloc (.cells #[.slice A2 n2 c2, .int .i64 p] 50)) w := by simpa using hw
    exact ⟨kcell hw' (newcell W _ _ 0 _ rfl), kcell hw' (newcell W _ _ 1 _ rfl)⟩)
  have hnc2 := R2.2.1; have hm2 := R2.2.2.1
  have HX := Lib.hid X; have HX' := Lib.hid X'
  have HL := Lib.hid R.1; have HL' := Lib.hid R'.1; have HL2 := Lib.hid R2.1; have HG := Lib.hid R.2.2.2.2; have HG2 := Lib.hid R2.2.2.2.2
  clear R R' R2 X X'
  go_enter Try.func6, Try.ntmps6
  go_wp2_with fail
  refine (szSignS A n c xs 1048576 _ (by omega) (by omega) (HR.out _ hal) HX.out).mono ?_
  rintro e w1 ⟨r1, rfl, hr1, hb1⟩
  have q1 : Below (W.heap.size + 1) (W.alloc (.cells #[.slice A2 n2 c2, .int .i64 p] 50)) w1 := by simpa using hb1
  have b1 := below_next hal hb1
  have z1 := q1.size
  simp only [World.size_alloc] at z1
  clear hb1
  by_cases hneg : r1 < 0
  · go_wp2
    go_returns
    exact ⟨rfl, b1⟩
  obtain ⟨hp1, hs1⟩ := szl hr1 hneg
  have hn : n ≤ 1048576 := by omega
  have hr1' : r1 ≤ 1048576 := by omega
  clear hneg hr1 hs1
  go_wp2_with fail
  refine (szStringS A' n' c' ws r1 w1 hp1 hr1' (HR'.out w1 b1) HX'.out).mono ?_
  rintro e w1' ⟨r2, rfl, hr2, rfl⟩
  by_cases hneg : r2 < 0
  · go_wp2
    go_returns
    exact ⟨rfl, b1⟩
  obtain ⟨hp2, hs2⟩ := szl hr2 hneg
  have hn' : n' ≤ 1048576 := by omega
  have hr2' : r2 ≤ 1048576 := by omega
  clear hneg hr2 hs2
  obtain ⟨p0, p1⟩ := PK.out w1 q1
  go_wp2_with fail
  refine (szWritten A2 n2 c2 p r2 w1 hp2 hr2' hm2 hnc2).mono ?_
  rintro e w2 ⟨r3, rfl, hr3, hb2⟩
  have b2 := below_next b1 hb2
  have q2 := q1.trans (hb2.mono z1)
  have z2 := Nat.le_trans z1 hb2.size
  clear hb2 p0 p1
  by_cases hneg : r3 < 0
  · go_wp2
    go_returns
    exact ⟨rfl, b2⟩
  obtain ⟨hp3, hs3⟩ := szl hr3 hneg
  have hn2 : n2 ≤ 1048576 := by omega
  have hmx : n ≤ maxLen := by unfold maxLen; omega
  have hmx' : n' ≤ maxLen := by unfold maxLen; omega
  have hmx2 : n2 ≤ maxLen := by unfold maxLen; omega
  have HC1 := Lib.hid (fun w (h : Below W.heap.size W w) => toSignS A n c xs w hn (HR.out w h))
  have HC2 := Lib.hid (fun w (h : Below W.heap.size W w) => toStringS A' n' c' ws w hn' (HR'.out w h))
  have HC3 := Lib.hid (fun w (h : Below W.heap.size W w) => toWritten A2 n2 c2 ss p w hn2 (HR2.out w h))
  have HRl := Lib.hid (readAll_len xs ws (ss, p))
  clear hneg hr3 hs3 hp2 hp1 hr1' hr2' HR HR' HR2 HX
  -- the reference
  have b2d := b2.drew
  obtain ⟨p0, p1⟩ := PK.out w2 q2
  obtain ⟨d0, d1⟩ : w2.drew.cell? ⟨W.heap.size, 0, none⟩ = some (.slice A2 n2 c2) ∧ w2.drew.cell? ⟨W.heap.size, 1, none⟩ = some (.int .i64 p) := ⟨p0, p1⟩
  go_wp2_with fail
  go_region_held3 (fun w' => w'.cell? ⟨W.heap.size, 0, none⟩ = some (.slice A2 n2 c2) ∧ w'.cell? ⟨W.heap.size, 1, none⟩ = some (.int .i64 p)) (first | exact ⟨by assumption, by assumption⟩ | go_keep)
    (first
      | (go_at_call 25; refine (HC1.out _ b2d).mono ?_; rintro e w3 ⟨rfl, hB3, hb3⟩; have e0 := kcell hb3 d0; have e1 := kcell hb3 d1; have b3 := below_next b2d hb3; have S3 := SgsIn.ofBlk hB3 HL.out hmx HG.out)
      | (go_at_call 26; refine (HC2.out _ b3).mono ?_; rintro e w4 ⟨rfl, hB4, hb4⟩; have f0 := kcell hb4 e0; have f1 := kcell hb4 e1; have b4 := below_next b3 hb4; have S4 := S3.keep hb4; have D4 := WdsIn.ofBlk hB4 HL'.out hmx')
      | (go_at_call 27; refine (HC3.out _ b4).mono ?_; rintro e w5 ⟨g5, rfl, hg5, hB5, hb5⟩; have g0 := kcell hb5 f0; have g1 := kcell hb5 f1; have b5 := below_next b4 hb5; have S5 := S4.keep hb5; have D5 := D4.keep hb5; have T5 := StrokesIn.ofBlk hB5 HL2.out hmx2 HG2.out)
      | (go_at_call 15; refine (specWrittenRead _ n n xs _ n' n' ws _ n2 n2 ss p _ HX'.out S5 D5 T5).mono ?_; rintro e w6 ⟨⟨A6, c6, rfl, hO6⟩, hb6⟩; have h0 := kcell hb6 g0; have h1 := kcell hb6 g1; have b6 := below_next b5 hb6))
  have P6 := Lib.hid (And.intro h0 h1)
  have W6 := Lib.hid hO6
  have z26 : w2.heap.size ≤ w6.heap.size := Nat.le_trans (Nat.le_trans (Nat.le_trans (show w2.heap.size ≤ w3.heap.size from hb3.size) hb4.size) hb5.size) hb6.size
  have hzW := b2.size
  have hz6 := hb6.size
  clear d0 d1 e0 e1 f0 f1 g0 g1 h0 h1 p0 p1 b2d b3 b4 b5 S3 S4 S5 D4 D5 T5 hB3 hB4 hB5 hb3 hb4 hb5 hb6 hO6 hg5
  generalize hPe : readAll xs ws (ss, p) = P at *
  have HPe := Lib.hid hPe; clear hPe
  have hPl := HRl.out
  rw [HL'.out] at hPl
  generalize hNl : P.length = N at *
  have HNl := Lib.hid hNl; clear hNl
  have hN : N ≤ 1048576 := by omega
  -- the copies
  go_wp2_with fail
  refine (HC1.out w6 b6).mono ?_
  rintro e w7 ⟨rfl, hB7, hb7⟩
  have b7 := below_next b6 hb7
  have P7 := Lib.hid (cells2 P6.out hb7)
  have W7 : Hid (NatOwn w7 w5.heap.size (.slice A6 N c6) P) := Lib.hid (ownG_keep W6.out hb7)
  have S7 := Lib.hid hB7
  have z7 := hB7.lt
  clear hB7 hb7 P6
  go_wp2_with fail
  refine (HC2.out w7 b7).mono ?_
  rintro e w8 ⟨rfl, hB8, hb8⟩
  have b8 := below_next b7 hb8
  have P8 := Lib.hid (cells2 P7.out hb8)
  have W8 : Hid (NatOwn w8 w5.heap.size (.slice A6 N c6) P) := Lib.hid (ownG_keep W7.out hb8)
  have S8 := Lib.hid (S7.out.below hb8)
  have D8 := Lib.hid hB8
  have z8 := hB8.lt
  clear hB8 hb8 P7 W7 S7
  obtain ⟨p0, p1⟩ := P8.out
  go_wp2_with fail
  refine (HC3.out w8 b8).mono ?_
  rintro e w9 ⟨g9, rfl, hg9, hB9, hb9⟩
  have b9 := below_next b8 hb9
  have P9 := Lib.hid (cells2 P8.out hb9)
  have W9 : Hid (NatOwn w9 w5.heap.size (.slice A6 N c6) P) := Lib.hid (ownG_keep W8.out hb9)
  have S9 := Lib.hid (S8.out.below hb9)
  have D9 := Lib.hid (D8.out.below hb9)
  have T9 := Lib.hid hB9
  have z9 := hB9.lt
  have z89 := hb9.size
  clear hB9 hb9 P8 W8 S8 D8 p0 p1
  have ha9 : Below w9.heap.size w9 (w9.alloc (.cells #[.slice (some ⟨g9, 0, none⟩) n2 n2, .int .i64 p] 35)) := (Below.refl _ _).alloc (Nat.le_refl _) _
  have HI9 := Lib.hid (implWrittenRead _ n n xs _ n' n' ws _ n2 n2 ss p _ HX'.out (SgsIn.ofBlk (S9.out.below ha9) HL.out hmx HG.out) (WdsIn.ofBlk (D9.out.below ha9) HL'.out hmx') (StrokesIn.ofBlk (T9.out.below ha9) HL2.out hmx2 HG2.out))
  rw [HPe.out] at HI9
  have x0 := newcell w9 #[.slice (some ⟨g9, 0, none⟩) n2 n2, .int .i64 p] 35 0 _ rfl
  have x1 := newcell w9 #[.slice (some ⟨g9, 0, none⟩) n2 n2, .int .i64 p] 35 1 _ rfl
  go_wp2_with fail
  refine HI9.out.mono ?_
  rintro e w10 ⟨⟨A10, c10, rfl, hO10⟩, hb10⟩
  rw [HNl.out] at hO10 ⊢
  have k10 := below_next ha9 hb10
  have b10 := below_next b9 k10
  have z10 := k10.size
  have P10 := Lib.hid (cells2 P9.out k10)
  have X10 := Lib.hid (cells2 (And.intro x0 x1) hb10)
  have W10 : Hid (NatOwn w10 w5.heap.size (.slice A6 N c6) P) := Lib.hid (ownG_keep W9.out k10)
  have G10 : Hid (NatOwn w10 (w9.heap.size + 1) (.slice A10 N c10) P) := Lib.hid (by simpa using hO10)
  have S10 := Lib.hid (S9.out.below k10)
  have D10 := Lib.hid (D9.out.below k10)
  have T10 := Lib.hid (T9.out.below k10)
  have z10' : w9.heap.size + 1 ≤ w10.heap.size := by have := hb10.size; simpa using this
  clear hO10 hb10 k10 HI9 x0 x1 P9 W9 S9 D9 T9 ha9
  have HE10 := Lib.hid (eqIntS A10 A6 N c10 c6 _ w10 (NatOwn.reads G10.out HNl.out) (NatOwn.reads W10.out HNl.out))
  go_wp2_with fail
  refine HE10.out.mono ?_
  rintro e w11 ⟨rfl, hb11⟩
  have b11 := below_next b10 hb11
  have K11 := Lib.hid hb11
  clear hb11 HE10
  -- the arguments are as they were
  go_wp2_with fail
  refine (HC1.out w11 b11).mono ?_
  rintro e w12 ⟨rfl, hB12, hb12⟩
  have b12 := below_next b11 hb12
  have K12 := Lib.hid (below_next K11.out hb12)
  have HE12 := Lib.hid (eqSignS _ _ n n n xs w12 (SgsIn.ofBlk (S10.out.below K12.out) HL.out hmx HG.out) (SgsIn.ofBlk hB12 HL.out hmx HG.out))
  clear hB12 hb12 K11
  go_wp2_with fail
  refine HE12.out.mono ?_
  rintro e w13 ⟨rfl, hb13⟩
  have b13 := below_next b12 hb13
  have K13 := Lib.hid (below_next K12.out hb13)
  clear hb13 HE12 K12
  go_wp2_with fail
  refine (HC2.out w13 b13).mono ?_
  rintro e w14 ⟨rfl, hB14, hb14⟩
  have b14 := below_next b13 hb14
  have K14 := Lib.hid (below_next K13.out hb14)
  have HE14 := Lib.hid (eqStringS _ _ n' n' n' ws w14 (WdsIn.ofBlk (D10.out.below K14.out) HL'.out hmx') (WdsIn.ofBlk hB14 HL'.out hmx'))
  clear hB14 hb14 K13
  go_wp2_with fail
  refine HE14.out.mono ?_
  rintro e w15 ⟨rfl, hb15⟩
  have b15 := below_next b14 hb15
  have K15 := Lib.hid (below_next K14.out hb15)
  clear hb15 HE14 K14
  obtain ⟨p0, p1⟩ := cells2 P10.out K15.out
  obtain ⟨y0, y1⟩ := cells2 X10.out K15.out
  have b15d := b15.drew
  have T15 : Hid (StrokesIn w15.drew w15.drew.heap.size (some ⟨g9, 0, none⟩) n2 n2 ss) := Lib.hid (StrokesIn.ofBlk (T10.out.below K15.out.drew) HL2.out hmx2 HG2.out)
  obtain ⟨d0, d1, d2, d3⟩ : w15.drew.cell? ⟨w9.heap.size, 0, none⟩ = some (.slice (some ⟨g9, 0, none⟩) n2 n2) ∧ w15.drew.cell? ⟨w9.heap.size, 1, none⟩ = some (.int .i64 p) ∧ w15.drew.cell? ⟨W.heap.size, 0, none⟩ = some (.slice A2 n2 c2) ∧ w15.drew.cell? ⟨W.heap.size, 1, none⟩ = some (.int .i64 p) := ⟨y0, y1, p0, p1⟩
  have k15d : Below w10.heap.size w10 w15.drew := K15.out.drew
  go_wp2_with fail
  go_region_held3 (fun w' => w'.cell? ⟨w9.heap.size, 0, none⟩ = some (.slice (some ⟨g9, 0, none⟩) n2 n2) ∧ w'.cell? ⟨w9.heap.size, 1, none⟩ = some (.int .i64 p) ∧ w'.cell? ⟨W.heap.size, 0, none⟩ = some (.slice A2 n2 c2) ∧ w'.cell? ⟨W.heap.size, 1, none⟩ = some (.int .i64 p)) (first | exact ⟨by assumption, by assumption, by assumption, by assumption⟩ | go_keep)
    (first
      | (go_at_call 27; refine (HC3.out _ b15d).mono ?_; rintro e w16 ⟨g16, rfl, hg16, hB16, hb16⟩; have e0 := kcell hb16 d0; have e1 := kcell hb16 d1; have e2 := kcell hb16 d2; have e3 := kcell hb16 d3; have b16 := below_next b15d hb16; have k16 := below_next k15d hb16; have hS16 := T15.out.keep hb16; have hT16 := StrokesIn.ofBlk hB16 HL2.out hmx2 HG2.out)
      | (go_at_call 31; refine (eqWritten _ _ n2 n2 n2 ss p _ hS16 hT16).mono ?_; rintro e w17 ⟨rfl, hb17⟩; have b17 := below_next b16 hb17; have k17 := below_next k16 hb17; have f0 := kcell hb17 e0; have f1 := kcell hb17 e1; have f2 := kcell hb17 e2; have f3 := kcell hb17 e3))
  have X17 := Lib.hid (And.intro f0 f1)
  have P17 := Lib.hid (And.intro f2 f3)
  have S17 := Lib.hid (S10.out.below k17)
  have D17 := Lib.hid (D10.out.below k17)
  have T17 := Lib.hid (T10.out.below k17)
  have W17 : Hid (NatOwn w17 w5.heap.size (.slice A6 N c6) P) := Lib.hid (ownG_keep W10.out k17)
  have G17 : Hid (NatOwn w17 (w9.heap.size + 1) (.slice A10 N c10) P) := Lib.hid (ownG_keep G10.out k17)
  have WB : Hid (∀ b, (Value.slice A6 N c6).ownBlock = some b → b < w6.heap.size) := Lib.hid (fun b hb => ownG_lt W6.out hb)
  have GB : Hid (∀ b, (Value.slice A10 N c10).ownBlock = some b → w9.heap.size + 1 ≤ b) := Lib.hid (fun b hb => ownG_base G10.out hb)
  have z17 := k17.size
  clear d0 d1 d2 d3 e0 e1 e2 e3 f0 f1 f2 f3 y0 y1 p0 p1 hS16 hT16 hB16 hb16 hb17 b15d k15d T15 P10 X10 S10 D10 T10 W10 G10 W6 K15 k17 hg16 k16 b16
  -- the marks of the copies
  have sS : (xs.flatMap sgC).toArray.size = n * 3 := by have := flat_len sgC_len xs; rw [List.size_toArray, this, HL.out]
  have sD : (ws.map strP).toArray.size = n' := by rw [List.size_toArray, List.length_map, HL'.out]
  have sT : (ss.flatMap stC).toArray.size = n2 * 2 := by have := flat_len stC_len ss; rw [List.size_toArray, this, HL2.out]
  go_wp2_with fail
  refine (markSignS w6.heap.size n 1 _ w17 (by omega) (by omega) hn sS S17.out).mono ?_
  rintro e w18 ⟨rfl, hg18⟩
  have b18 := b17.grown hg18 b17.size (fun b hb => by injection hb with hb; omega)
  have W18 := Lib.hid (natFar W17.out hg18 (fun b hb => by have := WB.out b hb; omega))
  have G18 := Lib.hid (natFar G17.out hg18 (fun b hb => by have := GB.out b hb; omega))
  have D18 := Lib.hid (D17.out.only hg18 (by omega))
  have T18 := Lib.hid (T17.out.only hg18 (by omega))
  have X18 := Lib.hid (cells2g X17.out hg18 (by omega))
  have P18 := Lib.hid (cells2g P17.out hg18 (by omega))
  have z18 := hg18.size
  clear hg18 W17 G17 D17 T17 X17 P17 S17
  go_wp2_with fail
  refine (markStringS w7.heap.size n' (1 + 3 * n) _ w18 (by omega) (by omega) hn' sD D18.out).mono ?_
  rintro e w19 ⟨rfl, hg19⟩
  have b19 := b18.grown hg19 b18.size (fun b hb => by injection hb with hb; omega)
  have W19 := Lib.hid (natFar W18.out hg19 (fun b hb => by have := WB.out b hb; omega))
  have G19 := Lib.hid (natFar G18.out hg19 (fun b hb => by have := GB.out b hb; omega))
  have T19 := Lib.hid (T18.out.only hg19 (by omega))
  have X19 := Lib.hid (cells2g X18.out hg19 (by omega))
  have P19 := Lib.hid (cells2g P18.out hg19 (by omega))
  have z19 := hg19.size
  clear hg19 W18 G18 D18 T18 X18 P18
  obtain ⟨y0, y1⟩ := X19.out
  go_wp2_with fail
  refine (markWritten g9 n2 (1 + 3 * n + n') p _ w19 (by omega) (by omega) hn2 sT T19.out).mono ?_
  rintro e w20 ⟨rfl, hg20⟩
  have b20 := b19.grown hg20 b19.size (fun b hb => by injection hb with hb; omega)
  have W20 := Lib.hid (natFar W19.out hg20 (fun b hb => by have := WB.out b hb; omega))
  have G20 := Lib.hid (natFar G19.out hg20 (fun b hb => by have := GB.out b hb; omega))
  have P20 := Lib.hid (cells2g P19.out hg20 (by omega))
  have z20 := hg20.size
  clear hg20 W19 G19 T19 X19 P19 y0 y1
  -- the answer is kept
  have HE20 := Lib.hid (eqIntS A10 A6 N c10 c6 _ w20 (NatOwn.reads G20.out HNl.out) (NatOwn.reads W20.out HNl.out))
  have hk0 : ¬ (((1 + 3 * n + n' + 2 * n2 : Nat) : Int) < 0) := by omega
  go_wp2_with fail
  refine HE20.out.mono ?_
  rintro e w21 ⟨rfl, hb21⟩
  have b21 := below_next b20 hb21
  have W21 : Hid (NatOwn w21 w5.heap.size (.slice A6 N c6) P) := Lib.hid (ownG_keep W20.out hb21)
  have G21 : Hid (NatOwn w21 (w9.heap.size + 1) (.slice A10 N c10) P) := Lib.hid (ownG_keep G20.out hb21)
  have P21 := Lib.hid (cells2 P20.out hb21)
  have z21 := hb21.size
  clear hb21 HE20 W20 G20 P20
  -- the answer is marked
  go_wp2_with fail
  refine (markIntS A10 N c10 1 (w9.heap.size + 1) _ w21 (by omega) hN (by rw [asI_len]; exact HNl.out) G21.out.ints).mono ?_
  rintro e w22 ⟨rfl, hg22, hM22⟩
  have b22 := b21.grown hg22 b21.size (fun b hb => by have := GB.out b hb; omega)
  have M22 := Lib.hid (fun V (hV : Below w22.heap.size w22 V) => (hM22.reads (marksI_len 1 N)).keep hV)
  have W22 : Hid (NatOwn w22 w5.heap.size (.slice A6 N c6) P) := Lib.hid (ownG_congr W21.out (fun b hb => hg22.block b (ownG_lt W21.out hb) (fun e => by have h1 := WB.out b hb; have h2 := GB.out b e.symm; omega)))
  have P22 : Hid (w22.cell? ⟨W.heap.size, 0, none⟩ = some (.slice A2 n2 c2) ∧ w22.cell? ⟨W.heap.size, 1, none⟩ = some (.int .i64 p)) := Lib.hid ⟨hg22.cell P21.out.1 (fun e => by have h2 := GB.out W.heap.size e.symm; omega), hg22.cell P21.out.2 (fun e => by have h2 := GB.out W.heap.size e.symm; omega)⟩
  have z22 := hg22.size
  clear hg22 hM22 W21 G21 P21
  go_wp2_with fail
  refine (heldIntS A10 N c10 1 w22 (by omega) hN (M22.out w22 (Below.refl _ _))).mono ?_
  rintro e w23 ⟨rfl, hb23⟩
  have b23 := below_next b22 hb23
  have W23 : Hid (NatOwn w23 w5.heap.size (.slice A6 N c6) P) := Lib.hid (ownG_keep W22.out hb23)
  have K23 := Lib.hid hb23
  obtain ⟨p0, p1⟩ := cells2 P22.out hb23
  clear hb23 W22 P22
  -- the program once more
  have b23d := b23.drew
  have k23d : Below w22.heap.size w22 w23.drew := K23.out.drew
  have j23d : Below w23.heap.size w23 w23.drew := (Below.refl _ _).drew
  obtain ⟨d0, d1⟩ : w23.drew.cell? ⟨W.heap.size, 0, none⟩ = some (.slice A2 n2 c2) ∧ w23.drew.cell? ⟨W.heap.size, 1, none⟩ = some (.int .i64 p) := ⟨p0, p1⟩
  have hm1 : ¬ (((1 + N : Nat) : Int) < 0) := by omega
  have hm2' : (((1 + N : Nat) : Int) != ((1 + N : Nat) : Int)) = false := by simp
  go_wp2_with fail
  go_region_held3 (fun w' => w'.cell? ⟨W.heap.size, 0, none⟩ = some (.slice A2 n2 c2) ∧ w'.cell? ⟨W.heap.size, 1, none⟩ = some (.int .i64 p)) (first | exact ⟨by assumption, by assumption⟩ | go_keep)
    (first
      | (go_at_call 25; refine (HC1.out _ b23d).mono ?_; rintro e w24 ⟨rfl, hB24, hb24⟩; have e0 := kcell hb24 d0; have e1 := kcell hb24 d1; have b24 := below_next b23d hb24; have j24 := below_next j23d hb24; have S24 := SgsIn.ofBlk hB24 HL.out hmx HG.out)
      | (go_at_call 26; refine (HC2.out _ b24).mono ?_; rintro e w25 ⟨rfl, hB25, hb25⟩; have f0 := kcell hb25 e0; have f1 := kcell hb25 e1; have b25 := below_next b24 hb25; have j25 := below_next j24 hb25; have S25 := S24.keep hb25; have D25 := WdsIn.ofBlk hB25 HL'.out hmx')
      | (go_at_call 27; refine (HC3.out _ b25).mono ?_; rintro e w26 ⟨g26, rfl, hg26, hB26, hb26⟩; have g0 := kcell hb26 f0; have g1 := kcell hb26 f1; have b26 := below_next b25 hb26; have j26 := below_next j25 hb26; have S26 := S25.keep hb26; have D26 := D25.keep hb26; have T26 := StrokesIn.ofBlk hB26 HL2.out hmx2 HG2.out)
      | (go_at_call 14; refine (implWrittenRead _ n n xs _ n' n' ws _ n2 n2 ss p _ HX'.out S26 D26 T26).mono ?_; rw [HPe.out]; rintro e w27 ⟨⟨A27, c27, rfl, hO27⟩, hb27⟩; have h0 := kcell hb27 g0; have h1 := kcell hb27 g1; have b27 := below_next b26 hb27; have j27 := below_next j26 hb27))
  have k27 := below_next K23.out j27
  have W27 : Hid (NatOwn w27 w5.heap.size (.slice A6 N c6) P) := Lib.hid (ownG_keep W23.out j27)
  have HE27 := Lib.hid (eqIntS A27 A6 P.length c27 c6 _ w27 (NatOwn.reads hO27 rfl) (by rw [HNl.out]; exact NatOwn.reads W27.out HNl.out))
  rw [HNl.out] at HE27
  rw [HNl.out]
  have M27 := Lib.hid (fun V (hV : Below w27.heap.size w27 V) => M22.out V (below_next k27 hV))
  clear d0 d1 e0 e1 f0 f1 g0 g1 h0 h1 p0 p1 b23d k23d j23d b24 b25 b26 j24 j25 j26 j27 S24 S25 S26 D25 D26 T26 hB24 hB25 hB26 hb24 hb25 hb26 hb27 hO27 hg26 W23 K23 M22 k27 W27
  go_wp2_with fail
  refine HE27.out.mono ?_
  rintro e w28 ⟨rfl, hb28⟩
  have b28 := below_next b27 hb28
  have HH := Lib.hid (heldIntS A10 N c10 1 w28 (by omega) hN (M27.out w28 hb28))
  clear hb28 HE27 M27
  go_wp2_with fail
  refine HH.out.mono ?_
  rintro e w29 ⟨rfl, hb29⟩
  have b29 := below_next b28 hb29
  go_wp2
  go_returns
  exact ⟨rfl, b29⟩

set_option maxRecDepth 100000 in
theorem lifted (os : Os) (started : os.Started) (H : Type) (enc : TypeId × Value → H) :
    ReturnsInHanded {} Try.checked os 6 .any (Rows.fnExactWrittenReadSpec.pre6 enc Try.prog Try.f6 Rows.fnExactWrittenReadRow.domain false) (Rows.fnExactWrittenReadSpec.post enc Try.prog Try.f6 false true false false) := by
  refine returnsInHanded_of_change (C := Try.checked) own started (by kernel_rfl) Try.func6
    (ChangeSpec.witness6 (enc := enc) (C := Try.checked) false ⟨#[], #[.slice none 0 0, .slice none 0 0, .agg #[.slice none 0 0, .int .i64 0]], []⟩ 8 (by kernel_rfl) (by kernel_rfl) (by kernel_rfl) (by kernel_rfl)) ?_
  intro W base args ds gs before hval0 hW hcnd _
  have hval : ∀ (j : Nat) t v, Try.f6.params[j]? = some t → args[j]? = some v → Value.okWide Try.prog W .any base t v := hval0
  have hW' := hW
  obtain ⟨p, q, hA0, hV, rfl, hfz, hnd⟩ := hW
  have hA : DataW.TrodAll enc Try.prog W 0 (fun _ => true) true Try.f6.params.toList args.toList ds p := hA0
  rw [Try.params6] at hA hval
  obtain ⟨v0, vs0, d0, ds0, p0, q0, hargs, rfl, rfl, h0, r0⟩ := trodAll_cons hA
  obtain ⟨v1, vs1, d1, ds1, p1, q1, rfl, rfl, rfl, h1, r1⟩ := trodAll_cons r0
  obtain ⟨v2, vs2, d2, ds2, p2, q2, rfl, rfl, rfl, h2, r2⟩ := trodAll_cons r1
  obtain ⟨rfl, rfl, rfl⟩ := trodAll_nil r2
  obtain rfl : args = #[v0, v1, v2] := by cases args; simp_all
  obtain ⟨rfl, rfl⟩ := trodVars_none hV
  have k0 := h0
  have lt0 : ∀ x ∈ p0, x.block < W.heap.size := by obtain ⟨m, hm⟩ := k0; exact DataW.trod_lt m _ _ _ hm
  obtain ⟨A_0, n_0, c_0, ss_0, rfl, R_0, X_0⟩ := openSigns (hval 0 47 v0 rfl rfl) h0
  have k1 := h1
  have lt1 : ∀ x ∈ p1, x.block < W.heap.size := by obtain ⟨m, hm⟩ := k1; exact DataW.trod_lt m _ _ _ hm
  obtain ⟨A_1, n_1, c_1, ws_1, rfl, R_1, X_1⟩ := openWords (hval 1 24 v1 rfl rfl) h1
  have k2 := h2
  have lt2 : ∀ x ∈ p2, x.block < W.heap.size := by obtain ⟨m, hm⟩ := k2; exact DataW.trod_lt m _ _ _ hm
  obtain ⟨A_2, n_2, c_2, ss_2, p_2, rfl, R_2, wp_2⟩ := openWritten (hval 2 50 v2 rfl rfl) h2
  clear hA0 hval0
  refine (walk A_0 n_0 c_0 ss_0 A_1 n_1 c_1 ws_1 A_2 n_2 c_2 ss_2 p_2 W R_0 X_0 R_1 X_1 R_2 wp_2).mono fun e W' ⟨he, bel⟩ => ?_
  subst he
  exact ⟨_, rfl, _, _, _, [], _, [], hW', trodAll_mk1 (shut_bool Try.underlying4 _), (trodAll_cons_mk (Below.trod laidOut (by kernel_rfl) (of_decide_eq_true (by kernel_rfl)) k0 bel lt0) (trodAll_cons_mk (Below.trod laidOut (by kernel_rfl) (of_decide_eq_true (by kernel_rfl)) k1 bel lt1) (trodAll_cons_mk (Below.trod laidOut (by kernel_rfl) (of_decide_eq_true (by kernel_rfl)) k2 bel lt2) trodAll_mk0))), rfl, bel.frame _, fun h => by cases h⟩

theorem over : Rows.fnExactWrittenReadRow.holds Try.pinned (OpenSpec.ofChange Rows.fnExactWrittenReadSpec) :=
  OpenClaim.holds_of_wide 6 Try.f6 rfl rfl rfl rfl rfl rfl rfl ⟨rfl, rfl, rfl, rfl, rfl⟩ rfl rfl rfl rfl rfl (by kernel_rfl) Try.func6 (by kernel_rfl)
    (of_decide_eq_true (by kernel_rfl)) (by unfold Func.isWrapper; first | (rw [if_pos (by decide +kernel)]; kernel_rfl) | (rw [if_neg (by decide +kernel)]; exact ⟨rfl, rfl⟩))
    (fun os started H enc _ => lifted os started H enc)

theorem proved : Rows.FnExactWrittenReadSaid := over
end Go.Proofs.Ytppjjbjjbmodbaa.fnExactWrittenRead
