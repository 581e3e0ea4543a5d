/-
  The reader draws marks of a transcript. Conditions: as for pick.
-/
import Derived.Test.YtlfhgmbmgbbnjaaDrawSp
import Derived.Test.YtlfhgmbmgbbnjaaMkMg
import Derived.Deep.RegionHeld3
import Derived.Deep.DeepCutAuto
import Derived.Deep.Cut
import Derived.Deep.CutRange
namespace Go.Proofs.Ytlfhgmbmgbbnjaa
open Go.ChangeShapes Go.WideShapes Go.ChangeAt Go.RowKit
set_option maxRecDepth 100000
set_option linter.unusedSimpArgs false
set_option linter.unusedVariables false

/-- The cells of marks, of which the first may begin below nothing. -/
def mkZ (D : List Mr) (neg : Bool) : List Value := if neg = true then (D.flatMap mkC).set 0 (.int .i64 (-1)) else D.flatMap mkC
theorem mkZ_no (D : List Mr) : mkZ D false = D.flatMap mkC := rfl
/-- Words of drawn marks are short. -/
def ShortM (x : Mr) : Prop := x.at_ ≤ 200 ∧ x.cut ≤ 200 ∧ x.n ≤ 200 ∧ ∀ l ∈ x.put, l.length ≤ 40
def MzOwn (w : World) (B : Nat) (v : Value) (D : List Mr) (neg : Bool) : Prop :=
  (neg = true → 0 < D.length) ∧ w.ownsRow B 37 3 v D.length (mkZ D neg) ∧ ∀ x ∈ D, MrIn w w.heap.size x ∧ (0 < x.n → ∀ a, x.A = some a → v.ownBlock ≠ some a.block ∧ a.block < w.heap.size)
theorem MrOwn.toZ {w : World} {B : Nat} {v : Value} {D : List Mr} (h : MrOwn w B v D) : MzOwn w B v D false := ⟨(fun e => by cases e), (by rw [mkZ_no]; exact h.1), h.2⟩
/-- The first mark of a row of the call's own changes. -/
theorem keepWords {w w' : World} {D : List Mr} {v : Value} {gb : Nat} (hv : v.ownBlock = some gb) (hg : w.grownBy w' (some gb)) {z y : Mr} (hz : MrIn w w.heap.size z ∧ (0 < z.n → ∀ p, z.A = some p → v.ownBlock ≠ some p.block ∧ p.block < w.heap.size)) (e1 : y.A = z.A) (e2 : y.n = z.n) (e3 : y.c = z.c) (e4 : y.put = z.put) :
    MrIn w' w'.heap.size y ∧ (0 < y.n → ∀ p, y.A = some p → v.ownBlock ≠ some p.block ∧ p.block < w'.heap.size) := by
  unfold MrIn at *
  rw [e1, e2, e3, e4]
  exact ⟨WdsIn.grown hz.1 hg (fun hp p hpA e => (hz.2 hp p hpA).1 (by rw [hv]; exact e)), fun hp p hpA => ⟨(hz.2 hp p hpA).1, Nat.lt_of_lt_of_le (hz.2 hp p hpA).2 hg.size⟩⟩
theorem MrOwn.head {w : World} {B gb j : Nat} {v u : Value} {x x' : Mr} {r : List Mr} (h : MrOwn w B v (x :: r)) (hv : v.ownBlock = some gb) (hj : ((x :: r).flatMap mkC).set j u = (x' :: r).flatMap mkC) (e1 : x'.A = x.A) (e2 : x'.n = x.n) (e3 : x'.c = x.c) (e4 : x'.put = x.put) : MrOwn (w.setCell ⟨gb, j, none⟩ u) B v (x' :: r) := by
  have h1 := own_set (j := j) (u := u) h.1 hv
  rw [hj] at h1
  have hg := only_set1 w gb j u
  refine ⟨h1, fun y hy => ?_⟩
  rcases List.mem_cons.1 hy with e | hy
  · rw [e]; exact keepWords (D := []) hv hg (h.2 x (by simp)) e1 e2 e3 e4
  · exact keepWords (D := []) hv hg (h.2 y (by simp [hy])) rfl rfl rfl rfl
theorem MrOwn.neg {w : World} {B gb : Nat} {v : Value} {x : Mr} {r : List Mr} (h : MrOwn w B v (x :: r)) (hv : v.ownBlock = some gb) : MzOwn (w.setCell ⟨gb, 0, none⟩ (.int .i64 (-1))) B v (x :: r) true := by
  have h1 := own_set (j := 0) (u := .int .i64 (-1)) h.1 hv
  have hg := only_set1 w gb 0 (.int .i64 (-1))
  exact ⟨fun _ => by simp, h1, fun y hy => keepWords (D := []) hv hg (h.2 y hy) rfl rfl rfl rfl⟩
/-- What l92Some answers. -/
def DrawnMk (B g lim : Nat) (w : World) (e : Ending) (w' : World) : Prop :=
  ∃ (v : Value) (D : List Mr) (neg : Bool), e = .returned v ∧ D.length ≤ 200 ∧ (∀ x ∈ D, ShortM x ∧ (0 < x.n → ∀ p, x.A = some p → w.heap.size ≤ p.block)) ∧ MzOwn w' w.heap.size v D neg ∧ w.grownBy w' (some g) ∧ RdIn w' B g (lim + 6000)
/-- A row of marks beside the reader. -/
theorem MrOwn.rd {w w' : World} {B g : Nat} {v : Value} {D : List Mr} (h : MrOwn w B v D) (hg : w.grownBy w' (some g)) (hB : g < B) (hW : ∀ x ∈ D, 0 < x.n → ∀ a, x.A = some a → a.block ≠ g) : MrOwn w' B v D :=
  ⟨ownG_only h.1 hg hB, fun x hx => ⟨WdsIn.grown (h.2 x hx).1 hg (fun hp a ha e => hW x hx hp a ha (by injection e with e; exact e.symm)), fun hp a ha => ⟨((h.2 x hx).2 hp a ha).1, Nat.lt_of_lt_of_le ((h.2 x hx).2 hp a ha).2 hg.size⟩⟩⟩
set_option maxHeartbeats 3200000 in
theorem l92Some (g B lim : Nat) (A : Option Addr) (n c : Nat) (w : World) (hn : n ≤ 100) (hl : lim ≤ 700000000) (hr : RdIn w B g lim) (hBw : B ≤ w.heap.size) :
    Calls Try.prog 46 #[.pointer (some ⟨g, 0, none⟩), .slice A n c] w (DrawnMk B g lim w) := by
  obtain ⟨j0, hj, hy0, hy1, hy2⟩ := info_parts infoWd
  obtain ⟨i0, hi, hz0, hz1, hz2⟩ := info_parts infoMk
  have hg := hr.lt
  have HP := Lib.hid (pickR (n := 3) (hr.alloc' (.cells #[] 37)) (by omega) (by omega) (by omega))
  have hO0 := MrOwn.made w
  have hG0 : w.grownBy (w.alloc (.cells #[] 37)) (some g) := only_alloc (World.grownBy.refl w (some g)) _
  clear hr
  go_enter Try.func46, Try.ntmps46
  go_wp2_with fail
  refine HP.out.mono ?_
  rintro e w1 ⟨at0, rfl, hat0, hg1, hr1⟩
  have HO1 := Lib.hid (hO0.rd hg1 hg (by simp))
  have HG1 := Lib.hid (only_next hG0 hg1)
  have HR1 := Lib.hid hr1
  clear hO0 hG0 hg1 hr1 HP
  go_wp2
  go_loopw [5, 6] (fun s5 s6 wr => ∃ (a : Nat) (D : List Mr) (v : Value), a ≤ n + 20 ∧ s5 = v ∧ s6 = .int .i64 a ∧ Hid (D.length ≤ a) ∧ Hid (∀ x ∈ D, ShortM x ∧ (0 < x.n → ∀ p, x.A = some p → w.heap.size ≤ p.block)) ∧ Hid (MrOwn wr w.heap.size v D) ∧ Hid (w.grownBy wr (some g)) ∧ Hid (RdIn wr B g (lim + 2 + 40 * a))) (fun _ s6 _ => n + 20 - (intOf s6).toNat)
  case atStart => exact ⟨at0, [], _, by omega, rfl, rfl, Lib.hid (by simp), Lib.hid (by simp), HO1, HG1, Lib.hid (HR1.out.more (by omega))⟩
  case round =>
    obtain ⟨a, D, v, ha, rfl, rfl, HL, HS, HO, HG, HR⟩ := hrel
    have a0 : (0 : Int) ≤ (a : Int) := by omega
    have hZ : ∀ x ∈ D, 0 < x.n → ∀ p, x.A = some p → p.block ≠ g := fun x hx hp p hpA => by have := (HS.out x hx).2 hp p hpA; omega
    have HZ := Lib.hid hZ
    clear hZ
    go_upto_region 3 with fail
    go_cut [19] (fun c19 wx => ∃ (W : World) (q : Bool), W = wx ∧ Value.bool q = c19 ∧ Hid (q = true → a ≤ n) ∧ Hid (MrOwn W w.heap.size u5 D) ∧ Hid (w.grownBy W (some g)) ∧ Hid (RdIn W B g (lim + 3 + 40 * a)))
    case first =>
      by_cases hlt : a ≤ n
      · have a1 : (a : Int) ≤ (n : Int) := by omega
        have HP := Lib.hid (pickR (n := 4) HR.out (by omega) (by omega) (by omega))
        go_wp2_with fail
        refine HP.out.mono ?_
        rintro e w2 ⟨m, rfl, hm, hg2, hr2⟩
        have HO2 := Lib.hid (HO.out.rd hg2 hg HZ.out)
        have HG2 := Lib.hid (only_next HG.out hg2)
        have HR2 := Lib.hid (hr2.more (show lim + 2 + 40 * a + 1 ≤ lim + 3 + 40 * a by omega))
        clear hg2 hr2 HP HO HG HR
        go_wp2
        go_meet
        exact ⟨_, _, rfl, rfl, Lib.hid (fun _ => hlt), HO2, HG2, HR2⟩
      · have a1 : ¬ (a : Int) ≤ (n : Int) := by omega
        have HQ : Hid (false = true → a ≤ n) := Lib.hid (fun h => by cases h)
        have HR2 := Lib.hid (HR.out.more (show lim + 2 + 40 * a ≤ lim + 3 + 40 * a by omega))
        go_wp2
        go_meet
        exact ⟨_, false, rfl, rfl, HQ, HO, HG, HR2⟩
    case rest =>
      obtain ⟨w2, q, rfl, rfl, HQ, HO2, HG2, HR2⟩ := hcut
      have hs2 := HG2.out.size
      clear HO HG HR
      cases q with
      | true =>
        have han := HQ.out rfl
        clear HQ
        have HP := Lib.hid (pickR (n := 3) HR2.out (by omega) (by omega) (by omega))
        go_wp2_with fail
        refine HP.out.mono ?_
        rintro e w3 ⟨m, rfl, hm, hg3, hr3⟩
        have HO3 := Lib.hid (HO2.out.rd hg3 hg HZ.out)
        have HG3 := Lib.hid (only_next HG2.out hg3)
        have hs3 := HG3.out.size
        have HSp := Lib.hid (l91Speech g B (lim + 3 + 40 * a + 1) 2 w3 (by omega) (by omega) hr3 (by omega))
        have na : (a : Int) ≤ (n : Int) := by omega
        clear hg3 hr3 HP HO2 HG2 HR2
        go_wp2_with fail
        refine HSp.out.mono ?_
        rintro e w4 ⟨v4, ws4, rfl, hl4, hw4, ho4, hg4, hr4⟩
        obtain ⟨A4, c4, rfl, hc4, hm4⟩ := ownG_form ho4
        have hvb : ∀ q, u5.ownBlock = some q → q < w3.heap.size := fun q hq => ownG_lt HO3.out.1 hq
        have HVb := Lib.hid hvb
        have HO4 := Lib.hid (HO3.out.rd hg4 hg HZ.out)
        have HG4 := Lib.hid (only_next HG3.out hg4)
        have hs4 := hg4.size
        have HR4 := Lib.hid (hr4.more (show lim + 3 + 40 * a + 1 + 30 ≤ lim + 36 + 40 * a by omega))
        have HW4 := Lib.hid ho4
        have HS4 := Lib.hid hw4
        obtain ⟨N4, hN4⟩ : ∃ N4, N4 = ws4.length := ⟨_, rfl⟩
        rw [← hN4] at hl4 HW4 ⊢
        have HN4 := Lib.hid hN4.symm
        have HI4 : Hid (WdsIn w4 w4.heap.size A4 N4 c4 ws4) := Lib.hid (WdOwn.reads HW4.out HN4.out)
        have HB4 : Hid (∀ p, A4 = some p → w3.heap.size ≤ p.block ∧ p.block < w4.heap.size) := Lib.hid (fun p hp => by subst hp; exact ⟨ownG_base HW4.out rfl, ownG_lt HW4.out rfl⟩)
        clear hvb hN4 ho4 hw4 hg4 hr4 HO3 HG3 HSp HW4
        obtain ⟨q, hqe, hq2, hqn⟩ : ∃ q : Nat, min (m : Int) ((n : Int) - (a : Int)) = (q : Int) ∧ q ≤ 2 ∧ a + q ≤ n := ⟨min m (n - a), by omega, by omega, by omega⟩
        have q0 : (0 : Int) ≤ (q : Int) := by omega
        have q2 : (q : Int) ≤ 2 := by omega
        go_upto_if 37 with fail
        go_cut [37] (fun c37 wx => ∃ (W : World) (x : Mr), W = wx ∧ x.at_ = a ∧ x.cut = q ∧ Hid (ShortM x) ∧ Hid (MrOwn W w.heap.size u5 D) ∧ Hid (w.grownBy W (some g)) ∧ Hid (RdIn W B g (lim + 36 + 40 * a)) ∧ Hid (MrIn W W.heap.size x) ∧ Hid (0 < x.n → ∀ p, x.A = some p → u5.ownBlock ≠ some p.block ∧ p.block < W.heap.size ∧ w.heap.size ≤ p.block) ∧ Hid (w4.heap.size < W.heap.size ∧ W.cell? ⟨w4.heap.size, 0, none⟩ = some (.int .i64 (a : Int)) ∧ W.cell? ⟨w4.heap.size, 1, none⟩ = some (.int .i64 (q : Int)) ∧ W.cell? ⟨w4.heap.size, 2, none⟩ = some (.slice x.A x.n x.c)))
        case first =>
          by_cases h0 : q + N4 = 0
          · have z0 : ((q : Int) + (N4 : Int) == 0) = true := by simp; omega
            have hba : Below w4.heap.size w4 (w4.alloc (.cells #[.int .i64 (a : Int), .int .i64 (q : Int), .slice (some ⟨w4.heap.size + 1, 0, none⟩) 1 1] 37)) := (Below.refl _ _).alloc (Nat.le_refl _) _
            have hbb : Below (w4.alloc (.cells #[.int .i64 (a : Int), .int .i64 (q : Int), .slice (some ⟨w4.heap.size + 1, 0, none⟩) 1 1] 37)).heap.size (w4.alloc (.cells #[.int .i64 (a : Int), .int .i64 (q : Int), .slice (some ⟨w4.heap.size + 1, 0, none⟩) 1 1] 37)) ((w4.alloc (.cells #[.int .i64 (a : Int), .int .i64 (q : Int), .slice (some ⟨w4.heap.size + 1, 0, none⟩) 1 1] 37)).alloc (.cells #[.string (mkStr [115, 111])] 9)) := (Below.refl _ _).alloc (Nat.le_refl _) _
            have e1 := Lib.hid ((HO4.out.keep hba).keep hbb)
            have e2 := Lib.hid (only_alloc (only_alloc HG4.out (.cells #[.int .i64 (a : Int), .int .i64 (q : Int), .slice (some ⟨w4.heap.size + 1, 0, none⟩) 1 1] 37)) (.cells #[.string (mkStr [115, 111])] 9))
            have e3 := Lib.hid ((HR4.out.alloc' (.cells #[.int .i64 (a : Int), .int .i64 (q : Int), .slice (some ⟨w4.heap.size + 1, 0, none⟩) 1 1] 37)).alloc' (.cells #[.string (mkStr [115, 111])] 9))
            have hrow := rowStr1 (w4.alloc (.cells #[.int .i64 (a : Int), .int .i64 (q : Int), .slice (some ⟨w4.heap.size + 1, 0, none⟩) 1 1] 37)) (.string (mkStr [115, 111])) 9
            simp only [World.size_alloc] at hrow
            have e4 : Hid (WdsIn ((w4.alloc (.cells #[.int .i64 (a : Int), .int .i64 (q : Int), .slice (some ⟨w4.heap.size + 1, 0, none⟩) 1 1] 37)).alloc (.cells #[.string (mkStr [115, 111])] 9)) ((w4.alloc (.cells #[.int .i64 (a : Int), .int .i64 (q : Int), .slice (some ⟨w4.heap.size + 1, 0, none⟩) 1 1] 37)).alloc (.cells #[.string (mkStr [115, 111])] 9)).heap.size (some ⟨w4.heap.size + 1, 0, none⟩) 1 1 [[115, 111]]) := Lib.hid ⟨rfl, Nat.le_refl _, by unfold maxLen; omega, by simpa [strP] using hrow⟩
            have e5 : Hid (0 < 1 → ∀ p : Addr, some (⟨w4.heap.size + 1, 0, none⟩ : Addr) = some p → u5.ownBlock ≠ some p.block ∧ p.block < ((w4.alloc (.cells #[.int .i64 (a : Int), .int .i64 (q : Int), .slice (some ⟨w4.heap.size + 1, 0, none⟩) 1 1] 37)).alloc (.cells #[.string (mkStr [115, 111])] 9)).heap.size ∧ w.heap.size ≤ p.block) := Lib.hid (fun _ p hp => by
              injection hp with hp; subst hp
              exact ⟨fun e => by have := HVb.out _ e; simp at this; omega, by simp, by simp; omega⟩)
            have e6 := Lib.hid (And.intro (show w4.heap.size < ((w4.alloc (.cells #[.int .i64 (a : Int), .int .i64 (q : Int), .slice (some ⟨w4.heap.size + 1, 0, none⟩) 1 1] 37)).alloc (.cells #[.string (mkStr [115, 111])] 9)).heap.size by simp; omega) (And.intro (kcell hbb (newcell w4 #[.int .i64 (a : Int), .int .i64 (q : Int), (.slice (some ⟨w4.heap.size + 1, 0, none⟩) 1 1)] 37 0 _ rfl)) (And.intro (kcell hbb (newcell w4 #[.int .i64 (a : Int), .int .i64 (q : Int), (.slice (some ⟨w4.heap.size + 1, 0, none⟩) 1 1)] 37 1 _ rfl)) (kcell hbb (newcell w4 #[.int .i64 (a : Int), .int .i64 (q : Int), (.slice (some ⟨w4.heap.size + 1, 0, none⟩) 1 1)] 37 2 _ rfl)))))
            have e7 : Hid (ShortM ⟨a, q, some ⟨w4.heap.size + 1, 0, none⟩, 1, 1, [[115, 111]]⟩) := Lib.hid ⟨by show a ≤ 200; omega, by show q ≤ 200; omega, by show 1 ≤ 200; omega, by simp⟩
            clear HO4 HG4 HR4 HI4 HB4 HS4 HN4 HVb hba hbb hrow h0
            go_wp2
            go_meet
            exact ⟨_, ⟨a, q, some ⟨w4.heap.size + 1, 0, none⟩, 1, 1, [[115, 111]]⟩, rfl, rfl, rfl, e7, e1, e2, e3, e4, e5, e6⟩
          · have z0 : ((q : Int) + (N4 : Int) == 0) = false := by simp; omega
            have hba : Below w4.heap.size w4 (w4.alloc (.cells #[.int .i64 (a : Int), .int .i64 (q : Int), .slice A4 N4 c4] 37)) := (Below.refl _ _).alloc (Nat.le_refl _) _
            have e1 := Lib.hid (HO4.out.keep hba)
            have e2 := Lib.hid (only_alloc HG4.out (.cells #[.int .i64 (a : Int), .int .i64 (q : Int), .slice A4 N4 c4] 37))
            have e3 := Lib.hid (HR4.out.alloc' (.cells #[.int .i64 (a : Int), .int .i64 (q : Int), .slice A4 N4 c4] 37))
            have e4 := Lib.hid (HI4.out.keep hba)
            have e5 : Hid (0 < N4 → ∀ p, A4 = some p → u5.ownBlock ≠ some p.block ∧ p.block < (w4.alloc (.cells #[.int .i64 (a : Int), .int .i64 (q : Int), .slice A4 N4 c4] 37)).heap.size ∧ w.heap.size ≤ p.block) := Lib.hid (fun _ p hp => by
              have h1 := HB4.out p hp
              exact ⟨fun e => by have := HVb.out _ e; omega, by simp; omega, by omega⟩)
            have e6 := Lib.hid (And.intro (show w4.heap.size < (w4.alloc (.cells #[.int .i64 (a : Int), .int .i64 (q : Int), .slice A4 N4 c4] 37)).heap.size by simp) (And.intro (newcell w4 #[.int .i64 (a : Int), .int .i64 (q : Int), .slice A4 N4 c4] 37 0 _ rfl) (And.intro (newcell w4 #[.int .i64 (a : Int), .int .i64 (q : Int), .slice A4 N4 c4] 37 1 _ rfl) (newcell w4 #[.int .i64 (a : Int), .int .i64 (q : Int), .slice A4 N4 c4] 37 2 _ rfl))))
            have e7 : Hid (ShortM ⟨a, q, A4, N4, c4, ws4⟩) := Lib.hid ⟨by show a ≤ 200; omega, by show q ≤ 200; omega, by show N4 ≤ 200; omega, HS4.out⟩
            clear HO4 HG4 HR4 HI4 HB4 HS4 HN4 HVb hba h0
            go_wp2
            go_meet
            exact ⟨_, ⟨a, q, A4, N4, c4, ws4⟩, rfl, rfl, rfl, e7, e1, e2, e3, e4, e5, e6⟩
        case rest =>
          obtain ⟨W, x, rfl, hxa, hxq, HSx, HO5, HG5, HR5, HIx, HNx, HCx⟩ := hcut
          have ⟨hz45, k0, k1, k2⟩ := HCx.out
          have hs5 := HG5.out.size
          have hx3 : x.n ≤ 200 := HSx.out.2.2.1
          have hDl := HL.out
          have hal : Below W.heap.size W (W.alloc (.cells #[.int .i64 (a : Int), .int .i64 (q : Int), .slice x.A x.n x.c] 37)) := (Below.refl _ _).alloc (Nat.le_refl _) _
          have HOa := Lib.hid (HO5.out.keep hal)
          have HIa : Hid (MrIn (W.alloc (.cells #[.int .i64 (a : Int), .int .i64 (q : Int), .slice x.A x.n x.c] 37)) (W.alloc (.cells #[.int .i64 (a : Int), .int .i64 (q : Int), .slice x.A x.n x.c] 37)).heap.size x) := Lib.hid (HIx.out.keep hal)
          have HNa : Hid (0 < x.n → ∀ p, x.A = some p → u5.ownBlock ≠ some p.block ∧ p.block < (W.alloc (.cells #[.int .i64 (a : Int), .int .i64 (q : Int), .slice x.A x.n x.c] 37)).heap.size) := Lib.hid (fun hp p hpA => ⟨(HNx.out hp p hpA).1, by have := (HNx.out hp p hpA).2.1; simp; omega⟩)
          have hbs : w.heap.size ≤ (W.alloc (.cells #[.int .i64 (a : Int), .int .i64 (q : Int), .slice x.A x.n x.c] 37)).heap.size := by simp; omega
          have hr7 := rowNewMk W (.int .i64 (a : Int)) (.int .i64 (q : Int)) (.slice x.A x.n x.c) 37
          have HRa := Lib.hid (HR5.out.alloc' (.cells #[.int .i64 (a : Int), .int .i64 (q : Int), .slice x.A x.n x.c] 37))
          have HGa := Lib.hid (only_alloc HG5.out (.cells #[.int .i64 (a : Int), .int .i64 (q : Int), .slice x.A x.n x.c] 37))
          have hK1 := kcell hal k1
          have hflat : D.flatMap mkC ++ [.int .i64 (a : Int), .int .i64 (q : Int), .slice x.A x.n x.c] = D.flatMap mkC ++ mkC x := by unfold mkC; rw [hxa, hxq]
          have HFl := Lib.hid hflat
          have hvb : u5.ownBlock ≠ some w4.heap.size ∧ ∀ r, u5.ownBlock = some r → w.heap.size ≤ r := ⟨fun e => by have := HVb.out _ e; omega, fun r hr => ownG_base HO5.out.1 hr⟩
          have HVc := Lib.hid hvb
          clear hal HO5 HIx HR5 HG5 hflat hvb HO4 HG4 HR4 HI4 HB4 HS4 HN4 HCx
          go_wp2_with (at_builtin; refine wpList_append_any _ rfl (.tmp 40) (.tmp 42) _ rfl w.heap.size 37 i0 _ 3 40 Try.underlying32 hi hz0 hz1 hz2 rfl (by omega) _ D.length (D.flatMap mkC) rfl HOa.out.1 (W.heap.size + 1) (some ⟨W.heap.size, 0, none⟩) 1 1 [.int .i64 (a : Int), .int .i64 (q : Int), .slice x.A x.n x.c] rfl hr7 (by simp [Value.oneCell']) (by unfold maxLen; omega) (by omega) hbs ?_; intro v7 w7 hown7 hg7 hat7; have hc7 := gcell hg7 hK1 HVc.out.1)
          rw [HFl.out] at hown7
          have HO7 := Lib.hid (MrOwn.push HOa.out HIa.out HNa.out hown7 hg7 hat7)
          have HG7 := Lib.hid (own_after' HGa.out hg7 HVc.out.2)
          have hB7 : ∀ r, u5.ownBlock = some r → r ≠ g ∧ B ≤ r := fun r hr => by have := HVc.out.2 r hr; omega
          have HR7 := Lib.hid (HRa.out.far hg7 hB7 (by omega))
          have HS7 : Hid (∀ y ∈ D ++ [x], ShortM y ∧ (0 < y.n → ∀ p, y.A = some p → w.heap.size ≤ p.block)) := Lib.hid (fun y hy => by
            rcases List.mem_append.1 hy with h | h
            · exact HS.out y h
            · rw [List.mem_singleton] at h; subst h; exact ⟨HSx.out, fun hp p hpA => (HNx.out hp p hpA).2.2⟩)
          have HZ7 : Hid (∀ y ∈ D ++ [x], 0 < y.n → ∀ p, y.A = some p → p.block ≠ g) := Lib.hid (fun y hy hp p hpA => by have := (HS7.out y hy).2 hp p hpA; omega)
          have HL7 : Hid ((D ++ [x]).length ≤ a + 1) := Lib.hid (by rw [List.length_append]; simp; omega)
          have hd7 : w7.drew.cell? ⟨w4.heap.size, 1, none⟩ = some (.int .i64 (q : Int)) := hc7
          have HP8 := Lib.hid (pickR (n := 3) (HR7.out.drew') (by omega) (by omega) (by omega))
          clear hown7 hg7 hat7 HOa HIa HNa HRa HGa HFl hK1 hr7 hbs hB7 HSx HNx HS HL HZ hxa hxq
          have s1 : IntKind.i64.wrap ((a : Int) + (q : Int)) = (a : Int) + (q : Int) := IntWalk.i64_in _ (by omega)
          have s2 : IntKind.i64.wrap ((a : Int) + (q : Int) + 1) = (a : Int) + (q : Int) + 1 := IntWalk.i64_in _ (by omega)
          go_wp2_with fail
          go_region_held3 (fun w' => w'.cell? ⟨w4.heap.size, 1, none⟩ = some (.int .i64 (q : Int))) (first | assumption | go_keep)
            (first
              | (go_at_call 25; refine HP8.out.mono ?_; rintro e w8 ⟨m8, rfl, hm8, hg8, hr8⟩; have hc8 := ocell hg8 hd7 (by show w4.heap.size ≠ g; omega)))
          all_goals
            have s3 : IntKind.i64.wrap ((a : Int) + (q : Int) + 1 + (m8 : Int)) = (a : Int) + (q : Int) + 1 + (m8 : Int) := IntWalk.i64_in _ (by omega)
            rw [s3]
            clear s1 s2 s3
            have HO8 := Lib.hid ((HO7.out.keep (Below.refl _ _).drew).rd hg8 hg HZ7.out)
            have HG8 := Lib.hid (only_next (only_drewN HG7.out 1) hg8)
            have HR8 := Lib.hid (hr8.more (show lim + 36 + 40 * a + 1 ≤ lim + 2 + 40 * (a + q + 1 + m8) by omega))
            have HL8 : Hid ((D ++ [x]).length ≤ a + q + 1 + m8) := Lib.hid (by have := HL7.out; omega)
            clear HO7 HG7 HR7 hg8 hr8 hd7 hc8 hc7 HP8 HL7 HZ7
            go_wp2
            go_roundw
            case rel => exact ⟨a + q + 1 + m8, D ++ [x], v7, by omega, rfl, by go_num, HL8, HS7, HO8, HG8, HR8⟩
            case measure => simp [intOf]; omega
      | false =>
        clear HQ
        have hSm := HS.out
        have HSm := Lib.hid hSm
        clear hSm
        cases D with
        | nil =>
          obtain ⟨A5, c5, hv5, _, _⟩ := ownG_form HO2.out.1
          have hF : DrawnMk B g lim w (.returned u5) w2 := ⟨u5, [], false, rfl, by simp, by simp, HO2.out.toZ, HG2.out, HR2.out.more (by omega)⟩
          have HF := Lib.hid hF
          subst hv5
          clear hF HO2 HG2 HR2 HSm HS HZ
          go_wp2
          go_ret
          exact HF.out
        | cons x0 r =>
          obtain ⟨gb, cap, hv5, hgb, hnc, hcm, hob⟩ := own_some HO2.out.1 (by simp)
          have hDl := HL.out
          simp only [List.length_cons] at hDl
          have HP := Lib.hid (pickR (n := 40) HR2.out (by omega) (by omega) (by omega))
          obtain ⟨L, hL⟩ : ∃ L, L = (x0 :: r).length := ⟨_, rfl⟩
          have hL1 : 1 ≤ L := by rw [hL]; simp
          have hL2 : L ≤ 121 := by rw [hL]; simp; omega
          rw [← hL] at hv5 hnc
          have HLL := Lib.hid hL
          clear hL hDl
          have HO2' : Hid (MrOwn w2 w.heap.size (.slice (some ⟨gb, 0, none⟩) L cap) (x0 :: r)) := Lib.hid (by rw [← hv5]; exact HO2.out)
          clear HO2
          subst hv5
          have z0 : decide (0 < L) = true := decide_eq_true (by omega)
          have z1 : (0 : Int) < (L : Int) := by omega
          go_wp2_with fail
          refine HP.out.mono ?_
          rintro e w3 ⟨m, rfl, hm, hg3, hr3⟩
          have HO3 := Lib.hid (HO2'.out.rd hg3 hg HZ.out)
          have HG3 := Lib.hid (only_next HG2.out hg3)
          have HR3 := Lib.hid hr3
          have hs3 := HG3.out.size
          clear HP HO2' HG2 HR2 hg3 hr3
          have k0 := (own_cell (j := 0) HO3.out.1 rfl (u := .int .i64 (x0.at_ : Int)) rfl)
          have k1 := (own_cell (j := 1) HO3.out.1 rfl (u := .int .i64 (x0.cut : Int)) rfl)
          have k2 := (own_cell (j := 2) HO3.out.1 rfl (u := .slice x0.A x0.n x0.c) rfl)
          have hbm : ∀ y ∈ x0 :: r, (y = x0 ∨ y ∈ r) := fun y hy => List.mem_cons.1 hy
          have HLn : Hid ((x0 :: r).length ≤ 200) := Lib.hid (by rw [← HLL.out]; omega)
          have HBm := Lib.hid hbm
          clear hbm
          by_cases m0 : m = 0
          · subst m0
            have ha3 : Below w3.heap.size w3 (w3.alloc (.cells #[.int .i64 (-1), .int .i64 ((n : Int) + 1)] 3)) := (Below.refl _ _).alloc (Nat.le_refl _) _
            have hO4 := HO3.out.keep ha3
            have HG4 := Lib.hid (only_alloc HG3.out (.cells #[.int .i64 (-1), .int .i64 ((n : Int) + 1)] 3))
            have HP := Lib.hid (pickR (n := 2) (HR3.out.alloc' (.cells #[.int .i64 (-1), .int .i64 ((n : Int) + 1)] 3)) (by omega) (by omega) (by omega))
            have t0 := newcell w3 #[.int .i64 (-1), .int .i64 ((n : Int) + 1)] 3 0 _ rfl
            have t1 := newcell w3 #[.int .i64 (-1), .int .i64 ((n : Int) + 1)] 3 1 _ rfl
            have HO4 := Lib.hid hO4
            have HT := Lib.hid (And.intro t0 t1)
            have hz3 := HR3.out.lt
            clear hO4 HO3 HG3 ha3 t0 t1 k0 k1 k2
            go_wp2_with fail
            refine HP.out.mono ?_
            rintro e w5 ⟨p, rfl, hp, hg5, hr5⟩
            have HO5 := Lib.hid (HO4.out.rd hg5 hg HZ.out)
            have HG5 := Lib.hid (only_next HG4.out hg5)
            have HR5 := Lib.hid hr5
            have t0 := ocell hg5 HT.out.1 (by show w3.heap.size ≠ g; omega)
            have t1 := ocell hg5 HT.out.2 (by show w3.heap.size ≠ g; omega)
            have k0 := (own_cell (j := 0) HO5.out.1 rfl (u := .int .i64 (x0.at_ : Int)) rfl)
            clear HP HO4 HG4 HR3 HT hg5 hr5
            by_cases p0 : p = 0
            · subst p0
              have hF : DrawnMk B g lim w (.returned (.slice (some ⟨gb, 0, none⟩) L cap)) (w5.setCell ⟨gb, 0, none⟩ (.int .i64 (-1))) :=
                ⟨_, x0 :: r, true, rfl, HLn.out, HSm.out, HO5.out.neg rfl, only_setCell HG5.out (p := ⟨gb, 0, none⟩) (.inr hgb) _, (HR5.out.set' (p := ⟨gb, 0, none⟩) (by show gb ≠ g; omega) (by show B ≤ gb; omega) _).more (by omega)⟩
              have HF := Lib.hid hF
              clear hF HO5 HG5 HR5 HSm HS HZ
              go_wp2
              go_ret
              exact HF.out
            · have p1 : p = 1 := by omega
              subst p1
              have hF : DrawnMk B g lim w (.returned (.slice (some ⟨gb, 0, none⟩) L cap)) (w5.setCell ⟨gb, 0, none⟩ (.int .i64 ((n : Int) + 1))) := by
                refine ⟨_, ⟨n + 1, x0.cut, x0.A, x0.n, x0.c, x0.put⟩ :: r, false, rfl, HLn.out, fun y hy => ?_, (HO5.out.head (x' := ⟨n + 1, x0.cut, x0.A, x0.n, x0.c, x0.put⟩) rfl (by simp [mkC]) rfl rfl rfl rfl).toZ, only_setCell HG5.out (p := ⟨gb, 0, none⟩) (.inr hgb) _, (HR5.out.set' (p := ⟨gb, 0, none⟩) (by show gb ≠ g; omega) (by show B ≤ gb; omega) _).more (by omega)⟩
                rcases List.mem_cons.1 hy with h | h
                · have := HSm.out x0 (by simp)
                  rw [h]; exact ⟨⟨by show n + 1 ≤ 200; omega, this.1.2⟩, this.2⟩
                · exact HSm.out y (by simp [h])
              have HF := Lib.hid hF
              clear hF HO5 HG5 HR5 HSm HS HZ p0
              go_wp2
              go_ret
              exact HF.out
          · have e0 : ((m : Int) == 0) = false := by simpa using m0
            by_cases m1 : m = 1
            · subst m1
              have hF : DrawnMk B g lim w (.returned (.slice (some ⟨gb, 0, none⟩) L cap)) (w3.setCell ⟨gb, 1, none⟩ (.int .i64 ((n : Int) + 1))) := by
                refine ⟨_, ⟨x0.at_, n + 1, x0.A, x0.n, x0.c, x0.put⟩ :: r, false, rfl, HLn.out, fun y hy => ?_, (HO3.out.head (x' := ⟨x0.at_, n + 1, x0.A, x0.n, x0.c, x0.put⟩) rfl (by simp [mkC]) rfl rfl rfl rfl).toZ, only_setCell HG3.out (p := ⟨gb, 1, none⟩) (.inr hgb) _, (HR3.out.set' (p := ⟨gb, 1, none⟩) (by show gb ≠ g; omega) (by show B ≤ gb; omega) _).more (by omega)⟩
                rcases List.mem_cons.1 hy with h | h
                · have := HSm.out x0 (by simp)
                  rw [h]; exact ⟨⟨this.1.1, by show n + 1 ≤ 200; omega, this.1.2.2⟩, this.2⟩
                · exact HSm.out y (by simp [h])
              have HF := Lib.hid hF
              clear hF HO3 HG3 HR3 HSm HS HZ m0 k0 k2
              go_wp2
              go_ret
              exact HF.out
            · have e1 : ((m : Int) == 1) = false := beq_eq_false_iff_ne.2 (by omega)
              by_cases m2 : m = 2
              · subst m2
                have HOa := Lib.hid (HO3.out.keep ((Below.refl w3.heap.size w3).alloc (Nat.le_refl _) (.cells #[.int .i64 (x0.at_ : Int), .int .i64 (x0.cut : Int), .slice x0.A x0.n x0.c] 37)))
                have hr7 := rowNewMk w3 (.int .i64 (x0.at_ : Int)) (.int .i64 (x0.cut : Int)) (.slice x0.A x0.n x0.c) 37
                have hbs : w.heap.size ≤ (w3.alloc (.cells #[.int .i64 (x0.at_ : Int), .int .i64 (x0.cut : Int), .slice x0.A x0.n x0.c] 37)).heap.size := by simp; omega
                have HO3L : Hid ((w3.alloc (.cells #[.int .i64 (x0.at_ : Int), .int .i64 (x0.cut : Int), .slice x0.A x0.n x0.c] 37)).ownsRow w.heap.size 37 3 (.slice (some ⟨gb, 0, none⟩) L cap) L ((x0 :: r).flatMap mkC)) := Lib.hid (by have := HOa.out.1; rwa [← HLL.out] at this)
                go_wp2_with (at_builtin; refine wpList_append_any _ rfl (.tmp 80) (.tmp 84) _ rfl w.heap.size 37 i0 _ 3 40 Try.underlying32 hi hz0 hz1 hz2 rfl (by omega) _ L ((x0 :: r).flatMap mkC) rfl HO3L.out (w3.heap.size + 1) (some ⟨w3.heap.size, 0, none⟩) 1 1 [.int .i64 (x0.at_ : Int), .int .i64 (x0.cut : Int), .slice x0.A x0.n x0.c] rfl hr7 (by simp [Value.oneCell']) (by unfold maxLen; omega) (by omega) hbs ?_; intro v7 w7 hown7 hg7 hat7)
                rw [HLL.out] at hown7
                have hh := HOa.out.2 x0 (by simp)
                have hO7 := MrOwn.push HOa.out hh.1 hh.2 hown7 hg7 hat7
                have hG7 := own_after' (only_alloc HG3.out (.cells #[.int .i64 (x0.at_ : Int), .int .i64 (x0.cut : Int), .slice x0.A x0.n x0.c] 37)) hg7 (fun q hq => by have h2 : some gb = some q := hq; injection h2 with h2; omega)
                have hR7 := (HR3.out.alloc' (.cells #[.int .i64 (x0.at_ : Int), .int .i64 (x0.cut : Int), .slice x0.A x0.n x0.c] 37)).far hg7 (fun q hq => by have h2 : some gb = some q := hq; injection h2 with h2; omega) (by omega)
                have hF : DrawnMk B g lim w (.returned v7) w7 := ⟨_, (x0 :: r) ++ [x0], false, rfl, by have := HLn.out; have := HLL.out; simp at *; omega, fun y hy => by
                  rcases List.mem_append.1 hy with h | h
                  · exact HSm.out y h
                  · rw [List.mem_singleton] at h; rw [h]; exact HSm.out x0 (by simp), hO7.toZ, hG7, hR7.more (by omega)⟩
                have HF := Lib.hid hF
                clear hF hO7 hG7 hR7 hown7 hg7 hat7 hh HO3 HO3L HOa HG3 HR3 HSm HS HZ k0 k1 k2 m0 m1
                go_wp2
                go_ret
                exact HF.out
              · have e2 : ((m : Int) == 2) = false := beq_eq_false_iff_ne.2 (by omega)
                have hF : DrawnMk B g lim w (.returned (.slice (some ⟨gb, 0, none⟩) L cap)) w3 := ⟨_, x0 :: r, false, rfl, HLn.out, HSm.out, HO3.out.toZ, HG3.out, HR3.out.more (by omega)⟩
                have HF := Lib.hid hF
                clear hF HO3 HG3 HR3 HSm HS HZ k0 k1 k2 m0 m1 m2
                go_wp2
                go_ret
                exact HF.out
end Go.Proofs.Ytlfhgmbmgbbnjaa
