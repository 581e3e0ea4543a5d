/-
  Clashes of two lists of marks, of the reference; a copy of a mark. Conditions: the lists lie in memory; the numbers are small.
-/
import Derived.Test.YtlfhgmbmgbbnjaaMkValL
import Derived.Test.YtlfhgmbmgbbnjaaMkI
import Derived.Deep.DeepCutAuto
import Derived.Deep.Cut
import Derived.Deep.CutRange
namespace Go.Proofs.Ytlfhgmbmgbbnjaa
open Go.ChangeShapes Go.WideShapes Go.ChangeAt Go.RowKit
set_option maxRecDepth 100000
set_option linter.unusedSimpArgs false
set_option linter.unusedVariables false

def clB (x y : Mk) : Bool := touchB x y && !decide (x = y)
theorem clashB_eq (a b : List Mk) : clashB a b = a.any fun x => b.any fun y => clB x y := rfl
/-- No clash so far. -/
def NoCl (xs ys : List Mr) (i k : Nat) : Prop := (∀ i', i' < i → ∀ k', k' < ys.length → clB (mrAt xs i').dat (mrAt ys k').dat = false) ∧ ∀ k', k' < k → clB (mrAt xs i).dat (mrAt ys k').dat = false
theorem any_at {xs : List Mr} (p : Mk → Bool) : (xs.map Mr.dat).any p = true ↔ ∃ i, i < xs.length ∧ p (mrAt xs i).dat = true := by
  rw [List.any_map, List.any_eq_true]
  constructor
  · rintro ⟨x, hx, h⟩
    obtain ⟨i, hi, rfl⟩ := List.getElem_of_mem hx
    refine ⟨i, hi, ?_⟩
    have := mrAt_some (xs := xs) hi
    rw [List.getElem?_eq_getElem hi] at this
    injection this with this
    rw [← this]; exact h
  · rintro ⟨i, hi, h⟩
    exact ⟨_, mrAt_mem hi, h⟩
theorem clash_yes {xs ys : List Mr} {i k : Nat} (hi : i < xs.length) (hk : k < ys.length) (h : clB (mrAt xs i).dat (mrAt ys k).dat = true) : clashB (xs.map Mr.dat) (ys.map Mr.dat) = true := by
  rw [clashB_eq, any_at]
  exact ⟨i, hi, (any_at _).2 ⟨k, hk, h⟩⟩
theorem clash_no {xs ys : List Mr} (h : NoCl xs ys xs.length 0) : clashB (xs.map Mr.dat) (ys.map Mr.dat) = false := by
  rw [Bool.eq_false_iff, clashB_eq]
  intro e
  obtain ⟨i, hi, e⟩ := (any_at _).1 e
  obtain ⟨k, hk, e⟩ := (any_at _).1 e
  rw [h.1 i hi k hk] at e; cases e
theorem NoCl.stepK {xs ys : List Mr} {i k : Nat} (h : NoCl xs ys i k) (h2 : clB (mrAt xs i).dat (mrAt ys k).dat = false) : NoCl xs ys i (k + 1) := ⟨h.1, fun k' hk => by
  rcases Nat.lt_or_ge k' k with h3 | h3
  · exact h.2 k' h3
  · have e : k' = k := by omega
    rw [e]; exact h2⟩
theorem NoCl.stepI {xs ys : List Mr} {i : Nat} (h : NoCl xs ys i ys.length) : NoCl xs ys (i + 1) 0 := ⟨fun i' hi k' hk => by
  rcases Nat.lt_or_ge i' i with h3 | h3
  · exact h.1 i' h3 k' hk
  · have e : i' = i := by omega
    rw [e]; exact h.2 k' hk, fun k' hk => by omega⟩
theorem clB_no {x y : Mr} (h : touchB x.dat y.dat = false) : clB x.dat y.dat = false := by unfold clB; rw [h]; rfl
theorem clB_eq {x y : Mr} (h : touchB x.dat y.dat = true) : clB x.dat y.dat = !decide (x.dat = y.dat) := by unfold clB; rw [h]; rfl
theorem MrsIn.cells {w W : World} {n c k b off : Nat} {xs : List Mr} (h : MrsIn w w.heap.size (some ⟨b, off, none⟩) n c xs) (hk : k < n) (hW : Below w.heap.size w W) :
    W.cell? ⟨b, off + k * 3, none⟩ = some (.int .i64 ((mrAt xs k).at_ : Int)) ∧ W.cell? ⟨b, off + k * 3 + 1, none⟩ = some (.int .i64 ((mrAt xs k).cut : Int)) ∧ W.cell? ⟨b, off + k * 3 + 2, none⟩ = some (.slice (mrAt xs k).A (mrAt xs k).n (mrAt xs k).c) ∧ MrIn W W.heap.size (mrAt xs k) := by
  obtain ⟨b', off', e', _, p0, p1, p2, p3⟩ := (h.keep hW).at_ hk
  obtain ⟨rfl, rfl⟩ : b' = b ∧ off' = off := by injection e' with e'; injection e' with e1 e2; exact ⟨e1.symm, e2.symm⟩
  exact ⟨p0, p1, p2, p3⟩
set_option maxHeartbeats 3200000 in
theorem specClash (A : Option Addr) (n c : Nat) (xs : List Mr) (A' : Option Addr) (n' c' : Nat) (ys : List Mr) (w : World) (hX : ∀ x ∈ xs, SmM x) (hY : ∀ x ∈ ys, SmM x) (h20 : n ≤ 1000) (h20' : n' ≤ 1000) (h : MrsIn w w.heap.size A n c xs) (h' : MrsIn w w.heap.size A' n' c' ys) :
    Calls Try.prog 34 #[.slice A n c, .slice A' n' c'] w fun e w' => e = .returned (.bool (clashB (xs.map Mr.dat) (ys.map Mr.dat))) ∧ Below w.heap.size w w' := by
  have HL := Lib.hid h.1; have HL' := Lib.hid h'.1
  have H := Lib.hid h; have H' := Lib.hid h'
  have HSx : Hid (∀ k, k < n → SmM (mrAt xs k)) := Lib.hid (fun k hk => hX _ (mrAt_mem (by rw [HL.out]; exact hk)))
  have HSy : Hid (∀ k, k < n' → SmM (mrAt ys k)) := Lib.hid (fun k hk => hY _ (mrAt_mem (by rw [HL'.out]; exact hk)))
  have HYes : Hid (∀ i k, i < n → k < n' → clB (mrAt xs i).dat (mrAt ys k).dat = true → clashB (xs.map Mr.dat) (ys.map Mr.dat) = true) := Lib.hid (fun i k hi hk h => clash_yes (by rw [HL.out]; exact hi) (by rw [HL'.out]; exact hk) h)
  have HNo : Hid (NoCl xs ys n 0 → clashB (xs.map Mr.dat) (ys.map Mr.dat) = false) := Lib.hid (fun h => clash_no (by rw [HL.out]; exact h))
  have HI : Hid (∀ i, NoCl xs ys i n' → NoCl xs ys (i + 1) 0) := Lib.hid (fun i h => NoCl.stepI (by rw [HL'.out]; exact h))
  clear h h' hX hY
  generalize clashB (xs.map Mr.dat) (ys.map Mr.dat) = T at *
  go_enter Try.func34, Try.ntmps34
  go_wp2
  go_loopw [5] (fun s5 wr => ∃ i : Nat, i ≤ n ∧ s5 = .int .i64 i ∧ Hid (NoCl xs ys i 0) ∧ Hid (Below w.heap.size w wr)) (fun s5 _ => n - (intOf s5).toNat)
  case atStart => exact ⟨0, Nat.zero_le _, rfl, Lib.hid ⟨fun i hi => by omega, fun k hk => by omega⟩, Lib.hid (Below.refl _ _)⟩
  case round =>
    obtain ⟨i, hi, rfl, HN, HB⟩ := hrel
    have i1 : (0 : Int) ≤ (i : Int) := by omega
    by_cases hlt : i < n
    · have i2 : (i : Int) < (n : Int) := by omega
      have i3 : (i : Int) ≤ 1000 := by omega
      obtain ⟨wo, rfl⟩ : ∃ wo : World, wo = wr := ⟨_, rfl⟩
      go_wp2
      go_loopw [6] (fun s6 wr => ∃ k : Nat, k ≤ n' ∧ s6 = .int .i64 k ∧ Hid (NoCl xs ys i k) ∧ Hid (Below w.heap.size w wr)) (fun s6 _ => n' - (intOf s6).toNat)
      case atStart => exact ⟨0, Nat.zero_le _, rfl, HN, HB⟩
      case round =>
        obtain ⟨k, hk, rfl, HN2, HB2⟩ := hrel
        have k1 : (0 : Int) ≤ (k : Int) := by omega
        by_cases hlt2 : k < n'
        · have k2 : (k : Int) < (n' : Int) := by omega
          have k3 : (k : Int) ≤ 1000 := by omega
          obtain ⟨b, off, rfl, _, c0, c1, c2, hx⟩ := (H.out.keep HB2.out).at_ hlt
          obtain ⟨b', off', rfl, _, d0, d1, d2, hy⟩ := (H'.out.keep HB2.out).at_ hlt2
          have sx := HSx.out i hlt
          have sy := HSy.out k hlt2
          have s1 := sx.1; have s2 := sx.2.1; have s3 := sy.1; have s4 := sy.2.1
          have HS : Hid (∀ W, Below wr.heap.size wr W → Calls Try.prog 35 #[.agg #[.int .i64 ((mrAt xs i).at_ : Int), .int .i64 ((mrAt xs i).cut : Int), .slice (mrAt xs i).A (mrAt xs i).n (mrAt xs i).c], .agg #[.int .i64 ((mrAt ys k).at_ : Int), .int .i64 ((mrAt ys k).cut : Int), .slice (mrAt ys k).A (mrAt ys k).n (mrAt ys k).c]] W fun e w' => e = .returned (.bool (decide ((mrAt xs i).dat = (mrAt ys k).dat))) ∧ Below W.heap.size W w') := Lib.hid (fun W hW => l7Same _ _ W (MrIn.keep hx hW) (MrIn.keep hy hW))
          have HYk := Lib.hid (HYes.out i k hlt hlt2)
          have HNk := Lib.hid (fun h => HN2.out.stepK (k := k) h)
          have hT : touchB (mrAt xs i).dat (mrAt ys k).dat = decide ((mrAt xs i).at_ ≤ (mrAt ys k).at_ + (mrAt ys k).cut ∧ (mrAt ys k).at_ ≤ (mrAt xs i).at_ + (mrAt xs i).cut) := rfl
          have HTt := Lib.hid hT
          have HC1 := Lib.hid (fun h => clB_no (x := mrAt xs i) (y := mrAt ys k) h)
          have HC2 := Lib.hid (fun h => clB_eq (x := mrAt xs i) (y := mrAt ys k) h)
          have q0 := qcell c0; have q1 := qcell c1; have q2 := qcell c2; have r0 := qcell d0; have r1 := qcell d1; have r2 := qcell d2
          clear hT sx sy hx hy HN2 HN HB
          generalize mrAt xs i = x at *
          generalize mrAt ys k = y at *
          go_upto_region 7 with fail
          go_cut [7] (fun s7 wx => Below wr.heap.size wr wx ∧ Value.bool (touchB x.dat y.dat) = s7)
          case first =>
            by_cases h1 : x.at_ ≤ y.at_ + y.cut
            · have e1 : decide ((x.at_ : Int) ≤ (y.at_ : Int) + (y.cut : Int)) = true := decide_eq_true (by omega)
              have e3 : decide (x.at_ ≤ y.at_ + y.cut ∧ y.at_ ≤ x.at_ + x.cut) = decide ((y.at_ : Int) ≤ (x.at_ : Int) + (x.cut : Int)) := decide_eq_decide.2 ⟨fun h => by omega, fun h => ⟨h1, by omega⟩⟩
              have HE3 := Lib.hid (HTt.out.trans e3)
              clear e3
              refine region_qb (by kernel_rfl) (by kernel_rfl) ?_
              repeat (first | go_big_quiet_step (fail) | quiet_step (fail))
              refine wpQuiet_nil ?_
              intro w5 hb5
              go_wp2
              go_meet
              exact ⟨hb5, congrArg Value.bool HE3.out⟩
            · have e1 : decide ((x.at_ : Int) ≤ (y.at_ : Int) + (y.cut : Int)) = false := decide_eq_false (by omega)
              have HE3 := Lib.hid (HTt.out.trans (decide_eq_false (fun h => h1 h.1)))
              refine region_qb (by kernel_rfl) (by kernel_rfl) ?_
              repeat (first | go_big_quiet_step (fail) | quiet_step (fail))
              refine wpQuiet_nil ?_
              intro w5 hb5
              go_wp2
              go_meet
              exact ⟨hb5, congrArg Value.bool HE3.out⟩
          case rest =>
            obtain ⟨hb5, rfl⟩ := hcut
            have HB5 := Lib.hid (below_next HB2.out hb5)
            cases ht : touchB x.dat y.dat with
            | false =>
              have HN6 := Lib.hid (HNk.out (HC1.out ht))
              clear ht HC1 HC2 HYk HNk HTt HS
              go_wp2_with fail
              refine region_qb (by kernel_rfl) (by kernel_rfl) ?_
              repeat (first | go_big_quiet_step (fail) | quiet_step (fail))
              refine wpQuiet_nil ?_
              intro w6 hb6
              go_wp2
              go_roundw
              case rel => exact ⟨k + 1, by omega, by go_num, HN6, Lib.hid (below_next HB5.out hb6)⟩
              case measure => simp [intOf] <;> omega
            | true =>
              have HC3 := Lib.hid (HC2.out ht)
              have c0 := kcell hb5 c0; have c1 := kcell hb5 c1; have c2 := kcell hb5 c2; have d0 := kcell hb5 d0; have d1 := kcell hb5 d1; have d2 := kcell hb5 d2
              have q0 := qcell c0; have q1 := qcell c1; have q2 := qcell c2; have r0 := qcell d0; have r1 := qcell d1; have r2 := qcell d2
              have HS2 := Lib.hid (fun W (hW : Below wc.heap.size wc W) => HS.out W (below_next hb5 hW))
              clear ht HC1 HC2 HTt HS
              by_cases he : x.dat = y.dat
              · rw [decide_eq_true he] at HS2
                have HN6 := Lib.hid (HNk.out (by rw [HC3.out, decide_eq_true he]; rfl))
                clear HC3 HNk HYk he
                go_wp2_with fail
                refine region_qb (by kernel_rfl) (by kernel_rfl) ?_
                repeat (first | go_big_quiet_step ((go_at_call 35; exact quietB (HS2.out _ (below_regrown _ _ _)))) | quiet_step ((go_at_call 35; exact quietB (HS2.out _ (below_regrown _ _ _)))))
                refine wpQuiet_nil ?_
                intro w6 hb6
                go_wp2
                go_roundw
                case rel => exact ⟨k + 1, by omega, by go_num, HN6, Lib.hid (below_next HB5.out hb6)⟩
                case measure => simp [intOf] <;> omega
              · rw [decide_eq_false he] at HS2
                have HF := Lib.hid (HYk.out (by rw [HC3.out, decide_eq_false he]; rfl))
                clear HC3 HNk HYk he
                go_wp2_with fail
                refine region_qb (by kernel_rfl) (by kernel_rfl) ?_
                repeat (first | go_big_quiet_step ((go_at_call 35; exact quietB (HS2.out _ (below_regrown _ _ _)))) | quiet_step ((go_at_call 35; exact quietB (HS2.out _ (below_regrown _ _ _)))))
                refine wpQuiet_nil ?_
                intro w6 hb6
                go_wp2
                go_ret
                exact ⟨ret_bool HF.out.symm, below_next HB5.out hb6⟩
        · obtain rfl : k = n' := by omega
          have HN6 := Lib.hid (HI.out i HN2.out)
          clear HN2 HN
          go_wp2
          go_roundw
          case rel => exact ⟨i + 1, by omega, by go_num, HN6, HB2⟩
          case measure => simp [intOf] <;> omega
    · obtain rfl : i = n := by omega
      have HF := Lib.hid (HNo.out HN.out)
      go_wp2
      go_ret
      exact ⟨ret_bool HF.out.symm, HB.out⟩
end Go.Proofs.Ytlfhgmbmgbbnjaa
