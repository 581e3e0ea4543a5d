/-
  Contracts and plain laws that the proof of the law ExactExecute leans on. Conditions: as each says.
-/
import Derived.Test.YtbkhnljaajajiaaGreatDoorPExactExecute02
import Derived.BigQuiet
import Derived.Deep.DeepCutAuto
import Derived.Deep.Cut
import Derived.Deep.CutRange
namespace Go.Proofs.YtbkhnljaajajiaaGreatDoor
open Go.ChangeShapes Go.WideShapes Go.ChangeAt Go.RowKit
set_option maxRecDepth 100000
set_option linter.unusedSimpArgs false
set_option linter.unusedVariables false
theorem takeWd_eq {a b : List Wd} {k : Nat} (ha : k < a.length) (hb : k < b.length) (h : a.take k = b.take k) (h2 : wdAt a k = wdAt b k) : a.take (k + 1) = b.take (k + 1) := by
 rw [List.take_add_one, List.take_add_one, h, wdAt_some ha, wdAt_some hb, h2]
set_option maxHeartbeats 800000 in
theorem equalWds (A : Option Addr) (n c : Nat) (A' : Option Addr) (n' c' : Nat) (ss ss' : List Wd) (w : World) (h : WdsIn w w.heap.size A n c ss) (h' : WdsIn w w.heap.size A' n' c' ss') :
  Calls Tryz.prog 183 #[.slice A n c, .slice A' n' c'] w fun e w' => e = .returned (.bool (decide (ss = ss'))) ∧ Below w.heap.size w w' := by
 have hm := h.2.2.1; have hnc := h.2.1; have hm' := h'.2.2.1; have hnc' := h'.2.1; unfold maxLen at hm hm'; have HL := uH h.1; have HL' := uH h'.1; have H := uH h; have H' := uH h'; clear h h'; by_cases hn : n = n'
 ·subst hn; have e0 : ((n : Int) != (n : Int)) = false := (by simp); go_enter Tryz.func183, Tryz.ntmps183
  go_wp2; go_loopw [13] (fun i wr => ∃ k : Nat, k ≤ n ∧ i = .int .i64 k ∧ Hid (ss.take k = ss'.take k) ∧ Below w.heap.size w wr) (fun i _ => n - (intOf i).toNat)
  case atStart => exact ⟨0, Nat.zero_le _, rfl, uH (by simp), Below.refl _ _⟩
  case round =>
   obtain ⟨k, hk, rfl, HK, hb⟩ := hrel; by_cases hlt : k < n
   ·obtain ⟨b, off, rfl, hbB, c0⟩ := (H.out.keep hb).at_ hlt; obtain ⟨b', off', rfl, hbB', a0⟩ := (H'.out.keep hb).at_ hlt; have hl1 : k < ss.length := (by rw [HL.out]; exact hlt); have hl2 : k < ss'.length := (by rw [HL'.out]; exact hlt); have HY : Hid (wdAt ss k = wdAt ss' k → ss.take (k + 1) = ss'.take (k + 1)) := uH (fun h => takeWd_eq hl1 hl2 HK.out h); have HNo : Hid (wdAt ss k ≠ wdAt ss' k → decide (ss = ss') = false) := uH (fun h => decide_eq_false (fun e => h (by rw [e]))); have i1 : (0 : Int) ≤ (k : Int) := (by omega); have i2 : (k : Int) < (n : Int) := (by omega); have r0 := qcell c0; have q0 := qcell a0; have hq1 := beq_str (mkStr (wdAt ss' k)) (wdAt ss k) (wdAt ss' k) rfl; clear hl1 hl2; by_cases hes : wdAt ss k = wdAt ss' k
    ·have HF := uH (HY.out hes); rw [decide_eq_true hes] at hq1; have hq2 : ((mkStr (wdAt ss k)).toList != (mkStr (wdAt ss' k)).toList) = false := (by simp [bne, hq1]); clear hes; generalize mkStr (wdAt ss k) = sA at *; generalize mkStr (wdAt ss' k) = sB at *; (go_wp2_with fail); refine region_qb (by kernel_rfl) (by kernel_rfl) ?_; repeat (first | go_big_quiet_step (fail) | quiet_step (fail))
     refine wpQuiet_nil ?_; intro w5 hb5; have b5 := below_next hb hb5; clear hb5; go_wp2; go_roundw
     case rel => exact ⟨k + 1, by omega, by go_num, HF, b5⟩
     case measure => simp [intOf]; omega
    ·have HF := uH (HNo.out hes); rw [decide_eq_false hes] at hq1; have hq2 : ((mkStr (wdAt ss k)).toList != (mkStr (wdAt ss' k)).toList) = true := (by simp [bne, hq1]); clear hes; generalize mkStr (wdAt ss k) = sA at *; generalize mkStr (wdAt ss' k) = sB at *; (go_wp2_with fail); refine region_qb (by kernel_rfl) (by kernel_rfl) ?_; repeat (first | go_big_quiet_step (fail) | quiet_step (fail))
     refine wpQuiet_nil ?_; intro w5 hb5; have b5 := below_next hb hb5; clear hb5; go_wp2; go_ret; exact ⟨ret_bool (by rw [HF.out]), b5⟩
   ·obtain rfl : k = n := (by omega); have HF : Hid (decide (ss = ss') = true) := uH (decide_eq_true (by
     have := HK.out
     rwa [List.take_of_length_le (by rw [HL.out]; exact Nat.le_refl _), List.take_of_length_le (by rw [HL'.out]; exact Nat.le_refl _)] at this))
    go_wp2; go_ret; exact ⟨ret_bool (by rw [HF.out]), hb⟩
 ·have e0 : ((n : Int) != (n' : Int)) = true := (by simp; omega); have HF : Hid (decide (ss = ss') = false) := uH (decide_eq_false (fun e => hn (by rw [← HL.out, ← HL'.out, e]))); clear hn; go_enter Tryz.func183, Tryz.ntmps183
  go_wp2; go_ret; exact ⟨ret_bool (by rw [HF.out]), Below.refl _ _⟩
set_option maxHeartbeats 800000 in
theorem l4Same (A : Option Addr) (n c : Nat) (A' : Option Addr) (n' c' : Nat) (ss ss' : List Wd) (w : World) (h : WdsIn w w.heap.size A n c ss) (h' : WdsIn w w.heap.size A' n' c' ss') :
  Calls Tryz.prog 124 #[.slice A n c, .slice A' n' c'] w fun e w' => e = .returned (.bool (decide (ss = ss'))) ∧ Below w.heap.size w w' := by
 have hm := h.2.2.1; have hnc := h.2.1; have hm' := h'.2.2.1; have hnc' := h'.2.1; unfold maxLen at hm hm'; have HL := uH h.1; have HL' := uH h'.1; have H := uH h; have H' := uH h'; clear h h'; by_cases hn : n = n'
 ·subst hn; have e0 : ((n : Int) != (n : Int)) = false := (by simp); go_enter Tryz.func124, Tryz.ntmps124
  go_wp2; go_loopw [5] (fun i wr => ∃ k : Nat, k ≤ n ∧ i = .int .i64 k ∧ Hid (ss.take k = ss'.take k) ∧ Below w.heap.size w wr) (fun i _ => n - (intOf i).toNat)
  case atStart => exact ⟨0, Nat.zero_le _, rfl, uH (by simp), Below.refl _ _⟩
  case round =>
   obtain ⟨k, hk, rfl, HK, hb⟩ := hrel; by_cases hlt : k < n
   ·obtain ⟨b, off, rfl, hbB, c0⟩ := (H.out.keep hb).at_ hlt; obtain ⟨b', off', rfl, hbB', a0⟩ := (H'.out.keep hb).at_ hlt; have hl1 : k < ss.length := (by rw [HL.out]; exact hlt); have hl2 : k < ss'.length := (by rw [HL'.out]; exact hlt); have HY : Hid (wdAt ss k = wdAt ss' k → ss.take (k + 1) = ss'.take (k + 1)) := uH (fun h => takeWd_eq hl1 hl2 HK.out h); have HNo : Hid (wdAt ss k ≠ wdAt ss' k → decide (ss = ss') = false) := uH (fun h => decide_eq_false (fun e => h (by rw [e]))); have i1 : (0 : Int) ≤ (k : Int) := (by omega); have i2 : (k : Int) < (n : Int) := (by omega); have r0 := qcell c0; have q0 := qcell a0; have hq1 := beq_str (mkStr (wdAt ss' k)) (wdAt ss k) (wdAt ss' k) rfl; clear hl1 hl2; by_cases hes : wdAt ss k = wdAt ss' k
    ·have HF := uH (HY.out hes); rw [decide_eq_true hes] at hq1; have hq2 : ((mkStr (wdAt ss k)).toList != (mkStr (wdAt ss' k)).toList) = false := (by simp [bne, hq1]); clear hes; generalize mkStr (wdAt ss k) = sA at *; generalize mkStr (wdAt ss' k) = sB at *; (go_wp2_with fail); refine region_qb (by kernel_rfl) (by kernel_rfl) ?_; repeat (first | go_big_quiet_step (fail) | quiet_step (fail))
     refine wpQuiet_nil ?_; intro w5 hb5; have b5 := below_next hb hb5; clear hb5; go_wp2; go_roundw
     case rel => exact ⟨k + 1, by omega, by go_num, HF, b5⟩
     case measure => simp [intOf]; omega
    ·have HF := uH (HNo.out hes); rw [decide_eq_false hes] at hq1; have hq2 : ((mkStr (wdAt ss k)).toList != (mkStr (wdAt ss' k)).toList) = true := (by simp [bne, hq1]); clear hes; generalize mkStr (wdAt ss k) = sA at *; generalize mkStr (wdAt ss' k) = sB at *; (go_wp2_with fail); refine region_qb (by kernel_rfl) (by kernel_rfl) ?_; repeat (first | go_big_quiet_step (fail) | quiet_step (fail))
     refine wpQuiet_nil ?_; intro w5 hb5; have b5 := below_next hb hb5; clear hb5; go_wp2; go_ret; exact ⟨ret_bool (by rw [HF.out]), b5⟩
   ·obtain rfl : k = n := (by omega); have HF : Hid (decide (ss = ss') = true) := uH (decide_eq_true (by
     have := HK.out
     rwa [List.take_of_length_le (by rw [HL.out]; exact Nat.le_refl _), List.take_of_length_le (by rw [HL'.out]; exact Nat.le_refl _)] at this))
    go_wp2; go_ret; exact ⟨ret_bool (by rw [HF.out]), hb⟩
 ·have e0 : ((n : Int) != (n' : Int)) = true := (by simp; omega); have HF : Hid (decide (ss = ss') = false) := uH (decide_eq_false (fun e => hn (by rw [← HL.out, ← HL'.out, e]))); clear hn; go_enter Tryz.func124, Tryz.ntmps124
  go_wp2; go_ret; exact ⟨ret_bool (by rw [HF.out]), Below.refl _ _⟩
def SmM (x : Mr) : Prop := x.at_ ≤ 1000 ∧ x.cut ≤ 1000 ∧ x.n ≤ 1000
theorem boxM (x : Mr) (w : World) : Below w.heap.size w (w.alloc (.cells #[.int .i64 (x.at_ : Int), .int .i64 (x.cut : Int), .slice x.A x.n x.c] 116)) := (Below.refl _ _).alloc (Nat.le_refl _) _
theorem markEnd (x : Mr) (w : World) (hs : SmM x) : Calls Tryz.prog 131 #[.agg #[.int .i64 (x.at_ : Int), .int .i64 (x.cut : Int), .slice x.A x.n x.c]] w fun e w' => e = .returned (.int .i64 ((x.at_ : Int) + (x.cut : Int))) ∧ Below w.heap.size w w' := by
 have hb := boxM x w; have h1 := hs.1; have h2 := hs.2.1; go_enter Tryz.func131, Tryz.ntmps131
 go_wp2; go_returns; exact ⟨rfl, hb⟩
def GapK (n : Nat) (ms : List Mk) (k : Nat) : Prop := ∀ i, i < k → gapG n ms i
theorem GapK.succ {n k : Nat} {ms : List Mk} (h : GapK n ms k) (h2 : gapG n ms k) : GapK n ms (k + 1) := fun i hi => by
 rcases Nat.lt_or_ge i k with h3 | h3
 ·exact h i h3
 ·have e : i = k := (by omega); rw [e]; exact h2
theorem marks_no {ws : List Wd} {ms : List Mk} {k : Nat} (hk : k < ms.length) (h : ¬ gapG ws.length ms k) : marksB ws ms = false := by
 rw [Bool.eq_false_iff]; intro e; exact h (gapB_iff.1 (marksB_iff.1 e).2.2.1 k hk)
theorem marks_end {ws : List Wd} {ms : List Mk} (h1 : spB ws = true) (h2 : ms.length ≤ 20) (h : GapK ws.length ms ms.length) : marksB ws ms = decide (lenI ws.length (ms.take ms.length) ≤ 20) := by
 rw [List.take_length, Bool.eq_iff_iff, marksB_iff, decide_eq_true_iff]; exact ⟨fun h => h.2.2.2, fun h3 => ⟨h1, h2, gapB_iff.2 (fun i hi => h i hi), h3⟩⟩
theorem marks_sp {ws : List Wd} {ms : List Mk} (h : spB ws = false) : marksB ws ms = false := by
 rw [Bool.eq_false_iff]; intro e; rw [(marksB_iff.1 e).1] at h; cases h
theorem marks_many {ws : List Wd} {ms : List Mk} (h : 20 < ms.length) : marksB ws ms = false := by
 rw [Bool.eq_false_iff]; intro e; have := (marksB_iff.1 e).2.1; omega
theorem lenI_succ {n : Int} {ms : List Mk} {k : Nat} (hk : k < ms.length) : lenI n (ms.take (k + 1)) = lenI n (ms.take k) - ((mkAt ms k).cut : Int) + ((mkAt ms k).put.length : Int) := by
 unfold lenI; rw [List.take_succ_eq_append_getElem hk, List.foldl_append, mkAt_get hk]; rfl
theorem lenI_bound {n : Int} {ms : List Mk} (hs : ∀ m ∈ ms, m.cut ≤ 1000 ∧ m.put.length ≤ 1000) (k : Nat) (hk : k ≤ ms.length) : n - 1000 * (k : Int) ≤ lenI n (ms.take k) ∧ lenI n (ms.take k) ≤ n + 1000 * (k : Int) := by
 induction k with
 | zero => simp [lenI]
 | succ k ih =>
  have h1 := ih (by omega); rw [lenI_succ (by omega)]; have h2 := hs _ (mkAt_mem (ms := ms) (i := k) (by omega)); omega
theorem gap_no1 {n k : Nat} {ms : List Mk} (h : mkB n (mkAt ms k) = false) : ¬ gapG n ms k := fun h2 => by rw [h2.1] at h; cases h
theorem gap_no2 {n k : Nat} {ms : List Mk} (h0 : 0 < k) (h : (mkAt ms k).at_ ≤ (mkAt ms (k - 1)).at_ + (mkAt ms (k - 1)).cut) : ¬ gapG n ms k := fun h2 => by have := h2.2 h0; omega
def OkMs (xs : List Mr) : Prop := ∀ x ∈ xs, SmM x ∧ ∀ l ∈ x.put, l.length ≤ maxLen
theorem mkB_no1 {n : Nat} {x : Mr} (h : ¬ x.at_ ≤ n) : mkB n x.dat = false := by
 rw [Bool.eq_false_iff]; intro e; have := (mkB_iff.1 e).1; simp only [Mr.dat] at this; omega
theorem mkB_no2 {n : Nat} {x : Mr} (h : ¬ x.cut ≤ n - x.at_) (h1 : x.at_ ≤ n) : mkB n x.dat = false := by
 rw [Bool.eq_false_iff]; intro e; have := (mkB_iff.1 e).1; simp only [Mr.dat] at this; omega
theorem mkB_no3 {n : Nat} {x : Mr} (h : spB x.put = false) : mkB n x.dat = false := by
 rw [Bool.eq_false_iff]; intro e; have := (mkB_iff.1 e).2.1; simp only [Mr.dat] at this; rw [h] at this; cases this
theorem mkB_no4 {n : Nat} {x : Mr} (h : x.cut = 0) (h1 : x.put.length = 0) : mkB n x.dat = false := by
 rw [Bool.eq_false_iff]; intro e; have := (mkB_iff.1 e).2.2; simp only [Mr.dat] at this; omega
theorem mkB_yes {n : Nat} {x : Mr} (h1 : x.at_ ≤ n) (h2 : x.cut ≤ n - x.at_) (h3 : spB x.put = true) (h4 : ¬ (x.cut = 0 ∧ x.put.length = 0)) : mkB n x.dat = true :=
 mkB_iff.2 ⟨by simp only [Mr.dat]; omega, h3, by simp only [Mr.dat]; omega⟩
set_option maxHeartbeats 3200000 in
theorem implMarksValid (A : Option Addr) (n c : Nat) (ws : List Wd) (A' : Option Addr) (n' c' : Nat) (xs : List Mr) (w : World) (hW : ∀ l ∈ ws, l.length ≤ maxLen) (hX : OkMs xs) (h : WdsIn w w.heap.size A n c ws) (h' : MrsIn w w.heap.size A' n' c' xs) :
  Calls Tryz.prog 72 #[.slice A n c, .slice A' n' c'] w fun e w' => e = .returned (.bool (marksB ws (xs.map Mr.dat))) ∧ Below w.heap.size w w' := by
 have HS := uH (implSpeechValid A n c ws w hW h); have HL := uH h.1; have HL' := uH h'.1; have H' := uH h'; have HX := uH hX; clear h h' hW hX; cases hA : spB ws with
 | false =>
  have HR : Hid (marksB ws (xs.map Mr.dat) = false) := uH (marks_sp hA); rw [hA] at HS; clear hA; go_enter Tryz.func72, Tryz.ntmps72
  (go_wp2_with fail); refine HS.out.mono ?_; rintro e w1 ⟨rfl, rfl⟩; go_wp2; go_ret; exact ⟨ret_bool HR.out.symm, Below.refl _ _⟩
 | true =>
 have h20 : n ≤ 20 := (by have := (spB_iff.1 hA).2; rw [HL.out] at this; exact this); by_cases hm : 20 < n'
 ·have HR : Hid (marksB ws (xs.map Mr.dat) = false) := uH (marks_many (by rw [List.length_map, HL'.out]; exact hm)); rw [hA] at HS; clear hA; go_enter Tryz.func72, Tryz.ntmps72
  (go_wp2_with fail); refine HS.out.mono ?_; rintro e w1 ⟨rfl, rfl⟩; go_wp2; go_ret; exact ⟨ret_bool HR.out.symm, Below.refl _ _⟩
 ·have HE : Hid (∀ k, k < n' → ¬ gapG n (xs.map Mr.dat) k → marksB ws (xs.map Mr.dat) = false) := uH (fun k hk h => marks_no (k := k) (by rw [List.length_map, HL'.out]; exact hk) (by rw [HL.out]; exact h)); have HY : Hid (GapK n (xs.map Mr.dat) n' → marksB ws (xs.map Mr.dat) = decide (lenI n ((xs.map Mr.dat).take n') ≤ 20)) := uH (fun h => by
   have e1 : (xs.map Mr.dat).length = n' := (by rw [List.length_map, HL'.out]); have := marks_end (ms := xs.map Mr.dat) hA (by rw [e1]; omega) (by rw [HL.out, e1]; exact h)
   rwa [e1, HL.out] at this)
  have HB : Hid (∀ k, k ≤ n' → (n : Int) - 1000 * (k : Int) ≤ lenI n ((xs.map Mr.dat).take k) ∧ lenI n ((xs.map Mr.dat).take k) ≤ (n : Int) + 1000 * (k : Int)) := uH (fun k hk => lenI_bound (fun m hm => by
   obtain ⟨x, hx, rfl⟩ := List.mem_map.1 hm; have h1 := (HX.out x hx).1; have h2 := (H'.out.2.2.2.2 x hx).1; simp only [Mr.dat]; exact ⟨h1.2.1, by rw [h2]; exact h1.2.2⟩) k (by rw [List.length_map, HL'.out]; exact hk))
  rw [hA] at HS; clear hA; have HL0 : Hid (lenI n ((xs.map Mr.dat).take 0) = (n : Int)) := uH rfl; have HDat : Hid (∀ k, k < n' → mkAt (xs.map Mr.dat) k = (mrAt xs k).dat) := uH (fun k hk => mrAt_dat (by rw [HL'.out]; exact hk)); have HLs : Hid (∀ k, k < n' → lenI n ((xs.map Mr.dat).take (k + 1)) = lenI n ((xs.map Mr.dat).take k) - ((mrAt xs k).cut : Int) + ((mrAt xs k).n : Int)) := uH (fun k hk => by
   rw [lenI_succ (by rw [List.length_map, HL'.out]; exact hk), HDat.out k hk]; simp only [Mr.dat]; rw [(H'.out.2.2.2.2 _ (mrAt_mem (xs := xs) (k := k) (by rw [HL'.out]; exact hk))).1])
  generalize marksB ws (xs.map Mr.dat) = T at *; go_enter Tryz.func72, Tryz.ntmps72
  (go_wp2_with fail); refine HS.out.mono ?_; rintro e w1 ⟨rfl, rfl⟩; go_wp2; go_loopw [5, 20] (fun s5 s6 wr => ∃ k : Nat, k ≤ n' ∧ s5 = .int .i64 (lenI n ((xs.map Mr.dat).take k)) ∧ s6 = .int .i64 k ∧ Hid (GapK n (xs.map Mr.dat) k) ∧ Below w.heap.size w wr) (fun _ i _ => n' - (intOf i).toNat)
  case atStart => exact ⟨0, Nat.zero_le _, by rw [HL0.out], rfl, uH (fun i hi => by omega), Below.refl _ _⟩
  case round =>
   obtain ⟨k, hk, rfl, rfl, HK, hb⟩ := hrel; by_cases hlt : k < n'
   ·have hx := (H'.out.keep hb).at_ hlt; obtain ⟨b, off, rfl, hbB, c0, c1, c2, hxI⟩ := hx; have hxs := (HX.out _ (mrAt_mem (xs := xs) (k := k) (by rw [HL'.out]; exact hlt))); have hba : Below wr.heap.size wr (wr.alloc (.cells #[.int .i64 ((mrAt xs k).at_ : Int), .int .i64 ((mrAt xs k).cut : Int), .slice (mrAt xs k).A (mrAt xs k).n (mrAt xs k).c] 116)) := boxM (mrAt xs k) wr; have HM := uH (implSpeechValid (mrAt xs k).A (mrAt xs k).n (mrAt xs k).c (mrAt xs k).put _ hxs.2 (WdsIn.keep hxI hba)); have HLp : Hid ((mrAt xs k).put.length = (mrAt xs k).n) := uH hxI.1; have HAl := uH hba; clear hxs hba; have HD := HDat.out k hlt; have HLk := HLs.out k hlt; have HN := HE.out k hlt; have hs := (HX.out _ (mrAt_mem (xs := xs) (k := k) (by rw [HL'.out]; exact hlt))).1; obtain ⟨b1, b2⟩ := HB.out k (by omega); have sx1 := hs.1; have sx2 := hs.2.1; have sx3 := hs.2.2; have HG : Hid ((0 < k → (mkAt (xs.map Mr.dat) (k - 1)).at_ + (mkAt (xs.map Mr.dat) (k - 1)).cut < (mrAt xs k).at_) → mkB n (mrAt xs k).dat = true → GapK n (xs.map Mr.dat) (k + 1)) := uH (fun h1 h2 => GapK.succ HK.out ⟨by rw [HD]; exact h2, fun h0 => by rw [HD]; exact h1 h0⟩); have hgo : Hid (lenI n ((xs.map Mr.dat).take (k + 1)) = lenI n ((xs.map Mr.dat).take k) - ((mrAt xs k).cut : Int) + ((mrAt xs k).n : Int)) := uH HLk; have HNo1 : Hid (mkB n (mrAt xs k).dat = false → T = false) := uH (fun h => HN (gap_no1 (by rw [HD]; exact h))); have HNo2 : Hid (0 < k → (mrAt xs k).at_ ≤ (mkAt (xs.map Mr.dat) (k - 1)).at_ + (mkAt (xs.map Mr.dat) (k - 1)).cut → T = false) := uH (fun h0 h => HN (gap_no2 h0 (by rw [HD]; exact h))); clear HLk HN HD hs hxI; have i1 : (0 : Int) ≤ (k : Int) := (by omega); have i2 : (k : Int) < (n' : Int) := (by omega); have i3 : (k : Int) ≤ 20 := (by omega); have hbx := uH (hb.trans (HAl.out.mono hb.size)); by_cases h1 : (mrAt xs k).at_ ≤ n
    ·by_cases h2 : (mrAt xs k).cut ≤ n - (mrAt xs k).at_
     ·have t1 : ¬ (n : Int) < ((mrAt xs k).at_ : Int) := (by omega); have t2 : ¬ (n : Int) - ((mrAt xs k).at_ : Int) < ((mrAt xs k).cut : Int) := (by omega); have t3 : ¬ n < (mrAt xs k).at_ := (by omega); by_cases h4 : (mrAt xs k).cut = 0 ∧ (mrAt xs k).n = 0
      ·have HF := uH (HNo1.out (mkB_no4 h4.1 (by rw [HLp.out]; exact h4.2))); clear HNo1 HNo2 HG hgo HM HLp; obtain ⟨z1, z2⟩ := h4; generalize mrAt xs k = x at *; obtain ⟨xa, xc, xA, xn, xcp, xp⟩ := x; simp only at z1 z2; subst z1 z2; dsimp only at *; go_wp2; go_ret; exact ⟨ret_bool HF.out.symm, hbx.out⟩
      ·have HGy := uH (fun h3 h => HG.out h (mkB_yes h1 h2 h3 (by rw [HLp.out]; exact h4))); have HFn := uH (fun h3 => HNo1.out (mkB_no3 h3)); clear HNo1 HG HLp; have p0 : ∀ W, Below (wr.alloc (.cells #[.int .i64 ((mrAt xs k).at_ : Int), .int .i64 ((mrAt xs k).cut : Int), .slice (mrAt xs k).A (mrAt xs k).n (mrAt xs k).c] 116)).heap.size (wr.alloc (.cells #[.int .i64 ((mrAt xs k).at_ : Int), .int .i64 ((mrAt xs k).cut : Int), .slice (mrAt xs k).A (mrAt xs k).n (mrAt xs k).c] 116)) W → W.cell? ⟨wr.heap.size, 0, none⟩ = some (.int .i64 ((mrAt xs k).at_ : Int)) ∧ W.cell? ⟨wr.heap.size, 1, none⟩ = some (.int .i64 ((mrAt xs k).cut : Int)) ∧ W.cell? ⟨wr.heap.size, 2, none⟩ = some (.slice (mrAt xs k).A (mrAt xs k).n (mrAt xs k).c) := fun W hW => ⟨kcell hW (newcell wr _ _ 0 _ rfl), kcell hW (newcell wr _ _ 1 _ rfl), kcell hW (newcell wr _ _ 2 _ rfl)⟩; have HP := uH p0; clear p0
       go_upto_region 9 with fail
       go_cut [64] (fun s64 wx => (wr.alloc (.cells #[.int .i64 ((mrAt xs k).at_ : Int), .int .i64 ((mrAt xs k).cut : Int), .slice (mrAt xs k).A (mrAt xs k).n (mrAt xs k).c] 116)) = wx ∧ Value.bool (!(spB (mrAt xs k).put)) = s64)
       case first =>
        by_cases hc0 : (mrAt xs k).cut = 0
        ·have e1 : (((mrAt xs k).cut : Int) == 0) = true := (by rw [hc0]; rfl); have e2 : (((mrAt xs k).n : Int) == 0) = false := beq_eq_false_iff_ne.2 (fun e => h4 ⟨hc0, by omega⟩); clear hc0 h4 HP; (go_wp2_with fail); refine HM.out.mono ?_; rintro e w1 ⟨rfl, rfl⟩; go_wp2
         go_meet
         exact ⟨rfl, rfl⟩
        ·have e1 : (((mrAt xs k).cut : Int) == 0) = false := beq_eq_false_iff_ne.2 (fun e => hc0 (by omega)); clear hc0 h4 HP; (go_wp2_with fail); refine HM.out.mono ?_; rintro e w1 ⟨rfl, rfl⟩; go_wp2
         go_meet
         exact ⟨rfl, rfl⟩
       case rest =>
        obtain ⟨hwx, rfl⟩ := hcut; have HB0 : Hid (Below wr.heap.size wr wc) := uH (by rw [← hwx]; exact HAl.out); have HP1 : Hid (∀ W, Below wc.heap.size wc W → W.cell? ⟨wr.heap.size, 0, none⟩ = some (.int .i64 ((mrAt xs k).at_ : Int)) ∧ W.cell? ⟨wr.heap.size, 1, none⟩ = some (.int .i64 ((mrAt xs k).cut : Int)) ∧ W.cell? ⟨wr.heap.size, 2, none⟩ = some (.slice (mrAt xs k).A (mrAt xs k).n (mrAt xs k).c)) := uH (by rw [← hwx]; exact HP.out); clear hwx HP HM h4; cases h3 : spB (mrAt xs k).put with
        | false =>
         have HF := uH (HFn.out h3); clear h3 HFn HGy HNo2 hgo; go_wp2; go_ret; exact ⟨ret_bool HF.out.symm, hb.trans (HB0.out.mono hb.size)⟩
        | true =>
         have HG2 := uH (HGy.out h3); clear h3 HFn HGy; obtain ⟨y0, y1, y2⟩ := HP1.out wc (Below.refl _ _); have r0 := qcell y0; have r1 := qcell y1; have r2 := qcell y2; by_cases h0 : k = 0
         ·have HG3 := uH (HG2.out (fun h => by omega)); have z0 : decide (0 < k) = false := decide_eq_false (by omega); clear HG2 HNo2 h0; (go_wp2_with fail); refine region_qb (by kernel_rfl) (by kernel_rfl) ?_; repeat (first | go_big_quiet_step (fail) | quiet_step (fail))
          refine wpQuiet_nil ?_; intro w5 hb5; obtain ⟨y0, y1, y2⟩ := HP1.out w5 hb5; go_wp2; go_roundw
          case rel => exact ⟨k + 1, by omega, by rw [hgo.out]; exact congrArg (Value.int .i64) (by omega), by go_num, HG3, hb.trans ((below_next HB0.out hb5).mono hb.size)⟩
          case measure => simp [intOf] <;> omega
         ·have h1 : 0 < k := (by omega); obtain ⟨b', off', e', _, p0, p1, p2, _⟩ := (H'.out.keep (hb.trans (HB0.out.mono hb.size))).at_ (show k - 1 < n' by omega); obtain ⟨rfl, rfl⟩ : b' = b ∧ off' = off := (by injection e' with e'; injection e' with e1 e2; exact ⟨e1.symm, e2.symm⟩); have HP := HDat.out (k - 1) (by omega); have hsp := (HX.out _ (mrAt_mem (xs := xs) (k := k - 1) (by rw [HL'.out]; omega))).1; have sp1 := hsp.1; have sp2 := hsp.2.1; have HEn := uH (fun W => markEnd (mrAt xs (k - 1)) W hsp); rw [HP] at HG2 HNo2; have ek : (k : Int) - 1 = ((k - 1 : Nat) : Int) := (by omega); have ekw : IntKind.i64.wrap ((k : Int) - 1) = ((k - 1 : Nat) : Int) := (by rw [ek]; exact IntWalk.i64_in _ (by omega)); have q0 := qcell p0; have q1 := qcell p1; have q2 := qcell p2; have z1 : decide ((0 : Int) < (k : Int)) = true := decide_eq_true (by omega); have j2 : ((k - 1 : Nat) : Int) < (n' : Int) := (by omega); have j1 : (0 : Int) ≤ ((k - 1 : Nat) : Int) := (by omega); clear HP hsp e' h0; by_cases h2 : (mrAt xs (k - 1)).at_ + (mrAt xs (k - 1)).cut < (mrAt xs k).at_
          ·have HG3 := uH (HG2.out (fun _ => h2)); have z3 : decide (((mrAt xs k).at_ : Int) ≤ ((mrAt xs (k - 1)).at_ : Int) + ((mrAt xs (k - 1)).cut : Int)) = false := decide_eq_false (by omega); clear HG2 HNo2; generalize mrAt xs (k - 1) = y at *; generalize k - 1 = j at *; (go_wp2_with fail); refine region_qb (by kernel_rfl) (by kernel_rfl) ?_; repeat (first | go_big_quiet_step ((go_at_call 131; exact quietB (HEn.out _))) | quiet_step ((go_at_call 131; exact quietB (HEn.out _))))
           refine wpQuiet_nil ?_; intro w5 hb5; obtain ⟨y0, y1, y2⟩ := HP1.out w5 hb5; go_wp2; go_roundw
           case rel => exact ⟨k + 1, by omega, by rw [hgo.out]; exact congrArg (Value.int .i64) (by omega), by go_num, HG3, hb.trans ((below_next HB0.out hb5).mono hb.size)⟩
           case measure => simp [intOf] <;> omega
          ·have HF := uH (HNo2.out h1 (by simp only [Mr.dat]; omega)); have z3 : decide (((mrAt xs k).at_ : Int) ≤ ((mrAt xs (k - 1)).at_ : Int) + ((mrAt xs (k - 1)).cut : Int)) = true := decide_eq_true (by omega); clear HG2 HNo2 hgo h2; generalize mrAt xs (k - 1) = y at *; generalize k - 1 = j at *; (go_wp2_with fail); refine region_qb (by kernel_rfl) (by kernel_rfl) ?_; repeat (first | go_big_quiet_step ((go_at_call 131; exact quietB (HEn.out _))) | quiet_step ((go_at_call 131; exact quietB (HEn.out _))))
           refine wpQuiet_nil ?_; intro w5 hb5; go_wp2; go_ret; exact ⟨ret_bool HF.out.symm, hb.trans ((below_next HB0.out hb5).mono hb.size)⟩
     ·have HF := uH (HNo1.out (mkB_no2 h2 h1)); have t1 : ¬ (n : Int) < ((mrAt xs k).at_ : Int) := (by omega); have t2 : (n : Int) - ((mrAt xs k).at_ : Int) < ((mrAt xs k).cut : Int) := (by omega); clear HNo1 HNo2 HG hgo HM HLp; generalize mrAt xs k = x at *; go_wp2; go_ret; exact ⟨ret_bool HF.out.symm, hbx.out⟩
    ·have HF := uH (HNo1.out (mkB_no1 h1)); have t1 : (n : Int) < ((mrAt xs k).at_ : Int) := (by omega); clear HNo1 HNo2 HG hgo HM HLp; generalize mrAt xs k = x at *; go_wp2; go_ret; exact ⟨ret_bool HF.out.symm, hbx.out⟩
   ·obtain rfl : k = n' := (by omega); have HF := uH (HY.out HK.out); obtain ⟨b1, b2⟩ := HB.out k (Nat.le_refl _); go_wp2; go_ret; exact ⟨ret_bool HF.out.symm, hb⟩
theorem l6In_yes (n b : Nat) (w : World) (h : n ≤ b) : Calls Tryz.prog 134 #[.int .i64 (n : Int), .int .i64 0, .int .i64 (b : Int)] w fun e w' => e = .returned (.bool true) ∧ w = w' :=
 (l6In_any _ _ _ _).mono fun e w' ⟨he, hw⟩ => ⟨by rw [he]; exact ret_bool (decide_eq_true (by omega)), hw⟩
theorem l6In_no (n b : Nat) (w : World) (h : ¬ n ≤ b) : Calls Tryz.prog 134 #[.int .i64 (n : Int), .int .i64 0, .int .i64 (b : Int)] w fun e w' => e = .returned (.bool false) ∧ w = w' :=
 (l6In_any _ _ _ _).mono fun e w' ⟨he, hw⟩ => ⟨by rw [he]; exact ret_bool (decide_eq_false (by omega)), hw⟩
set_option maxHeartbeats 800000 in
theorem specL7Mark (n : Nat) (x : Mr) (w : World) (hn : n ≤ 20) (hs : SmM x) (hW : ∀ l ∈ x.put, l.length ≤ maxLen) (hx : MrIn w w.heap.size x) :
  Calls Tryz.prog 227 #[.int .i64 (n : Int), .agg #[.int .i64 (x.at_ : Int), .int .i64 (x.cut : Int), .slice x.A x.n x.c]] w fun e w' => e = .returned (.bool (mkB n x.dat)) ∧ Below w.heap.size w w' := by
 have hb := boxM x w; have HS := uH (specSpeechValid x.A x.n x.c x.put _ hW (WdsIn.keep hx hb)); have HL : Hid (x.put.length = x.n) := uH hx.1; have s1 := hs.1; have s2 := hs.2.1; have s3 := hs.2.2; clear hx hW hs; by_cases h1 : x.at_ ≤ n
 ·have HI1 := uH (fun W => l6In_yes x.at_ n W h1); have k1 : (x.at_ : Int) ≤ (n : Int) := (by omega); have es : (n : Int) - (x.at_ : Int) = ((n - x.at_ : Nat) : Int) := (by omega); have Hes := uH es; by_cases h2 : x.cut ≤ n - x.at_
  ·have HI2 := uH (fun W => l6In_yes x.cut (n - x.at_) W h2); rw [← es] at HI2; cases h3 : spB x.put with
   | false =>
    have HR : Hid (mkB n x.dat = false) := uH (mkB_no3 h3); rw [h3] at HS; clear h3 es; go_enter Tryz.func227, Tryz.ntmps227
    (go_wp2_with fail); refine (HI1.out _).mono ?_; rintro e w1 ⟨rfl, rfl⟩; (go_wp2_with fail); refine (HI2.out _).mono ?_; rintro e w1 ⟨rfl, rfl⟩; (go_wp2_with fail); refine HS.out.mono ?_; rintro e w1 ⟨rfl, rfl⟩; go_wp2; go_returns; exact ⟨ret_bool HR.out.symm, hb⟩
   | true =>
    rw [h3] at HS; by_cases h4 : x.cut = 0 ∧ x.put.length = 0
    ·have HR : Hid (mkB n x.dat = false) := uH (mkB_no4 h4.1 h4.2); have e4 : ¬ (0 : Int) < (x.cut : Int) + (x.n : Int) := (by have := HL.out; omega); clear h3 h4 es; go_enter Tryz.func227, Tryz.ntmps227
     (go_wp2_with fail); refine (HI1.out _).mono ?_; rintro e w1 ⟨rfl, rfl⟩; (go_wp2_with fail); refine (HI2.out _).mono ?_; rintro e w1 ⟨rfl, rfl⟩; (go_wp2_with fail); refine HS.out.mono ?_; rintro e w1 ⟨rfl, rfl⟩; go_wp2; go_returns; exact ⟨ret_bool (by rw [HR.out]; exact decide_eq_false (by omega)), hb⟩
    ·have HR : Hid (mkB n x.dat = true) := uH (mkB_yes h1 h2 h3 h4); have e4 : (0 : Int) < (x.cut : Int) + (x.n : Int) := (by have := HL.out; omega); clear h3 h4 es; go_enter Tryz.func227, Tryz.ntmps227
     (go_wp2_with fail); refine (HI1.out _).mono ?_; rintro e w1 ⟨rfl, rfl⟩; (go_wp2_with fail); refine (HI2.out _).mono ?_; rintro e w1 ⟨rfl, rfl⟩; (go_wp2_with fail); refine HS.out.mono ?_; rintro e w1 ⟨rfl, rfl⟩; go_wp2; go_returns; exact ⟨ret_bool HR.out.symm, hb⟩
  ·have HI2 := uH (fun W => l6In_no x.cut (n - x.at_) W h2); rw [← es] at HI2; have HR : Hid (mkB n x.dat = false) := uH (mkB_no2 h2 h1); clear es h2 HS; go_enter Tryz.func227, Tryz.ntmps227
   (go_wp2_with fail); refine (HI1.out _).mono ?_; rintro e w1 ⟨rfl, rfl⟩; (go_wp2_with fail); refine (HI2.out _).mono ?_; rintro e w1 ⟨rfl, rfl⟩; go_wp2; go_returns; exact ⟨ret_bool HR.out.symm, hb⟩
 ·have HI1 := uH (fun W => l6In_no x.at_ n W h1); have HR : Hid (mkB n x.dat = false) := uH (mkB_no1 h1); clear h1 HS; go_enter Tryz.func227, Tryz.ntmps227
  (go_wp2_with fail); refine (HI1.out _).mono ?_; rintro e w1 ⟨rfl, rfl⟩; go_wp2; go_returns; exact ⟨ret_bool HR.out.symm, hb⟩
set_option maxHeartbeats 1600000 in
theorem specMarksValid (A : Option Addr) (n c : Nat) (ws : List Wd) (A' : Option Addr) (n' c' : Nat) (xs : List Mr) (w : World) (hW : ∀ l ∈ ws, l.length ≤ maxLen) (hX : OkMs xs) (h : WdsIn w w.heap.size A n c ws) (h' : MrsIn w w.heap.size A' n' c' xs) :
  Calls Tryz.prog 188 #[.slice A n c, .slice A' n' c'] w fun e w' => e = .returned (.bool (marksB ws (xs.map Mr.dat))) ∧ Below w.heap.size w w' := by
 have HS := uH (specSpeechValid A n c ws w hW h); have HL := uH h.1; have HL' := uH h'.1; have H' := uH h'; have HX := uH hX; clear h h' hW hX; cases hA : spB ws with
 | false =>
  have HR : Hid (marksB ws (xs.map Mr.dat) = false) := uH (marks_sp hA); rw [hA] at HS; clear hA; go_enter Tryz.func188, Tryz.ntmps188
  (go_wp2_with fail); refine HS.out.mono ?_; rintro e w1 ⟨rfl, rfl⟩; go_wp2; go_ret; exact ⟨ret_bool HR.out.symm, Below.refl _ _⟩
 | true =>
 have h20 : n ≤ 20 := (by have := (spB_iff.1 hA).2; rw [HL.out] at this; exact this); by_cases hm : 20 < n'
 ·have HR : Hid (marksB ws (xs.map Mr.dat) = false) := uH (marks_many (by rw [List.length_map, HL'.out]; exact hm)); rw [hA] at HS; clear hA; go_enter Tryz.func188, Tryz.ntmps188
  (go_wp2_with fail); refine HS.out.mono ?_; rintro e w1 ⟨rfl, rfl⟩; go_wp2; go_ret; exact ⟨ret_bool HR.out.symm, Below.refl _ _⟩
 ·have HE : Hid (∀ k, k < n' → ¬ gapG n (xs.map Mr.dat) k → marksB ws (xs.map Mr.dat) = false) := uH (fun k hk h => marks_no (k := k) (by rw [List.length_map, HL'.out]; exact hk) (by rw [HL.out]; exact h)); have HY : Hid (GapK n (xs.map Mr.dat) n' → marksB ws (xs.map Mr.dat) = decide (lenI n ((xs.map Mr.dat).take n') ≤ 20)) := uH (fun h => by
   have e1 : (xs.map Mr.dat).length = n' := (by rw [List.length_map, HL'.out]); have := marks_end (ms := xs.map Mr.dat) hA (by rw [e1]; omega) (by rw [HL.out, e1]; exact h)
   rwa [e1, HL.out] at this)
  have HB : Hid (∀ k, k ≤ n' → (n : Int) - 1000 * (k : Int) ≤ lenI n ((xs.map Mr.dat).take k) ∧ lenI n ((xs.map Mr.dat).take k) ≤ (n : Int) + 1000 * (k : Int)) := uH (fun k hk => lenI_bound (fun m hm => by
   obtain ⟨x, hx, rfl⟩ := List.mem_map.1 hm; have h1 := (HX.out x hx).1; have h2 := (H'.out.2.2.2.2 x hx).1; simp only [Mr.dat]; exact ⟨h1.2.1, by rw [h2]; exact h1.2.2⟩) k (by rw [List.length_map, HL'.out]; exact hk))
  rw [hA] at HS; clear hA; have HL0 : Hid (lenI n ((xs.map Mr.dat).take 0) = (n : Int)) := uH rfl; have HDat : Hid (∀ k, k < n' → mkAt (xs.map Mr.dat) k = (mrAt xs k).dat) := uH (fun k hk => mrAt_dat (by rw [HL'.out]; exact hk)); have HLs : Hid (∀ k, k < n' → lenI n ((xs.map Mr.dat).take (k + 1)) = lenI n ((xs.map Mr.dat).take k) - ((mrAt xs k).cut : Int) + ((mrAt xs k).n : Int)) := uH (fun k hk => by
   rw [lenI_succ (by rw [List.length_map, HL'.out]; exact hk), HDat.out k hk]; simp only [Mr.dat]; rw [(H'.out.2.2.2.2 _ (mrAt_mem (xs := xs) (k := k) (by rw [HL'.out]; exact hk))).1])
  generalize marksB ws (xs.map Mr.dat) = T at *; go_enter Tryz.func188, Tryz.ntmps188
  (go_wp2_with fail); refine HS.out.mono ?_; rintro e w1 ⟨rfl, rfl⟩; go_wp2; go_loopw [5, 6] (fun s5 s6 wr => ∃ k : Nat, k ≤ n' ∧ s5 = .int .i64 (lenI n ((xs.map Mr.dat).take k)) ∧ s6 = .int .i64 k ∧ Hid (GapK n (xs.map Mr.dat) k) ∧ Below w.heap.size w wr) (fun _ i _ => n' - (intOf i).toNat)
  case atStart => exact ⟨0, Nat.zero_le _, by rw [HL0.out], rfl, uH (fun i hi => by omega), Below.refl _ _⟩
  case round =>
   obtain ⟨k, hk, rfl, rfl, HK, hb⟩ := hrel; by_cases hlt : k < n'
   ·have hx := (H'.out.keep hb).at_ hlt; obtain ⟨b, off, rfl, hbB, c0, c1, c2, hxI⟩ := hx; have HM : Hid (∀ W, Below wr.heap.size wr W → Calls Tryz.prog 227 #[.int .i64 (n : Int), .agg #[.int .i64 ((mrAt xs k).at_ : Int), .int .i64 ((mrAt xs k).cut : Int), .slice (mrAt xs k).A (mrAt xs k).n (mrAt xs k).c]] W fun e w' => e = .returned (.bool (mkB n (mrAt xs k).dat)) ∧ Below W.heap.size W w') := uH (fun W hW => specL7Mark n (mrAt xs k) W h20 (HX.out _ (mrAt_mem (by rw [HL'.out]; exact hlt))).1 (HX.out _ (mrAt_mem (by rw [HL'.out]; exact hlt))).2 (MrIn.keep hxI hW)); have HD := HDat.out k hlt; have HLk := HLs.out k hlt; have HN := HE.out k hlt; have hs := (HX.out _ (mrAt_mem (xs := xs) (k := k) (by rw [HL'.out]; exact hlt))).1; obtain ⟨b1, b2⟩ := HB.out k (by omega); have sx1 := hs.1; have sx2 := hs.2.1; have sx3 := hs.2.2; have HG : Hid ((0 < k → (mkAt (xs.map Mr.dat) (k - 1)).at_ + (mkAt (xs.map Mr.dat) (k - 1)).cut < (mrAt xs k).at_) → mkB n (mrAt xs k).dat = true → GapK n (xs.map Mr.dat) (k + 1)) := uH (fun h1 h2 => GapK.succ HK.out ⟨by rw [HD]; exact h2, fun h0 => by rw [HD]; exact h1 h0⟩); have hgo : Hid (lenI n ((xs.map Mr.dat).take (k + 1)) = lenI n ((xs.map Mr.dat).take k) - ((mrAt xs k).cut : Int) + ((mrAt xs k).n : Int)) := uH HLk; have HNo1 : Hid (mkB n (mrAt xs k).dat = false → T = false) := uH (fun h => HN (gap_no1 (by rw [HD]; exact h))); have HNo2 : Hid (0 < k → (mrAt xs k).at_ ≤ (mkAt (xs.map Mr.dat) (k - 1)).at_ + (mkAt (xs.map Mr.dat) (k - 1)).cut → T = false) := uH (fun h0 h => HN (gap_no2 h0 (by rw [HD]; exact h))); clear HLk HN HD hs hxI; have d0 := qcell c0; have d1 := qcell c1; have d2 := qcell c2; have i1 : (0 : Int) ≤ (k : Int) := (by omega); have i2 : (k : Int) < (n' : Int) := (by omega); have i3 : (k : Int) ≤ 20 := (by omega); cases hv : mkB n (mrAt xs k).dat with
    | false =>
     have HF := uH (HNo1.out hv); rw [hv] at HM; clear hv HNo1 HNo2 HG hgo; generalize mrAt xs k = x at *; (go_wp2_with fail); refine region_qb (by kernel_rfl) (by kernel_rfl) ?_; repeat (first | go_big_quiet_step ((go_at_call 227; exact quietB (HM.out _ (below_regrown _ _ _)))) | quiet_step ((go_at_call 227; exact quietB (HM.out _ (below_regrown _ _ _)))))
     refine wpQuiet_nil ?_; intro w5 hb5; go_wp2; go_ret; exact ⟨ret_bool HF.out.symm, hb.trans (hb5.mono hb.size)⟩
    | true =>
     rw [hv] at HM; have HG2 := uH (fun h => HG.out h hv); clear hv HNo1 HG; by_cases h0 : k = 0
     ·have HG3 := uH (HG2.out (fun h => by omega)); have z0 : decide (0 < k) = false := decide_eq_false (by omega); clear HG2 HNo2 h0; generalize mrAt xs k = x at *; (go_wp2_with fail); refine region_qb (by kernel_rfl) (by kernel_rfl) ?_; repeat (first | go_big_quiet_step ((go_at_call 227; exact quietB (HM.out _ (below_regrown _ _ _)))) | quiet_step ((go_at_call 227; exact quietB (HM.out _ (below_regrown _ _ _)))))
      refine wpQuiet_nil ?_; intro w5 hb5; clear HM; have f1 := qcell (kcell hb5 c1); have f2 := qcell (kcell hb5 c2); (go_wp2_with fail); refine region_qb (by kernel_rfl) (by kernel_rfl) ?_; repeat (first | go_big_quiet_step (fail) | quiet_step (fail))
      refine wpQuiet_nil ?_; intro w6 hb6; go_wp2; go_roundw
      case rel => exact ⟨k + 1, by omega, by rw [hgo.out], by go_num, HG3, hb.trans ((below_next hb5 hb6).mono hb.size)⟩
      case measure => simp [intOf] <;> omega
     ·have h1 : 0 < k := (by omega); obtain ⟨b', off', e', _, p0, p1, p2, _⟩ := (H'.out.keep hb).at_ (show k - 1 < n' by omega); obtain ⟨rfl, rfl⟩ : b' = b ∧ off' = off := (by injection e' with e'; injection e' with e1 e2; exact ⟨e1.symm, e2.symm⟩); have HP := HDat.out (k - 1) (by omega); have hsp := (HX.out _ (mrAt_mem (xs := xs) (k := k - 1) (by rw [HL'.out]; omega))).1; have sp1 := hsp.1; have sp2 := hsp.2.1; rw [HP] at HG2 HNo2; have ek : (k : Int) - 1 = ((k - 1 : Nat) : Int) := (by omega); have ekw : IntKind.i64.wrap ((k : Int) - 1) = ((k - 1 : Nat) : Int) := (by rw [ek]; exact IntWalk.i64_in _ (by omega)); have q0 := qcell p0; have q1 := qcell p1; have z1 : decide ((0 : Int) < (k : Int)) = true := decide_eq_true (by omega); have j2 : ((k - 1 : Nat) : Int) < (n' : Int) := (by omega); have j1 : (0 : Int) ≤ ((k - 1 : Nat) : Int) := (by omega); clear HP hsp e' h0; by_cases h2 : (mrAt xs (k - 1)).at_ + (mrAt xs (k - 1)).cut < (mrAt xs k).at_
      ·have HG3 := uH (HG2.out (fun _ => h2)); have z3 : decide (((mrAt xs k).at_ : Int) ≤ ((mrAt xs (k - 1)).at_ : Int) + ((mrAt xs (k - 1)).cut : Int)) = false := decide_eq_false (by omega); clear HG2 HNo2; generalize mrAt xs k = x at *; generalize mrAt xs (k - 1) = y at *; generalize k - 1 = j at *; (go_wp2_with fail); refine region_qb (by kernel_rfl) (by kernel_rfl) ?_; repeat (first | go_big_quiet_step ((go_at_call 227; exact quietB (HM.out _ (below_regrown _ _ _)))) | quiet_step ((go_at_call 227; exact quietB (HM.out _ (below_regrown _ _ _)))))
       refine wpQuiet_nil ?_; intro w5 hb5; clear HM; have f1 := qcell (kcell hb5 c1); have f2 := qcell (kcell hb5 c2); (go_wp2_with fail); refine region_qb (by kernel_rfl) (by kernel_rfl) ?_; repeat (first | go_big_quiet_step (fail) | quiet_step (fail))
       refine wpQuiet_nil ?_; intro w6 hb6; go_wp2; go_roundw
       case rel => exact ⟨k + 1, by omega, by rw [hgo.out], by go_num, HG3, hb.trans ((below_next hb5 hb6).mono hb.size)⟩
       case measure => simp [intOf] <;> omega
      ·have HF := uH (HNo2.out h1 (by simp only [Mr.dat]; omega)); have z3 : decide (((mrAt xs k).at_ : Int) ≤ ((mrAt xs (k - 1)).at_ : Int) + ((mrAt xs (k - 1)).cut : Int)) = true := decide_eq_true (by omega); clear HG2 HNo2 hgo h2; generalize mrAt xs k = x at *; generalize mrAt xs (k - 1) = y at *; generalize k - 1 = j at *; (go_wp2_with fail); refine region_qb (by kernel_rfl) (by kernel_rfl) ?_; repeat (first | go_big_quiet_step ((go_at_call 227; exact quietB (HM.out _ (below_regrown _ _ _)))) | quiet_step ((go_at_call 227; exact quietB (HM.out _ (below_regrown _ _ _)))))
       refine wpQuiet_nil ?_; intro w5 hb5; go_wp2; go_ret; exact ⟨ret_bool HF.out.symm, hb.trans (hb5.mono hb.size)⟩
   ·obtain rfl : k = n' := (by omega); have HF := uH (HY.out HK.out); obtain ⟨b1, b2⟩ := HB.out k (Nat.le_refl _); go_wp2; go_ret; exact ⟨ret_bool HF.out.symm, hb⟩
end Go.Proofs.YtbkhnljaajajiaaGreatDoor
