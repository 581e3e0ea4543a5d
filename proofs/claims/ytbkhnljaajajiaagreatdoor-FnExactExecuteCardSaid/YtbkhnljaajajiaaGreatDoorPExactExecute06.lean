/-
  Contracts and plain laws that the proof of the law ExactExecute leans on. Conditions: as each says.
-/
import Derived.Test.YtbkhnljaajajiaaGreatDoorPExactExecute00
import Derived.Test.YtbkhnljaajajiaaGreatDoorPExactExecute05
import Derived.Lib.Builder
import Derived.Lib.AppendStr
import Derived.Lib.UnsafeStr
import Derived.Lib.MakeNoZero
import Derived.Laws.Externs
import Derived.Lib.Join
namespace Go.Proofs.YtbkhnljaajajiaaGreatDoor
open Go.ChangeShapes Go.WideShapes Go.ChangeAt Go.RowKit
set_option maxRecDepth 100000
set_option linter.unusedSimpArgs false
set_option linter.unusedVariables false
def turnN (a b : Stroke) : Int := (b.dir - a.dir + 8) % 8
def cornN (a b : Stroke) : Int := min (turnN a b) (8 - turnN a b)
theorem penCorner (a b : Stroke) (ha : okS a = true) (hb : okS b = true) (w : World) : Calls Tryz.prog 267 #[.int .i64 (penN a), .int .i64 (penN b)] w fun e w' => e = .returned (.int .i64 (cornN a b)) ∧ w = w' := by
 have HA := uH (fun w => penDir a ha w); have HB := uH (fun w => penDir b hb w); obtain ⟨a1, a2, _, _⟩ := okS_iff.1 ha; obtain ⟨b1, b2, _, _⟩ := okS_iff.1 hb; have HR : Hid (cornN a b = min ((b.dir - a.dir + 8) % 8) (8 - (b.dir - a.dir + 8) % 8)) := uH rfl; generalize penN a = pa at *; generalize penN b = pb at *; clear ha hb; go_enter Tryz.func267, Tryz.ntmps267
 (go_wp2_with fail); refine (HB.out _).mono ?_; rintro e w1 ⟨rfl, rfl⟩; (go_wp2_with fail); refine (HA.out _).mono ?_; rintro e w1 ⟨rfl, rfl⟩; go_wp2; all_goals (go_ret; exact ⟨ret_int (by rw [HR.out]; omega), rfl⟩)
theorem lead_corn {a b : Stroke} : leadB a b = (cornN a b != 0 && cornN a b != 4) := by
 rw [Bool.eq_iff_iff]; unfold leadB cornN turnN; simp only [decide_eq_true_eq, Bool.and_eq_true, bne_iff_ne, ne_eq]; omega
theorem penLead (a b : Stroke) (ha : okS a = true) (hb : okS b = true) (w : World) : Calls Tryz.prog 257 #[.int .i64 (penN a), .int .i64 (penN b)] w fun e w' => e = .returned (.bool (leadB a b)) ∧ w = w' := by
 have HC := uH (fun w => penCorner a b ha hb w); have HR := uH (lead_corn (a := a) (b := b)); generalize penN a = pa at *; generalize penN b = pb at *; generalize cornN a b = c at *; clear ha hb; by_cases h0 : c = 0
 ·subst h0; go_enter Tryz.func257, Tryz.ntmps257
  (go_wp2_with fail); refine (HC.out _).mono ?_; rintro e w1 ⟨rfl, rfl⟩; go_wp2; go_ret; exact ⟨ret_bool (by rw [HR.out]; rfl), rfl⟩
 ·have f0 : (c != 0) = true := bne_iff_ne.2 h0; clear h0; go_enter Tryz.func257, Tryz.ntmps257
  (go_wp2_with fail); refine (HC.out _).mono ?_; rintro e w1 ⟨rfl, rfl⟩; go_wp2; go_ret; exact ⟨ret_bool (by rw [HR.out, f0, Bool.true_and]), rfl⟩
def ChainIn (w : World) : Value → List Stroke → Prop
 | v, [] => v = .pointer none
 | v, s :: r => ∃ b nv, v = .pointer (some ⟨b, 0, none⟩) ∧ Blk w b 280 #[.int .i64 (penN s), nv] ∧ ChainIn w nv r
theorem ChainIn.keep {w w' : World} (hb : Below w.heap.size w w') : ∀ {l : List Stroke} {v : Value}, ChainIn w v l → ChainIn w' v l
 | [], _, h => h
 | _ :: _, _, ⟨b, nv, e, hB, h⟩ => ⟨b, nv, e, hB.below hb, ChainIn.keep hb h⟩
theorem ChainIn.push {w : World} {v : Value} {l : List Stroke} (s : Stroke) (h : ChainIn w v l) : ChainIn (w.alloc (.cells #[.int .i64 (penN s), v] 280)) (.pointer (some ⟨w.heap.size, 0, none⟩)) (s :: l) :=
 ⟨w.heap.size, v, rfl, Blk.new w _ _, h.keep ((Below.refl _ _).alloc (Nat.le_refl _) _)⟩
def ChainAns (w' : World) (ss : List Stroke) (e : Ending) : Prop :=
 (outB ss = false ∧ e = .returned (.tuple #[.pointer none, .bool false])) ∨ (outB ss = true ∧ ∃ v, e = .returned (.tuple #[v, .bool true]) ∧ ChainIn w' v ss)
theorem ChainAns.no {w' : World} {ss : List Stroke} {e : Ending} (h : outB ss = false) (he : e = .returned (.tuple #[.pointer none, .bool false])) : ChainAns w' ss e := .inl ⟨h, he⟩
theorem ChainAns.yes {w' : World} {ss : List Stroke} {e : Ending} {v : Value} (h : outB ss = true) (he : e = .returned (.tuple #[v, .bool true])) (hc : ChainIn w' v ss) : ChainAns w' ss e := .inr ⟨h, v, he, hc⟩
theorem drop_step {ss : List Stroke} {k : Nat} (h : k < ss.length) : ss.drop k = strokeAt ss k :: ss.drop (k + 1) := by
 rw [List.drop_eq_getElem_cons h]; congr 1
 unfold strokeAt; rw [List.getD_eq_getElem?_getD, List.getElem?_eq_getElem h]; rfl
theorem link_no {ss : List Stroke} {k : Nat} (h : linkB (ss.drop k) = false) : outB ss = false := by
 rw [Bool.eq_false_iff]; intro h2; have := linkB_append (a := ss.take k) (b := ss.drop k) (by rw [List.take_append_drop]; exact outB_link h2); rw [this.2] at h; cases h
theorem link_step {ss : List Stroke} {k : Nat} (h : k < ss.length) : linkB (ss.drop k) = (okS (strokeAt ss k) && (if k + 1 < ss.length then leadB (strokeAt ss k) (strokeAt ss (k + 1)) else true) && linkB (ss.drop (k + 1))) := by
 rw [drop_step h]; by_cases h1 : k + 1 < ss.length
 ·rw [drop_step h1, if_pos h1]; rfl
 ·rw [List.drop_eq_nil_of_le (by omega), if_neg h1]; simp [linkB]
set_option maxHeartbeats 1000000 in
theorem chainOf (A : Option Addr) (n c : Nat) (ss : List Stroke) (w : World) (h : StrokesIn w w.heap.size A n c ss) :
  Calls Tryz.prog 236 #[.slice A n c] w fun e w' => ChainAns w' ss e ∧ Below w.heap.size w w' := by
 have hnc := h.2.1; have hm := h.2.2.1; unfold maxLen at hm; have HL := uH h.1; have H := uH h; clear h; by_cases h8 : 8 < n
 ·have HN : Hid (outB ss = false) := uH (outB_long (by rw [HL.out]; exact h8)); go_enter Tryz.func236, Tryz.ntmps236
  go_wp2; go_returns; exact ⟨.no HN.out rfl, Below.refl _ _⟩
 go_enter Tryz.func236, Tryz.ntmps236
 go_wp2; go_loopw [4, 5] (fun v i wr => ∃ k : Nat, k ≤ n ∧ i = .int .i64 ((k : Int) - 1) ∧ Hid (ChainIn wr v (ss.drop k)) ∧ Hid (linkB (ss.drop k) = true) ∧ Below w.heap.size w wr) (fun _ i _ => (intOf i + 1).toNat)
 case atStart =>
  have e : ss.drop n = [] := (by rw [← HL.out]; simp); exact ⟨n, Nat.le_refl _, rfl, uH (by rw [e]; rfl), uH (by rw [e]; rfl), Below.refl _ _⟩
 case round =>
  obtain ⟨k, hk, rfl, HC, HK, hb⟩ := hrel; by_cases hk0 : k = 0
  ·subst hk0; have HY : Hid (outB ss = true) := uH (by
    have := HK.out; rw [List.drop_zero] at this; unfold outB; rw [this, Bool.and_true, decide_eq_true_iff, HL.out]; omega)
   rw [List.drop_zero] at HC; rw [show ((0 : Nat) : Int) - 1 = -1 from rfl]; go_wp2; go_returns; exact ⟨.yes HY.out rfl HC.out, hb⟩
  ·obtain ⟨r, rfl⟩ : ∃ r, k = r + 1 := ⟨k - 1, by omega⟩; have hr : r < n := (by omega); have hrl : r < ss.length := (by rw [HL.out]; exact hr); obtain ⟨b, off, eA, hbB, q0, q1, hg⟩ := (H.out.keep hb).at_ hr; have HSt := uH (link_step hrl); have HDr := uH (drop_step hrl); rw [show ((r + 1 : Nat) : Int) - 1 = (r : Int) by omega]; subst eA; clear hk0 hk hg; have HV := uH (implStrokeValid (strokeAt ss r).dir (strokeAt ss r).size wr); cases ho : okS (strokeAt ss r) with
   | false =>
    have HN : Hid (outB ss = false) := uH (link_no (k := r) (by rw [HSt.out, ho]; rfl)); have HO : Hid (okS ⟨(strokeAt ss r).dir, (strokeAt ss r).size⟩ = false) := uH ho; clear ho; generalize strokeAt ss r = s at *; (go_wp2_with fail); refine HV.out.mono ?_; rw [HO.out]; rintro e w2 ⟨rfl, hb2⟩; have b2 := below_next hb hb2; go_wp2; go_returns; exact ⟨.no HN.out rfl, b2⟩
   | true =>
    have HO : Hid (okS ⟨(strokeAt ss r).dir, (strokeAt ss r).size⟩ = true) := uH ho; have HPn := uH (fun w => penOf (strokeAt ss r) ho w); by_cases hl : r + 1 < n
    ·have hrl1 : r + 1 < ss.length := (by rw [HL.out]; exact hl); have hC := HC.out; rw [drop_step hrl1] at hC; obtain ⟨g, nv, rfl, hB, hC2⟩ := hC; have ho1 : okS (strokeAt ss (r + 1)) = true := linkB_ok HK.out (by rw [drop_step hrl1]; simp); have HLd := uH (fun w => penLead (strokeAt ss r) (strokeAt ss (r + 1)) ho ho1 w); have HB := uH hB; have hst := HSt.out; rw [ho, if_pos hrl1, HK.out, Bool.true_and, Bool.and_true] at hst; have HSt2 := uH hst; clear hC2 hB ho ho1 hst HSt hrl hrl1; generalize strokeAt ss r = s at *; generalize strokeAt ss (r + 1) = s1 at *; cases hld : leadB s s1 with
     | false =>
      have HN : Hid (outB ss = false) := uH (link_no (k := r) (by rw [HSt2.out]; exact hld)); rw [hld] at HLd; clear hld HSt2; (go_wp2_with fail); refine HV.out.mono ?_; rw [HO.out]; rintro e w2 ⟨rfl, hb2⟩; have b2 := below_next hb hb2; have x0 := kcell hb2 q0; have x1 := kcell hb2 q1; have hB2 := HB.out.below hb2; clear hb2 q0 q1; (go_wp2_with fail); refine (HPn.out _).mono ?_; rintro e w3 ⟨rfl, hb3⟩; have b3 := below_next b2 hb3; obtain ⟨y0, y1, _, _⟩ := (hB2.below hb3).two; clear hb3 x0 x1 hB2; (go_wp2_with fail); refine (HLd.out _).mono ?_; rintro e w4 ⟨rfl, rfl⟩; go_wp2; go_returns; exact ⟨.no HN.out rfl, b3⟩
     | true =>
      have HK2 : Hid (linkB (ss.drop r) = true) := uH (by rw [HSt2.out]; exact hld); rw [hld] at HLd; clear hld HSt2; (go_wp2_with fail); refine HV.out.mono ?_; rw [HO.out]; rintro e w2 ⟨rfl, hb2⟩; have b2 := below_next hb hb2; have x0 := kcell hb2 q0; have x1 := kcell hb2 q1; have hB2 := HB.out.below hb2; have HC2 := uH (HC.out.keep hb2); clear hb2 q0 q1; (go_wp2_with fail); refine (HPn.out _).mono ?_; rintro e w3 ⟨rfl, hb3⟩; have b3 := below_next b2 hb3; have HC3 := uH (HC2.out.keep hb3); obtain ⟨y0, y1, _, _⟩ := (hB2.below hb3).two; have HC4 : Hid (ChainIn (w3.alloc (.cells #[.int .i64 (penN s), .pointer (some ⟨g, 0, none⟩)] 280)) (.pointer (some ⟨w3.heap.size, 0, none⟩)) (ss.drop r)) := uH (by rw [HDr.out]; exact HC3.out.push s); have b4 := b3.alloc b3.size (.cells #[.int .i64 (penN s), .pointer (some ⟨g, 0, none⟩)] 280); clear hb3 x0 x1 hB2 HC HC2 HC3; (go_wp2_with fail); refine (HLd.out _).mono ?_; rintro e w4 ⟨rfl, rfl⟩; go_wp2; go_roundw
      case rel => exact ⟨r, by omega, rfl, HC4, HK2, b4⟩
      case measure => simp [intOf]
    ·have e : ss.drop (r + 1) = [] := List.drop_eq_nil_of_le (by rw [HL.out]; omega); rw [e] at HC; have hC := HC.out; subst hC; have HK2 : Hid (linkB (ss.drop r) = true) := uH (by rw [HSt.out, ho, if_neg (by rw [HL.out]; exact hl), e]; rfl); rw [e] at HDr; clear ho e HSt; generalize strokeAt ss r = s at *; (go_wp2_with fail); refine HV.out.mono ?_; rw [HO.out]; rintro e w2 ⟨rfl, hb2⟩; have b2 := below_next hb hb2; have x0 := kcell hb2 q0; have x1 := kcell hb2 q1; clear hb2 q0 q1; (go_wp2_with fail); refine (HPn.out _).mono ?_; rintro e w3 ⟨rfl, hb3⟩; have b3 := below_next b2 hb3; have HC4 : Hid (ChainIn (w3.alloc (.cells #[.int .i64 (penN s), .pointer none] 280)) (.pointer (some ⟨w3.heap.size, 0, none⟩)) (ss.drop r)) := uH (by rw [HDr.out]; exact ChainIn.push (w := w3) (v := .pointer none) (l := []) s rfl); have b4 := b3.alloc b3.size (.cells #[.int .i64 (penN s), .pointer none] 280); clear hb3 x0 x1 HC; go_wp2; go_roundw
     case rel => exact ⟨r, by omega, rfl, HC4, HK2, b4⟩
     case measure => simp [intOf]
theorem implOutlineValid (A : Option Addr) (n c : Nat) (ss : List Stroke) (w : World) (h : StrokesIn w w.heap.size A n c ss) :
  Calls Tryz.prog 207 #[.slice A n c] w fun e w' => e = .returned (.bool (outB ss)) ∧ Below w.heap.size w w' := by
 have HC := uH (chainOf A n c ss w h); clear h; go_enter Tryz.func207, Tryz.ntmps207
 (go_wp2_with fail); refine HC.out.mono ?_; rintro e w1 ⟨hA, b1⟩; rcases hA with ⟨ho, rfl⟩ | ⟨ho, v, rfl, _⟩
 ·have HO := uH ho; clear ho; go_wp2; go_returns; exact ⟨ret_bool HO.out.symm, b1⟩
 ·have HO := uH ho; clear ho; go_wp2; go_returns; exact ⟨ret_bool HO.out.symm, b1⟩
theorem tmod4 {x : Int} (h1 : -7 ≤ x) (h2 : x ≤ 7) : (x.tmod 4 == 0) = !decide (x % 4 ≠ 0) := by
 have : x = -7 ∨ x = -6 ∨ x = -5 ∨ x = -4 ∨ x = -3 ∨ x = -2 ∨ x = -1 ∨ x = 0 ∨ x = 1 ∨ x = 2 ∨ x = 3 ∨ x = 4 ∨ x = 5 ∨ x = 6 ∨ x = 7 := (by omega); rcases this with rfl | rfl | rfl | rfl | rfl | rfl | rfl | rfl | rfl | rfl | rfl | rfl | rfl | rfl | rfl <;> decide
theorem tmod4_bd (x : Int) : IntKind.i64.wrap (x.tmod 4) = x.tmod 4 := by
 have h1 := Int.tmod_lt_of_pos x (b := 4) (by omega); have h2 := Int.lt_tmod_of_pos x (b := 4) (by omega); exact IntWalk.i64_in _ (by omega)
set_option maxHeartbeats 1000000 in
theorem specOutlineValid (A : Option Addr) (n c : Nat) (ss : List Stroke) (w : World) (h : StrokesIn w w.heap.size A n c ss) :
  Calls Tryz.prog 202 #[.slice A n c] w fun e w' => e = .returned (.bool (outB ss)) ∧ Below w.heap.size w w' := by
 have hnc := h.2.1; have hm := h.2.2.1; unfold maxLen at hm; have HL := uH h.1; have H := uH h; clear h; go_enter Tryz.func202, Tryz.ntmps202
 go_wp2; go_loopw [3] (fun i wr => ∃ k : Nat, k ≤ n ∧ i = .int .i64 k ∧ Hid (∀ j, j < k → goodS ss j) ∧ Below w.heap.size w wr) (fun i _ => n - (intOf i).toNat)
 case atStart => exact ⟨0, Nat.zero_le _, rfl, uH (fun j hj => by omega), Below.refl _ _⟩
 case round =>
  obtain ⟨k, hk, rfl, HG, hb⟩ := hrel; by_cases hlt : k < n
  ·have hkl : k < ss.length := (by rw [HL.out]; exact hlt); obtain ⟨b, off, eA, hbB, q0, q1, hg⟩ := (H.out.keep hb).at_ hlt; have HNo := uH (fun (h : ¬ goodS ss k) => outB_no hkl h); have HNx := uH (fun (h : goodS ss k) j (hj : j < k + 1) => if e : j = k then e ▸ h else HG.out j (by omega)); have HV := uH (fun W => specStrokeValid (strokeAt ss k).dir (strokeAt ss k).size W); have hi1 : (0 : Int) ≤ (k : Int) := (by omega); have hi2 : (k : Int) < (n : Int) := (by omega); subst eA; have r0 := qcell q0; have r1 := qcell q1; cases ho : okS (strokeAt ss k) with
   | false =>
    have HN := uH (HNo.out (fun h => by rw [h.1] at ho; cases ho)); have HO : Hid (okS ⟨(strokeAt ss k).dir, (strokeAt ss k).size⟩ = false) := uH ho; rw [HO.out] at HV; clear ho hg HNo HNx HG hkl; generalize strokeAt ss k = s at *; (go_wp2_with fail); refine region_qb (by kernel_rfl) (by kernel_rfl) ?_; repeat (first | go_big_quiet_step ((go_at_call 156; exact quietB (HV.out _))) | quiet_step ((go_at_call 156; exact quietB (HV.out _))))
    refine wpQuiet_nil ?_; intro w3 hb3; have b3 := below_next hb hb3; clear r0 r1 q0 q1 hb3; go_wp2; go_returns; exact ⟨ret_bool HN.out.symm, b3⟩
   | true =>
    have HO : Hid (okS ⟨(strokeAt ss k).dir, (strokeAt ss k).size⟩ = true) := uH ho; rw [HO.out] at HV; by_cases hk0 : 0 < k
    ·obtain ⟨j, hj⟩ : ∃ j, k = j + 1 := ⟨k - 1, by omega⟩; have hj1 : j < n := (by omega); obtain ⟨b', off', eA', _, x0, x1, _⟩ := (H.out.keep hb).at_ hj1; obtain ⟨rfl, rfl⟩ : b = b' ∧ off = off' := (by simpa using eA'); have hgj := HG.out j (by omega); obtain ⟨d1, d2, _, _⟩ := okS_iff.1 ho; obtain ⟨e1, e2, _, _⟩ := okS_iff.1 hgj.1; have hl : leadB (strokeAt ss j) (strokeAt ss k) = decide (((strokeAt ss k).dir - (strokeAt ss j).dir) % 4 ≠ 0) := rfl; have ht := tmod4 (x := (strokeAt ss k).dir - (strokeAt ss j).dir) (by omega) (by omega); rw [← hl] at ht; have hw1 : IntKind.i64.wrap ((k : Int) - 1) = (j : Int) := (by rw [hj]; exact (IntWalk.i64_in _ (by omega)).trans (by omega)); have hw2 : IntKind.i64.wrap ((strokeAt ss k).dir - (strokeAt ss j).dir) = (strokeAt ss k).dir - (strokeAt ss j).dir := IntWalk.i64_in _ (by omega); have hw3 := tmod4_bd ((strokeAt ss k).dir - (strokeAt ss j).dir); have HGd : Hid (goodS ss k ↔ leadB (strokeAt ss j) (strokeAt ss k) = true) := uH ⟨fun h => by have := h.2 hk0; rwa [show k - 1 = j by omega] at this, fun h => ⟨ho, fun _ => by rw [show k - 1 = j by omega]; exact h⟩⟩; have s0 := qcell x0; have HJ := uH hj; have hj2 : (j : Int) < (n : Int) := (by omega); have hj3 : (0 : Int) ≤ (j : Int) := (by omega); clear ho hg hgj hl hj eA' HG hkl; generalize strokeAt ss k = s at *; generalize strokeAt ss j = t at *; cases hld : leadB t s with
     | false =>
      have HN := uH (HNo.out (fun h => by rw [HGd.out.1 h] at hld; cases hld)); rw [hld] at ht; clear hld HNo HNx HGd; (go_wp2_with fail); refine region_qb (by kernel_rfl) (by kernel_rfl) ?_; repeat (first | go_big_quiet_step ((go_at_call 156; exact quietB (HV.out _))) | quiet_step ((go_at_call 156; exact quietB (HV.out _))))
      refine wpQuiet_nil ?_; intro w3 hb3; have b3 := below_next hb hb3; clear r0 r1 q0 q1 s0 x0 x1 hb3 hw1 hw2 hw3 ht; go_wp2; go_returns; exact ⟨ret_bool HN.out.symm, b3⟩
     | true =>
      have HN := uH (HNx.out (HGd.out.2 hld)); rw [hld] at ht; clear hld HNo HNx HGd; (go_wp2_with fail); refine region_qb (by kernel_rfl) (by kernel_rfl) ?_; repeat (first | go_big_quiet_step ((go_at_call 156; exact quietB (HV.out _))) | quiet_step ((go_at_call 156; exact quietB (HV.out _))))
      refine wpQuiet_nil ?_; intro w3 hb3; have b3 := below_next hb hb3; clear r0 r1 q0 q1 s0 x0 x1 hb3 hw1 hw2 hw3 ht; go_wp2; go_roundw
      case rel => exact ⟨k + 1, by omega, by go_num, HN, b3⟩
      case measure => simp [intOf]; omega
    ·have HN := uH (HNx.out ⟨ho, fun h => absurd h hk0⟩); have hd0 : decide ((0 : Int) < (k : Int)) = false := decide_eq_false (by omega); clear ho hg HNo HNx HG hkl; generalize strokeAt ss k = s at *; (go_wp2_with fail); refine region_qb (by kernel_rfl) (by kernel_rfl) ?_; repeat (first | go_big_quiet_step ((go_at_call 156; exact quietB (HV.out _))) | quiet_step ((go_at_call 156; exact quietB (HV.out _))))
     refine wpQuiet_nil ?_; intro w3 hb3; have b3 := below_next hb hb3; clear r0 r1 q0 q1 hb3 hd0; go_wp2; go_roundw
     case rel => exact ⟨k + 1, by omega, by go_num, HN, b3⟩
     case measure => simp [intOf]; omega
  ·obtain rfl : n = k := (by omega); have HR : Hid (outB ss = decide ((n : Int) ≤ 8)) := uH (by
    rw [Bool.eq_iff_iff, outB_iff, decide_eq_true_iff, HL.out]; exact ⟨fun h => by omega, fun h => ⟨by omega, HG.out⟩⟩)
   go_wp2; go_returns; exact ⟨ret_bool (by rw [HR.out]), hb⟩
theorem sizeBuilder : (Tryz.prog.info? 82).map (·.size) = some 2 := by kernel_rfl
theorem infoByte : (Tryz.prog.info? 5).map (fun i => (i.zero, i.size, i.bytes)) = some (some (.int .u8 0), 1, 1) := by kernel_rfl
theorem copyCheckUsed (b : Nat) (w : World) (h0 : w.cell? ⟨b, 0, none⟩ = some (.pointer (some ⟨b, 0, none⟩))) :
  Calls Tryz.prog 109 #[.pointer (some ⟨b, 0, none⟩)] w fun e w' => e = .returned (.tuple #[]) ∧ w' = w := by
 obtain ⟨j, hj, _⟩ := Option.map_eq_some_iff.1 sizeBuilder; go_enter Tryz.func109, Tryz.ntmps109
 go_wp2; rw [Lib.run_neq_ptr_same w _ Tryz.underlying80 hj]; go_wp2
 go_end0
 exact ⟨rfl, rfl⟩
theorem copyCheckFresh (b : Nat) (w : World) (h0 : w.cell? ⟨b, 0, none⟩ = some (.pointer none)) (hsh : w.shape? b = some (82, 2)) (hfz : w.frozen? ⟨b, 0, none⟩ = false) :
  Calls Tryz.prog 109 #[.pointer (some ⟨b, 0, none⟩)] w fun e w' => e = .returned (.tuple #[]) ∧ w' = w.setCell ⟨b, 0, none⟩ (.pointer (some ⟨b, 0, none⟩)) := by
 obtain ⟨j, hj, hjs⟩ := Option.map_eq_some_iff.1 sizeBuilder; go_enter Tryz.func109, Tryz.ntmps109
 go_wp2; rw [Lib.run_to_unsafe w ⟨b, 0, none⟩ Tryz.underlying80 Tryz.underlying224 hj (by rw [hjs]; decide) hsh (Nat.zero_lt_succ 1)]; simp only [Result.andThen]; rw [Oper.upon_value]; go_wp2; rw [run_callFunc_extern Tryz.func172 (by kernel_rfl) (by kernel_rfl) (by kernel_rfl) (e := Extern.AbiNoEscape.same) (by kernel_rfl)]; rw [Lib.run_noEscape]; simp only [Result.andThen]; rw [Oper.upon_value]; go_wp2; rw [Lib.run_from_unsafe w ⟨b, 0, none⟩ Tryz.underlying224 Tryz.underlying80 hj hsh (by kernel_rfl)]; simp only [Result.andThen]; rw [Oper.upon_value]; go_wp2
 go_end0
 exact ⟨rfl, rfl⟩
theorem copyCheck (B b : Nat) (bs : List Value) (w : World) (h : Lib.IsBuilder 82 5 B b bs w) :
  Calls Tryz.prog 109 #[.pointer (some ⟨b, 0, none⟩)] w fun e w' => e = .returned (.tuple #[]) ∧ Lib.BuilderAt 82 5 B b (.pointer (some ⟨b, 0, none⟩)) bs w' ∧ Below B w w' := by
 rcases h with h | h
 ·refine (copyCheckFresh b w h.cell0 h.shape h.frozen0).mono ?_; rintro e w' ⟨rfl, rfl⟩; exact ⟨rfl, h.used _, (Below.refl B w).setCell (p := ⟨b, 0, none⟩) h.1 _⟩
 ·refine (copyCheckUsed b w h.cell0).mono ?_; rintro e w' ⟨rfl, rfl⟩; exact ⟨rfl, h, Below.refl B _⟩
set_option maxHeartbeats 1000000 in
theorem writeString (B b : Nat) (bs : List Value) (s : ByteArray) (w : World) (h : Lib.IsBuilder 82 5 B b bs w) (hlen : bs.length + s.size ≤ 140737488355328) (hBw : B ≤ w.heap.size) :
  Calls Tryz.prog 48 #[.pointer (some ⟨b, 0, none⟩), .string s] w fun e w' => e = .returned (.tuple #[.int .i64 s.size, .nilIface]) ∧ Lib.BuilderAt 82 5 B b (.pointer (some ⟨b, 0, none⟩)) (bs ++ Lib.strCells s) w' ∧ Below B w w' := by
 obtain ⟨i0, hi, hz0, hz1, hz2⟩ := info_parts infoByte; have HC := uH (copyCheck B b bs w h); clear h; go_enter Tryz.func48, Tryz.ntmps48
 (go_wp2_with fail); refine HC.out.mono ?_; rintro e w1 ⟨rfl, h1, hb1⟩; obtain ⟨hB, v, hbk, hown, hne⟩ := h1; have c0 : w1.cell? ⟨b, 0, none⟩ = some (.pointer (some ⟨b, 0, none⟩)) := (by rw [Lib.cell_of_heap hbk]; rfl); have c1 : w1.cell? ⟨b, 1, none⟩ = some v := (by rw [Lib.cell_of_heap hbk]; rfl); go_wp2_with (at_builtin; refine Lib.wpList_append_own_string _ rfl _ _ 22 9 rfl B 5 i0 Tryz.underlying22 Tryz.underlying9 hi hz0 hz1 hz2 _ _ _ rfl hown s rfl ?c3 ?c4 ?c5 ?_)
 case c3 => unfold maxLen; omega
 case c4 => omega
 case c5 => have := hb1.size; omega
 intro v' w2 hown' hgrow _; have hlt : b < w1.heap.size := Blk.lt (w := w1) (t := 82) hbk; have hb2 : w2.heap[b]? = some (.cells #[.pointer (some ⟨b, 0, none⟩), v] 82 (0, 0)) := by
  rw [hgrow.block b hlt (fun e => hne e.symm)]; exact hbk
 have d0 : w2.cell? ⟨b, 0, none⟩ = some (.pointer (some ⟨b, 0, none⟩)) := (by rw [Lib.cell_of_heap hb2]; rfl); have d1 : w2.cell? ⟨b, 1, none⟩ = some v := (by rw [Lib.cell_of_heap hb2]; rfl); have f1 : w2.frozen? ⟨b, 1, none⟩ = false := Lib.frozen_of_heap hb2 1; obtain ⟨ao, n', cap, rfl⟩ : ∃ ao n' cap, v' = .slice ao n' cap := by
  rcases hown'.2 with ⟨hv, _⟩ | ⟨g, cap, cur, hv, _⟩
  ·exact ⟨_, _, _, hv⟩
  ·exact ⟨_, _, _, hv⟩
 have HO := uH hown'; clear hown'; go_wp2
 go_ret2
 refine ⟨rfl, ?_, ?_⟩
 ·exact Lib.BuilderAt.put (T := 82) (e := 5) hB hb2 (bs' := bs ++ Lib.strCells s) (by simpa [Lib.strCells_length] using HO.out) (by decide)
 ·exact (hb1.grown hgrow (by have := hb1.size; omega) (fun k hk => (hown.lt k hk).1)).setCell (p := ⟨b, 1, none⟩) hB _
theorem IsBuilder.keep {T e : TypeId} {B b : Nat} {bs : List Value} {w w' : World} (h : Lib.IsBuilder T e B b bs w) (hb : Below w.heap.size w w') : Lib.IsBuilder T e B b bs w' := by
 have key : ∀ p, Lib.BuilderAt T e B b p bs w → Lib.BuilderAt T e B b p bs w' := fun p ⟨hB, v, hk, ho, hne⟩ => by
  refine ⟨hB, v, ?_, ⟨ho.1, ?_⟩, hne⟩
  ·exact (hb.block b (Blk.lt (w := w) (t := T) hk)).trans hk
  ·rcases ho.2 with h2 | ⟨g, cap, cur, rfl, h1, h2, h3⟩
   ·exact .inl h2
   ·exact .inr ⟨g, cap, cur, rfl, h1, (hb.block g (Blk.lt (w := w) (t := e) h2)).trans h2, h3⟩
 rcases h with h | h
 ·exact .inl (key _ h)
 ·exact .inr (key _ h)
theorem IsBuilder.new (w : World) : Lib.IsBuilder 82 5 w.heap.size w.heap.size (Lib.byteCells []) (w.alloc (.cells #[.pointer none, .slice none 0 0] 82)) :=
 .inl ⟨Nat.le_refl _, .slice none 0 0, Blk.new w _ _, World.ownsRow_nil _ _ _ _, by simp [Value.ownBlock]⟩
theorem strCells_mk (l : List UInt8) : Lib.strCells (mkStr l) = Lib.byteCells l := rfl
theorem ret_str {a b : List UInt8} (h : a = b) : Ending.returned (.string (mkStr a)) = .returned (.string (mkStr b)) := by rw [h]
theorem text_step {ss : List Stroke} {k : Nat} (h : k < ss.length) : textS (ss.take (k + 1)) = textS (ss.take k) ++ sText (strokeAt ss k) := by
 unfold textS; rw [List.take_succ_eq_append_getElem h, List.flatMap_append]; have e : ss[k] = strokeAt ss k := (by unfold strokeAt; rw [List.getD_eq_getElem?_getD, List.getElem?_eq_getElem h]; rfl); rw [e]; simp
set_option maxHeartbeats 1000000 in
theorem specOutlineText (A : Option Addr) (n c : Nat) (ss : List Stroke) (w : World) (h : StrokesIn w w.heap.size A n c ss) :
  Calls Tryz.prog 265 #[.slice A n c] w fun e w' => e = .returned (.string (mkStr (outText ss))) ∧ Below w.heap.size w w' := by
 have hnc := h.2.1; have hm := h.2.2.1; unfold maxLen at hm; have HL := uH h.1; have H := uH h; clear h; have HV : Hid (∀ W, Below w.heap.size w W → Calls Tryz.prog 202 #[.slice A n c] W fun e w' => e = .returned (.bool (outB ss)) ∧ Below W.heap.size W w') := uH (fun W hW => specOutlineValid A n c ss W (H.out.keep hW)); cases ho : outB ss with
 | false =>
  have HR := uH (outText_no ho); rw [ho] at HV; clear ho; go_enter Tryz.func265, Tryz.ntmps265
  go_wp2; go_loopw [3, 4] (fun t i wr => t = .string (mkStr []) ∧ i = .int .i64 0 ∧ Below w.heap.size w wr) (fun _ _ _ => 0)
  case atStart => exact ⟨rfl, rfl, Below.refl _ _⟩
  case round =>
   obtain ⟨rfl, rfl, hb⟩ := hrel; by_cases hlt : 0 < n
   ·(go_wp2_with fail); refine (HV.out _ hb).mono ?_; rintro e w1 ⟨rfl, hb1⟩; have b1 := below_next hb hb1; go_wp2; go_returns; exact ⟨ret_str HR.out.symm, b1⟩
   ·obtain rfl : n = 0 := (by omega); go_wp2; go_returns; exact ⟨ret_str HR.out.symm, hb⟩
 | true =>
  have HR := uH (outText_yes ho); have HO := uH ho; have h8 := outB_len ho; rw [HL.out] at h8; rw [ho] at HV; clear ho; go_enter Tryz.func265, Tryz.ntmps265
  go_wp2; go_loopw [3, 4] (fun t i wr => ∃ k : Nat, k ≤ n ∧ i = .int .i64 k ∧ t = .string (mkStr (textS (ss.take k))) ∧ Below w.heap.size w wr) (fun _ i _ => n - (intOf i).toNat)
  case atStart => exact ⟨0, Nat.zero_le _, rfl, rfl, Below.refl _ _⟩
  case round =>
   obtain ⟨k, hk, rfl, rfl, hb⟩ := hrel; by_cases hlt : k < n
   ·have hkl : k < ss.length := (by rw [HL.out]; exact hlt); have HTx := uH (text_step hkl); have hA : ∀ W, (Op.stringOp .add (mkStr (textS (ss.take k))) (mkStr (sText (strokeAt ss k)))).run Tryz.prog W = .ok (.string (mkStr (textS (ss.take k) ++ sText (strokeAt ss k)))) W := fun W => run_add _ _ (by rw [textS_len, List.length_take, sText_len]; omega) W; have HS := uH (fun W => specStrokeText (strokeAt ss k) W); rw [if_pos (outB_ok HO.out (strokeAt_mem hkl))] at HS; rw [← HTx.out] at hA; clear hkl; (go_wp2_with fail); refine (HV.out _ hb).mono ?_; rintro e w1 ⟨rfl, hb1⟩; have b1 := below_next hb hb1; obtain ⟨b, off, eA, hbB, q0, q1, hg⟩ := (H.out.keep b1).at_ hlt; subst eA; clear hb1 hg; generalize strokeAt ss k = s at *; generalize sText s = st at *; generalize textS (ss.take k) = tx at *; (go_wp2_with fail); refine (HS.out _).mono ?_; rintro e w2 ⟨rfl, hb2⟩; have b2 := below_next b1 hb2; clear hb2 q0 q1; go_wp2; go_roundw
    case rel => exact ⟨k + 1, by omega, by go_num, rfl, b2⟩
    case measure => simp [intOf]; omega
   ·have e : ss.take k = ss := List.take_of_length_le (by rw [HL.out]; omega); have HE : Hid (textS (ss.take k) = outText ss) := uH (by rw [e, HR.out]); clear e; go_wp2; go_returns; exact ⟨ret_str HE.out, hb⟩
set_option maxHeartbeats 1000000 in
theorem implOutlineText (A : Option Addr) (n c : Nat) (ss : List Stroke) (w : World) (h : StrokesIn w w.heap.size A n c ss) :
  Calls Tryz.prog 237 #[.slice A n c] w fun e w' => e = .returned (.string (mkStr (outText ss))) ∧ Below w.heap.size w w' := by
 have hnc := h.2.1; have hm := h.2.2.1; unfold maxLen at hm; have HL := uH h.1; have HC := uH (chainOf A n c ss w h); clear h; go_enter Tryz.func237, Tryz.ntmps237
 (go_wp2_with fail); refine HC.out.mono ?_; rintro e w1 ⟨hA, b1⟩; rcases hA with ⟨ho, rfl⟩ | ⟨ho, v, rfl, hCh⟩
 ·have HR := uH (outText_no ho); clear ho; go_wp2; go_returns; exact ⟨ret_str (a := []) HR.out.symm, b1⟩
 ·have HR := uH (outText_yes ho); have HO := uH ho; have h8 := outB_len ho; rw [HL.out] at h8; have HCh := uH hCh; have HBu := uH (IsBuilder.new w1); clear ho hCh; go_wp2
  go_loopg [6] n (fun g v wr => ∃ k : Nat, k ≤ n ∧ g = n - k ∧ Hid (ChainIn w1 v (ss.drop k)) ∧ Hid (Lib.IsBuilder 82 5 w1.heap.size w1.heap.size (Lib.byteCells (textS (ss.take k))) wr) ∧ Below w1.heap.size w1 wr)
  case atStart => exact ⟨0, Nat.zero_le _, rfl, HCh, HBu, (Below.refl _ _).alloc (Nat.le_refl _) _⟩
  case round =>
   obtain ⟨k, hk, rfl, HC, HB, hb⟩ := hrel; have b2 := below_next b1 hb; have hz := hb.size; by_cases hlt : k < n
   ·have hkl : k < ss.length := (by rw [HL.out]; exact hlt); have hC := HC.out; rw [drop_step hkl] at hC; obtain ⟨b, nv, rfl, hBk, hC2⟩ := hC; have hok := outB_ok HO.out (strokeAt_mem hkl); have HT := uH (fun w => penText (strokeAt ss k) hok w); have HTx := uH (text_step hkl); have hbw := hBk.lt; obtain ⟨y0, y1, _, _⟩ := (show Blk wr b 280 _ from (hb.block b hbw).trans hBk).two; have HC2 := uH hC2; have htl : (textS (ss.take k)).length ≤ 16 := (by rw [textS_len, List.length_take]; omega); clear hC2 hok hkl; have hBk := uH hBk; generalize strokeAt ss k = s at *; generalize textS (ss.take k) = tx at *; (go_wp2_with fail); refine (HT.out _).mono ?_; rintro e w3 ⟨rfl, hb3⟩; have b3 := hb.trans (hb3.mono hz); have HB3 := uH (IsBuilder.keep HB.out hb3); have HW := uH (writeString w1.heap.size w1.heap.size _ (mkStr (sText s)) w3 HB3.out (by rw [Lib.byteCells_length, mkStr_size, sText_len]; omega) b3.size); clear y0 y1 hb3 HB; (go_wp2_with fail); refine HW.out.mono ?_; rintro e w4 ⟨rfl, hB4, hb4⟩; have b4 := b3.trans hb4; obtain ⟨y0, y1, _, _⟩ := (show Blk w4 b 280 _ from (b4.block b hbw).trans hBk.out).two; have HB4 : Hid (Lib.IsBuilder 82 5 w1.heap.size w1.heap.size (Lib.byteCells (textS (ss.take (k + 1)))) w4) := uH (by
     rw [HTx.out, show Lib.byteCells (tx ++ sText s) = Lib.byteCells tx ++ Lib.strCells (mkStr (sText s)) by rw [strCells_mk]; unfold Lib.byteCells; rw [List.map_append]]; exact .inr hB4)
    clear hB4 hb4 HB3 HW; go_wp2
    go_roundg (n - (k + 1))
    case rel => exact ⟨k + 1, by omega, rfl, HC2, HB4, b4⟩
    case measure => omega
   ·have e : ss.drop k = [] := List.drop_eq_nil_of_le (by rw [HL.out]; omega); have e2 : ss.take k = ss := List.take_of_length_le (by rw [HL.out]; omega); rw [e] at HC; rw [e2] at HB; have hC := HC.out; subst hC; have HS := uH (Tryz.Builder_String_any w1.heap.size w1.heap.size (textS ss) wr HB.out hz); clear e e2 HB; (go_wp2_with fail); refine HS.out.mono ?_; rintro e w3 ⟨rfl, hb3⟩; have b3 := b1.trans ((hb.trans hb3).mono b1.size); go_wp2; go_returns; exact ⟨ret_str HR.out.symm, b3⟩
def wrB (ss : List Stroke) (p : Int) : Bool := outB ss && decide (0 ≤ p ∧ p ≤ 2)
def markL (p : Int) : UInt8 := if p = 0 then 94 else if p = 1 then 45 else 95
def wrText (ss : List Stroke) (p : Int) : List UInt8 := if wrB ss p = true then markL p :: outText ss else []
theorem wrText_yes {ss : List Stroke} {p : Int} (h : wrB ss p = true) : wrText ss p = markL p :: outText ss := if_pos h
theorem wrText_no {ss : List Stroke} {p : Int} (h : wrB ss p = false) : wrText ss p = [] := if_neg (by rw [h]; simp)
theorem wrB_iff {ss : List Stroke} {p : Int} : wrB ss p = true ↔ outB ss = true ∧ 0 ≤ p ∧ p ≤ 2 := by unfold wrB; rw [Bool.and_eq_true, decide_eq_true_iff]
theorem outText_len (ss : List Stroke) : (outText ss).length ≤ 16 := by
 cases h : outB ss with
 | false => rw [outText_no h]; simp
 | true => rw [outText_yes h, textS_len]; have := outB_len h; omega
theorem specWrittenValid (A : Option Addr) (n c : Nat) (ss : List Stroke) (p : Int) (w : World) (h : StrokesIn w w.heap.size A n c ss) :
  Calls Tryz.prog 264 #[.agg #[.slice A n c, .int .i64 p]] w fun e w' => e = .returned (.bool (wrB ss p)) ∧ Below w.heap.size w w' := by
 have hal : Below w.heap.size w (w.alloc (.cells #[.slice A n c, .int .i64 p] 140)) := (Below.refl _ _).alloc (Nat.le_refl _) _; have HO := uH (specOutlineValid A n c ss _ (h.keep hal)); have HR : Hid (wrB ss p = (outB ss && decide (0 ≤ p ∧ p ≤ 2))) := uH rfl; have p0 := newcell w #[.slice A n c, .int .i64 p] 140 0 _ rfl; have p1 := newcell w #[.slice A n c, .int .i64 p] 140 1 _ rfl; clear h; generalize outB ss = o at *; cases o with
 | false =>
  go_enter Tryz.func264, Tryz.ntmps264
  (go_wp2_with fail); refine HO.out.mono ?_; rintro e w1 ⟨rfl, hb1⟩; have b1 := below_next hal hb1; go_wp2; go_returns; exact ⟨ret_bool (by rw [HR.out]; rfl), b1⟩
 | true =>
  go_enter Tryz.func264, Tryz.ntmps264
  (go_wp2_with fail); refine HO.out.mono ?_; rintro e w1 ⟨rfl, hb1⟩; have b1 := below_next hal hb1; have q0 := kcell hb1 p0; have q1 := kcell hb1 p1; clear hb1 p0 p1; (go_wp2_with fail); refine (l6In_any _ _ _ _).mono ?_; rintro e w2 ⟨rfl, rfl⟩; go_wp2; go_returns; exact ⟨ret_bool (by rw [HR.out, Bool.true_and, Bool.decide_and]), b1⟩
theorem implWrittenValid (A : Option Addr) (n c : Nat) (ss : List Stroke) (p : Int) (w : World) (h : StrokesIn w w.heap.size A n c ss) :
  Calls Tryz.prog 160 #[.agg #[.slice A n c, .int .i64 p]] w fun e w' => e = .returned (.bool (wrB ss p)) ∧ Below w.heap.size w w' := by
 have hal : Below w.heap.size w (w.alloc (.cells #[.slice A n c, .int .i64 p] 140)) := (Below.refl _ _).alloc (Nat.le_refl _) _; have HO := uH (implOutlineValid A n c ss _ (h.keep hal)); have HR : Hid (wrB ss p = (outB ss && decide (0 ≤ p ∧ p ≤ 2))) := uH rfl; have p0 := newcell w #[.slice A n c, .int .i64 p] 140 0 _ rfl; have p1 := newcell w #[.slice A n c, .int .i64 p] 140 1 _ rfl; clear h; generalize outB ss = o at *; cases o with
 | false =>
  go_enter Tryz.func160, Tryz.ntmps160
  (go_wp2_with fail); refine HO.out.mono ?_; rintro e w1 ⟨rfl, hb1⟩; have b1 := below_next hal hb1; go_wp2; go_returns; exact ⟨ret_bool (by rw [HR.out]; rfl), b1⟩
 | true =>
  by_cases h0 : 0 ≤ p
  ·by_cases h2 : p ≤ 2
   ·go_enter Tryz.func160, Tryz.ntmps160
    (go_wp2_with fail); refine HO.out.mono ?_; rintro e w1 ⟨rfl, hb1⟩; have b1 := below_next hal hb1; have q0 := kcell hb1 p0; have q1 := kcell hb1 p1; clear hb1 p0 p1; go_wp2; go_returns; exact ⟨ret_bool (by rw [HR.out, Bool.true_and, decide_eq_true (show 0 ≤ p ∧ p ≤ 2 from ⟨h0, h2⟩)]; first | rfl | (apply decide_eq_true; omega)), b1⟩
   ·go_enter Tryz.func160, Tryz.ntmps160
    (go_wp2_with fail); refine HO.out.mono ?_; rintro e w1 ⟨rfl, hb1⟩; have b1 := below_next hal hb1; have q0 := kcell hb1 p0; have q1 := kcell hb1 p1; clear hb1 p0 p1; go_wp2; go_returns; exact ⟨ret_bool (by first | (rw [HR.out, Bool.true_and, decide_eq_false (show ¬ (0 ≤ p ∧ p ≤ 2) by omega)]; done) | (rw [HR.out, Bool.true_and, decide_eq_false (show ¬ (0 ≤ p ∧ p ≤ 2) by omega)]; apply decide_eq_false; omega)), b1⟩
  ·go_enter Tryz.func160, Tryz.ntmps160
   (go_wp2_with fail); refine HO.out.mono ?_; rintro e w1 ⟨rfl, hb1⟩; have b1 := below_next hal hb1; have q0 := kcell hb1 p0; have q1 := kcell hb1 p1; clear hb1 p0 p1; go_wp2; go_returns; exact ⟨ret_bool (by first | (rw [HR.out, Bool.true_and, decide_eq_false (show ¬ (0 ≤ p ∧ p ≤ 2) by omega)]; done) | (rw [HR.out, Bool.true_and, decide_eq_false (show ¬ (0 ≤ p ∧ p ≤ 2) by omega)]; apply decide_eq_false; omega)), b1⟩
theorem drawnText (A : Option Addr) (n c : Nat) (ss : List Stroke) (w : World) (h : StrokesIn w w.heap.size A n c ss) :
  Calls Tryz.prog 208 #[.agg #[.slice A n c]] w fun e w' => e = .returned (.string (mkStr (outText ss))) ∧ Below w.heap.size w w' := by
 have hal : Below w.heap.size w (w.alloc (.cells #[.slice A n c] 216)) := (Below.refl _ _).alloc (Nat.le_refl _) _; have HO := uH (implOutlineText A n c ss _ (h.keep hal)); clear h; go_enter Tryz.func208, Tryz.ntmps208
 (go_wp2_with fail); refine HO.out.mono ?_; rintro e w1 ⟨rfl, hb1⟩; have b1 := below_next hal hb1; go_wp2; go_returns; exact ⟨rfl, b1⟩
theorem marks_cut : (⟨#[94, 45, 95]⟩ : ByteArray).extract 0 1 = mkStr [markL 0] ∧ (⟨#[94, 45, 95]⟩ : ByteArray).extract 1 2 = mkStr [markL 1] ∧ (⟨#[94, 45, 95]⟩ : ByteArray).extract 2 3 = mkStr [markL 2] := ⟨rfl, rfl, rfl⟩
theorem formText (A : Option Addr) (n c : Nat) (ss : List Stroke) (p : Int) (w : World) (h0 : 0 ≤ p) (h2 : p ≤ 2) (h : StrokesIn w w.heap.size A n c ss) :
  Calls Tryz.prog 162 #[.agg #[.slice A n c, .int .i64 p]] w fun e w' => e = .returned (.string (mkStr (markL p :: outText ss))) ∧ Below w.heap.size w w' := by
 have hal : Below w.heap.size w (w.alloc (.cells #[.slice A n c, .int .i64 p] 218)) := (Below.refl _ _).alloc (Nat.le_refl _) _; have HD : Hid (∀ W, Below w.heap.size w W → Calls Tryz.prog 208 #[.agg #[.slice A n c]] W fun e w' => e = .returned (.string (mkStr (outText ss))) ∧ Below W.heap.size W w') := uH (fun W hW => drawnText A n c ss W (h.keep hW)); have hl := outText_len ss; have hA : ∀ W, (Op.stringOp .add (mkStr [markL p]) (mkStr (outText ss))).run Tryz.prog W = .ok (.string (mkStr (markL p :: outText ss))) W := fun W => run_add _ _ (by simp; omega) W; have p0 := newcell w #[.slice A n c, .int .i64 p] 218 0 _ rfl; have p1 := newcell w #[.slice A n c, .int .i64 p] 218 1 _ rfl; have r0 := qcell p0; have r1 := qcell p1; clear h hl; generalize outText ss = t at *; obtain ⟨x1, x2, x3⟩ := marks_cut; have e1 : IntKind.i64.wrap 1 = 1 := rfl; have e2 : IntKind.i64.wrap 2 = 2 := rfl; have e3 : IntKind.i64.wrap 3 = 3 := rfl; have hp : p = 0 ∨ p = 1 ∨ p = 2 := (by omega); rcases hp with rfl | rfl | rfl
 all_goals (
  go_enter Tryz.func162, Tryz.ntmps162
  (go_wp2_with fail); refine region_qb (by kernel_rfl) (by kernel_rfl) ?_; repeat (first | go_big_quiet_step ((go_at_call 208; exact quietB (HD.out _ (hal.trans ((below_regrown _ _ _).mono (by simp)))))) | quiet_step ((go_at_call 208; exact quietB (HD.out _ (hal.trans ((below_regrown _ _ _).mono (by simp)))))))
  refine wpQuiet_nil ?_; intro w3 hb3; have b3 := below_next hal hb3; clear r0 r1 p0 p1 hb3; go_wp2; go_returns; exact ⟨rfl, b3⟩)
theorem formOf (A : Option Addr) (n c : Nat) (p : Int) (w : World) :
  Calls Tryz.prog 161 #[.agg #[.slice A n c, .int .i64 p]] w fun e w' => e = .returned (.agg #[.slice A n c, .int .i64 p]) ∧ Below w.heap.size w w' := by
 go_enter Tryz.func161, Tryz.ntmps161
 go_wp2; go_returns; exact ⟨rfl, by go_grown⟩
theorem implWrittenText (A : Option Addr) (n c : Nat) (ss : List Stroke) (p : Int) (w : World) (h : StrokesIn w w.heap.size A n c ss) :
  Calls Tryz.prog 95 #[.agg #[.slice A n c, .int .i64 p]] w fun e w' => e = .returned (.string (mkStr (wrText ss p))) ∧ Below w.heap.size w w' := by
 have hal : Below w.heap.size w (w.alloc (.cells #[.slice A n c, .int .i64 p] 140)) := (Below.refl _ _).alloc (Nat.le_refl _) _; have H : Hid (∀ W, Below w.heap.size w W → StrokesIn W W.heap.size A n c ss) := uH (fun W hW => h.keep hW); have HV := uH (implWrittenValid A n c ss p _ (h.keep hal)); have p0 := newcell w #[.slice A n c, .int .i64 p] 140 0 _ rfl; have p1 := newcell w #[.slice A n c, .int .i64 p] 140 1 _ rfl; clear h; cases hv : wrB ss p with
 | false =>
  have HR := uH (wrText_no hv); rw [hv] at HV; clear hv; go_enter Tryz.func95, Tryz.ntmps95
  (go_wp2_with fail); refine HV.out.mono ?_; rintro e w1 ⟨rfl, hb1⟩; have b1 := below_next hal hb1; go_wp2; go_returns; exact ⟨ret_str (a := []) HR.out.symm, b1⟩
 | true =>
  have HR := uH (wrText_yes hv); obtain ⟨_, h0, h2⟩ := wrB_iff.1 hv; rw [hv] at HV; clear hv; go_enter Tryz.func95, Tryz.ntmps95
  (go_wp2_with fail); refine HV.out.mono ?_; rintro e w1 ⟨rfl, hb1⟩; have b1 := below_next hal hb1; have q0 := kcell hb1 p0; have q1 := kcell hb1 p1; clear hb1 p0 p1; (go_wp2_with fail); refine (formOf A n c p _).mono ?_; rintro e w2 ⟨rfl, hb2⟩; have b2 := below_next b1 hb2; have HF := uH (formText A n c ss p w2 h0 h2 (H.out w2 b2)); clear hb2 q0 q1; (go_wp2_with fail); refine HF.out.mono ?_; rintro e w3 ⟨rfl, hb3⟩; have b3 := below_next b2 hb3; go_wp2; go_returns; exact ⟨ret_str HR.out.symm, b3⟩
theorem specWrittenText (A : Option Addr) (n c : Nat) (ss : List Stroke) (p : Int) (w : World) (h : StrokesIn w w.heap.size A n c ss) :
  Calls Tryz.prog 253 #[.agg #[.slice A n c, .int .i64 p]] w fun e w' => e = .returned (.string (mkStr (wrText ss p))) ∧ Below w.heap.size w w' := by
 have hal : Below w.heap.size w (w.alloc (.cells #[.slice A n c, .int .i64 p] 140)) := (Below.refl _ _).alloc (Nat.le_refl _) _; have HO : Hid (∀ W, Below w.heap.size w W → Calls Tryz.prog 265 #[.slice A n c] W fun e w' => e = .returned (.string (mkStr (outText ss))) ∧ Below W.heap.size W w') := uH (fun W hW => specOutlineText A n c ss W (h.keep hW)); have HV := uH (specWrittenValid A n c ss p _ (h.keep hal)); have p0 := newcell w #[.slice A n c, .int .i64 p] 140 0 _ rfl; have p1 := newcell w #[.slice A n c, .int .i64 p] 140 1 _ rfl; clear h; cases hv : wrB ss p with
 | false =>
  have HR := uH (wrText_no hv); rw [hv] at HV; clear hv; go_enter Tryz.func253, Tryz.ntmps253
  (go_wp2_with fail); refine HV.out.mono ?_; rintro e w1 ⟨rfl, hb1⟩; have b1 := below_next hal hb1; go_wp2; go_returns; exact ⟨ret_str (a := []) HR.out.symm, b1⟩
 | true =>
  have HR := uH (wrText_yes hv); obtain ⟨_, h0, h2⟩ := wrB_iff.1 hv; rw [hv] at HV; clear hv; have hl := outText_len ss; have hA : ∀ W, (Op.stringOp .add (mkStr [markL p]) (mkStr (outText ss))).run Tryz.prog W = .ok (.string (mkStr (markL p :: outText ss))) W := fun W => run_add _ _ (by simp; omega) W; clear hl; obtain ⟨x1, x2, x3⟩ := marks_cut; have e1 : IntKind.i64.wrap 1 = 1 := rfl; have e2 : IntKind.i64.wrap 2 = 2 := rfl; have e3 : IntKind.i64.wrap 3 = 3 := rfl; have hp : p = 0 ∨ p = 1 ∨ p = 2 := (by omega); rw [← HR.out] at hA; generalize wrText ss p = tt at *; generalize outText ss = t at *; rcases hp with rfl | rfl | rfl
  all_goals (
   go_enter Tryz.func253, Tryz.ntmps253
   (go_wp2_with fail); refine HV.out.mono ?_; rintro e w1 ⟨rfl, hb1⟩; have b1 := below_next hal hb1; have q0 := kcell hb1 p0; have q1 := kcell hb1 p1; have r0 := qcell q0; have r1 := qcell q1; clear hb1 p0 p1; (go_wp2_with fail); refine region_qb (by kernel_rfl) (by kernel_rfl) ?_; repeat (first | go_big_quiet_step ((go_at_call 265; exact quietB (HO.out _ (below_next b1 (below_regrown _ _ _))))) | quiet_step ((go_at_call 265; exact quietB (HO.out _ (below_next b1 (below_regrown _ _ _))))))
   refine wpQuiet_nil ?_; intro w3 hb3; have b3 := below_next b1 hb3; clear r0 r1 q0 q1 hb3; go_wp2; go_returns; exact ⟨rfl, b3⟩)
abbrev Dat := List Stroke × Int
def Wr.dat (x : Wr) : Dat := (x.ss, x.pos)
def datB (d : Dat) : Bool := wrB d.1 d.2
def datT (d : Dat) : List UInt8 := wrText d.1 d.2
def lineB (L : List Dat) : Bool := decide (L.length ≤ 20) && L.all datB
def lineT (L : List Dat) : List UInt8 := Lib.join (L.map datT) [32]
def lineText (L : List Dat) : List UInt8 := if lineB L = true then lineT L else []
theorem lineText_yes {L : List Dat} (h : lineB L = true) : lineText L = lineT L := if_pos h
theorem lineText_no {L : List Dat} (h : lineB L = false) : lineText L = [] := if_neg (by rw [h]; simp)
theorem lineB_iff {L : List Dat} : lineB L = true ↔ L.length ≤ 20 ∧ ∀ d ∈ L, datB d = true := by unfold lineB; rw [Bool.and_eq_true, decide_eq_true_iff, List.all_eq_true]
theorem lineB_no {L : List Dat} {d : Dat} (hd : d ∈ L) (h : datB d = false) : lineB L = false := by
 rw [Bool.eq_false_iff]; intro h2; rw [(lineB_iff.1 h2).2 d hd] at h; cases h
theorem lineB_long {L : List Dat} (h : 20 < L.length) : lineB L = false := by
 rw [Bool.eq_false_iff]; intro h2; have := (lineB_iff.1 h2).1; omega
theorem datT_len (d : Dat) : (datT d).length ≤ 17 := by
 unfold datT; cases h : wrB d.1 d.2 with
 | false => rw [wrText_no h]; simp
 | true => rw [wrText_yes h, List.length_cons]; have := outText_len d.1; omega
theorem join_snoc (L : List (List UInt8)) (y sep : List UInt8) (h : 0 < L.length) : Lib.join (L ++ [y]) sep = Lib.join L sep ++ (sep ++ y) := by
 cases L with
 | nil => simp at h
 | cons x r =>
  rw [List.cons_append, Lib.join_cons, Lib.join_cons]; unfold Lib.joinTail; simp
theorem lineT_len : ∀ L : List Dat, (lineT L).length ≤ 18 * L.length := by
 intro L; unfold lineT; cases L with
 | nil => simp [Lib.join_nil]
 | cons x r =>
  rw [List.map_cons, Lib.join_cons, List.length_append]; have h1 := datT_len x; have h2 : (Lib.joinTail [32] (r.map datT)).length ≤ 18 * r.length := by
   unfold Lib.joinTail; induction r with
   | nil => simp
   | cons y r ih =>
    have := datT_len y; simp only [List.map_cons, List.flatten_cons, List.length_append, List.length_cons, List.length_nil] at ih ⊢; omega
  rw [List.length_cons]; omega
theorem lineT_step {xs : List Wr} {k : Nat} (h : k < xs.length) (h0 : 0 < k) : lineT ((xs.take (k + 1)).map Wr.dat) = lineT ((xs.take k).map Wr.dat) ++ ([32] ++ datT (wrAt xs k).dat) := by
 unfold lineT; have e : xs.take (k + 1) = xs.take k ++ [wrAt xs k] := by
  rw [List.take_succ_eq_append_getElem h]; have : xs[k] = wrAt xs k := (by unfold wrAt; rw [List.getD_eq_getElem?_getD, List.getElem?_eq_getElem h]; rfl); rw [this]
 rw [e, List.map_append, List.map_append]; exact join_snoc _ _ _ (by rw [List.length_map, List.length_map, List.length_take]; omega)
theorem lineT_first {xs : List Wr} (h : 0 < xs.length) : lineT ((xs.take 1).map Wr.dat) = datT (wrAt xs 0).dat := by
 cases xs with
 | nil => simp at h
 | cons x r => unfold lineT; rw [List.take_succ_cons, List.take_zero]; exact Lib.join_one _ _
theorem dat_mem {xs : List Wr} {k : Nat} (h : k < xs.length) : (wrAt xs k).dat ∈ xs.map Wr.dat := List.mem_map_of_mem (wrAt_mem h)
def lineK (xs : List Wr) (k : Nat) : List UInt8 := lineT ((xs.take k).map Wr.dat)
theorem lineK_zero (xs : List Wr) : lineK xs 0 = [] := rfl
theorem lineK_len (xs : List Wr) (k : Nat) : (lineK xs k).length ≤ 18 * k := by
 have h := lineT_len ((xs.take k).map Wr.dat); rw [List.length_map, List.length_take] at h; unfold lineK; omega
theorem lineK_step {xs : List Wr} {k : Nat} (h : k < xs.length) (h0 : 0 < k) : lineK xs (k + 1) = lineK xs k ++ ([32] ++ datT (wrAt xs k).dat) := lineT_step h h0
theorem lineK_first {xs : List Wr} (h : 0 < xs.length) : lineK xs 1 = datT (wrAt xs 0).dat := lineT_first h
theorem lineK_all (xs : List Wr) {k : Nat} (h : xs.length ≤ k) : lineK xs k = lineT (xs.map Wr.dat) := by unfold lineK; rw [List.take_of_length_le h]
end Go.Proofs.YtbkhnljaajajiaaGreatDoor
