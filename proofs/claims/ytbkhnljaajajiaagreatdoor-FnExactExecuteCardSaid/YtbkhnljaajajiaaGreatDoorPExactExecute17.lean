/-
  Contracts and plain laws that the proof of the law ExactExecute leans on. Conditions: as each says.
-/
import Derived.Test.YtbkhnljaajajiaaGreatDoorPExactExecute00
import Derived.Test.YtbkhnljaajajiaaGreatDoorPExactExecute01
import Derived.Test.YtbkhnljaajajiaaGreatDoorPExactExecute02
import Derived.Test.YtbkhnljaajajiaaGreatDoorPExactExecute04
import Derived.Test.YtbkhnljaajajiaaGreatDoorPExactExecute05
import Derived.Test.YtbkhnljaajajiaaGreatDoorPExactExecute06
import Derived.Test.YtbkhnljaajajiaaGreatDoorPExactExecute07
import Derived.Test.YtbkhnljaajajiaaGreatDoorPExactExecute08
import Derived.Test.YtbkhnljaajajiaaGreatDoorPExactExecute09
import Derived.Test.YtbkhnljaajajiaaGreatDoorPExactExecute10
import Derived.Test.YtbkhnljaajajiaaGreatDoorPExactExecute11
import Derived.Test.YtbkhnljaajajiaaGreatDoorPExactExecute12
import Derived.Test.YtbkhnljaajajiaaGreatDoorPExactExecute13
import Derived.Test.YtbkhnljaajajiaaGreatDoorPExactExecute14
import Derived.Test.YtbkhnljaajajiaaGreatDoorPExactExecute15
import Derived.Test.YtbkhnljaajajiaaGreatDoorPExactExecute16
import Derived.Deep.RegionHeld3
import Derived.BigRegion
set_option maxRecDepth 100000
set_option linter.unusedSimpArgs false
set_option linter.unusedVariables false
set_option linter.unnecessarySimpa false
namespace Go.Proofs.YtbkhnljaajajiaaGreatDoor
open Go.ChangeShapes Go.WideShapes Go.ChangeAt Go.RowKit
end Go.Proofs.YtbkhnljaajajiaaGreatDoor
namespace Go.Proofs.YtbkhnljaajajiaaGreatDoor
open Go.ChangeShapes Go.WideShapes Go.ChangeAt Go.RowKit
set_option maxRecDepth 100000
set_option linter.unusedSimpArgs false
end Go.Proofs.YtbkhnljaajajiaaGreatDoor
namespace Go.Proofs.YtbkhnljaajajiaaGreatDoor
open Go.ChangeShapes Go.WideShapes Go.ChangeAt Go.RowKit
set_option maxRecDepth 100000
set_option linter.unusedSimpArgs false
end Go.Proofs.YtbkhnljaajajiaaGreatDoor
namespace Go.Proofs.YtbkhnljaajajiaaGreatDoor
open Go.ChangeShapes Go.WideShapes Go.ChangeAt Go.RowKit
set_option maxRecDepth 100000
end Go.Proofs.YtbkhnljaajajiaaGreatDoor
namespace Go.Proofs.YtbkhnljaajajiaaGreatDoor
open Go.ChangeShapes Go.WideShapes Go.ChangeAt Go.RowKit
set_option maxRecDepth 100000
set_option linter.unusedSimpArgs false
def LnOwn (w : World) (B : Nat) (v : Value) (xs : List Wr) : Prop := WrOwn w B v xs ∧ ∀ x ∈ xs, ∀ a, x.A = some a → B ≤ a.block
theorem LnOwn.made (w : World) : LnOwn (w.alloc (.cells #[] 140)) w.heap.size (.slice (some ⟨w.heap.size, 0, none⟩) 0 0) [] :=
 ⟨⟨World.ownsRow_made (base := w.heap.size) (e := 140) (size := 2) w #[] 0 (Nat.le_refl _) (by unfold maxLen; omega) rfl, by simp⟩, by simp⟩
end Go.Proofs.YtbkhnljaajajiaaGreatDoor
namespace Go.Proofs.YtbkhnljaajajiaaGreatDoor
open Go.ChangeShapes Go.WideShapes Go.ChangeAt Go.RowKit
set_option maxRecDepth 100000
set_option linter.unusedSimpArgs false
end Go.Proofs.YtbkhnljaajajiaaGreatDoor
namespace Go.Proofs.YtbkhnljaajajiaaGreatDoor
open Go.ChangeShapes Go.WideShapes Go.ChangeAt Go.RowKit Go.Maps
def wof (xs : List Sg) (l : List UInt8) : Option Dat := (wordOut xs l).map fun o => (o, posOf l)
def allW (xs : List Sg) : List (List UInt8) → Option (List Dat)
 | [] => some []
 | l :: r => (wof xs l).bind fun d => (allW xs r).map (d :: ·)
def lineOf (xs : List Sg) (ws : List (List UInt8)) : Option (List Dat) := if sysB xs = true ∧ ws.length ≤ 20 then allW xs ws else none
theorem allW_snoc (xs : List Sg) (a : List (List UInt8)) (l : List UInt8) : allW xs (a ++ [l]) = (allW xs a).bind fun L => (wof xs l).map fun d => L ++ [d] := by
 induction a with
 | nil => simp only [List.nil_append, allW]; cases wof xs l <;> rfl
 | cons x r ih =>
  simp only [List.cons_append, allW, ih]; cases wof xs x <;> cases allW xs r <;> cases wof xs l <;> rfl
theorem allW_no {xs : List Sg} {a : List (List UInt8)} {l : List UInt8} (h : l ∈ a) (hn : wof xs l = none) : allW xs a = none := by
 induction a with
 | nil => cases h
 | cons x r ih =>
  rcases List.mem_cons.1 h with rfl | h
  ·simp [allW, hn]
  ·simp only [allW, ih h]; cases wof xs x <;> rfl
theorem allW_step {xs : List Sg} {ws : List (List UInt8)} {k : Nat} {L : List Dat} {d : Dat} (hk : k < ws.length) (h : allW xs (ws.take k) = some L) (hd : wof xs (wdAt ws k) = some d) : allW xs (ws.take (k + 1)) = some (L ++ [d]) := by
 rw [List.take_add_one, wdAt_some hk]
 show allW xs (ws.take k ++ [wdAt ws k]) = _
 rw [allW_snoc, h, hd]; rfl
theorem lineOf_no {xs : List Sg} {ws : List (List UInt8)} {l : List UInt8} (h : l ∈ ws) (hn : wof xs l = none) : lineOf xs ws = none := by
 unfold lineOf; split
 ·exact allW_no h hn
 ·rfl
set_option maxHeartbeats 1600000 in
theorem implLineOf (A : Option Addr) (n c : Nat) (xs : List Sg) (A' : Option Addr) (n' c' : Nat) (ws : List (List UInt8)) (w : World) (hW : ∀ l ∈ ws, l.length ≤ maxLen) (h : SgsIn w w.heap.size A n c xs) (h' : WdsIn w w.heap.size A' n' c' ws) :
  Calls Tryz.prog 37 #[.slice A n c, .slice A' n' c'] w fun e w' => LinAns w' (lineOf xs ws) e ∧ Below w.heap.size w w' := by
 obtain ⟨i0, hi, hz0, hz1, hz2⟩ := info_parts infoWr; have hm := h'.2.2.1; have hnc := h'.2.1; unfold maxLen at hm; have HL := uH h'.1; have HV := uH (implSystemValid A n c xs w h); have HWo := uH (fun W (hb : Below w.heap.size w W) (l : List UInt8) (hl : l.length ≤ maxLen) => implWrittenOf A n c xs l W hl (h.keep hb)); have HW := uH hW; have H' := uH h'; have HZ := uH (fun (W : World) (AA : Option Addr) => WrsIn.zero W W.heap.size AA); clear h h' hW; cases hs : sysB xs with
 | false =>
  have HR : Hid (lineOf xs ws = none) := uH (if_neg (fun h => by rw [hs] at h; cases h.1)); rw [hs] at HV; clear hs; go_enter Tryz.func37, Tryz.ntmps37
  (go_wp2_with fail); refine HV.out.mono ?_; rintro e w1 ⟨rfl, b1⟩; go_wp2; go_returns; exact ⟨.inl ⟨HR.out, _, _, rfl, HZ.out _ _⟩, b1⟩
 | true =>
  rw [hs] at HV; by_cases h20 : 20 < n'
  ·have HR : Hid (lineOf xs ws = none) := uH (if_neg (fun h => by have := h.2; rw [HL.out] at this; omega)); clear hs; go_enter Tryz.func37, Tryz.ntmps37
   (go_wp2_with fail); refine HV.out.mono ?_; rintro e w1 ⟨rfl, b1⟩; go_wp2; go_returns; exact ⟨.inl ⟨HR.out, _, _, rfl, HZ.out _ _⟩, b1⟩
  ·have HR : Hid (lineOf xs ws = allW xs ws) := uH (if_pos ⟨hs, by rw [HL.out]; omega⟩); have HNo := uH (fun l (h : l ∈ ws) hn => lineOf_no (xs := xs) h hn); clear hs; go_enter Tryz.func37, Tryz.ntmps37
   (go_wp2_with fail); refine HV.out.mono ?_; rintro e w1 ⟨rfl, b1⟩; have z1 := b1.size; have HO0 : Hid (WrOwn (w1.alloc (.cells #[] 140)) w1.heap.size (.slice (some ⟨w1.heap.size, 0, none⟩) 0 0) []) := uH (LnOwn.made w1).1; go_wp2; go_loopw [6, 22] (fun v0 i wr => ∃ (k : Nat) (v : Value) (L : List Wr), k ≤ n' ∧ i = .int .i64 k ∧ v = v0 ∧ Hid (L.length = k) ∧ Hid (allW xs (ws.take k) = some (L.map Wr.dat)) ∧ Hid (WrOwn wr w1.heap.size v L) ∧ Below w1.heap.size w1 wr) (fun _ i _ => n' - (intOf i).toNat)
   case atStart => exact ⟨0, _, [], Nat.zero_le _, rfl, rfl, uH rfl, uH rfl, HO0, (Below.refl _ _).alloc (Nat.le_refl _) _⟩
   case round =>
    obtain ⟨k, v, L, hk, rfl, rfl, HLk, HA, HO, hb⟩ := hrel; have hz := hb.size; have hL20 : L.length ≤ 20 := (by have := HLk.out; omega); by_cases hlt : k < n'
    ·have i1 : (0 : Int) ≤ (k : Int) := (by omega); have i2 : (k : Int) < (n' : Int) := (by omega); have hkl : k < ws.length := (by rw [HL.out]; exact hlt); obtain ⟨b2, off, rfl, hbB2, c0⟩ := (H'.out.keep (below_next b1 hb)).at_ hlt; have HOk := uH (HWo.out wr (below_next b1 hb) (wdAt ws k) (HW.out _ (wdAt_mem hkl))); have HSt := uH (fun d (hd : wof xs (wdAt ws k) = some d) => allW_step hkl HA.out hd); have HNk := uH (fun hn => HNo.out (wdAt ws k) (wdAt_mem hkl) hn); have hwd : ((wordOut xs (wdAt ws k)).map fun o => (o, posOf (wdAt ws k))) = wof xs (wdAt ws k) := rfl; have hpo := posOf_bd (wdAt ws k); have HPo := uH (fun o q (h : wof xs (wdAt ws k) = some (o, q)) => (by obtain ⟨o', _, h⟩ := Option.map_eq_some_iff.1 h; injection h with _ h; omega : -1 ≤ q ∧ q ≤ 2)); rw [hwd] at HOk; have HVb : Hid (∀ q, v.ownBlock = some q → q < wr.heap.size) := uH (fun q hq => ownG_lt HO.out.1 hq); clear hwd hkl hpo; generalize wof xs (wdAt ws k) = wo at *; generalize wdAt ws k = l at *; (go_wp2_with fail); refine HOk.out.mono ?_; rintro e w3 ⟨hA3, hb3⟩; have b3 := below_next hb hb3; have z3 := b3.size; have z3' := hb3.size; have HO3 := uH (HO.out.keep hb3); rcases hA3 with ⟨hn, rfl⟩ | ⟨A3, c3, ss, p, hn, rfl, hS3, hg3⟩
     ·subst hn; have HRn := uH (HNk.out rfl); have b4 := (below_next b1 b3).alloc (by have := (below_next b1 b3).size; omega) (.cells #[.slice none 0 0, .int .i64 0] 140); clear HNk HSt; go_wp2; go_returns; exact ⟨.inl ⟨HRn.out, _, _, rfl, HZ.out _ _⟩, b4⟩
     ·subst hn; have hp := HPo.out ss p rfl; have HA2 := uH (HSt.out _ rfl); have HWr : Hid (WrIn w3 w3.heap.size ⟨A3, ss.length, c3, ss, p⟩) := uH ⟨hS3.reads rfl hg3, show (Lit.int .i64 p).wf = true from WalkArith.wf_i64 (by omega)⟩; have HBl : Hid (∀ a, A3 = some a → v.ownBlock ≠ some a.block ∧ a.block < w3.heap.size) := uH (by
       rintro a rfl; have h1 := ownG_base hS3 (k := a.block) rfl; have h2 := ownG_lt hS3 (b := a.block) rfl; exact ⟨fun e => by have := HVb.out _ e; omega, h2⟩)
      generalize hM : ss.length = M at *; have HM := uH hM; have K3 := Blk.new w3 140 #[.slice A3 M c3, .int .i64 p]; obtain ⟨k0, k1, _, _⟩ := K3.two; have hal2 : Below w3.heap.size w3 ((w3.alloc (.cells #[.slice A3 M c3, .int .i64 p] 140)).alloc (.cells #[.slice A3 M c3, .int .i64 p] 140)) := ((Below.refl _ _).alloc (Nat.le_refl _) _).alloc (by simp) _; have hsa := hal2.size; have HOa : Hid (((w3.alloc (.cells #[.slice A3 M c3, .int .i64 p] 140)).alloc (.cells #[.slice A3 M c3, .int .i64 p] 140)).ownsRow w1.heap.size 140 2 v L.length (L.flatMap wrC)) := uH (ownG_keep HO3.out.1 hal2); have HRow : Hid (Row ((w3.alloc (.cells #[.slice A3 M c3, .int .i64 p] 140)).alloc (.cells #[.slice A3 M c3, .int .i64 p] 140)) (w3.heap.size + 2) (some ⟨w3.heap.size + 1, 0, none⟩) 1 2 [.slice A3 M c3, .int .i64 p]) := uH (by have h := rowNewSt (w3.alloc (.cells #[.slice A3 M c3, .int .i64 p] 140)) (.slice A3 M c3) (.int .i64 p) 140; simp only [World.size_alloc] at h; exact h); clear hM hb3 HO HOk hS3 hg3 HSt HNk HPo; go_wp2_with (at_builtin; refine wpList_append_any _ rfl (.tmp 34) (.tmp 36) _ rfl w1.heap.size 140 i0 _ 2 32 Tryz.underlying58 hi hz0 hz1 hz2 rfl (by omega) v L.length (L.flatMap wrC) rfl HOa.out (w3.heap.size + 2) (some ⟨w3.heap.size + 1, 0, none⟩) 1 1 [.slice A3 M c3, .int .i64 p] rfl HRow.out (by simp [Value.oneCell']) (by unfold maxLen; omega) (by omega) (by simp; omega) ?_; intro v4 w4 hown4 hg4 hat4)
      have HO4 : Hid (WrOwn w4 w1.heap.size v4 (L ++ [⟨A3, M, c3, ss, p⟩])) := uH (WrOwn.push (HO3.out.keep hal2) (HWr.out.keep hal2) (fun a ha => ⟨(HBl.out a ha).1, Nat.lt_of_lt_of_le (HBl.out a ha).2 hsa⟩) hown4 hg4 hat4); have HA4 : Hid (allW xs (ws.take (k + 1)) = some ((L ++ [(⟨A3, M, c3, ss, p⟩ : Wr)]).map Wr.dat)) := uH (by rw [HA2.out, List.map_append]; rfl); have HL4 : Hid ((L ++ [(⟨A3, M, c3, ss, p⟩ : Wr)]).length = k + 1) := uH (by rw [List.length_append, HLk.out]; rfl); have b4 := ((b3.alloc z3 (.cells #[.slice A3 M c3, .int .i64 p] 140)).alloc (by simp; omega) (.cells #[.slice A3 M c3, .int .i64 p] 140)).grown hg4 (by simp; omega) (fun q hq => ownG_base HO3.out.1 hq); clear hown4 hg4 hat4 HOa HRow; go_wp2; go_roundw
      case rel => exact ⟨k + 1, _, _, by omega, by go_num, rfl, HL4, HA4, HO4, b4⟩
      case measure => simp [intOf]; omega
    ·obtain rfl : k = n' := (by omega); obtain ⟨A6, c6, rfl, hc6, hm6⟩ := ownG_form HO.out.1; have HR6 := uH (HO.out.reads rfl); have HA6 : Hid (lineOf xs ws = some (L.map Wr.dat)) := uH (by
      have h1 := HA.out; rw [List.take_of_length_le (by rw [HL.out]; exact Nat.le_refl _)] at h1; rw [HR.out, h1])
     have b6 := below_next b1 hb; clear HA; go_wp2; go_returns; exact ⟨.inr ⟨A6, c6, L, HA6.out, rfl, HR6.out⟩, b6⟩
set_option maxHeartbeats 1600000 in
theorem specLineOf (A : Option Addr) (n c : Nat) (xs : List Sg) (A' : Option Addr) (n' c' : Nat) (ws : List (List UInt8)) (w : World) (hW : ∀ l ∈ ws, l.length ≤ maxLen) (h20 : n' ≤ 20) (h : SgsIn w w.heap.size A n c xs) (h' : WdsIn w w.heap.size A' n' c' ws) :
  Calls Tryz.prog 38 #[.slice A n c, .slice A' n' c'] w fun e w' => LinAns w' (lineOf xs ws) e ∧ Below w.heap.size w w' := by
 obtain ⟨i0, hi, hz0, hz1, hz2⟩ := info_parts infoWr; have hm := h'.2.2.1; have hnc := h'.2.1; unfold maxLen at hm; have HL := uH h'.1; have HV := uH (fun W (hb : Below w.heap.size w W) => specSystemValid A n c xs W (h.keep hb)); have HWo := uH (fun W (hb : Below w.heap.size w W) (l : List UInt8) (hl : l.length ≤ maxLen) => specWrittenOf A n c xs l W hl (h.keep hb)); have HW := uH hW; have H' := uH h'; have HZ := uH (fun (W : World) (AA : Option Addr) => WrsIn.zero W W.heap.size AA); have HNo := uH (fun l (h : l ∈ ws) hn => lineOf_no (xs := xs) h hn); have HNs : Hid (sysB xs = false → lineOf xs ws = none) := uH (fun hs => if_neg (fun h => by rw [hs] at h; cases h.1)); have HYs : Hid (sysB xs = true → lineOf xs ws = allW xs ws) := uH (fun hs => if_pos ⟨hs, by rw [HL.out]; exact h20⟩); have HO0 : Hid (WrOwn (w.alloc (.cells #[] 140)) w.heap.size (.slice (some ⟨w.heap.size, 0, none⟩) 0 0) []) := uH (LnOwn.made w).1; clear h h' hW; go_enter Tryz.func38, Tryz.ntmps38
 go_wp2; go_loopw [6, 7] (fun v0 i wr => ∃ (k : Nat) (v : Value) (L : List Wr), k ≤ n' ∧ i = .int .i64 k ∧ v = v0 ∧ Hid (L.length = k) ∧ Hid (allW xs (ws.take k) = some (L.map Wr.dat)) ∧ Hid (WrOwn wr w.heap.size v L) ∧ Below w.heap.size w wr) (fun _ i _ => n' - (intOf i).toNat)
 case atStart => exact ⟨0, _, [], Nat.zero_le _, rfl, rfl, uH rfl, uH rfl, HO0, (Below.refl _ _).alloc (Nat.le_refl _) _⟩
 case round =>
  obtain ⟨k, v, L, hk, rfl, rfl, HLk, HA, HO, hb⟩ := hrel; have hz := hb.size; have hL20 : L.length ≤ 20 := (by have := HLk.out; omega); by_cases hlt : k < n'
  ·have i1 : (0 : Int) ≤ (k : Int) := (by omega); have i2 : (k : Int) < (n' : Int) := (by omega); have hkl : k < ws.length := (by rw [HL.out]; exact hlt); obtain ⟨b2, off, rfl, hbB2, c0⟩ := (H'.out.keep hb).at_ hlt; have HOk := uH (HWo.out wr hb (wdAt ws k) (HW.out _ (wdAt_mem hkl))); have HSt := uH (fun d (hd : wof xs (wdAt ws k) = some d) => allW_step hkl HA.out hd); have HNk := uH (fun hn => HNo.out (wdAt ws k) (wdAt_mem hkl) hn); have hwd : ((wordOut xs (wdAt ws k)).map fun o => (o, posOf (wdAt ws k))) = wof xs (wdAt ws k) := rfl; have hpo := posOf_bd (wdAt ws k); have HPo := uH (fun o q (h : wof xs (wdAt ws k) = some (o, q)) => (by obtain ⟨o', _, h⟩ := Option.map_eq_some_iff.1 h; injection h with _ h; omega : -1 ≤ q ∧ q ≤ 2)); rw [hwd] at HOk; have HVb : Hid (∀ q, v.ownBlock = some q → q < wr.heap.size) := uH (fun q hq => ownG_lt HO.out.1 hq); clear hwd hkl hpo; generalize wof xs (wdAt ws k) = wo at *; generalize wdAt ws k = l at *; (go_wp2_with fail); refine HOk.out.mono ?_; rintro e w3 ⟨hA3, hb3⟩; have b3 := below_next hb hb3; have z3 := b3.size; have z3' := hb3.size; have HO3 := uH (HO.out.keep hb3); rcases hA3 with ⟨hn, rfl⟩ | ⟨A3, c3, ss, p, hn, rfl, hS3, hg3⟩
   ·subst hn; have HRn := uH (HNk.out rfl); have b4 := b3.alloc (by have := b3.size; omega) (.cells #[.slice none 0 0, .int .i64 0] 140); clear HNk HSt; go_wp2; go_returns; exact ⟨.inl ⟨HRn.out, _, _, rfl, HZ.out _ _⟩, b4.alloc b4.size _⟩
   ·subst hn; have hp := HPo.out ss p rfl; have HA2 := uH (HSt.out _ rfl); have HWr : Hid (WrIn w3 w3.heap.size ⟨A3, ss.length, c3, ss, p⟩) := uH ⟨hS3.reads rfl hg3, show (Lit.int .i64 p).wf = true from WalkArith.wf_i64 (by omega)⟩; have HBl : Hid (∀ a, A3 = some a → v.ownBlock ≠ some a.block ∧ a.block < w3.heap.size) := uH (by
     rintro a rfl; have h1 := ownG_base hS3 (k := a.block) rfl; have h2 := ownG_lt hS3 (b := a.block) rfl; exact ⟨fun e => by have := HVb.out _ e; omega, h2⟩)
    generalize hM : ss.length = M at *; have HM := uH hM; have K3 := Blk.new w3 140 #[.slice A3 M c3, .int .i64 p]; obtain ⟨k0, k1, _, _⟩ := K3.two; have hal2 : Below w3.heap.size w3 ((w3.alloc (.cells #[.slice A3 M c3, .int .i64 p] 140)).alloc (.cells #[.slice A3 M c3, .int .i64 p] 140)) := ((Below.refl _ _).alloc (Nat.le_refl _) _).alloc (by simp) _; have hsa := hal2.size; have HOa : Hid (((w3.alloc (.cells #[.slice A3 M c3, .int .i64 p] 140)).alloc (.cells #[.slice A3 M c3, .int .i64 p] 140)).ownsRow w.heap.size 140 2 v L.length (L.flatMap wrC)) := uH (ownG_keep HO3.out.1 hal2); have HRow : Hid (Row ((w3.alloc (.cells #[.slice A3 M c3, .int .i64 p] 140)).alloc (.cells #[.slice A3 M c3, .int .i64 p] 140)) (w3.heap.size + 2) (some ⟨w3.heap.size + 1, 0, none⟩) 1 2 [.slice A3 M c3, .int .i64 p]) := uH (by have h := rowNewSt (w3.alloc (.cells #[.slice A3 M c3, .int .i64 p] 140)) (.slice A3 M c3) (.int .i64 p) 140; simp only [World.size_alloc] at h; exact h); clear hM hb3 HO HOk hS3 hg3 HSt HNk HPo; go_wp2_with (at_builtin; refine wpList_append_any _ rfl (.tmp 34) (.tmp 36) _ rfl w.heap.size 140 i0 _ 2 32 Tryz.underlying58 hi hz0 hz1 hz2 rfl (by omega) v L.length (L.flatMap wrC) rfl HOa.out (w3.heap.size + 2) (some ⟨w3.heap.size + 1, 0, none⟩) 1 1 [.slice A3 M c3, .int .i64 p] rfl HRow.out (by simp [Value.oneCell']) (by unfold maxLen; omega) (by omega) (by simp; omega) ?_; intro v4 w4 hown4 hg4 hat4)
    have HO4 : Hid (WrOwn w4 w.heap.size v4 (L ++ [⟨A3, M, c3, ss, p⟩])) := uH (WrOwn.push (HO3.out.keep hal2) (HWr.out.keep hal2) (fun a ha => ⟨(HBl.out a ha).1, Nat.lt_of_lt_of_le (HBl.out a ha).2 hsa⟩) hown4 hg4 hat4); have HA4 : Hid (allW xs (ws.take (k + 1)) = some ((L ++ [(⟨A3, M, c3, ss, p⟩ : Wr)]).map Wr.dat)) := uH (by rw [HA2.out, List.map_append]; rfl); have HL4 : Hid ((L ++ [(⟨A3, M, c3, ss, p⟩ : Wr)]).length = k + 1) := uH (by rw [List.length_append, HLk.out]; rfl); have b4 := ((b3.alloc z3 (.cells #[.slice A3 M c3, .int .i64 p] 140)).alloc (by simp; omega) (.cells #[.slice A3 M c3, .int .i64 p] 140)).grown hg4 (by simp; omega) (fun q hq => ownG_base HO3.out.1 hq); clear hown4 hg4 hat4 HOa HRow; go_wp2; go_roundw
    case rel => exact ⟨k + 1, _, _, by omega, by go_num, rfl, HL4, HA4, HO4, b4⟩
    case measure => simp [intOf]; omega
  ·obtain rfl : k = n' := (by omega); obtain ⟨A6, c6, rfl, hc6, hm6⟩ := ownG_form HO.out.1; have HR6 := uH (HO.out.reads rfl); have HVk := uH (HV.out wr hb); have HA6 : Hid (sysB xs = true → lineOf xs ws = some (L.map Wr.dat)) := uH (fun hs => by
    have h1 := HA.out; rw [List.take_of_length_le (by rw [HL.out]; exact Nat.le_refl _)] at h1; rw [HYs.out hs, h1])
   clear HA; cases hs : sysB xs with
   | false =>
    rw [hs] at HVk; have HRn := uH (HNs.out hs); clear hs; (go_wp2_with fail); refine HVk.out.mono ?_; rintro e w5 ⟨rfl, hb5⟩; have b5 := below_next hb hb5; go_wp2; go_returns; exact ⟨.inl ⟨HRn.out, _, _, rfl, HZ.out _ _⟩, b5.alloc b5.size _⟩
   | true =>
    rw [hs] at HVk; have HRn := uH (HA6.out hs); clear hs; (go_wp2_with fail); refine HVk.out.mono ?_; rintro e w5 ⟨rfl, hb5⟩; have b5 := below_next hb hb5; have HR7 := uH (HR6.out.keep hb5); go_wp2; go_returns; exact ⟨.inr ⟨A6, c6, L, HRn.out, rfl, HR7.out⟩, b5⟩
end Go.Proofs.YtbkhnljaajajiaaGreatDoor
namespace Go.Proofs.YtbkhnljaajajiaaGreatDoor
open Go.ChangeShapes Go.WideShapes Go.ChangeAt Go.RowKit
structure St where
 sys : List Sg
 brs : List Bf
 sp : List Wd
 cab : List (List Pad)
def St.ok (s : St) : Prop := sysB s.sys = true ∧ brsB s.brs = true ∧ spB s.sp = true ∧ cabOK s.cab
def cSign : Wd := [115, 105, 103, 110]
def cBrief : Wd := [98, 114, 105, 101, 102]
def cSpeech : Wd := [115, 112, 101, 101, 99, 104]
def cWrite : Wd := [119, 114, 105, 116, 101]
def cCopy : Wd := [99, 111, 112, 121]
def cLetters : Wd := [108, 101, 116, 116, 101, 114, 115]
def cProof : Wd := [112, 114, 111, 111, 102]
def cFile : Wd := [102, 105, 108, 101]
def cClear : Wd := [99, 108, 101, 97, 114]
def cCabinet : Wd := [99, 97, 98, 105, 110, 101, 116]
def sayOk : Wd := [111, 107, 10]
def sayNo : Wd := [110, 111, 10]
def sayWhat : Wd := [119, 104, 97, 116, 10]
noncomputable def ask (s : St) (ws : List Wd) : Wd :=
 if wdAt ws 0 = cWrite ∧ ws.length = 1 then saidO ((lineOf s.sys s.sp).map lineText)
 else if wdAt ws 0 = cCopy ∧ ws.length = 1 then saidO ((bestO s.brs s.sp).map fun t => Lib.join t [32])
 else if wdAt ws 0 = cLetters ∧ ws.length = 1 then Lib.decDigits (costOf s.brs s.sp) ++ [10]
 else if wdAt ws 0 = cProof then saidO ((makeO s.sp (ws.drop 1)).map (marksText s.sp))
 else if wdAt ws 0 = cCabinet ∧ ws.length = 1 then cabText s.cab
 else sayWhat
noncomputable def clearO (css : List (List Pad)) (d : Int) : Option (List (List Pad)) := if d ≤ 9999 then thinO (fromDay d) css else none
def up {α : Type} (s : St) (o : Option α) (f : α → St) : St × Wd := match o with
 | none => (s, sayNo)
 | some x => (f x, sayOk)
noncomputable def lineS (s : St) (ws : List Wd) : St × Wd :=
 if wdAt ws 0 = cSign ∧ ws.length = 3 then up s (signO s.sys (wdAt ws 1) (wdAt ws 2)) fun x => { s with sys := x }
 else if wdAt ws 0 = cBrief ∧ 3 ≤ ws.length then up s (addO s.brs ⟨wdAt ws 1, ws.drop 2⟩) fun x => { s with brs := x }
 else if wdAt ws 0 = cSpeech then up s (if spB (ws.drop 1) = true then some (ws.drop 1) else none) fun x => { s with sp := x }
 else if wdAt ws 0 = cFile ∧ ws.length = 3 then up s (fileO s.cab ⟨numOf (wdAt ws 1), mkStr (wdAt ws 2)⟩) fun x => { s with cab := x }
 else if wdAt ws 0 = cClear ∧ ws.length = 2 then up s (clearO s.cab (numOf (wdAt ws 1))) fun x => { s with cab := x }
 else (s, ask s ws)
noncomputable def runS (s : St) : List Wd → St × Wd
 | [] => (s, [])
 | l :: r => ((runS (lineS s (cutB 32 l)).1 r).1, (lineS s (cutB 32 l)).2 ++ (runS (lineS s (cutB 32 l)).1 r).2)
def endS (s : St) : Wd := [119, 111, 114, 100, 115, 32] ++ Lib.decDigits s.sp.length ++ [32, 112, 97, 100, 115, 32] ++ Lib.decDigits s.cab.flatten.length ++ [10]
def sayLong : Wd := [116, 111, 111, 32, 108, 111, 110, 103, 10]
def st0 : St := ⟨[], [], [], []⟩
noncomputable def exec (l : Wd) : Wd :=
 if l.length > 500 then sayLong else (runS st0 ((cutB 10 l).dropLast)).2 ++ endS (runS st0 ((cutB 10 l).dropLast)).1
theorem signO_ok {xs ys : List Sg} {l t : Wd} (h : signO xs l t = some ys) : sysB ys = true := by
 unfold signO at h; split at h
 ·split at h
  ·rename_i h2; injection h with h; rw [← h]; exact h2
  ·cases h
 ·cases h
theorem addO_ok {bs cs : List Bf} {b : Bf} (h : addO bs b = some cs) : brsB cs = true := by
 unfold addO at h; split at h
 ·rename_i h2; injection h with h; rw [← h]; exact h2
 ·cases h
theorem fileO_cab {css cs : List (List Pad)} {p : Pad} (h : fileO css p = some cs) : cabOK cs := by
 by_cases hc : cabOK css ∧ okP p = true ∧ findO css p = none
 ·rw [fileO_yes hc.1 hc.2.1 hc.2.2] at h; exact fileS_ok hc.1 hc.2.1 hc.2.2 h
 ·rw [fileO_no hc] at h; cases h
theorem clearO_ok {css cs : List (List Pad)} {d : Int} (h : clearO css d = some cs) : cabOK cs := by
 unfold clearO at h; split at h
 ·cases hc : cabB css with
  | false => rw [thinO_no hc] at h; cases h
  | true => rw [thinO_yes hc] at h; injection h with h; rw [← h]; exact thinned_ok (cabB_iff.1 hc)
 ·cases h
theorem st0_ok : st0.ok := ⟨by decide, by decide, by decide, cab_nil⟩
theorem lineS_ok {s : St} (ws : List Wd) (h : s.ok) : (lineS s ws).1.ok := by
 obtain ⟨h1, h2, h3, h4⟩ := h; unfold lineS; split
 ·cases e : signO s.sys (wdAt ws 1) (wdAt ws 2) with
  | none => exact ⟨h1, h2, h3, h4⟩
  | some x => exact ⟨signO_ok e, h2, h3, h4⟩
 split
 ·cases e : addO s.brs ⟨wdAt ws 1, ws.drop 2⟩ with
  | none => exact ⟨h1, h2, h3, h4⟩
  | some x => exact ⟨h1, addO_ok e, h3, h4⟩
 split
 ·by_cases e : spB (ws.drop 1) = true
  ·rw [if_pos e]; exact ⟨h1, h2, e, h4⟩
  ·rw [if_neg e]; exact ⟨h1, h2, h3, h4⟩
 split
 ·cases e : fileO s.cab ⟨numOf (wdAt ws 1), mkStr (wdAt ws 2)⟩ with
  | none => exact ⟨h1, h2, h3, h4⟩
  | some x => exact ⟨h1, h2, h3, fileO_cab e⟩
 split
 ·cases e : clearO s.cab (numOf (wdAt ws 1)) with
  | none => exact ⟨h1, h2, h3, h4⟩
  | some x => exact ⟨h1, h2, h3, clearO_ok e⟩
 ·exact ⟨h1, h2, h3, h4⟩
theorem hitB_iff {ws : List Wd} {b : Bf} : hitB ws b = true ↔ b.words.length ≤ ws.length ∧ ws.take b.words.length = b.words := by unfold hitB; rw [decide_eq_true_iff]
theorem run_lhW {A : Option Addr} {n c k h : Nat} (hk : k ≤ h) (hh : h ≤ c) (w : World) : (Instr.slice 27 (.slice A n c) (some (.int .i64 (k : Int))) (some (.int .i64 (h : Int))) none).run Tryz.prog w = .ok (.slice (fromB A k c 1) (h - k) (c - k)) w := by
 rw [run_slice_lh w 27 A n c elemW .i64 .i64 (k : Int) (h : Int) (by omega) (by omega) (by omega), sizeW]; simp [Result.andThen, sliced, fromB]
set_option maxHeartbeats 1600000 in
theorem l4At (A : Option Addr) (n c : Nat) (ws : List Wd) (i : Nat) (x : Br) (w : World) (hi : i ≤ n) (hn : n ≤ 1000) (hx : x.n ≤ 1000) (h : WdsIn w w.heap.size A n c ws) (hI : BrIn w w.heap.size x) :
  Calls Tryz.prog 62 #[.slice A n c, .int .i64 (i : Int), .agg #[.string (mkStr x.mark), .slice x.A x.n x.c]] w fun e w' => e = .returned (.bool (hitB (ws.drop i) x.dat)) ∧ Below w.heap.size w w' := by
 have HL := uH h.1; have HXl : Hid (x.words.length = x.n) := uH hI.1; have hnc := h.2.1; have b0 : Below w.heap.size w (w.alloc (.cells #[.string (mkStr x.mark), .slice x.A x.n x.c] 34)) := (Below.refl _ _).alloc (Nat.le_refl _) _; have k0 := newcell w #[.string (mkStr x.mark), .slice x.A x.n x.c] 34 0 _ rfl; have k1 := newcell w #[.string (mkStr x.mark), .slice x.A x.n x.c] 34 1 _ rfl; have hw1 : IntKind.i64.wrap ((i : Int) + (x.n : Int)) = (i : Int) + (x.n : Int) := IntWalk.i64_in _ (by omega); by_cases hle : i + x.n ≤ n
 ·have HE : Hid (∀ W, Below w.heap.size w W → Calls Tryz.prog 124 #[.slice (fromB A i c 1) x.n (c - i), .slice x.A x.n x.c] W fun e w' => e = .returned (.bool (hitB (ws.drop i) x.dat)) ∧ Below W.heap.size W w') := uH (fun W hW => by
   have h1 := (((h.keep hW).upto hle).fromS (k := i) (by omega)); rw [show i + x.n - i = x.n by omega] at h1; have key : decide ((ws.take (i + x.n)).drop i = x.words) = hitB (ws.drop i) x.dat := by
    unfold hitB Br.dat; refine decide_eq_decide.2 ?_
    show ((ws.take (i + x.n)).drop i = x.words) ↔ (x.words.length ≤ (ws.drop i).length ∧ (ws.drop i).take x.words.length = x.words)
    rw [List.drop_take, show i + x.n - i = x.n by omega, HXl.out, List.length_drop, HL.out]; exact ⟨fun h => ⟨by omega, h⟩, fun h => h.2⟩
   rw [← key]; exact l4Same _ _ _ _ _ _ _ _ W h1 (BrIn.keep hI hW))
  have hs : ∀ W, (Instr.slice 27 (.slice A n c) (some (.int .i64 (i : Int))) (some (.int .i64 ((i : Int) + (x.n : Int)))) none).run Tryz.prog W = .ok (.slice (fromB A i c 1) x.n (c - i)) W := fun W => by
   have := run_lhW (A := A) (n := n) (c := c) (k := i) (h := i + x.n) (by omega) (by omega) W; rw [show i + x.n - i = x.n by omega] at this; exact this
  have l1 : (i : Int) + (x.n : Int) ≤ (n : Int) := (by omega); have l2 : decide (i + x.n ≤ n) = true := decide_eq_true hle; have Hb : Hid (Below w.heap.size w (w.alloc (.cells #[.string (mkStr x.mark), .slice x.A x.n x.c] 34)).drew) := uH b0.drew; clear h hI; generalize hitB (ws.drop i) x.dat = T at *; go_enter Tryz.func62, Tryz.ntmps62
  (go_wp2_with fail); go_region_held3 (fun w' => w'.cell? ⟨w.heap.size, 1, none⟩ = some (.slice x.A x.n x.c)) (first | assumption | go_keep)
   (first
    | (go_at_call 124; refine (HE.out _ Hb.out).mono ?_; rintro e w5 ⟨rfl, hb5⟩; have k5 := kcell hb5 k1))
  have b5 := below_next Hb.out hb5; go_wp2; go_ret; exact ⟨rfl, b5⟩
 ·have HF : Hid (hitB (ws.drop i) x.dat = false) := uH (by
   rw [Bool.eq_false_iff]; intro e; have := (hitB_iff.1 e).1; unfold Br.dat at this; simp only [HXl.out, List.length_drop, HL.out] at this; omega)
  have l1 : ¬ (i : Int) + (x.n : Int) ≤ (n : Int) := (by omega); have l2 : decide (i + x.n ≤ n) = false := decide_eq_false hle; have l3 : decide ((i : Int) + (x.n : Int) ≤ (n : Int)) = false := decide_eq_false l1; have l4 : n < i + x.n := (by omega); have l5 : (n : Int) < (i : Int) + (x.n : Int) := (by omega); clear h hI hle l1; go_enter Tryz.func62, Tryz.ntmps62
  (go_wp2_with fail); refine region_qb (by kernel_rfl) (by kernel_rfl) ?_; repeat (first | go_big_quiet_step (fail) | quiet_step (fail))
  refine wpQuiet_nil ?_; intro w5 hb5; have b5 := below_next b0 hb5; go_wp2; go_ret; exact ⟨ret_bool HF.out.symm, b5⟩
theorem l4Both (A : Option Addr) (n c : Nat) (xs : List Br) (A' : Option Addr) (n' c' : Nat) (ws : List Wd) (w : World) (hX : OkBs xs) (hW : ∀ l ∈ ws, l.length ≤ maxLen) (h : BrsIn w w.heap.size A n c xs) (h' : WdsIn w w.heap.size A' n' c' ws) :
  Calls Tryz.prog 60 #[.slice A n c, .slice A' n' c'] w fun e w' => e = .returned (.bool (brsB (xs.map Br.dat) && spB ws)) ∧ Below w.heap.size w w' := by
 have HB := uH (specBriefsValid A n c xs w hX h); have HS := uH (fun W (hb : Below w.heap.size w W) => specSpeechValid A' n' c' ws W hW (h'.keep hb)); clear h h' hX hW; cases h1 : brsB (xs.map Br.dat) with
 | false =>
  rw [h1] at HB; clear h1 HS; go_enter Tryz.func60, Tryz.ntmps60
  (go_wp2_with fail); refine HB.out.mono ?_; rintro e w1 ⟨rfl, hb⟩; go_wp2; go_ret; exact ⟨rfl, hb⟩
 | true =>
  rw [h1] at HB; clear h1; go_enter Tryz.func60, Tryz.ntmps60
  (go_wp2_with fail); refine HB.out.mono ?_; rintro e w1 ⟨rfl, hb⟩; have HS1 := uH (HS.out w1 hb); clear HS HB; (go_wp2_with fail); refine HS1.out.mono ?_; rintro e w2 ⟨rfl, rfl⟩; go_wp2; go_ret; exact ⟨rfl, hb⟩
theorem made_at {v : Value} {n : Nat} (j : Nat) (h : j < n) : (madeCells #[v] n)[j]? = some v := by
 simp [madeCells, h, Nat.mod_one]
def CostsIn (w : World) (g : Nat) (bs : List Bf) (ws : List Wd) : Prop := ∃ cs : Array Value, Blk w g 3 cs ∧ cs.size = ws.length + 1 ∧ ∀ j, j ≤ ws.length → cs[j]? = some (.int .i64 ((costOf bs (ws.drop j) : Nat) : Int))
theorem CostsIn.below {w w' : World} {g : Nat} {bs : List Bf} {ws : List Wd} (h : CostsIn w g bs ws) (hb : Below w.heap.size w w') : CostsIn w' g bs ws := by
 obtain ⟨cs, h1, h2, h3⟩ := h; exact ⟨cs, h1.below hb, h2, h3⟩
theorem CostsIn.cell {w : World} {g j : Nat} {bs : List Bf} {ws : List Wd} (h : CostsIn w g bs ws) (hj : j ≤ ws.length) : w.cell? ⟨g, j, none⟩ = some (.int .i64 ((costOf bs (ws.drop j) : Nat) : Int)) := by
 obtain ⟨cs, h1, h2, h3⟩ := h; exact (h1.cell j).trans (h3 j hj)
theorem word_len12 {l : Wd} (h : wordB l = true) : l.length ≤ 12 := by
 unfold wordB at h; simp only [Bool.and_eq_true, decide_eq_true_eq] at h; exact h.2.2
theorem cost240 {bs : List Bf} (h : ∀ b ∈ bs, 1 ≤ b.words.length) {ws : List Wd} (hs : spB ws = true) (j : Nat) : costOf bs (ws.drop j) ≤ 240 := by
 have h1 := costOf_le h (ws.drop j) (fun l hl => (word_len12 ((spB_iff.1 hs).1 l (List.mem_of_mem_drop hl)))); have h2 := (spB_iff.1 hs).2; rw [List.length_drop] at h1; omega
set_option maxHeartbeats 3200000 in
theorem l4Costs (A : Option Addr) (n c : Nat) (xs : List Br) (A' : Option Addr) (n' c' : Nat) (ws : List Wd) (w : World) (hv : brsB (xs.map Br.dat) = true) (hs : spB ws = true) (h : BrsIn w w.heap.size A n c xs) (h' : WdsIn w w.heap.size A' n' c' ws) :
  Calls Tryz.prog 61 #[.slice A n c, .slice A' n' c', .int .i64 1, .int .i64 0] w fun e w' => e = .returned (.slice (some ⟨w.heap.size, 0, none⟩) (n' + 1) (n' + 1)) ∧ CostsIn w' w.heap.size (xs.map Br.dat) ws ∧ Below w.heap.size w w' := by
 obtain ⟨bs, hbs⟩ : ∃ bs, bs = xs.map Br.dat := ⟨_, rfl⟩; rw [← hbs] at hv ⊢; have hone := valid_one hv; have hn20 : n' ≤ 20 := (by have := (spB_iff.1 hs).2; rw [h'.1] at this; exact this); have hn8 : n ≤ 8 := (by have := (brsB_iff.1 hv).1; rw [hbs, List.length_map, h.1] at this; exact this); have HLb : Hid (bs.length = n) := uH (by rw [hbs, List.length_map, h.1]); have HL' := uH h'.1; have HL := uH h.1; have HDat : Hid (∀ k, k < n → bfAt bs k = (brAt xs k).dat) := uH (fun k hk => by rw [hbs]; exact brAt_dat (by rw [HL.out]; exact hk)); have HOne := uH hone; have HBd : Hid (∀ j, costOf bs (ws.drop j) ≤ 240) := uH (fun j => cost240 hone hs j); have HWl : Hid (∀ j, j < n' → (wdAt ws j).length ≤ 12) := uH (fun j hj => word_len12 ((spB_iff.1 hs).1 _ (wdAt_mem (by rw [HL'.out]; exact hj)))); have HMk : Hid (∀ k, k < n → (brAt xs k).mark.length ≤ 3 ∧ 1 ≤ (brAt xs k).n ∧ (brAt xs k).n ≤ 3) := uH (fun k hk => by
  have h1 := brsB_mem hv _ (bfAt_mem (bs := bs) (k := k) (by rw [HLb.out]; exact hk)); rw [HDat.out k hk] at h1; obtain ⟨h2, h3⟩ := bfB_iff.1 h1; have h4 := (h.2.2.2.2 _ (brAt_mem (xs := xs) (k := k) (by rw [HL.out]; exact hk))).1; have h5 := bwB_len h3; exact ⟨(markB_len h2).2, by rw [← h4]; exact h5.1, by rw [← h4]; exact h5.2⟩)
 have HXl : Hid (∀ k, k < n → (brAt xs k).words.length = (brAt xs k).n) := uH (fun k hk => (h.2.2.2.2 _ (brAt_mem (xs := xs) (k := k) (by rw [HL.out]; exact hk))).1); have H := uH h; have H' := uH h'; clear h h' hv hs hone hbs; obtain ⟨j0, hj, hy0, hy1, hy2⟩ := info_parts infoInt; have hmk := fun W => run_make_rowN (P := Tryz.prog) 105 3 j0 _ Tryz.underlying105 hj hy0 .i64 .i64 (n' + 1) (n' + 1) (Nat.le_refl _) (by rw [hy2]; omega) (by omega) W; rw [hy1] at hmk; simp only [Int.natCast_add, Int.natCast_one] at hmk; have hw1 : IntKind.i64.wrap ((n' : Int) + 1) = (n' : Int) + 1 := IntWalk.i64_in _ (by omega); have HC0 : Hid (∀ j, n' + 1 ≤ j → j ≤ n' → (madeCells #[Value.int .i64 0] (n' + 1))[j]? = some (.int .i64 ((costOf bs (ws.drop j) : Nat) : Int))) := uH (fun j h1 h2 => by omega); have HCn : Hid (∀ j, n' ≤ j → j ≤ n' → (madeCells #[Value.int .i64 0] (n' + 1))[j]? = some (.int .i64 ((costOf bs (ws.drop j) : Nat) : Int))) := uH (fun j h1 h2 => by
  obtain rfl : j = n' := (by omega); rw [List.drop_of_length_le (by rw [HL'.out]; exact Nat.le_refl _), costOf_nil]; exact made_at _ (by omega))
 go_enter Tryz.func61, Tryz.ntmps61
 go_wp2; clear hmk; go_loopw [10] (fun s10 wr => ∃ (k : Nat) (cs : Array Value), k ≤ n' ∧ s10 = .int .i64 ((k : Int) - 1) ∧ Hid (cs.size = n' + 1) ∧ Hid (∀ j, k ≤ j → j ≤ n' → cs[j]? = some (.int .i64 ((costOf bs (ws.drop j) : Nat) : Int))) ∧ Hid (Blk wr w.heap.size 3 cs) ∧ Below w.heap.size w wr) (fun s10 _ => (intOf s10 + 1).toNat)
 case atStart => exact ⟨n', _, Nat.le_refl _, by go_num, uH (madeCells_size _ _), HCn, uH (Blk.new _ _ _), (Below.refl _ _).alloc (Nat.le_refl _) _⟩
 case round =>
  obtain ⟨k, cs, hk, rfl, hS, hC, hB, hb⟩ := hrel; cases k with
  | zero =>
   have HF : Hid (CostsIn wr w.heap.size bs ws) := uH ⟨cs, hB.out, by rw [hS.out, HL'.out], fun j hj => hC.out j (Nat.zero_le _) (by rw [← HL'.out]; exact hj)⟩; clear hS hC hB; go_wp2; go_ret; exact ⟨rfl, HF.out, hb⟩
  | succ i =>
   have hI : (((i + 1 : Nat) : Int) - 1) = (i : Int) := (by omega); rw [hI]; clear hI; have hin : i < n' := (by omega); have i1 : (0 : Int) ≤ (i : Int) := (by omega); have i2 : (i : Int) < (n' : Int) := (by omega); obtain ⟨b, off, rfl, hbB, c0⟩ := (H'.out.keep hb).at_ hin; obtain ⟨u0, hu0⟩ : ∃ u, cs[i]? = some u := ⟨_, Array.getElem?_eq_getElem (by rw [hS.out]; omega)⟩; have rI : wr.cell? ⟨w.heap.size, i, none⟩ = some u0 := (hB.out.cell i).trans hu0; have rF := hB.out.free i; have rJ : wr.cell? ⟨w.heap.size, i + 1, none⟩ = some (.int .i64 ((costOf bs (ws.drop (i + 1)) : Nat) : Int)) := (hB.out.cell (i + 1)).trans (hC.out (i + 1) (Nat.le_refl _) (by omega)); have hl12 := HWl.out i hin; have hc240 := HBd.out (i + 1); have i3 : (i : Int) + 1 < (n' : Int) + 1 := (by omega); have HK0 : Hid (costK bs (ws.drop i) 0 = costOf bs (ws.drop (i + 1)) + (wdAt ws i).length) := uH (by
    have h1 : i < ws.length := (by rw [HL'.out]; exact hin); have h2 := wdAt_some h1; rw [List.getElem?_eq_getElem h1] at h2; injection h2 with h2; rw [costK_zero, List.drop_eq_getElem_cons h1, h2]; rfl)
   have hsz : (mkStr (wdAt ws i)).size = (wdAt ws i).length := mkStr_size _; have hl0 : (mkStr (wdAt ws i)).size ≤ 12 := (by omega); have HSz := uH hsz; clear hsz; have HSet : Hid (∀ (W : World) (x : Value), Below wr.heap.size wr W → Blk (W.setCell ⟨w.heap.size, i, none⟩ x) w.heap.size 3 (cs.setIfInBounds i x) ∧ Below w.heap.size w (W.setCell ⟨w.heap.size, i, none⟩ x)) := uH (fun W x hW => ⟨(hB.out.below hW).set i x, ((below_next hb hW).setCell (Nat.le_refl _) x)⟩); obtain ⟨s1, s2⟩ := HSet.out wr (.int .i64 ((costOf bs (ws.drop (i + 1)) : Int) + ((mkStr (wdAt ws i)).size : Int))) (Below.refl _ _); have S1 := uH s1; have S2 := uH s2; have HCe : Hid ((costOf bs (ws.drop (i + 1)) : Int) + ((mkStr (wdAt ws i)).size : Int) = ((costK bs (ws.drop i) 0 : Nat) : Int)) := uH (by rw [HK0.out, HSz.out]; omega); clear s1 s2 HSet hb hu0 hB; generalize hsA : mkStr (wdAt ws i) = sA at *; clear hsA; generalize costOf bs (ws.drop (i + 1)) = C1 at *; (go_wp2_with fail); go_region
   all_goals
    have HS1 : Hid ((cs.setIfInBounds i (.int .i64 ((C1 : Int) + (sA.size : Int)))).size = n' + 1) := uH (by rw [Array.size_setIfInBounds]; exact hS.out); have HC1 : Hid (∀ j, i + 1 ≤ j → j ≤ n' → (cs.setIfInBounds i (.int .i64 ((C1 : Int) + (sA.size : Int))))[j]? = some (.int .i64 ((costOf bs (ws.drop j) : Nat) : Int))) := uH (fun j h1 h2 => by
     rw [Array.getElem?_setIfInBounds_ne (by omega)]; exact hC.out j h1 h2)
    have HI1 : Hid ((cs.setIfInBounds i (.int .i64 ((C1 : Int) + (sA.size : Int))))[i]? = some (.int .i64 ((costK bs (ws.drop i) 0 : Nat) : Int))) := uH (by
     rw [Array.getElem?_setIfInBounds_self_of_lt (by rw [hS.out]; omega), HCe.out])
    have S3 : Hid (Below w.heap.size w (wr.setCell ⟨w.heap.size, i, none⟩ (.int .i64 ((C1 : Int) + (sA.size : Int)))).drew) := uH S2.out.drew; clear S2 hC hS HCe HSz HK0 rI rF rJ c0 hl0 hl12 hc240; go_wp2; go_loopw [11] (fun s11 wv => ∃ (q : Nat) (cs2 : Array Value), q ≤ n ∧ s11 = .int .i64 q ∧ Hid (cs2.size = n' + 1) ∧ Hid (∀ j, i + 1 ≤ j → j ≤ n' → cs2[j]? = some (.int .i64 ((costOf bs (ws.drop j) : Nat) : Int))) ∧ Hid (cs2[i]? = some (.int .i64 ((costK bs (ws.drop i) q : Nat) : Int))) ∧ Hid (Blk wv w.heap.size 3 cs2) ∧ Below w.heap.size w wv) (fun s11 _ => n - (intOf s11).toNat)
    case atStart => exact ⟨0, _, Nat.zero_le _, rfl, HS1, HC1, HI1, uH S1.out, S3.out⟩
    case round =>
     obtain ⟨q, cs2, hq, rfl, hS, hC, hI, hB, hb⟩ := hrel; by_cases hlt : q < n
     ·have q1 : (0 : Int) ≤ (q : Int) := (by omega); have q2 : (q : Int) < (n : Int) := (by omega); have hHr := H.out.keep hb; obtain ⟨b2, off2, rfl, hbB2, c0, c1, hIq⟩ := hHr.at_ hlt; have HAt : Hid (∀ W, Below w.heap.size w W → Calls Tryz.prog 62 #[.slice (some ⟨b, off, none⟩) n' c', .int .i64 (i : Int), .agg #[.string (mkStr (brAt xs q).mark), .slice (brAt xs q).A (brAt xs q).n (brAt xs q).c]] W fun e w' => e = .returned (.bool (hitB (ws.drop i) (brAt xs q).dat)) ∧ Below W.heap.size W w') := uH (fun W hW => l4At _ n' c' ws i (brAt xs q) W (by omega) (by omega) (by have := (HMk.out q hlt).2.2; omega) (H'.out.keep hW) ((H.out.keep hW).2.2.2.2 _ (brAt_mem (by rw [HL.out]; exact hlt)))); have HAt1 := uH (HAt.out wr hb); have HKs := uH (costK_succ (bs := bs) (ws := ws.drop i) (k := q) (by rw [HLb.out]; exact hlt)); have HDq := HDat.out q hlt; rw [HDq] at HKs; have HKle : Hid (costK bs (ws.drop i) q ≤ 252) := uH (by
       have h1 := costK_le bs (ws.drop i) q; have h2 := HBd.out (i + 1); have h3 := HWl.out i hin; rw [List.drop_drop] at h1; have h4 : (ws.drop i).headD [] = wdAt ws i := by
        have h5 : i < ws.length := (by rw [HL'.out]; exact hin); have h6 := wdAt_some h5; rw [List.getElem?_eq_getElem h5] at h6; injection h6 with h6; rw [List.drop_eq_getElem_cons h5, h6]; rfl
       rw [h4] at h1; omega)
      clear HDq hIq HAt hHr; cases hh : hitB (ws.drop i) (brAt xs q).dat with
      | false =>
       rw [hh] at HAt1; have HI2 : Hid (cs2[i]? = some (.int .i64 ((costK bs (ws.drop i) (q + 1) : Nat) : Int))) := uH (by
        rw [HKs.out]; unfold optD; rw [hh]; exact hI.out)
       clear hh HKs HKle hI; generalize brAt xs q = x at *; (go_wp2_with fail); refine HAt1.out.mono ?_; rintro e w5 ⟨rfl, hb5⟩; have hB5 := uH (hB.out.below hb5); have b5 := below_next hb hb5; clear hb5 hB hb HAt1 c0 c1; go_wp2; go_roundw
       case rel => exact ⟨q + 1, cs2, by omega, by go_num, hS, hC, HI2, hB5, b5⟩
       case measure => simp [intOf]; omega
      | true =>
       rw [hh] at HAt1; have hm3 := HMk.out q hlt; have HXq := uH (HXl.out q hlt); have HLe : Hid (i + (brAt xs q).n ≤ n') := uH (by
        have := hitB_len hh; unfold Br.dat at this; simp only [HXq.out, List.length_drop, HL'.out] at this; omega)
       have HV : Hid (((costK bs (ws.drop i) (q + 1) : Nat) : Int) = min ((costK bs (ws.drop i) q : Nat) : Int) (((costOf bs (ws.drop (i + (brAt xs q).n)) : Nat) : Int) + ((brAt xs q).mark.length : Int))) := uH (by
        rw [HKs.out]; unfold optD; rw [if_pos hh]; have e1 : wayD bs (ws.drop i) (brAt xs q).dat = costOf bs (ws.drop (i + (brAt xs q).n)) + (brAt xs q).mark.length := by
         unfold wayD
         show costOf bs ((ws.drop i).drop (brAt xs q).words.length) + (brAt xs q).mark.length = _
         rw [HXq.out, List.drop_drop]
        rw [e1]; omega)
       clear hh HKs; (go_wp2_with fail); refine HAt1.out.mono ?_; rintro e w5 ⟨rfl, hb5⟩; have hB5 := uH (hB.out.below hb5); have b5 := below_next hb hb5; have k0 := kcell hb5 c0; have k1 := kcell hb5 c1; have hle := HLe.out; have rI : w5.cell? ⟨w.heap.size, i, none⟩ = some (.int .i64 ((costK bs (ws.drop i) q : Nat) : Int)) := (hB5.out.cell i).trans hI.out; have rF := hB5.out.free i; have rJ : w5.cell? ⟨w.heap.size, i + (brAt xs q).n, none⟩ = some (.int .i64 ((costOf bs (ws.drop (i + (brAt xs q).n)) : Nat) : Int)) := (hB5.out.cell _).trans (hC.out _ (by omega) hle); have hc240 := HBd.out (i + (brAt xs q).n); have hk252 := HKle.out; have hsz : (mkStr (brAt xs q).mark).size = (brAt xs q).mark.length := mkStr_size _; have HSz := uH hsz; have hl0 : (mkStr (brAt xs q).mark).size ≤ 3 := (by omega); obtain ⟨m0, m1, m2⟩ := hm3; have l1 : (0 : Int) ≤ (i : Int) + ((brAt xs q).n : Int) := (by omega); have l2 : (i : Int) + ((brAt xs q).n : Int) < (n' : Int) + 1 := (by omega); have HW2 : Hid (∀ x : Int, ((costK bs (ws.drop i) (q + 1) : Nat) : Int) = x → Blk (w5.setCell ⟨w.heap.size, i, none⟩ (.int .i64 x)) w.heap.size 3 (cs2.setIfInBounds i (.int .i64 x)) ∧ Below w.heap.size w (w5.setCell ⟨w.heap.size, i, none⟩ (.int .i64 x)).drew ∧ (cs2.setIfInBounds i (.int .i64 x)).size = n' + 1 ∧ (∀ j, i + 1 ≤ j → j ≤ n' → (cs2.setIfInBounds i (.int .i64 x))[j]? = some (.int .i64 ((costOf bs (ws.drop j) : Nat) : Int))) ∧ (cs2.setIfInBounds i (.int .i64 x))[i]? = some (.int .i64 ((costK bs (ws.drop i) (q + 1) : Nat) : Int))) := uH (fun x hx =>
        ⟨hB5.out.set i _, (b5.setCell (Nat.le_refl _) _).drew, by rw [Array.size_setIfInBounds]; exact hS.out, fun j h1 h2 => by rw [Array.getElem?_setIfInBounds_ne (by omega)]; exact hC.out j h1 h2, by rw [Array.getElem?_setIfInBounds_self_of_lt (by rw [hS.out]; omega), hx]⟩)
       obtain ⟨z1, z2, z3, z4, z5⟩ := HW2.out (min ((costK bs (ws.drop i) q : Nat) : Int) (((costOf bs (ws.drop (i + (brAt xs q).n)) : Nat) : Int) + ((mkStr (brAt xs q).mark).size : Int))) (by rw [HV.out, HSz.out]); have Z1 := uH z1; have Z2 := uH z2; have Z3 := uH z3; have Z4 := uH z4; have Z5 := uH z5; clear z1 z2 z3 z4 z5 HW2 hsz HV HSz hB hB5 hb b5 hb5 hS hC hI HKle HLe HXq HAt1 c0 c1 m0; generalize mkStr (brAt xs q).mark = sM at *; generalize costK bs (ws.drop i) q = K1 at *; generalize costOf bs (ws.drop (i + (brAt xs q).n)) = C2 at *; generalize brAt xs q = x at *; have HME : Hid (min (K1 : Int) ((C2 : Int) + (sM.size : Int)) = (if (C2 : Int) + (sM.size : Int) < (K1 : Int) then (C2 : Int) + (sM.size : Int) else (K1 : Int))) := uH (by split <;> omega)
       (go_wp2_with fail); go_region
       all_goals
        go_wp2; go_roundw
        case rel => first | exact ⟨q + 1, _, by omega, by go_num, Z3, Z4, Z5, uH Z1.out, Z2.out⟩ | (rw [← HME.out]; exact ⟨q + 1, _, by omega, by go_num, Z3, Z4, Z5, uH Z1.out, Z2.out⟩)
        case measure => simp [intOf] <;> omega
     ·obtain rfl : q = n := (by omega); have HFi : Hid (costK bs (ws.drop i) q = costOf bs (ws.drop i)) := uH (by
       have := costK_all HOne.out (ws := ws.drop i) (by rw [List.length_drop, HL'.out]; omega)
       rwa [HLb.out] at this)
      have HC2 : Hid (∀ j, i ≤ j → j ≤ n' → cs2[j]? = some (.int .i64 ((costOf bs (ws.drop j) : Nat) : Int))) := uH (fun j h1 h2 => by
       by_cases e : j = i
       ·rw [e, hI.out, HFi.out]
       ·exact hC.out j (by omega) h2)
      clear hC hI HFi; go_wp2; go_roundw
      case rel => exact ⟨i, cs2, by omega, by go_num, hS, HC2, hB, hb⟩
      case measure => simp [intOf] <;> omega
end Go.Proofs.YtbkhnljaajajiaaGreatDoor
