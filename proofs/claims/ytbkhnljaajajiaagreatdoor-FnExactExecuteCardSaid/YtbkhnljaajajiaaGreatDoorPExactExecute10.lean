/-
  Contracts and plain laws that the proof of the law ExactExecute leans on. Conditions: as each says.
-/
import Derived.Test.YtbkhnljaajajiaaGreatDoorPExactExecute00
import Derived.Test.YtbkhnljaajajiaaGreatDoorPExactExecute04
import Derived.Test.YtbkhnljaajajiaaGreatDoorPExactExecute07
import Derived.Test.YtbkhnljaajajiaaGreatDoorPExactExecute09
import Derived.Deep.RegionHeld3
import Derived.Deep.RegionLaw
namespace Go.Proofs.YtbkhnljaajajiaaGreatDoor
open Go.ChangeShapes Go.WideShapes Go.ChangeAt Go.RowKit
set_option maxRecDepth 100000
set_option linter.unusedSimpArgs false
set_option linter.unusedVariables false
def isDig (c : UInt8) : Bool := decide (48 ≤ c.toNat ∧ c.toNat ≤ 57)
def numV (l : Wd) : Nat := l.foldl (fun n c => 10 * n + (c.toNat - 48)) 0
def numB (l : Wd) : Bool := l.all isDig && decide (1 ≤ l.length ∧ l.length ≤ 4)
def numOf (l : Wd) : Int := if numB l = true then (numV l : Int) else 99999
theorem numV_snoc (l : Wd) (c : UInt8) : numV (l ++ [c]) = 10 * numV l + (c.toNat - 48) := by unfold numV; rw [List.foldl_append]; rfl
theorem numV_lt (l : Wd) : ∀ n, l.length = n → l.all isDig = true → numV l < 10 ^ n := by
 intro n; induction n generalizing l with
 | zero => intro h _; have : l = [] := List.length_eq_zero_iff.1 h; subst this; decide
 | succ n ih =>
  intro h h2; obtain ⟨r, c, rfl⟩ : ∃ r c, l = r ++ [c] := ⟨l.dropLast, l.getLast (by intro e; rw [e] at h; simp at h), (List.dropLast_concat_getLast _).symm⟩; rw [List.length_append] at h; rw [List.all_append, Bool.and_eq_true] at h2; have h3 := ih r (by simpa using h) h2.1; have h4 : isDig c = true := (by simpa using h2.2); unfold isDig at h4; rw [decide_eq_true_iff] at h4; rw [numV_snoc, Nat.pow_succ]; omega
theorem numOf_bd (l : Wd) : 0 ≤ numOf l ∧ numOf l ≤ 99999 := by
 unfold numOf; split
 ·rename_i h
  unfold numB at h; rw [Bool.and_eq_true, decide_eq_true_iff] at h; have h1 := numV_lt l l.length rfl h.1; have h2 : 10 ^ l.length ≤ 10 ^ 4 := Nat.pow_le_pow_right (by omega) h.2.2; omega
 ·omega
theorem numOf_small {l : Wd} (h : ¬ (1 ≤ l.length ∧ l.length ≤ 4)) : numOf l = 99999 := by
 unfold numOf numB; rw [decide_eq_false h, Bool.and_false]; rfl
theorem dig_step (s : ByteArray) (k : Nat) (h : k < s.size) (ha : (s.data.toList.take k).all isDig = true) (h1 : 48 ≤ (s[k].toNat : Int)) (h2 : (s[k].toNat : Int) ≤ 57) :
  (s.data.toList.take (k + 1)).all isDig = true ∧ ((numV (s.data.toList.take (k + 1)) : Nat) : Int) = 10 * ((numV (s.data.toList.take k) : Nat) : Int) + ((s[k].toNat : Int) - 48) := by
 rw [take_snoc s k h, List.all_append, ha, numV_snoc]; refine ⟨by simp [isDig]; omega, by omega⟩
theorem dig_bad (s : ByteArray) (k : Nat) (h : k < s.size) (h1 : (s[k].toNat : Int) < 48 ∨ 57 < (s[k].toNat : Int)) : numOf s.data.toList = 99999 := by
 have hm : s[k] ∈ s.data.toList := by
  have : s[k] = s.data.toList[k]'(by simpa using h) := rfl; rw [this]; exact List.getElem_mem _
 have hb : isDig s[k] = false := (by simp [isDig]; omega); have : s.data.toList.all isDig = false := by
  rw [List.all_eq_false]; exact ⟨_, hm, by simp [hb]⟩
 simp [numOf, numB, this]
theorem dig_done (s : ByteArray) (k : Nat) (hk : ¬ k < s.size) (hs : 1 ≤ s.size ∧ s.size ≤ 4) (ha : (s.data.toList.take k).all isDig = true) : numOf s.data.toList = ((numV (s.data.toList.take k) : Nat) : Int) := by
 have e : s.data.toList.take k = s.data.toList := List.take_of_length_le (by simp; omega); have l : s.data.toList.length = s.size := (by simp); rw [e] at ha ⊢; unfold numOf numB; rw [ha, l, decide_eq_true hs]; rfl
theorem dig_bd (s : ByteArray) (k : Nat) (hk : k ≤ s.size) (hs : s.size ≤ 4) (ha : (s.data.toList.take k).all isDig = true) : numV (s.data.toList.take k) ≤ 9999 := by
 have h1 := numV_lt _ k (by rw [List.length_take]; simp; omega) ha; have h2 : 10 ^ k ≤ 10 ^ 4 := Nat.pow_le_pow_right (by omega) (by omega); omega
theorem implNumberOf (s : ByteArray) (w : World) (hs : s.size ≤ maxLen) : Calls Tryz.prog 167 #[.string s] w fun e w' => e = .returned (.int .i64 (numOf s.data.toList)) ∧ w = w' := by
 unfold maxLen at hs; have HSz : Hid (s.data.toList.length = s.size) := uH (by simp); by_cases hg : 1 ≤ s.size ∧ s.size ≤ 4
 ·obtain ⟨g1, g2⟩ := hg; go_enter Tryz.func167, Tryz.ntmps167
  go_wp2
  go_loop [3, 15] (fun n i => ∃ k : Nat, k ≤ s.size ∧ i = .int .i64 k ∧ n = .int .i64 ((numV (s.data.toList.take k) : Nat) : Int) ∧ Hid ((s.data.toList.take k).all isDig = true)) (fun _ i => s.size - (intOf i).toNat)
  case atStart => exact ⟨0, Nat.zero_le _, rfl, rfl, uH rfl⟩
  case round =>
   obtain ⟨k, hk, rfl, rfl, hall⟩ := hrel; have hbd := dig_bd s k hk g2 hall.out; by_cases hlt : k < s.size
   ·by_cases h1 : (s[k].toNat : Int) < 48
    ·go_wp2; go_ret; exact ⟨ret_int (by rw [dig_bad s k hlt (.inl h1)]), rfl⟩
    by_cases h2 : 57 < (s[k].toNat : Int)
    ·go_wp2; go_ret; exact ⟨ret_int (by rw [dig_bad s k hlt (.inr h2)]), rfl⟩
    have hst := dig_step s k hlt hall.out (by omega) (by omega); have HA := uH hst.1; have HV := uH hst.2; clear hst hall; generalize numV (s.data.toList.take k) = q at *; have h3 : 48 ≤ (s[k].toNat : Int) := (by omega); have h4 : (s[k].toNat : Int) ≤ 57 := (by omega); have hw1 : IntKind.u8.wrap ((s[k].toNat : Int) - 48) = (s[k].toNat : Int) - 48 := by
     show ((s[k].toNat : Int) - 48) % 256 = _
     omega
    go_wp2
    go_round
    case rel => exact ⟨k + 1, by omega, by go_num, by rw [HV.out], HA⟩
    case measure => simp [intOf] <;> omega
   ·have HF : Hid (numOf s.data.toList = ((numV (s.data.toList.take k) : Nat) : Int)) := uH (dig_done s k hlt ⟨g1, g2⟩ hall.out); generalize numV (s.data.toList.take k) = q at *; go_wp2; go_ret; exact ⟨ret_int HF.out.symm, rfl⟩
 ·have HF : Hid (numOf s.data.toList = 99999) := uH (numOf_small (by rw [HSz.out]; exact hg)); by_cases h1 : s.size < 1
  ·go_enter Tryz.func167, Tryz.ntmps167
   go_wp2; go_ret; exact ⟨ret_int HF.out.symm, rfl⟩
  ·have h2 : 4 < s.size := (by omega); go_enter Tryz.func167, Tryz.ntmps167
   go_wp2; go_ret; exact ⟨ret_int HF.out.symm, rfl⟩
theorem specNumber (s : ByteArray) (w : World) (hs : s.size ≤ maxLen) : Calls Tryz.prog 116 #[.string s] w fun e w' => e = .returned (.int .i64 (numOf s.data.toList)) ∧ w = w' := by
 unfold maxLen at hs; have HSz : Hid (s.data.toList.length = s.size) := uH (by simp); by_cases hg : 1 ≤ s.size ∧ s.size ≤ 4
 ·obtain ⟨g1, g2⟩ := hg; have HI : Hid (Calls Tryz.prog 134 #[.int .i64 (s.size : Int), .int .i64 1, .int .i64 4] w fun e w' => e = .returned (.bool true) ∧ w = w') := uH ((l6In_any _ _ _ _).mono fun e w' ⟨he, hw⟩ => ⟨by rw [he]; exact ret_bool (decide_eq_true (by omega)), hw⟩); go_enter Tryz.func116, Tryz.ntmps116
  (go_wp2_with fail); refine HI.out.mono ?_; rintro e w1 ⟨rfl, rfl⟩; go_wp2
  go_loop [3, 4] (fun n i => ∃ k : Nat, k ≤ s.size ∧ i = .int .i64 k ∧ n = .int .i64 ((numV (s.data.toList.take k) : Nat) : Int) ∧ Hid ((s.data.toList.take k).all isDig = true)) (fun _ i => s.size - (intOf i).toNat)
  case atStart => exact ⟨0, Nat.zero_le _, rfl, rfl, uH rfl⟩
  case round =>
   obtain ⟨k, hk, rfl, rfl, hall⟩ := hrel; have hbd := dig_bd s k hk g2 hall.out; by_cases hlt : k < s.size
   ·by_cases h1 : (s[k].toNat : Int) < 48
    ·go_wp2; go_ret; exact ⟨ret_int (by rw [dig_bad s k hlt (.inl h1)]), rfl⟩
    by_cases h2 : 57 < (s[k].toNat : Int)
    ·go_wp2; go_ret; exact ⟨ret_int (by rw [dig_bad s k hlt (.inr h2)]), rfl⟩
    have hst := dig_step s k hlt hall.out (by omega) (by omega); have HA := uH hst.1; have HV := uH hst.2; clear hst hall; generalize numV (s.data.toList.take k) = q at *; have h3 : 48 ≤ (s[k].toNat : Int) := (by omega); have h4 : (s[k].toNat : Int) ≤ 57 := (by omega); have hw1 : IntKind.u8.wrap ((s[k].toNat : Int) - 48) = (s[k].toNat : Int) - 48 := by
     show ((s[k].toNat : Int) - 48) % 256 = _
     omega
    go_wp2
    go_round
    case rel => exact ⟨k + 1, by omega, by go_num, by rw [HV.out], HA⟩
    case measure => simp [intOf] <;> omega
   ·have HF : Hid (numOf s.data.toList = ((numV (s.data.toList.take k) : Nat) : Int)) := uH (dig_done s k hlt ⟨g1, g2⟩ hall.out); generalize numV (s.data.toList.take k) = q at *; go_wp2; go_ret; exact ⟨ret_int HF.out.symm, rfl⟩
 ·have HF : Hid (numOf s.data.toList = 99999) := uH (numOf_small (by rw [HSz.out]; exact hg)); have HI : Hid (Calls Tryz.prog 134 #[.int .i64 (s.size : Int), .int .i64 1, .int .i64 4] w fun e w' => e = .returned (.bool false) ∧ w = w') := uH ((l6In_any _ _ _ _).mono fun e w' ⟨he, hw⟩ => ⟨by rw [he]; exact ret_bool (decide_eq_false (by omega)), hw⟩); go_enter Tryz.func116, Tryz.ntmps116
  (go_wp2_with fail); refine HI.out.mono ?_; rintro e w1 ⟨rfl, rfl⟩; go_wp2; go_ret; exact ⟨ret_int HF.out.symm, rfl⟩
def cutQ (d : UInt8) : List UInt8 → List UInt8 → List (List UInt8)
 | cur, [] => [cur]
 | cur, c :: r => if c = d then cur :: cutQ d [] r else cutQ d (cur ++ [c]) r
def cutB (d : UInt8) (l : List UInt8) : List (List UInt8) := cutQ d [] l
theorem cutQ_len (d : UInt8) (cur l : List UInt8) : (cutQ d cur l).length ≤ l.length + 1 := by
 induction l generalizing cur with
 | nil => simp [cutQ]
 | cons c r ih =>
  unfold cutQ; split
  ·have := ih []; simp; omega
  ·have := ih (cur ++ [c]); simp; omega
theorem cutQ_bd (d : UInt8) (cur l : List UInt8) : ∀ p ∈ cutQ d cur l, p.length ≤ cur.length + l.length := by
 induction l generalizing cur with
 | nil => intro p hp; simp [cutQ] at hp; subst hp; simp
 | cons c r ih =>
  intro p hp; unfold cutQ at hp; split at hp
  ·rcases List.mem_cons.1 hp with rfl | hp
   ·simp
   ·have := ih [] p hp; simp at this ⊢; omega
  ·have := ih _ p hp; simp at this ⊢; omega
theorem cutQ_go {d : UInt8} {l : List UInt8} {k f : Nat} (hk : k < l.length) (hf : f ≤ k) (h : l[k] ≠ d) : cutQ d ((l.take k).drop f) (l.drop k) = cutQ d ((l.take (k + 1)).drop f) (l.drop (k + 1)) := by
 rw [List.drop_eq_getElem_cons hk, cutQ, if_neg h, List.take_succ_eq_append_getElem hk, List.drop_append_of_le_length (by rw [List.length_take]; omega)]
theorem cutQ_at {d : UInt8} {l : List UInt8} {k f : Nat} (hk : k < l.length) (h : l[k] = d) : cutQ d ((l.take k).drop f) (l.drop k) = (l.take k).drop f :: cutQ d ((l.take (k + 1)).drop (k + 1)) (l.drop (k + 1)) := by
 have e : (l.take (k + 1)).drop (k + 1) = [] := List.drop_of_length_le (by rw [List.length_take]; omega); rw [List.drop_eq_getElem_cons hk, cutQ, if_pos h, e]
theorem cutQ_end {d : UInt8} {l : List UInt8} {f : Nat} : cutQ d ((l.take l.length).drop f) (l.drop l.length) = [l.drop f] := by
 rw [List.drop_length, List.take_length, cutQ]
set_option maxHeartbeats 800000 in
theorem l3CutB (q8 : UInt8) (s : ByteArray) (w : World) (hs : s.size ≤ 4096) :
  Calls Tryz.prog 53 #[.string s, (.int .u8 (q8.toNat : Int))] w fun e w' => (∃ A c, e = .returned (.slice A (cutB q8 s.data.toList).length c) ∧ w'.ownsRow w.heap.size 9 1 (.slice A (cutB q8 s.data.toList).length c) (cutB q8 s.data.toList).length ((cutB q8 s.data.toList).map strP)) ∧ Below w.heap.size w w' := by
 obtain ⟨i0, hi, hz0, hz1, hz2⟩ := info_parts infoStr; have HL : Hid (s.data.toList.length = s.size) := uH (by simp); have hcl := cutQ_len q8 [] s.data.toList; rw [HL.out] at hcl; have HCl : Hid ((cutB q8 s.data.toList).length ≤ s.size + 1) := uH hcl; clear hcl; go_enter Tryz.func53, Tryz.ntmps53
 go_wp2; go_loopw [5, 6, 7] (fun v f i wr => ∃ (k f0 : Nat) (P : List (List UInt8)), k ≤ s.size ∧ f0 ≤ k ∧ f = .int .i64 f0 ∧ i = .int .i64 k ∧ Hid (cutB q8 s.data.toList = P ++ cutQ q8 ((s.data.toList.take k).drop f0) (s.data.toList.drop k)) ∧ Hid (wr.ownsRow w.heap.size 9 1 v P.length (P.map strP)) ∧ Below w.heap.size w wr) (fun _ _ i _ => s.size - (intOf i).toNat)
 case atStart =>
  refine ⟨0, 0, [], Nat.zero_le _, Nat.le_refl _, rfl, rfl, uH rfl, uH ?_, (Below.refl _ _).alloc (Nat.le_refl _) _⟩; exact World.ownsRow_made w #[] 0 (Nat.le_refl _) (by simp) (by simp)
 case round =>
  obtain ⟨k, f0, P, hk, hf, rfl, rfl, HC, HO, hb⟩ := hrel; have hz := hb.size; have hPl : P.length ≤ s.size + 1 := by
   have h1 := HCl.out; rw [HC.out, List.length_append] at h1; omega
  by_cases hlt : k < s.size
  ·have hkl : k < s.data.toList.length := (by rw [HL.out]; exact hlt); have hge : s.data.toList[k] = s[k] := (by simp [ByteArray.getElem_eq_getElem_data]); by_cases e : s[k] = q8
   ·have hbq : ((s[k].toNat : Int) == (q8.toNat : Int)) = true := (by rw [e]; exact beq_self_eq_true _); have HC2 : Hid (cutB q8 s.data.toList = (P ++ [(s.data.toList.take k).drop f0]) ++ cutQ q8 ((s.data.toList.take (k + 1)).drop (k + 1)) (s.data.toList.drop (k + 1))) := uH (by
     rw [HC.out, cutQ_at hkl (by rw [hge, e]), List.append_assoc]; rfl)
    have hx := ext_mid s f0 k; have hi1 : (0 : Int) ≤ (f0 : Int) := (by omega); have hi2 : (f0 : Int) ≤ (k : Int) := (by omega); have hi3 : (k : Int) ≤ (s.size : Int) := (by omega); clear e hge; generalize (s.data.toList.take k).drop f0 = cur at *; go_wp2_with (at_builtin; refine wpList_append_any _ rfl (.tmp 20) (.tmp 25) _ rfl w.heap.size 9 i0 _ 1 16 Tryz.underlying27 hi hz0 hz1 hz2 rfl (by omega) _ P.length (P.map strP) rfl (HO.out.alloc _) (wr.heap.size + 1) (some ⟨wr.heap.size, 0, none⟩) 1 1 [strP cur] (by simp [Act.eval, Act.put]) (rowStr _ _ _) (by simp [strP, Value.oneCell']) (by unfold maxLen; omega) (by omega) (by simp; omega) ?_; intro v4 w4 hown4 hg4 hat4)
    have HO4 : Hid (w4.ownsRow w.heap.size 9 1 v4 (P ++ [cur]).length ((P ++ [cur]).map strP)) := uH (by rw [List.length_append, List.map_append]; exact hown4); have b4 : Below w.heap.size w w4 := (hb.alloc hz _).grown hg4 (by simp; omega) (fun q hq => ownG_base HO.out hq); clear hown4 hg4 hat4 HC HO hx; go_wp2; go_roundw
    case rel => exact ⟨k + 1, k + 1, P ++ [cur], by omega, Nat.le_refl _, by go_num, by go_num, HC2, HO4, b4⟩
    case measure => simp [intOf]; omega
   ·have hbq : ((s[k].toNat : Int) == (q8.toNat : Int)) = false := beq_eq_false_iff_ne.2 (fun h => e (UInt8.toNat_inj.1 (by omega))); have HC2 : Hid (cutB q8 s.data.toList = P ++ cutQ q8 ((s.data.toList.take (k + 1)).drop f0) (s.data.toList.drop (k + 1))) := uH (by
     rw [HC.out, cutQ_go hkl hf (by rw [hge]; exact e)])
    clear e hge HC; go_wp2; go_roundw
    case rel => exact ⟨k + 1, f0, P, by omega, by omega, rfl, by go_num, HC2, HO, hb⟩
    case measure => simp [intOf]; omega
  ·obtain rfl : k = s.size := (by omega); have HC2 : Hid (cutB q8 s.data.toList = P ++ [s.data.toList.drop f0]) := uH (by
    rw [HC.out, ← HL.out, cutQ_end])
   have hx := ext_end s f0; have hi1 : (0 : Int) ≤ (f0 : Int) := (by omega); have hi2 : (f0 : Int) ≤ (s.size : Int) := (by omega); clear HC; generalize s.data.toList.drop f0 = cur at *; go_wp2_with (at_builtin; refine wpList_append_any _ rfl (.tmp 29) (.tmp 33) _ rfl w.heap.size 9 i0 _ 1 16 Tryz.underlying27 hi hz0 hz1 hz2 rfl (by omega) _ P.length (P.map strP) rfl (HO.out.alloc _) (wr.heap.size + 1) (some ⟨wr.heap.size, 0, none⟩) 1 1 [strP cur] (by simp [Act.eval, Act.put]) (rowStr _ _ _) (by simp [strP, Value.oneCell']) (by unfold maxLen; omega) (by omega) (by simp; omega) ?_; intro v4 w4 hown4 hg4 hat4)
   have HO4 : Hid (w4.ownsRow w.heap.size 9 1 v4 (cutB q8 s.data.toList).length ((cutB q8 s.data.toList).map strP)) := uH (by rw [HC2.out, List.length_append, List.map_append]; exact hown4); have b4 : Below w.heap.size w w4 := (hb.alloc hz _).grown hg4 (by simp; omega) (fun q hq => ownG_base HO.out hq); clear hown4 hg4 hat4 HC2 HO hx; obtain ⟨A5, c5, rfl, _, _⟩ := ownG_form HO4.out; go_wp2; go_returns; exact ⟨⟨A5, c5, rfl, HO4.out⟩, b4⟩
theorem infoLeafP : ∃ i : TypeInfo, Tryz.prog.info? 134 = some i ∧ i.zero = some (.pointer none) ∧ i.size = 1 ∧ i.bytes = 8 := ⟨_, by rfl, by rfl, by rfl, by rfl⟩
theorem LastIs.isNil {w : World} {B : Nat} {v : Value} (h : LastIs w B v []) : v = .pointer none := by
 rcases h with ⟨_, h⟩ | ⟨l', p, b, o, h, _⟩
 ·exact h
 ·simp at h
theorem LastIs.isLast {w : World} {B : Nat} {v : Value} {l : List Pad} {q : Pad} (h : LastIs w B v l) (hq : l.getLast? = some q) :
  ∃ b o, v = .pointer (some ⟨b, o, none⟩) ∧ b < B ∧ w.cell? ⟨b, o, none⟩ = some (.int .i64 q.day) ∧ w.cell? ⟨b, o + 1, none⟩ = some (.string q.case) ∧ q.good := by
 rcases h with ⟨rfl, _⟩ | ⟨l', p, b, o, rfl, h⟩
 ·cases hq
 ·simp at hq; subst hq; exact ⟨b, o, h⟩
theorem take_flat {ds : List Drawer} {k : Nat} (h : k < ds.length) : allPads (ds.take (k + 1)) = allPads (ds.take k) ++ (drAt ds k).ps := allPads_step h
theorem allPads_split {ds : List Drawer} {k : Nat} : ∃ r, allPads ds = allPads (ds.take k) ++ r := ⟨allPads (ds.drop k), by
 unfold allPads; rw [← List.flatMap_append, List.take_append_drop]⟩
theorem padsTake_snoc {ps : List Pad} {j : Nat} (h : j < ps.length) : ps.take (j + 1) = ps.take j ++ [padAt ps j] := by
 rw [List.take_add_one, padAt_some h]; rfl
theorem sorted_not {ds : List Drawer} {k j : Nat} (hk : k < ds.length) (h : ¬ sortedOK (allPads (ds.take k) ++ (drAt ds k).ps.take j)) : cabB (ds.map (·.ps)) = false := cabB_no (fun hc => h (by
 have h1 := hc.2.2; rw [allPads_flat] at h1; obtain ⟨r, hr⟩ := allPads_split (ds := ds) (k := k + 1); rw [hr, take_flat hk, List.append_assoc] at h1; have h2 : (drAt ds k).ps = (drAt ds k).ps.take j ++ (drAt ds k).ps.drop j := (List.take_append_drop _ _).symm; rw [h2, List.append_assoc, ← List.append_assoc] at h1; exact sorted_left h1))
theorem keepCell {W W' : World} {row : Option Nat} {a : Addr} {u : Value} (hg : W.grownBy W' row) (hr : row ≠ Option.some a.block) (h : W.cell? a = Option.some u ∧ W.frozen? a = false) : W'.cell? a = Option.some u ∧ W'.frozen? a = false := by
 have hlt : a.block < W.heap.size := by
  rcases Nat.lt_or_ge a.block W.heap.size with hlt | hge
  ·exact hlt
  ·have := h.1; unfold World.cell? at this; rw [Array.getElem?_eq_none hge] at this; cases this
 have hk := hg.block a.block hlt (fun e => hr e.symm); exact ⟨by rw [← h.1]; exact World.cell?_of_block hk, by rw [← h.2]; unfold World.frozen?; rw [hk]⟩
theorem keepBelow {W W' : World} {a : Addr} {u : Value} (hb : Below W.heap.size W W') (h : W.cell? a = Option.some u ∧ W.frozen? a = false) : W'.cell? a = Option.some u ∧ W'.frozen? a = false := ⟨kcell hb h.1, kfree hb h.1 h.2⟩
theorem keepAlloc {W : World} {a : Addr} {u : Value} (h : W.cell? a = Option.some u ∧ W.frozen? a = false) (o : Obj) : (W.alloc o).cell? a = Option.some u ∧ (W.alloc o).frozen? a = false := keepBelow ((Below.refl _ _).alloc (Nat.le_refl _) _) h
theorem rowNew (w1 : World) (o : Obj) (u : Value) (t : TypeId) : Row ((w1.alloc o).alloc (.cells #[u] t)) (w1.heap.size + 2) (Option.some ⟨w1.heap.size + 1, 0, Option.none⟩) 1 1 [u] := by
 refine ⟨rfl, fun _ => ⟨w1.heap.size + 1, 0, rfl, by omega, fun j x hx => ?_⟩⟩; rcases j with _ | j
 ·simp at hx; subst hx; have := newcell (w1.alloc o) #[u] t 0 u rfl
  rwa [show (w1.alloc o).heap.size = w1.heap.size + 1 by simp] at this
 ·simp at hx
theorem bel2 {w w1 : World} (hb : Below w.drew.heap.size w.drew w1) (o o' : Obj) : Below w.heap.size w ((w1.alloc o).alloc o') := by
 have h1 : Below w.heap.size w w1 := Below.trans (by go_grown) hb; exact (h1.alloc h1.size o).alloc (by simp; have := h1.size; omega) o'
def TreeAns (w : World) (B : Nat) (css : List (List Pad)) (e : Ending) : Prop :=
 (cabB css = false ∧ e = .returned (.tuple #[.pointer none, .bool false])) ∨
 (cabB css = true ∧ ∃ t v ls, e = .returned (.tuple #[.pointer (some ⟨t, 0, none⟩), .bool true]) ∧ TreeIn w B t v ls ∧ ls.map (·.ps) = css)
theorem TreeAns.no {w : World} {B : Nat} {css : List (List Pad)} {e : Ending} (h : cabB css = false) (he : e = .returned (.tuple #[.pointer none, .bool false])) : TreeAns w B css e := .inl ⟨h, he⟩
theorem TreeAns.yes {w : World} {B t : Nat} {v : Value} {ls : List Leaf} {css : List (List Pad)} {e : Ending} (h : cabB css = true) (he : e = .returned (.tuple #[.pointer (some ⟨t, 0, none⟩), .bool true])) (ht : TreeIn w B t v ls) (hm : ls.map (·.ps) = css) : TreeAns w B css e := .inr ⟨h, t, v, ls, he, ht, hm⟩
set_option maxHeartbeats 4000000 in
theorem treeOf (A : Option Addr) (n c : Nat) (ds : List Drawer) (w : World) (h : DrawersIn w w.heap.size A n c ds) :
  Calls Tryz.prog 81 #[.slice A n c] w fun e w' => TreeAns w' w.heap.size (ds.map (·.ps)) e ∧ Below w.heap.size w w' := by
 have hm := h.2.2.1; have hnc := h.2.1; have HL : Hid (ds.length = n) := uH h.1; unfold maxLen at hm; have H := uH h; clear h; obtain ⟨i0, hi, hz0, hz1, hz2⟩ := infoLeafP; by_cases hn6 : n ≤ 6
 ·go_enter Tryz.func81, Tryz.ntmps81
  go_wp2; go_loopw [5, 16] (fun lv i wr => ∃ (k : Nat) (v : Value) (ls : List Leaf), k ≤ n ∧ i = .int .i64 k ∧ Hid (LastIs w w.heap.size lv (allPads (ds.take k))) ∧ Hid (sortedOK (allPads (ds.take k)) ∧ (∀ d ∈ ds.take k, lenOK d.ps)) ∧ Hid (TreeIn wr w.heap.size w.heap.size v ls) ∧ Hid (ls.map (·.ps) = (ds.take k).map (·.ps)) ∧ Below w.heap.size w wr) (fun _ i _ => n - (intOf i).toNat)
  case atStart =>
   refine ⟨0, .slice none 0 0, [], Nat.zero_le _, rfl, uH (.inl ⟨by simp [allPads], rfl⟩), uH ⟨fun i hi => by simp [allPads] at hi, by simp⟩, uH ⟨Nat.le_refl _, Blk.new _ _ _, ⟨World.ownsRow_nil _ _ _ _, by simp, by simp, by simp⟩⟩, uH (by simp), (Below.refl _ _).alloc (Nat.le_refl _) _⟩
  case round =>
   obtain ⟨k, v, ls, hk, rfl, HLa, HS, HT, HM, hb⟩ := hrel; by_cases hlt : k < n
   ·obtain ⟨b, off, eA, hbB, c0, hP⟩ := (H.out.below hb).at_ hlt; have hkl : k < ds.length := (by have := HL.out; omega); have hs := drAt_some hkl; subst eA; have hdl := hP.1; by_cases hok : 1 ≤ (drAt ds k).n ∧ (drAt ds k).n ≤ 4
    ·obtain ⟨hok1, hok2⟩ := hok; have HNo : Hid (∀ j, ¬ sortedOK (allPads (ds.take k) ++ (drAt ds k).ps.take j) → cabB (ds.map (·.ps)) = false) := uH (fun j => sorted_not hkl); have HNx : Hid (allPads (ds.take (k + 1)) = allPads (ds.take k) ++ (drAt ds k).ps) := uH (allPads_step hkl); have HLx : Hid (∀ d ∈ ds.take (k + 1), lenOK d.ps) := uH (by
      rw [take_step hs]; intro d hd; rcases List.mem_append.1 hd with h | h
      ·exact HS.out.2 d h
      ·simp at h; subst h; unfold lenOK; omega)
     have HMx : Hid ((ds.take (k + 1)).map (·.ps) = (ds.take k).map (·.ps) ++ [(drAt ds k).ps]) := uH (by rw [take_step hs]; simp); have HS1 := uH HS.out.1; have HPd := uH hP; have HDL := uH hdl; clear hkl hP hs hdl HS; generalize drAt ds k = d at *; generalize allPads (ds.take k) = pk at *; go_wp2; go_loopw [5, 30] (fun lv i wr' => ∃ (j : Nat), j ≤ d.n ∧ i = .int .i64 j ∧ Hid (LastIs w w.heap.size lv (pk ++ d.ps.take j)) ∧ Hid (sortedOK (pk ++ d.ps.take j)) ∧ Below wr.heap.size wr wr') (fun _ i _ => d.n - (intOf i).toNat)
     case atStart => exact ⟨0, Nat.zero_le _, rfl, uH (by simpa using HLa.out), uH (by simpa using HS1.out), Below.refl _ _⟩
     case round =>
      obtain ⟨j, hj, rfl, HLb, HSb, hbq⟩ := hrel; have b2 := hb.trans (hbq.mono hb.size); by_cases hlj : j < d.n
      ·obtain ⟨b', off', eA, hbB', c0', c1', hg⟩ := (HPd.out.below (hbq.mono hb.size)).at_ hlj; have hsn := padsTake_snoc (ps := d.ps) (j := j) (by have := HDL.out; omega); have HSn : Hid (sortedOK (pk ++ d.ps.take (j + 1)) ↔ sortedOK (pk ++ d.ps.take j) ∧ okP (padAt d.ps j) = true ∧ ∀ q, (pk ++ d.ps.take j).getLast? = some q → ordPad q (padAt d.ps j) < 0) := uH (by
        rw [hsn, ← List.append_assoc]; exact sorted_snoc)
       have c0w : w.cell? ⟨b', off' + j * 2, none⟩ = some (.int .i64 (padAt d.ps j).day) := (by rw [← c0']; exact (b2.cell hbB').symm); have c1w : w.cell? ⟨b', off' + j * 2 + 1, none⟩ = some (.string (padAt d.ps j).case) := (by rw [← c1']; exact (b2.cell hbB').symm); have HLc : Hid (LastIs w w.heap.size (.pointer (some ⟨b', off' + j * 2, none⟩)) (pk ++ d.ps.take (j + 1))) := uH (.inr ⟨pk ++ d.ps.take j, padAt d.ps j, b', off' + j * 2, by rw [hsn, List.append_assoc], rfl, hbB', c0w, c1w, hg⟩); clear hsn c0w c1w; rw [eA] at HPd ⊢; by_cases hv : okP (padAt d.ps j) = true
       ·have cv : ∀ W, Calls Tryz.prog 76 #[.agg #[.int .i64 (padAt d.ps j).day, .string (padAt d.ps j).case]] W fun e w' => e = .returned (.bool true) ∧ Below W.heap.size W w' := fun W => by
         have := implPadValid (padAt d.ps j).day (padAt d.ps j).case W hg.2
         rwa [show padB (padAt d.ps j).day (padAt d.ps j).case.data.toList = true from hv] at this
        have CV := uH cv; clear cv; rcases hq : (pk ++ d.ps.take j).getLast? with _ | q
        ·have hnil : pk ++ d.ps.take j = [] := List.getLast?_eq_none_iff.1 hq; have HSx : Hid (sortedOK (pk ++ d.ps.take (j + 1))) := uH (HSn.out.2 ⟨HSb.out, hv, fun q h => by rw [hq] at h; cases h⟩); rw [hnil] at HLb; have hlv := HLb.out.isNil; subst hlv; clear HLb HSn hnil hq hv; generalize padAt d.ps j = p at *; have r0' := qcell c0'; have r1' := qcell c1'; (go_wp2_with fail); refine region_qb (by kernel_rfl) (by kernel_rfl) ?_; repeat (first | go_big_quiet_step (((go_at_call 76; exact quietB (CV.out _)))) | quiet_step (((go_at_call 76; exact quietB (CV.out _)))))
         refine wpQuiet_nil ?_; intro w3 hb3; have b3 := hbq.trans (hb3.mono hbq.size); clear r0' r1' c0' c1' hb3; go_wp2; go_roundw
         case rel => exact ⟨j + 1, by omega, by go_num, HLc, HSx, b3⟩
         case measure => simp [intOf]; omega
        ·obtain ⟨bq, oq, rfl, hbq', q0, q1, hgq⟩ := HLb.out.isLast hq; rw [← b2.cell hbq'] at q0 q1; by_cases ho : ordPad q (padAt d.ps j) < 0
         ·have HSx : Hid (sortedOK (pk ++ d.ps.take (j + 1))) := uH (HSn.out.2 ⟨HSb.out, hv, fun q' h => by rw [hq] at h; injection h with h; subst h; exact ho⟩); have co : ∀ W, Calls Tryz.prog 146 #[.agg #[.int .i64 q.day, .string q.case], .agg #[.int .i64 (padAt d.ps j).day, .string (padAt d.ps j).case]] W fun e w' => e = .returned (.int .i64 (ordPad q (padAt d.ps j))) ∧ Below W.heap.size W w' := fun W => comparePads _ _ _ _ W; have CO := uH co; clear co hv hq HSn HLb; generalize ordPad q (padAt d.ps j) = o at *; generalize padAt d.ps j = p at *; have r0' := qcell c0'; have r1' := qcell c1'; have r0 := qcell q0; have r1 := qcell q1; (go_wp2_with fail); refine region_qb (by kernel_rfl) (by kernel_rfl) ?_; repeat (first | go_big_quiet_step ((first | (go_at_call 76; exact quietB (CV.out _)) | (go_at_call 146; exact quietB (CO.out _)))) | quiet_step ((first | (go_at_call 76; exact quietB (CV.out _)) | (go_at_call 146; exact quietB (CO.out _)))))
          refine wpQuiet_nil ?_; intro w3 hb3; have b3 := hbq.trans (hb3.mono hbq.size); clear r0' r1' c0' c1' r0 r1 q0 q1 hb3; go_wp2; go_roundw
          case rel => exact ⟨j + 1, by omega, by go_num, HLc, HSx, b3⟩
          case measure => simp [intOf]; omega
         ·have HNo1 := uH (HNo.out (j + 1) (fun h => ho ((HSn.out.1 h).2.2 q hq))); have ho' : 0 ≤ ordPad q (padAt d.ps j) := (by omega); have co : ∀ W, Calls Tryz.prog 146 #[.agg #[.int .i64 q.day, .string q.case], .agg #[.int .i64 (padAt d.ps j).day, .string (padAt d.ps j).case]] W fun e w' => e = .returned (.int .i64 (ordPad q (padAt d.ps j))) ∧ Below W.heap.size W w' := fun W => comparePads _ _ _ _ W; have CO := uH co; clear co hv hq HSn HLb ho; generalize ordPad q (padAt d.ps j) = o at *; generalize padAt d.ps j = p at *; have r0' := qcell c0'; have r1' := qcell c1'; have r0 := qcell q0; have r1 := qcell q1; (go_wp2_with fail); refine region_qb (by kernel_rfl) (by kernel_rfl) ?_; repeat (first | go_big_quiet_step ((first | (go_at_call 76; exact quietB (CV.out _)) | (go_at_call 146; exact quietB (CO.out _)))) | quiet_step ((first | (go_at_call 76; exact quietB (CV.out _)) | (go_at_call 146; exact quietB (CO.out _)))))
          refine wpQuiet_nil ?_; intro w3 hb3; have b3 := b2.trans (hb3.mono b2.size); clear r0' r1' c0' c1' r0 r1 q0 q1 hb3; go_wp2; go_returns; exact ⟨.no HNo1.out rfl, b3⟩
       ·have HNo1 := uH (HNo.out (j + 1) (fun h => hv (HSn.out.1 h).2.1)); have cv : ∀ W, Calls Tryz.prog 76 #[.agg #[.int .i64 (padAt d.ps j).day, .string (padAt d.ps j).case]] W fun e w' => e = .returned (.bool false) ∧ Below W.heap.size W w' := fun W => by
         have := implPadValid (padAt d.ps j).day (padAt d.ps j).case W hg.2
         rwa [show padB (padAt d.ps j).day (padAt d.ps j).case.data.toList = false by simpa [okP] using hv] at this
        have CV := uH cv; clear cv hv HSn; generalize padAt d.ps j = p at *; have r0' := qcell c0'; have r1' := qcell c1'; (go_wp2_with fail); refine region_qb (by kernel_rfl) (by kernel_rfl) ?_; repeat (first | go_big_quiet_step (((go_at_call 76; exact quietB (CV.out _)))) | quiet_step (((go_at_call 76; exact quietB (CV.out _)))))
        refine wpQuiet_nil ?_; intro w3 hb3; have b3 := b2.trans (hb3.mono b2.size); clear r0' r1' c0' c1' hb3; go_wp2; go_returns; exact ⟨.no HNo1.out rfl, b3⟩
      ·have hjn : d.ps.take j = d.ps := List.take_of_length_le (by have := HDL.out; omega); rw [hjn] at HLb HSb; rw [← HNx.out] at HLb HSb; clear hjn; have hT := HT.out.below hbq; obtain ⟨htB, hblk, hlv⟩ := hT; have hc := hblk.cell 0; have hf := hblk.free 0; have HLV := uH hlv; have HQ : Hid (TreeIn wr w.heap.size w.heap.size v ls) := uH ⟨htB, hblk, hlv⟩; clear hlv HT; have hPd := HPd.out.below (hbq.mono hb.size); have HC : Hid (∀ W, Below wr.heap.size wr W → Calls Tryz.prog 141 #[.slice d.A d.n d.c] W fun e w' => ∃ g c', e = .returned (.slice (some ⟨g, 0, none⟩) d.n c') ∧ PadsOwn w' W.heap.size (.slice (some ⟨g, 0, none⟩) d.n c') d.ps ∧ W.heap.size ≤ g ∧ Below W.heap.size W w') := uH (fun W hW =>
        clonePads d.A d.n d.c d.ps W hok1 (by omega) ((hPd.below (hW.mono b2.size)).more (Nat.le_trans b2.size hW.size)))
       have HO : Hid (∀ W, Below wr.heap.size wr W → W.ownsRow w.heap.size 134 1 v ls.length (ls.map Leaf.ptr)) := uH (fun W hW => own_congr HLV.out.1 (fun _ hv => hW.block _ (own_lt HLV.out.1 hv))); have HNe : Hid (v.ownBlock ≠ some w.heap.size) := uH (fun hv => by
        obtain ⟨cur, h1⟩ := own_obj HLV.out.1 hv; unfold Blk at hblk; rw [h1] at hblk; injection hblk with hblk; injection hblk with _ h2; exact absurd h2 (by decide))
       have hll : ls.length ≤ 6 := by
        have := congrArg List.length HM.out; simp at this; omega
       have HGo := uH hPd.2.2.2.2; clear hPd hblk; have hcf : wr.drew.cell? ⟨w.heap.size, 0, none⟩ = some v ∧ wr.drew.frozen? ⟨w.heap.size, 0, none⟩ = false := ⟨hc, hf⟩; (go_wp2_with fail); go_region_law (first | (go_simp; go_at_call 141; refine (HC.out _ (by go_grown)).mono ?_; rintro e w1 ⟨g1, c1, rfl, hO1, hg1, hb1⟩; have hcf1 := keepBelow hb1 hcf; have hcf2 := keepAlloc hcf1 (.cells #[.slice (some ⟨g1, 0, none⟩) d.n c1] 192); have hcf3 := keepAlloc hcf2 (.cells #[.pointer (some ⟨w1.heap.size, 0, none⟩)] 134); have n1 := hcf1.1; have n2 := hcf2.1; have n3 := hcf3.1; have f3 := hcf3.2; dsimp only) | ((refine step_append_any _ rfl (.tmp 62) (.tmp 67) _ rfl w.heap.size 134 i0 _ 1 8 Tryz.underlying126 hi hz0 hz1 hz2 rfl (by omega) v ls.length (ls.map Leaf.ptr) rfl (HO.out _ (bel2 hb1 _ _)) (w1.heap.size + 2) (some ⟨w1.heap.size + 1, 0, none⟩) 1 1 [.pointer (some ⟨w1.heap.size, 0, none⟩)] rfl (rowNew _ _ _ _) (by simp [Value.oneCell']) (by unfold maxLen; omega) (by omega) (Nat.le_trans b2.size (bel2 hb1 _ _).size) ?_; intro v2 w2 hown2 hg2 hat2; obtain ⟨A2, cc2, rfl, hcc2, hcm2⟩ := own_form hown2; have hcf4 := keepCell hg2 HNe.out (keepAlloc hcf2 _); have n4 := hcf4.1; have f4 := hcf4.2)))
       all_goals (
        have hpush := TreeIn.push (v' := .slice A2 (ls.length + 1) cc2) HQ.out b2.size (Below.trans (by go_grown) hb1) hO1 HGo.out hg2 hown2; have HT2 := uH hpush.1; have b4 := b2.trans hpush.2; have HM2 : Hid ((ls ++ [(⟨w1.heap.size, .slice (some ⟨g1, 0, none⟩) d.n c1, d.ps⟩ : Leaf)]).map (·.ps) = (ds.take (k + 1)).map (·.ps)) := uH (by rw [HMx.out, ← HM.out]; simp); clear hpush hown2 hg2 hat2 hO1 hg1 hb1; go_wp2; go_roundw
        case rel => exact ⟨k + 1, _, _, by omega, by go_num, HLb, uH ⟨HSb.out, HLx.out⟩, HT2, HM2, b4⟩
        case measure => simp [intOf]; omega)
    ·have HNo : Hid (cabB (ds.map (·.ps)) = false) := uH (cabB_no (fun h => by
      have := h.2.1 (drAt ds k).ps (List.mem_map_of_mem (drAt_mem hkl)); unfold lenOK at this; omega))
     clear hkl hP hs HS; generalize drAt ds k = d at *; by_cases h1 : d.n < 1
     ·have hd0 : d.n = 0 := (by omega); go_wp2; go_returns; exact ⟨.no HNo.out rfl, hb⟩
     ·have hd5 : 4 < d.n := (by omega); clear hok; go_wp2; go_returns; exact ⟨.no HNo.out rfl, hb⟩
   ·have hkn : ds.take k = ds := List.take_of_length_le (by have := HL.out; omega); rw [hkn] at HS HM; have HY : Hid (cabB (ds.map (·.ps)) = true) := uH (cabB_yes ⟨by rw [List.length_map, HL.out]; exact hn6, fun x hx => by
     obtain ⟨d, hd, rfl⟩ := List.mem_map.1 hx; exact HS.out.2 d hd, by rw [allPads_flat]; exact HS.out.1⟩)
    clear hkn; go_wp2; go_returns; exact ⟨.yes HY.out rfl HT.out HM.out, hb⟩
 ·have HNo : Hid (cabB (ds.map (·.ps)) = false) := uH (cabB_no (fun h => by
   have := h.1; rw [List.length_map, HL.out] at this; omega))
  go_enter Tryz.func81, Tryz.ntmps81
  go_wp2; go_returns; exact ⟨.no HNo.out rfl, Below.refl _ _⟩
end Go.Proofs.YtbkhnljaajajiaaGreatDoor
