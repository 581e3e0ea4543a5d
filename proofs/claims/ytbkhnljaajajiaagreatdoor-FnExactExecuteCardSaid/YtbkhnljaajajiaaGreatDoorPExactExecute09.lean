/-
  Contracts and plain laws that the proof of the law ExactExecute leans on. Conditions: as each says.
-/
import Derived.Test.YtbkhnljaajajiaaGreatDoorPExactExecute01
import Derived.Test.YtbkhnljaajajiaaGreatDoorPExactExecute02
import Derived.Test.YtbkhnljaajajiaaGreatDoorPExactExecute03
import Derived.Test.YtbkhnljaajajiaaGreatDoorPExactExecute05
import Derived.Test.YtbkhnljaajajiaaGreatDoorPExactExecute07
import Derived.Test.YtbkhnljaajajiaaGreatDoorPExactExecute08
import Derived.Deep.RegionHeld3
import Derived.RegionTactic
import Derived.BigRegion
import Derived.BigQuiet
namespace Go.Proofs.YtbkhnljaajajiaaGreatDoor
open Go.ChangeShapes Go.WideShapes Go.ChangeAt Go.RowKit
set_option maxRecDepth 100000
set_option linter.unusedSimpArgs false
set_option linter.unusedVariables false
set_option maxHeartbeats 800000 in
theorem l9Words (A : Option Addr) (n c : Nat) (ws : List Wd) (w : World) (hn : n ≤ 20) (hl : ∀ l ∈ ws, l.length ≤ 600) (h : WdsIn w w.heap.size A n c ws) :
  Calls Tryz.prog 224 #[.slice A n c] w fun e w' => e = .returned (.string (mkStr (Lib.join ws [32]))) ∧ Below w.heap.size w w' := by
 have HL := uH h.1; have H := uH h; have HT := uH hl; clear h hl; go_enter Tryz.func224, Tryz.ntmps224
 go_wp2; go_loopw [3, 4] (fun s3 s4 wr => ∃ k : Nat, k ≤ n ∧ s3 = .string (mkStr (Lib.join (ws.take k) [32])) ∧ s4 = .int .i64 k ∧ Below w.heap.size w wr) (fun _ s4 _ => n - (intOf s4).toNat)
 case atStart => exact ⟨0, Nat.zero_le _, by rw [List.take_zero, Lib.join_nil]; rfl, rfl, Below.refl _ _⟩
 case round =>
  obtain ⟨k, hk, rfl, rfl, hb⟩ := hrel; have i1 : (0 : Int) ≤ (k : Int) := (by omega); by_cases hlt : k < n
  ·have i2 : (k : Int) < (n : Int) := (by omega); obtain ⟨b, off, rfl, hbB, c0⟩ := (H.out.keep hb).at_ hlt; have hkl : k < ws.length := (by rw [HL.out]; exact hlt); have HNx := uH (preT_next (L := ws) (s := 32) hkl); have hpl := preT_len (s := 32) HT.out (show k ≤ 20 by omega) (by omega); have hjl := joinTake_len (s := 32) HT.out (show k ≤ 20 by omega) (by omega); have hwl := HT.out _ (wdAt_mem hkl); clear hkl; by_cases h0 : k = 0
   ·have HPJ : Hid (Lib.join (ws.take k) [32] = preT ws 32 k) := uH (by unfold preT; rw [if_pos h0, h0, List.take_zero, Lib.join_nil]); have z0 : ¬ (0 : Int) < (k : Int) := (by omega); have z1 : decide (0 < k) = false := decide_eq_false (by omega); rw [HPJ.out]; have hadd : ∀ W', (Op.stringOp .add (mkStr (preT ws 32 k)) (mkStr (wdAt ws k))).run Tryz.prog W' = .ok (.string (mkStr (preT ws 32 k ++ wdAt ws k))) W' := fun W' => run_add _ _ (by omega) W'; clear h0 hpl hjl hwl; go_wp2; go_roundw
    case rel => exact ⟨k + 1, by omega, by rw [HNx.out], by go_num, hb⟩
    case measure => simp [intOf] <;> omega
   ·have HPJ : Hid (Lib.join (ws.take k) [32] ++ [32] = preT ws 32 k) := uH (by unfold preT; rw [if_neg h0]); have z0 : (0 : Int) < (k : Int) := (by omega); have z1 : decide (0 < k) = true := decide_eq_true (by omega); have hadd0 : ∀ W', (Op.stringOp .add (mkStr (Lib.join (ws.take k) [32])) { data := #[32] }).run Tryz.prog W' = .ok (.string (mkStr (preT ws 32 k))) W' := fun W' => by
     rw [← HPJ.out]; exact run_add _ [32] (by simp only [List.length_cons, List.length_nil]; omega) W'
    have hadd : ∀ W', (Op.stringOp .add (mkStr (preT ws 32 k)) (mkStr (wdAt ws k))).run Tryz.prog W' = .ok (.string (mkStr (preT ws 32 k ++ wdAt ws k))) W' := fun W' => run_add _ _ (by omega) W'; clear h0 hpl hjl hwl; go_wp2; go_roundw
    case rel => exact ⟨k + 1, by omega, by rw [HNx.out], by go_num, hb⟩
    case measure => simp [intOf] <;> omega
  ·obtain rfl : k = n := (by omega); have HF : Hid (Lib.join (ws.take k) [32] = Lib.join ws [32]) := uH (by rw [List.take_of_length_le (by rw [HL.out]; exact Nat.le_refl _)]); have z0 : ¬ (k : Int) < (k : Int) := (by omega); go_wp2; go_ret; exact ⟨by rw [← HF.out]; rfl, hb⟩
def saidO (o : Option Wd) : Wd := match o with
 | none => [110, 111, 10]
 | some l => l ++ [10]
theorem l9Said (l : Wd) (ok : Bool) (w : World) (hl : l.length ≤ 1000000) :
  Calls Tryz.prog 222 #[.string (mkStr l), .bool ok] w fun e w' => e = .returned (.string (mkStr (saidO (if ok = true then some l else none)))) ∧ w' = w := by
 have hadd : ∀ W', (Op.stringOp .add (mkStr l) { data := #[10] }).run Tryz.prog W' = .ok (.string (mkStr (l ++ [10]))) W' := fun W' => run_add _ [10] (by simp only [List.length_cons, List.length_nil]; omega) W'; cases ok
 ·go_enter Tryz.func222, Tryz.ntmps222
  go_wp2; go_ret; exact ⟨rfl, rfl⟩
 ·go_enter Tryz.func222, Tryz.ntmps222
  go_wp2; go_ret; exact ⟨rfl, rfl⟩
def signO (xs : List Sg) (l t : Wd) : Option (List Sg) :=
 match fromS t with
 | some [s] => if sysB (xs ++ [⟨l, s⟩]) = true then some (xs ++ [⟨l, s⟩]) else none
 | _ => none
def SgAns (w' : World) (B : Nat) (o : Option (List Sg)) (e : Ending) : Prop :=
 (o = none ∧ ∃ A c, e = .returned (.tuple #[.slice A 0 c, .bool false])) ∨
 ∃ A c xs, o = some xs ∧ e = .returned (.tuple #[.slice A xs.length c, .bool true]) ∧ SgOwn w' B (.slice A xs.length c) xs ∧ ∀ x ∈ xs, x.st.good
set_option maxHeartbeats 800000 in
theorem l9Sign (A : Option Addr) (n c : Nat) (xs : List Sg) (l t : Wd) (w : World) (hn1 : n ≤ 1000) (ht : t.length ≤ 4096) (hg : ∀ x ∈ xs, x.st.good) (h : SgsIn w w.heap.size A n c xs) :
  Calls Tryz.prog 114 #[.slice A n c, .string (mkStr l), .string (mkStr t)] w fun e w' => SgAns w' w.heap.size (signO xs l t) e ∧ Below w.heap.size w w' := by
 have HF := uH (specOutlineFrom (mkStr t) w (by rw [mkStr_size]; omega)); rw [mkStr_data] at HF; have H := uH h; have HG := uH hg; clear h hg; go_enter Tryz.func114, Tryz.ntmps114
 (go_wp2_with fail); refine HF.out.mono ?_; rintro e w1 ⟨hA, b1⟩; clear HF; rcases hA with ⟨ho, A1, c1, rfl, _⟩ | ⟨A1, c1, ss, ho, rfl, hO, hgs⟩
 ·have HO : Hid (signO xs l t = none) := uH (by unfold signO; rw [ho]); clear ho; go_wp2; go_returns; exact ⟨.inl ⟨HO.out, _, _, rfl⟩, b1.alloc b1.size _⟩
 ·by_cases h1 : ss.length = 1
  ·obtain ⟨s, rfl⟩ : ∃ s, ss = [s] := List.length_eq_one_iff.1 h1; have hst := hO.reads rfl hgs; obtain ⟨b, off, rfl, hbB, c0, c1', _⟩ := hst.at_ (k := 0) (by simp); have d0 : w1.cell? ⟨b, off, none⟩ = some (.int .i64 s.dir) := (by simpa [strokeAt] using c0); have d1 : w1.cell? ⟨b, off + 1, none⟩ = some (.int .i64 s.size) := (by simpa [strokeAt] using c1'); have HGy : Hid (∀ x ∈ xs ++ [(⟨l, s⟩ : Sg)], x.st.good) := uH (fun x hx => by
    rcases List.mem_append.1 hx with h | h
    ·exact HG.out x h
    ·rw [List.mem_singleton] at h; rw [h]; exact hgs s (by simp))
   have HS := uH (specSystemAdd A n c xs l s.dir s.size w1 hn1 HGy.out (H.out.keep b1)); have HOs : Hid (signO xs l t = if sysB (xs ++ [⟨l, s⟩]) = true then some (xs ++ [⟨l, s⟩]) else none) := uH (by unfold signO; rw [ho]); clear ho hst hO hgs h1 c0 c1'; (go_wp2_with fail); refine HS.out.mono ?_; rintro e w2 ⟨hA, hb2⟩; have b2 := below_next b1 hb2; clear HS; rcases hA with ⟨hs, A2, c2, rfl, _⟩ | ⟨hs, A2, c2, rfl, hO2⟩
   ·have HO2 : Hid (signO xs l t = none) := uH (by rw [HOs.out, hs]; rfl); clear hs; go_wp2; go_returns; exact ⟨.inl ⟨HO2.out, _, _, rfl⟩, b2⟩
   ·have HO2 : Hid (signO xs l t = some (xs ++ [⟨l, s⟩])) := uH (by rw [HOs.out, hs]; rfl); have HO3 := uH (ownG_mono hO2 b1.size); clear hs hO2; go_wp2; go_returns; exact ⟨.inr ⟨A2, c2, _, HO2.out, by rw [List.length_append]; rfl, HO3.out, HGy.out⟩, b2⟩
  ·have HO : Hid (signO xs l t = none) := uH (by
    unfold signO; rw [ho]; match ss, h1 with
    | [], _ => rfl
    | [_], h => exact absurd rfl h
    | _ :: _ :: _, _ => rfl)
   have z1 : ¬ ((ss.length : Int) = 1) := (by omega); have z2 : ((ss.length : Int) == 1) = false := beq_eq_false_iff_ne.2 z1; clear ho hO hgs; go_wp2; go_returns; exact ⟨.inl ⟨HO.out, _, _, rfl⟩, b1.alloc b1.size _⟩
end Go.Proofs.YtbkhnljaajajiaaGreatDoor
namespace Go.Proofs.YtbkhnljaajajiaaGreatDoor
set_option maxRecDepth 100000
set_option linter.unusedSimpArgs false
set_option linter.unusedVariables false
structure Bf where
 mark : Wd
 words : List Wd
def bfAt (bs : List Bf) (k : Nat) : Bf := bs.getD k ⟨[], []⟩
theorem bfAt_some {bs : List Bf} {k : Nat} (h : k < bs.length) : bs[k]? = some (bfAt bs k) := by simp [bfAt, List.getD_eq_getElem?_getD, h]
theorem bfAt_get {bs : List Bf} {k : Nat} (h : k < bs.length) : bs[k] = bfAt bs k := by simp [bfAt, List.getD_eq_getElem?_getD, h]
theorem bfAt_mem {bs : List Bf} {k : Nat} (h : k < bs.length) : bfAt bs k ∈ bs := List.mem_of_getElem? (bfAt_some h)
def capB (c : UInt8) : Bool := decide (65 ≤ c.toNat ∧ c.toNat ≤ 90)
def markB (l : Wd) : Bool := l.all capB && decide (1 ≤ l.length ∧ l.length ≤ 3)
def bwB (ws : List Wd) : Bool := ws.all wordB && decide (1 ≤ ws.length ∧ ws.length ≤ 3)
def bfB (b : Bf) : Bool := markB b.mark && bwB b.words
theorem bfB_iff {b : Bf} : bfB b = true ↔ markB b.mark = true ∧ bwB b.words = true := by unfold bfB; rw [Bool.and_eq_true]
theorem markB_len {l : Wd} (h : markB l = true) : 1 ≤ l.length ∧ l.length ≤ 3 := by
 unfold markB at h; rw [Bool.and_eq_true, decide_eq_true_iff] at h; exact h.2
theorem bwB_len {ws : List Wd} (h : bwB ws = true) : 1 ≤ ws.length ∧ ws.length ≤ 3 := by
 unfold bwB at h; rw [Bool.and_eq_true, decide_eq_true_iff] at h; exact h.2
theorem bwB_all {ws : List Wd} (h : bwB ws = true) : ∀ l ∈ ws, wordB l = true := by
 unfold bwB at h; rw [Bool.and_eq_true] at h; exact List.all_eq_true.1 h.1
def brGood (bs : List Bf) (i : Nat) : Prop := bfB (bfAt bs i) = true ∧ ∀ j, j < i → (bfAt bs j).mark ≠ (bfAt bs i).mark ∧ (bfAt bs j).words ≠ (bfAt bs i).words
instance (bs : List Bf) (i : Nat) : Decidable (brGood bs i) := by unfold brGood; infer_instance
def brsB (bs : List Bf) : Bool := decide (bs.length ≤ 8 ∧ ∀ i, i < bs.length → brGood bs i)
theorem brsB_iff {bs : List Bf} : brsB bs = true ↔ bs.length ≤ 8 ∧ ∀ i, i < bs.length → brGood bs i := by unfold brsB; rw [decide_eq_true_iff]
theorem brsB_no {bs : List Bf} {i : Nat} (hi : i < bs.length) (h : ¬ brGood bs i) : brsB bs = false := by
 rw [Bool.eq_false_iff]; intro h2; exact h ((brsB_iff.1 h2).2 i hi)
theorem brsB_all {bs : List Bf} (h : ∀ i, i < bs.length → brGood bs i) : brsB bs = decide (bs.length ≤ 8) := by
 unfold brsB; congr 1; exact propext ⟨fun h => h.1, fun h2 => ⟨h2, h⟩⟩
theorem brsB_long {bs : List Bf} (h : 8 < bs.length) : brsB bs = false := by
 rw [Bool.eq_false_iff]; intro h2; have := (brsB_iff.1 h2).1; omega
theorem brsB_mem {bs : List Bf} (h : brsB bs = true) : ∀ b ∈ bs, bfB b = true := by
 intro b hb; obtain ⟨i, hi, rfl⟩ := List.getElem_of_mem hb; rw [bfAt_get hi]; exact ((brsB_iff.1 h).2 i hi).1
def brK (bs : List Bf) (k : Nat) : Prop := ∀ i, i < k → brGood bs i
theorem brK_succ {bs : List Bf} {k : Nat} (h : brK bs k) (h2 : brGood bs k) : brK bs (k + 1) := fun i hi => by
 rcases Nat.lt_succ_iff_lt_or_eq.1 hi with h3 | rfl
 ·exact h i h3
 ·exact h2
def brJ (bs : List Bf) (k j : Nat) : Prop := ∀ i, i < j → (bfAt bs i).mark ≠ (bfAt bs k).mark ∧ (bfAt bs i).words ≠ (bfAt bs k).words
theorem brJ_succ {bs : List Bf} {k j : Nat} (h : brJ bs k j) (h2 : (bfAt bs j).mark ≠ (bfAt bs k).mark ∧ (bfAt bs j).words ≠ (bfAt bs k).words) : brJ bs k (j + 1) := fun i hi => by
 rcases Nat.lt_succ_iff_lt_or_eq.1 hi with h3 | rfl
 ·exact h i h3
 ·exact h2
def addO (bs : List Bf) (b : Bf) : Option (List Bf) := if brsB (bs ++ [b]) = true then some (bs ++ [b]) else none
theorem bfAt_pre {bs r : List Bf} {i : Nat} (h : i < bs.length) : bfAt (bs ++ r) i = bfAt bs i := by
 unfold bfAt; rw [List.getD_eq_getElem?_getD, List.getD_eq_getElem?_getD, List.getElem?_append_left h]
theorem brsB_pre {bs : List Bf} {b : Bf} (h : brsB (bs ++ [b]) = true) : brsB bs = true := by
 obtain ⟨h1, h2⟩ := brsB_iff.1 h; rw [List.length_append] at h1 h2; refine brsB_iff.2 ⟨by omega, fun i hi => ?_⟩; have := h2 i (by omega); unfold brGood at *; rw [bfAt_pre hi] at this; exact ⟨this.1, fun j hj => by have := this.2 j hj; rwa [bfAt_pre (by omega)] at this⟩
theorem addO_no {bs : List Bf} {b : Bf} (h : brsB bs = false) : addO bs b = none := by
 unfold addO; rw [if_neg]; intro e; rw [brsB_pre e] at h; cases h
def hitB (ws : List Wd) (b : Bf) : Bool := decide (b.words.length ≤ ws.length ∧ ws.take b.words.length = b.words)
def wayC (t : List Nat) (b : Bf) : Nat := t.getD (b.words.length - 1) 0 + b.mark.length
def optC (ws : List Wd) (t : List Nat) (c : Nat) (b : Bf) : Nat := if hitB ws b = true then min c (wayC t b) else c
def costs (bs : List Bf) : List Wd → List Nat
 | [] => [0]
 | x :: r => bs.foldl (optC (x :: r) (costs bs r)) ((costs bs r).headD 0 + x.length) :: costs bs r
def costOf (bs : List Bf) (ws : List Wd) : Nat := (costs bs ws).headD 0
theorem costs_get (bs : List Bf) : ∀ (ws : List Wd) (k : Nat), k ≤ ws.length → (costs bs ws).getD k 0 = costOf bs (ws.drop k)
 | ws, 0, _ => by unfold costOf; cases h : costs bs ws <;> simp [h]
 | [], k + 1, h => by simp at h
 | x :: r, k + 1, h => by
  rw [costs, List.getD_cons_succ, List.drop_succ_cons]; exact costs_get bs r k (by simpa using h)
theorem costOf_nil (bs : List Bf) : costOf bs [] = 0 := rfl
def wayD (bs : List Bf) (ws : List Wd) (b : Bf) : Nat := costOf bs (ws.drop b.words.length) + b.mark.length
def optD (bs : List Bf) (ws : List Wd) (c : Nat) (b : Bf) : Nat := if hitB ws b = true then min c (wayD bs ws b) else c
theorem wayC_D {bs : List Bf} {x : Wd} {r : List Wd} {b : Bf} (h : hitB (x :: r) b = true) (h1 : 1 ≤ b.words.length) : wayC (costs bs r) b = wayD bs (x :: r) b := by
 unfold hitB at h; rw [decide_eq_true_iff] at h; have hl := h.1; rw [List.length_cons] at hl; unfold wayC wayD; rw [costs_get bs r _ (by omega)]; obtain ⟨m, hm⟩ : ∃ m, b.words.length = m + 1 := ⟨b.words.length - 1, by omega⟩; rw [hm, Nat.add_sub_cancel, List.drop_succ_cons]
theorem costOf_cons {bs : List Bf} (h : ∀ b ∈ bs, 1 ≤ b.words.length) (x : Wd) (r : List Wd) : costOf bs (x :: r) = bs.foldl (optD bs (x :: r)) (costOf bs r + x.length) := by
 show ((costs bs (x :: r)).headD 0) = _
 rw [costs, List.headD_cons]; have key : ∀ (l : List Bf) (c : Nat), (∀ b ∈ l, 1 ≤ b.words.length) → l.foldl (optC (x :: r) (costs bs r)) c = l.foldl (optD bs (x :: r)) c := by
  intro l; induction l with
  | nil => intro c _; rfl
  | cons b l ih =>
   intro c hl; rw [List.foldl_cons, List.foldl_cons]; have e : optC (x :: r) (costs bs r) c b = optD bs (x :: r) c b := by
    unfold optC optD; split
    ·rename_i hh; rw [wayC_D hh (hl b (by simp))]
    ·rfl
   rw [e]; exact ih _ (fun y hy => hl y (by simp [hy]))
 exact key bs _ h
def costK (bs : List Bf) (ws : List Wd) (k : Nat) : Nat := (bs.take k).foldl (optD bs ws) (costOf bs (ws.drop 1) + (ws.headD []).length)
theorem costK_zero (bs : List Bf) (ws : List Wd) : costK bs ws 0 = costOf bs (ws.drop 1) + (ws.headD []).length := rfl
theorem costK_succ {bs : List Bf} {ws : List Wd} {k : Nat} (h : k < bs.length) : costK bs ws (k + 1) = optD bs ws (costK bs ws k) (bfAt bs k) := by
 unfold costK; rw [List.take_succ_eq_append_getElem h, List.foldl_append, bfAt_get h]; rfl
theorem costK_all {bs : List Bf} (h : ∀ b ∈ bs, 1 ≤ b.words.length) {ws : List Wd} (hn : 0 < ws.length) : costK bs ws bs.length = costOf bs ws := by
 cases ws with
 | nil => simp at hn
 | cons x r => rw [costOf_cons h]; unfold costK; rw [List.take_length]; rfl
theorem foldl_le (bs : List Bf) (ws : List Wd) : ∀ (l : List Bf) (c : Nat), l.foldl (optD bs ws) c ≤ c ∧ ∀ b ∈ l, hitB ws b = true → l.foldl (optD bs ws) c ≤ wayD bs ws b := by
 intro l; induction l with
 | nil => intro c; exact ⟨Nat.le_refl _, by simp⟩
 | cons b l ih =>
  intro c; rw [List.foldl_cons]; obtain ⟨h1, h2⟩ := ih (optD bs ws c b); have h3 : optD bs ws c b ≤ c := by unfold optD; split <;> omega
  refine ⟨Nat.le_trans h1 h3, fun y hy hh => ?_⟩; rcases List.mem_cons.1 hy with e | hy
  ·subst e; have : optD bs ws c y ≤ wayD bs ws y := (by unfold optD; rw [if_pos hh]; omega); omega
  ·exact h2 y hy hh
theorem costK_le (bs : List Bf) (ws : List Wd) (k : Nat) : costK bs ws k ≤ costOf bs (ws.drop 1) + (ws.headD []).length := (foldl_le bs ws _ _).1
theorem costOf_le {bs : List Bf} (h : ∀ b ∈ bs, 1 ≤ b.words.length) (ws : List Wd) (hw : ∀ l ∈ ws, l.length ≤ 12) : costOf bs ws ≤ 12 * ws.length := by
 induction ws with
 | nil => exact Nat.le_refl _
 | cons x r ih =>
  have h1 := ih (fun l hl => hw l (by simp [hl])); have h2 := hw x (by simp); rw [costOf_cons h, List.length_cons]; have := (foldl_le bs (x :: r) bs (costOf bs r + x.length)).1; omega
def pickB (bs : List Bf) (ws : List Wd) : Option Bf := bs.find? fun b => hitB ws b && decide (wayD bs ws b = costOf bs ws)
def stepT (bs : List Bf) (ws : List Wd) : Wd × Nat := match pickB bs ws with
 | some b => (b.mark, b.words.length)
 | none => (ws.headD [], 1)
def bestT (bs : List Bf) : List Wd → List Wd
 | [] => []
 | x :: r => (stepT bs (x :: r)).1 :: bestT bs (r.drop ((stepT bs (x :: r)).2 - 1))
termination_by ws => ws.length
decreasing_by rw [List.length_cons, List.length_drop]; omega
theorem bestT_nil (bs : List Bf) : bestT bs [] = [] := by rw [bestT]
theorem pickB_mem {bs : List Bf} {ws : List Wd} {b : Bf} (h : pickB bs ws = some b) : b ∈ bs ∧ hitB ws b = true ∧ wayD bs ws b = costOf bs ws := by
 unfold pickB at h; have h2 := List.find?_some h; rw [Bool.and_eq_true, decide_eq_true_iff] at h2; exact ⟨List.mem_of_find?_eq_some h, h2⟩
theorem hitB_len {ws : List Wd} {b : Bf} (h : hitB ws b = true) : b.words.length ≤ ws.length := by unfold hitB at h; rw [decide_eq_true_iff] at h; exact h.1
theorem stepT_bd {bs : List Bf} (h : ∀ b ∈ bs, 1 ≤ b.words.length) {ws : List Wd} (hn : 0 < ws.length) : 1 ≤ (stepT bs ws).2 ∧ (stepT bs ws).2 ≤ ws.length := by
 unfold stepT; cases hp : pickB bs ws with
 | none => exact ⟨Nat.le_refl _, hn⟩
 | some b =>
  have := pickB_mem hp; exact ⟨h b this.1, hitB_len this.2.1⟩
theorem bestT_step {bs : List Bf} (h : ∀ b ∈ bs, 1 ≤ b.words.length) {ws : List Wd} (hn : 0 < ws.length) : bestT bs ws = (stepT bs ws).1 :: bestT bs (ws.drop (stepT bs ws).2) := by
 cases ws with
 | nil => simp at hn
 | cons x r =>
  have hb := stepT_bd h (ws := x :: r) hn; rw [bestT]; congr 2
  obtain ⟨m, hm⟩ : ∃ m, (stepT bs (x :: r)).2 = m + 1 := ⟨_, (Nat.sub_add_cancel hb.1).symm⟩; rw [hm, Nat.add_sub_cancel, List.drop_succ_cons]
def pickFrom (bs : List Bf) (ws : List Wd) (k : Nat) : Option Bf := (bs.drop k).find? fun b => hitB ws b && decide (wayD bs ws b = costOf bs ws)
theorem pickFrom_end (bs : List Bf) (ws : List Wd) : pickFrom bs ws bs.length = none := by unfold pickFrom; rw [List.drop_length]; rfl
theorem pickFrom_at {bs : List Bf} {ws : List Wd} {k : Nat} (h : k < bs.length) : pickFrom bs ws k = if (hitB ws (bfAt bs k) && decide (wayD bs ws (bfAt bs k) = costOf bs ws)) = true then some (bfAt bs k) else pickFrom bs ws (k + 1) := by
 unfold pickFrom; rw [List.drop_eq_getElem_cons h, List.find?_cons, bfAt_get h]; split <;> rename_i e <;> rw [e] <;> simp
def leastI (bs : List Bf) (ws : List Wd) : Int := if (brsB bs && spB ws) = true then (costOf bs ws : Int) else -1
def bestO (bs : List Bf) (ws : List Wd) : Option (List Wd) := if (brsB bs && spB ws) = true then some (bestT bs ws) else none
theorem valid_one {bs : List Bf} (h : brsB bs = true) : ∀ b ∈ bs, 1 ≤ b.words.length := fun b hb => (bwB_len (bfB_iff.1 (brsB_mem h b hb)).2).1
theorem bestT_len {bs : List Bf} (h : ∀ b ∈ bs, 1 ≤ b.words.length) : ∀ (n : Nat) (ws : List Wd), ws.length ≤ n → (bestT bs ws).length ≤ ws.length := by
 intro n; induction n with
 | zero => intro ws hl; have : ws = [] := List.length_eq_zero_iff.1 (by omega); subst this; rw [bestT_nil]; exact Nat.le_refl _
 | succ n ih =>
  intro ws hl; by_cases h0 : 0 < ws.length
  ·rw [bestT_step h h0, List.length_cons]; have hb := stepT_bd h h0; have := ih (ws.drop (stepT bs ws).2) (by rw [List.length_drop]; omega); rw [List.length_drop] at this; omega
  ·have : ws = [] := List.length_eq_zero_iff.1 (by omega); subst this; rw [bestT_nil]; exact Nat.le_refl _
structure Tk where
 brief : Int
 width : Nat
 cost : Nat
def toksG (ws : List Wd) : Nat → List Bf → List Tk
 | _, [] => []
 | k, b :: r => (if hitB ws b = true then [⟨(k : Int), b.words.length, b.mark.length⟩] else []) ++ toksG ws (k + 1) r
def toksAt (bs : List Bf) (ws : List Wd) : List Tk := toksG ws 0 bs ++ [⟨-1, 1, (ws.headD []).length⟩]
theorem toksG_snoc (ws : List Wd) (b : Bf) : ∀ (l : List Bf) (k : Nat), toksG ws k (l ++ [b]) = toksG ws k l ++ (if hitB ws b = true then [⟨((k + l.length : Nat) : Int), b.words.length, b.mark.length⟩] else []) := by
 intro l; induction l with
 | nil => intro k; simp [toksG]
 | cons x l ih =>
  intro k; rw [List.cons_append, toksG, toksG, ih, List.append_assoc, List.length_cons, show k + 1 + l.length = k + (l.length + 1) by omega]
theorem toksG_len (ws : List Wd) : ∀ (l : List Bf) (k : Nat), (toksG ws k l).length ≤ l.length := by
 intro l; induction l with
 | nil => intro k; simp [toksG]
 | cons x l ih =>
  intro k; have := ih (k + 1); rw [toksG, List.length_append, List.length_cons]; split <;> simp <;> omega
def wholeT (bs : List Bf) (ws : List Wd) (t : Tk) : Nat := t.cost + costOf bs (ws.drop t.width)
def keepT (bs : List Bf) (ws : List Wd) (a : Tk × Nat) (t : Tk) : Tk × Nat := if a.1.width = 0 ∨ wholeT bs ws t < a.2 then (t, wholeT bs ws t) else a
def emptyT : Tk × Nat := (⟨0, 0, 0⟩, 0)
def firstT (bs : List Bf) (ws : List Wd) : Tk × Nat := (toksAt bs ws).foldl (keepT bs ws) emptyT
def Kept (bs : List Bf) (ws : List Wd) (L : List Tk) (a : Tk × Nat) : Prop :=
 (L = [] ∧ a = emptyT) ∨ (∃ i : Nat, i < L.length ∧ L[i]? = some a.1 ∧ a.2 = wholeT bs ws a.1 ∧ 1 ≤ a.1.width ∧ (∀ (j : Nat) (t : Tk), L[j]? = some t → a.2 ≤ wholeT bs ws t) ∧ (∀ (j : Nat) (t : Tk), j < i → L[j]? = some t → a.2 < wholeT bs ws t))
theorem kept_snoc {bs : List Bf} {ws : List Wd} {L : List Tk} {a : Tk × Nat} {t : Tk} (ht : 1 ≤ t.width) (h : Kept bs ws L a) : Kept bs ws (L ++ [t]) (keepT bs ws a t) := by
 right
 rcases h with ⟨rfl, rfl⟩ | ⟨i, hi, h1, h2, h3, h4, h5⟩
 ·have e : keepT bs ws emptyT t = (t, wholeT bs ws t) := (by unfold keepT; rw [if_pos (.inl rfl)]); rw [e]; refine ⟨0, by simp, by simp, rfl, ht, fun j t' hj => ?_, fun j t' hj => by omega⟩; rw [List.nil_append] at hj; have := List.mem_of_getElem? hj; rw [List.mem_singleton] at this; rw [this]; exact Nat.le_refl _
 ·unfold keepT; split
  ·rename_i hc
   have hlt : wholeT bs ws t < a.2 := by
    rcases hc with hc | hc
    ·omega
    ·exact hc
   refine ⟨L.length, by simp, by rw [List.getElem?_append_right (Nat.le_refl _), Nat.sub_self]; rfl, rfl, ht, fun j t' hj => ?_, fun j t' hj hj2 => ?_⟩
   ·have := List.mem_of_getElem? hj; rcases List.mem_append.1 this with hm | hm
    ·obtain ⟨k, hk, e⟩ := List.getElem_of_mem hm; have := h4 k t' (by rw [List.getElem?_eq_getElem hk, e])
     show wholeT bs ws t ≤ _
     omega
    ·rw [List.mem_singleton] at hm; rw [hm]; exact Nat.le_refl _
   ·rw [List.getElem?_append_left hj] at hj2; have := h4 j t' hj2
    show wholeT bs ws t < _
    omega
  ·rename_i hc
   refine ⟨i, by rw [List.length_append]; omega, by rw [List.getElem?_append_left hi]; exact h1, h2, h3, fun j t' hj => ?_, fun j t' hj hj2 => ?_⟩
   ·have := List.mem_of_getElem? hj; rcases List.mem_append.1 this with hm | hm
    ·obtain ⟨k, hk, e⟩ := List.getElem_of_mem hm; exact h4 k t' (by rw [List.getElem?_eq_getElem hk, e])
    ·rw [List.mem_singleton] at hm; rw [hm]; exact Nat.le_of_not_lt (fun h => hc (.inr h))
   ·rw [List.getElem?_append_left (by omega)] at hj2; exact h5 j t' hj hj2
theorem kept_all {bs : List Bf} {ws : List Wd} : ∀ (R L : List Tk) (a : Tk × Nat), (∀ t ∈ R, 1 ≤ t.width) → Kept bs ws L a → Kept bs ws (L ++ R) (R.foldl (keepT bs ws) a) := by
 intro R; induction R with
 | nil => intro L a _ h; rw [List.append_nil]; exact h
 | cons t R ih =>
  intro L a hR h; have := ih (L ++ [t]) (keepT bs ws a t) (fun x hx => hR x (by simp [hx])) (kept_snoc (hR t (by simp)) h); rw [List.append_assoc] at this; exact this
theorem toksG_mem {ws : List Wd} {t : Tk} : ∀ (l : List Bf) (k : Nat), t ∈ toksG ws k l ↔ ∃ i b, l[i]? = some b ∧ hitB ws b = true ∧ t = ⟨((k + i : Nat) : Int), b.words.length, b.mark.length⟩ := by
 intro l; induction l with
 | nil => intro k; simp [toksG]
 | cons x l ih =>
  intro k; rw [toksG, List.mem_append, ih]; constructor
  ·rintro (h | ⟨i, b, h1, h2, h3⟩)
   ·split at h
    ·rename_i hh
     rw [List.mem_singleton] at h; exact ⟨0, x, rfl, hh, h⟩
    ·simp at h
   ·exact ⟨i + 1, b, h1, h2, by rw [h3, show k + 1 + i = k + (i + 1) by omega]⟩
  ·rintro ⟨i, b, h1, h2, h3⟩; cases i with
   | zero =>
    have e : x = b := (by simpa using h1); subst e
    left; rw [if_pos h2, List.mem_singleton]; exact h3
   | succ i => exact .inr ⟨i, b, by simpa using h1, h2, by rw [h3, show k + 1 + i = k + (i + 1) by omega]⟩
theorem costOf_min {bs : List Bf} (h : ∀ b ∈ bs, 1 ≤ b.words.length) {ws : List Wd} (hn : 0 < ws.length) :
  (∀ b ∈ bs, hitB ws b = true → costOf bs ws ≤ wayD bs ws b) ∧ costOf bs ws ≤ costOf bs (ws.drop 1) + (ws.headD []).length ∧
  ((∃ b ∈ bs, hitB ws b = true ∧ wayD bs ws b = costOf bs ws) ∨ costOf bs ws = costOf bs (ws.drop 1) + (ws.headD []).length) := by
 rw [← costK_all h hn]; unfold costK; rw [List.take_length]; refine ⟨(foldl_le bs ws bs _).2, (foldl_le bs ws bs _).1, ?_⟩; have key : ∀ (l : List Bf) (c : Nat), (∃ b ∈ l, hitB ws b = true ∧ wayD bs ws b = l.foldl (optD bs ws) c) ∨ l.foldl (optD bs ws) c = c := by
  intro l; induction l with
  | nil => intro c; exact .inr rfl
  | cons b l ih =>
   intro c; rw [List.foldl_cons]; rcases ih (optD bs ws c b) with ⟨y, hy, h1, h2⟩ | h1
   ·exact .inl ⟨y, by simp [hy], h1, h2⟩
   ·rw [h1]; unfold optD; split
    ·rename_i hh
     by_cases hc : c ≤ wayD bs ws b
     ·right; omega
     ·left; exact ⟨b, by simp, hh, by omega⟩
    ·exact .inr rfl
 exact key bs _
theorem firstT_is {bs : List Bf} (h : ∀ b ∈ bs, 1 ≤ b.words.length) {ws : List Wd} (hn : 0 < ws.length) :
  (firstT bs ws).2 = costOf bs ws ∧ (firstT bs ws).1.width = (stepT bs ws).2 ∧
  (((firstT bs ws).1.brief = -1 ∧ (stepT bs ws).1 = ws.headD []) ∨ ∃ i : Nat, i < bs.length ∧ (firstT bs ws).1.brief = (i : Int) ∧ (stepT bs ws).1 = (bfAt bs i).mark) := by
 have hw : ∀ t ∈ toksAt bs ws, 1 ≤ t.width := by
  intro t ht; rcases List.mem_append.1 ht with hm | hm
  ·obtain ⟨i, b, h1, _, rfl⟩ := (toksG_mem bs 0).1 hm; exact h b (List.mem_of_getElem? h1)
  ·rw [List.mem_singleton] at hm; rw [hm]; exact Nat.le_refl _
 have hk := kept_all (bs := bs) (ws := ws) (toksAt bs ws) [] emptyT hw (.inl ⟨rfl, rfl⟩); rw [List.nil_append] at hk; obtain ⟨m1, m2, m3⟩ := costOf_min h hn; have hword : (⟨-1, 1, (ws.headD []).length⟩ : Tk) ∈ toksAt bs ws := (by unfold toksAt; simp); have hbrief : ∀ (i : Nat) (b : Bf), bs[i]? = some b → hitB ws b = true → (⟨(i : Int), b.words.length, b.mark.length⟩ : Tk) ∈ toksAt bs ws := fun i b h1 h2 => by
  unfold toksAt; exact List.mem_append_left _ ((toksG_mem bs 0).2 ⟨i, b, h1, h2, by rw [Nat.zero_add]⟩)
 have wW : wholeT bs ws ⟨-1, 1, (ws.headD []).length⟩ = costOf bs (ws.drop 1) + (ws.headD []).length := Nat.add_comm _ _; have wB : ∀ (i : Nat) b, wholeT bs ws ⟨(i : Int), b.words.length, b.mark.length⟩ = wayD bs ws b := fun i b => Nat.add_comm _ _; rcases hk with ⟨h0, _⟩ | ⟨p, hp, h1, h2, h3, h4, h5⟩
 ·rw [h0] at hword; simp at hword
 ·have h4' : ∀ t ∈ toksAt bs ws, (firstT bs ws).2 ≤ wholeT bs ws t := fun t ht => by
   obtain ⟨j, hj, e⟩ := List.getElem_of_mem ht; exact h4 j t (by rw [List.getElem?_eq_getElem hj, e])
  have hmem := List.mem_of_getElem? h1; have hle : (firstT bs ws).2 ≤ costOf bs ws := by
   rcases m3 with ⟨b, hb, hh, hc⟩ | hc
   ·obtain ⟨i, hi, e⟩ := List.getElem_of_mem hb; have := h4' _ (hbrief i b (by rw [List.getElem?_eq_getElem hi, e]) hh); rw [wB] at this; omega
   ·have := h4' _ hword; rw [wW] at this; omega
  have hge : costOf bs ws ≤ (firstT bs ws).2 := by
   show costOf bs ws ≤ ((toksAt bs ws).foldl (keepT bs ws) emptyT).2
   rw [h2]; rcases List.mem_append.1 hmem with hm | hm
   ·obtain ⟨i, b, e1, e2, e3⟩ := (toksG_mem bs 0).1 hm; rw [e3, wB]; exact m1 b (List.mem_of_getElem? e1) e2
   ·rw [List.mem_singleton] at hm; rw [hm, wW]; exact m2
  have heq : (firstT bs ws).2 = costOf bs ws := Nat.le_antisymm hle hge; refine ⟨heq, ?_⟩; have hlt : ∀ j, j < p → ∀ t, (toksAt bs ws)[j]? = some t → costOf bs ws < wholeT bs ws t := fun j hj t ht => by
   have := h5 j t hj ht; rw [← heq]; exact this
  have hwh : wholeT bs ws (firstT bs ws).1 = costOf bs ws := (by rw [← heq]; exact h2.symm); have h1 : (toksAt bs ws)[p]? = some (firstT bs ws).1 := h1; by_cases hpl : p < (toksG ws 0 bs).length
  ·have hm : (firstT bs ws).1 ∈ toksG ws 0 bs := by
    unfold toksAt at h1; rw [List.getElem?_append_left hpl] at h1; exact List.mem_of_getElem? h1
   obtain ⟨i, b, e1, e2, e3⟩ := (toksG_mem bs 0).1 hm; have hi : i < bs.length := by
    rcases Nat.lt_or_ge i bs.length with h | h
    ·exact h
    ·rw [List.getElem?_eq_none h] at e1; cases e1
   have eb : bfAt bs i = b := (by have := bfAt_some hi; rw [e1] at this; injection this with this; exact this.symm); have hfree : ∀ j, j < i → ∀ b', bs[j]? = some b' → ¬ (hitB ws b' = true ∧ wayD bs ws b' = costOf bs ws) := by
    intro j hj b' hb' ⟨g1, g2⟩; have hsplit : toksG ws 0 bs = toksG ws 0 (bs.take i) ++ toksG ws i (bs.drop i) := by
     have : ∀ (l1 l2 : List Bf) (k : Nat), toksG ws k (l1 ++ l2) = toksG ws k l1 ++ toksG ws (k + l1.length) l2 := by
      intro l1; induction l1 with
      | nil => intro l2 k; simp [toksG]
      | cons x l1 ih => intro l2 k; rw [List.cons_append, toksG, toksG, ih, List.append_assoc, List.length_cons, show k + 1 + l1.length = k + (l1.length + 1) by omega]
     have h9 := this (bs.take i) (bs.drop i) 0; rw [List.take_append_drop, List.length_take, Nat.zero_add, Nat.min_eq_left (by omega)] at h9; exact h9
    have hjm : (⟨(j : Int), b'.words.length, b'.mark.length⟩ : Tk) ∈ toksG ws 0 (bs.take i) := (toksG_mem _ 0).2 ⟨j, b', by rw [List.getElem?_take_of_lt hj]; exact hb', g1, by rw [Nat.zero_add]⟩; obtain ⟨q, hq, eq⟩ := List.getElem_of_mem hjm; have hq2 : q < p := by
     rcases Nat.lt_or_ge q p with h | h
     ·exact h
     ·exfalso; have hp1 : p < (toksG ws 0 (bs.take i)).length := (by omega); have : (firstT bs ws).1 ∈ toksG ws 0 (bs.take i) := by
       unfold toksAt at h1; rw [List.getElem?_append_left hpl, hsplit, List.getElem?_append_left hp1] at h1; exact List.mem_of_getElem? h1
      obtain ⟨i2, b2, f1, f2, f3⟩ := (toksG_mem _ 0).1 this; have hi2 : i2 < i := by
       rcases Nat.lt_or_ge i2 (bs.take i).length with h | h
       ·rw [List.length_take] at h; omega
       ·rw [List.getElem?_eq_none h] at f1; cases f1
      rw [e3] at f3; injection f3 with f3 _ _; omega
    have := hlt q hq2 ⟨(j : Int), b'.words.length, b'.mark.length⟩ (by
     unfold toksAt; rw [List.getElem?_append_left (by omega), hsplit, List.getElem?_append_left hq, List.getElem?_eq_getElem hq, eq])
    rw [wB] at this; omega
   have hpick : pickB bs ws = some b := by
    unfold pickB; rw [e3, Nat.zero_add, wB] at hwh; have hfound : ∀ (l : List Bf) (n : Nat), l[n]? = some b → (∀ j, j < n → ∀ b', l[j]? = some b' → ¬ (hitB ws b' = true ∧ wayD bs ws b' = costOf bs ws)) → (l.find? fun b => hitB ws b && decide (wayD bs ws b = costOf bs ws)) = some b := by
     intro l; induction l with
     | nil => intro n hn; simp at hn
     | cons x l ih =>
      intro n hn hj; cases n with
      | zero =>
       have e : x = b := (by simpa using hn); rw [List.find?_cons, e, e2, hwh, decide_eq_true rfl]; rfl
      | succ n =>
       have hx := hj 0 (by omega) x rfl; have e : (hitB ws x && decide (wayD bs ws x = costOf bs ws)) = false := by
        rw [Bool.eq_false_iff]; intro e; rw [Bool.and_eq_true, decide_eq_true_iff] at e; exact hx e
       rw [List.find?_cons, e]; exact ih n (by simpa using hn) (fun j hj2 b' hb' => hj (j + 1) (by omega) b' (by simpa using hb'))
    exact hfound bs i e1 hfree
   have es : stepT bs ws = (b.mark, b.words.length) := (by unfold stepT; rw [hpick]); rw [es, e3]; exact ⟨rfl, .inr ⟨i, hi, by rw [Nat.zero_add], by rw [eb]⟩⟩
  ·have hpe : p = (toksG ws 0 bs).length := by
    have : p < (toksG ws 0 bs).length + 1 := (by have := hp; unfold toksAt at this; rw [List.length_append] at this; exact this); omega
   have ht : (firstT bs ws).1 = ⟨-1, 1, (ws.headD []).length⟩ := by
    unfold toksAt at h1; rw [hpe, List.getElem?_append_right (Nat.le_refl _), Nat.sub_self] at h1; injection h1 with h1; exact h1.symm
   have hpick : pickB bs ws = none := by
    unfold pickB; rw [List.find?_eq_none]; intro b hb e; rw [Bool.and_eq_true, decide_eq_true_iff] at e; obtain ⟨i, hi, eb⟩ := List.getElem_of_mem hb; have hm : (⟨((0 + i : Nat) : Int), b.words.length, b.mark.length⟩ : Tk) ∈ toksG ws 0 bs := (toksG_mem bs 0).2 ⟨i, b, by rw [List.getElem?_eq_getElem hi, eb], e.1, rfl⟩; obtain ⟨q, hq, eq⟩ := List.getElem_of_mem hm; have := hlt q (by omega) _ (by unfold toksAt; rw [List.getElem?_append_left hq, List.getElem?_eq_getElem hq]); rw [eq, wB] at this; omega
   have es : stepT bs ws = (ws.headD [], 1) := (by unfold stepT; rw [hpick]); rw [es, ht]; exact ⟨rfl, .inl ⟨rfl, rfl⟩⟩
end Go.Proofs.YtbkhnljaajajiaaGreatDoor
namespace Go.Proofs.YtbkhnljaajajiaaGreatDoor
open Go.ChangeShapes Go.WideShapes Go.ChangeAt Go.RowKit
set_option maxRecDepth 100000
set_option linter.unusedSimpArgs false
set_option linter.unusedVariables false
structure Br where
 mark : Wd
 A : Option Addr
 n : Nat
 c : Nat
 words : List Wd
def brC (x : Br) : List Value := [.string (mkStr x.mark), .slice x.A x.n x.c]
theorem brC_len (x : Br) : (brC x).length = 2 := rfl
def Br.dat (x : Br) : Bf := ⟨x.mark, x.words⟩
def BrIn (w : World) (B : Nat) (x : Br) : Prop := WdsIn w B x.A x.n x.c x.words
def SmB (x : Br) : Prop := x.mark.length ≤ maxLen ∧ ∀ l ∈ x.words, l.length ≤ maxLen
def BrsIn (w : World) (B : Nat) (A : Option Addr) (n c : Nat) (xs : List Br) : Prop :=
 xs.length = n ∧ n ≤ c ∧ c ≤ maxLen ∧ Row w B A n 2 (xs.flatMap brC) ∧ ∀ x ∈ xs, BrIn w B x
def brAt (xs : List Br) (k : Nat) : Br := xs.getD k ⟨[], none, 0, 0, []⟩
theorem brAt_some {xs : List Br} {k : Nat} (h : k < xs.length) : xs[k]? = some (brAt xs k) := by simp [brAt, List.getD_eq_getElem?_getD, h]
theorem brAt_mem {xs : List Br} {k : Nat} (h : k < xs.length) : brAt xs k ∈ xs := List.mem_of_getElem? (brAt_some h)
theorem brAt_dat {xs : List Br} {k : Nat} (h : k < xs.length) : bfAt (xs.map Br.dat) k = (brAt xs k).dat := by
 have h1 := bfAt_some (bs := xs.map Br.dat) (k := k) (by rw [List.length_map]; exact h); rw [List.getElem?_map, brAt_some h] at h1; injection h1 with h1; exact h1.symm
theorem BrIn.keep {w w' : World} {x : Br} (h : BrIn w w.heap.size x) (hb : Below w.heap.size w w') : BrIn w' w'.heap.size x := WdsIn.keep h hb
theorem BrsIn.keep {w w' : World} {n c : Nat} {A : Option Addr} {xs : List Br} (h : BrsIn w w.heap.size A n c xs) (hb : Below w.heap.size w w') : BrsIn w' w'.heap.size A n c xs :=
 ⟨h.1, h.2.1, h.2.2.1, (h.2.2.2.1.below hb).more hb.size, fun x hx => (h.2.2.2.2 x hx).keep hb⟩
theorem BrsIn.at_ {w : World} {B n c k : Nat} {A : Option Addr} {xs : List Br} (h : BrsIn w B A n c xs) (hk : k < n) :
  ∃ b off, A = some ⟨b, off, none⟩ ∧ b < B ∧ w.cell? ⟨b, off + k * 2, none⟩ = some (.string (mkStr (brAt xs k).mark)) ∧ w.cell? ⟨b, off + k * 2 + 1, none⟩ = some (.slice (brAt xs k).A (brAt xs k).n (brAt xs k).c) ∧ BrIn w B (brAt xs k) := by
 obtain ⟨h1, _, _, h4, h5⟩ := h; obtain ⟨b, off, eA, hbB, hc⟩ := h4.2 (by omega); have hs := brAt_some (xs := xs) (k := k) (by omega); refine ⟨b, off, eA, hbB, ?_, ?_, h5 _ (brAt_mem (by omega))⟩
 ·have := hc (k * 2 + 0) _ (flat_at brC_len xs k _ 0 (.string (mkStr (brAt xs k).mark)) hs rfl); simpa using this
 ·have := hc (k * 2 + 1) _ (flat_at brC_len xs k _ 1 (.slice (brAt xs k).A (brAt xs k).n (brAt xs k).c) hs rfl)
  rwa [← Nat.add_assoc] at this
theorem infoBr : (Tryz.prog.info? 34).map (fun i => (i.zero, i.size, i.bytes)) = some (some (.agg #[.string { data := #[] }, .slice none 0 0]), 2, 40) := by kernel_rfl
theorem rowNewBr (w : World) (u1 u2 : Value) (t : TypeId) : Row (w.alloc (.cells #[u1, u2] t)) (w.heap.size + 1) (some ⟨w.heap.size, 0, none⟩) 1 2 [u1, u2] := by
 refine ⟨rfl, fun _ => ⟨w.heap.size, 0, rfl, by omega, fun j x hj => ?_⟩⟩; rw [World.cell?_alloc_at _ t w.heap.size (0 + j) rfl]; simpa using hj
def BrOwn (w : World) (B : Nat) (v : Value) (xs : List Br) : Prop :=
 w.ownsRow B 34 2 v xs.length (xs.flatMap brC) ∧ ∀ x ∈ xs, BrIn w w.heap.size x ∧ (0 < x.n → ∀ a, x.A = some a → v.ownBlock ≠ some a.block ∧ a.block < w.heap.size)
section
variable {w w' : World} {B n c : Nat} {A : Option Addr} {v v' : Value} {xs : List Br} {x : Br}
theorem BrOwn.keep (h : BrOwn w B v xs) (hb : Below w.heap.size w w') : BrOwn w' B v xs :=
 ⟨ownG_keep h.1 hb, fun x hx => ⟨(h.2 x hx).1.keep hb, fun hp a ha => ⟨((h.2 x hx).2 hp a ha).1, Nat.lt_of_lt_of_le ((h.2 x hx).2 hp a ha).2 hb.size⟩⟩⟩
theorem BrOwn.push (h : BrOwn w B v xs) (hx : BrIn w w.heap.size x) (hn : 0 < x.n → ∀ a, x.A = some a → v.ownBlock ≠ some a.block ∧ a.block < w.heap.size)
  (ho : w'.ownsRow B 34 2 v' (xs.length + 1) (xs.flatMap brC ++ brC x)) (hg : w.grownBy w' v.ownBlock) (hv : v'.ownBlock = v.ownBlock ∨ v'.ownBlock = some w.heap.size) : BrOwn w' B v' (xs ++ [x]) := by
 refine ⟨by rw [List.length_append, List.flatMap_append]; simpa using ho, fun y hy => ?_⟩; have key : BrIn w w.heap.size y ∧ (0 < y.n → ∀ a, y.A = some a → v.ownBlock ≠ some a.block ∧ a.block < w.heap.size) := by
  rcases List.mem_append.1 hy with hy | hy
  ·exact h.2 y hy
  ·rw [List.mem_singleton] at hy; subst hy; exact ⟨hx, hn⟩
 refine ⟨WdsIn.grown key.1 hg (fun hp a ha => (key.2 hp a ha).1), fun hp a ha => ⟨fun e => ?_, Nat.lt_of_lt_of_le (key.2 hp a ha).2 hg.size⟩⟩; rcases hv with e2 | e2
 ·exact (key.2 hp a ha).1 (e2.symm.trans e)
 ·have := (key.2 hp a ha).2; rw [e2] at e; injection e with e; omega
theorem BrOwn.reads (h : BrOwn w B (.slice A n c) xs) (hn : xs.length = n) : BrsIn w w.heap.size A n c xs := by
 have h1 := h.1; rw [hn] at h1; obtain ⟨A', c', e, h2, h3⟩ := ownG_form h1; injection e with e1 e2 e3; subst e1 e3; exact ⟨hn, h2, h3, Row.of_own h1, fun x hx => (h.2 x hx).1⟩
theorem BrOwn.made (w : World) : BrOwn (w.alloc (.cells #[] 34)) w.heap.size (.slice (some ⟨w.heap.size, 0, none⟩) 0 0) [] :=
 ⟨World.ownsRow_made w #[] 0 (Nat.le_refl _) (by simp) (by simp), by simp⟩
end
theorem cap_step (s : ByteArray) (k : Nat) (h : k < s.size) (ha : (s.data.toList.take k).all capB = true) (h1 : 65 ≤ (s[k].toNat : Int)) (h2 : (s[k].toNat : Int) ≤ 90) :
  (s.data.toList.take (k + 1)).all capB = true := by
 rw [take_snoc s k h, List.all_append, ha]; simp [capB]; omega
theorem cap_bad (s : ByteArray) (k : Nat) (h : k < s.size) (h1 : (s[k].toNat : Int) < 65 ∨ 90 < (s[k].toNat : Int)) : markB s.data.toList = false := by
 have hm : s[k] ∈ s.data.toList := by
  have : s[k] = s.data.toList[k]'(by simpa using h) := rfl; rw [this]; exact List.getElem_mem _
 have hb : capB s[k] = false := (by simp [capB]; omega); have : s.data.toList.all capB = false := by
  rw [List.all_eq_false]; exact ⟨_, hm, by simp [hb]⟩
 simp [markB, this]
theorem cap_done (s : ByteArray) (k : Nat) (hk : ¬ k < s.size) (ha : (s.data.toList.take k).all capB = true) : markB s.data.toList = decide ((1 : Int) ≤ s.size ∧ (s.size : Int) ≤ 3) := by
 have e : s.data.toList.take k = s.data.toList := List.take_of_length_le (by simp; omega); have l : s.data.toList.length = s.size := (by simp); rw [e] at ha; unfold markB; rw [ha, l]; rw [Bool.eq_iff_iff]; simp; omega
theorem l4Mark (s : ByteArray) (w : World) (hs : s.size ≤ maxLen) : Calls Tryz.prog 185 #[.string s] w fun e w' => e = .returned (.bool (markB s.data.toList)) ∧ w = w' := by
 unfold maxLen at hs; go_enter Tryz.func185, Tryz.ntmps185
 go_wp2
 go_loop [3] (fun i => ∃ k : Nat, k ≤ s.size ∧ i = .int .i64 k ∧ Hid ((s.data.toList.take k).all capB = true)) (fun i => s.size - (intOf i).toNat)
 case atStart => exact ⟨0, Nat.zero_le _, rfl, uH rfl⟩
 case round =>
  obtain ⟨k, hk, rfl, hall⟩ := hrel; by_cases hlt : k < s.size
  ·go_wp2
   ·go_ret; exact ⟨ret_bool (by rw [cap_bad s k hlt (by omega)]), rfl⟩
   ·go_round
    case rel => exact ⟨k + 1, by omega, by go_num, uH (cap_step s k hlt hall.out (by omega) (by omega))⟩
    case measure => simp [intOf]; omega
   ·go_ret; exact ⟨ret_bool (by rw [cap_bad s k hlt (by omega)]), rfl⟩
  ·go_wp2_with (go_at_call 134; refine (l6In_any _ _ _ _).mono ?_; rintro e w' ⟨rfl, rfl⟩)
   go_ret; exact ⟨ret_bool (by rw [cap_done s k hlt hall.out]; simp), rfl⟩
def OkBs (xs : List Br) : Prop := ∀ x ∈ xs, SmB x
theorem l4Words13 (A : Option Addr) (n c : Nat) (ws : List Wd) (w : World) (hW : ∀ l ∈ ws, l.length ≤ maxLen) (h : WdsIn w w.heap.size A n c ws) :
  Calls Tryz.prog 130 #[.slice A n c, .int .i64 1, .int .i64 3] w fun e w' => e = .returned (.bool (bwB ws)) ∧ w = w' :=
 (l4Words A n c ws 1 3 w hW h).mono fun e w' ⟨he, hw⟩ => ⟨by rw [he]; unfold bwB; refine ret_bool ?_; congr 1; exact decide_eq_decide.2 ⟨fun h => by omega, fun h => by omega⟩, hw⟩
set_option maxHeartbeats 1600000 in
theorem specBriefsValid (A : Option Addr) (n c : Nat) (xs : List Br) (w : World) (hX : OkBs xs) (h : BrsIn w w.heap.size A n c xs) :
  Calls Tryz.prog 123 #[.slice A n c] w fun e w' => e = .returned (.bool (brsB (xs.map Br.dat))) ∧ Below w.heap.size w w' := by
 have hm := h.2.2.1; have hnc := h.2.1; unfold maxLen at hm; have HL := uH h.1; have H := uH h; have HX := uH hX; have HDat : Hid (∀ k, k < n → bfAt (xs.map Br.dat) k = (brAt xs k).dat) := uH (fun k hk => brAt_dat (by rw [HL.out]; exact hk)); have HN : Hid (∀ k, k < n → ¬ brGood (xs.map Br.dat) k → brsB (xs.map Br.dat) = false) := uH (fun k hk hn => brsB_no (by rw [List.length_map, HL.out]; exact hk) hn); have HY : Hid (brK (xs.map Br.dat) n → brsB (xs.map Br.dat) = decide ((n : Int) ≤ 8)) := uH (fun h => by
  rw [brsB_all (fun i hi => h i (by rw [List.length_map, HL.out] at hi; exact hi)), List.length_map, HL.out]; exact decide_eq_decide.2 (by omega))
 clear h hX; generalize brsB (xs.map Br.dat) = T at *; go_enter Tryz.func123, Tryz.ntmps123
 go_wp2; go_loopw [3] (fun i wr => ∃ k : Nat, k ≤ n ∧ i = .int .i64 k ∧ Hid (brK (xs.map Br.dat) k) ∧ Below w.heap.size w wr) (fun i _ => n - (intOf i).toNat)
 case atStart => exact ⟨0, Nat.zero_le _, rfl, uH (fun i hi => by omega), Below.refl _ _⟩
 case round =>
  obtain ⟨k, hk, rfl, HK, hb⟩ := hrel; by_cases hlt : k < n
  ·have hkl : k < xs.length := (by rw [HL.out]; exact hlt); have Hw := uH (H.out.keep hb); obtain ⟨b, off, rfl, hbB, c0, c1, hI⟩ := Hw.out.at_ hlt; have hsm := HX.out _ (brAt_mem hkl); have HM : Hid (∀ W, Calls Tryz.prog 185 #[.string (mkStr (brAt xs k).mark)] W fun e w' => e = .returned (.bool (markB (brAt xs k).mark)) ∧ W = w') := uH (fun W => by
    have := l4Mark (mkStr (brAt xs k).mark) W (by rw [mkStr_size]; exact hsm.1)
    rwa [mkStr_data] at this)
   have HWo := uH (l4Words13 (brAt xs k).A (brAt xs k).n (brAt xs k).c (brAt xs k).words wr hsm.2 hI); have HO : Hid (bfB (brAt xs k).dat = false → T = false) := uH (fun h => HN.out k hlt (fun h2 => by have := h2.1; rw [HDat.out k hlt, h] at this; cases this)); have HOk : Hid (bfB (brAt xs k).dat = true → brJ (xs.map Br.dat) k k → brK (xs.map Br.dat) (k + 1)) := uH (fun h h2 => brK_succ HK.out ⟨by rw [HDat.out k hlt]; exact h, h2⟩); have HJn : Hid (∀ j, j < k → ((brAt xs j).mark = (brAt xs k).mark ∨ (brAt xs j).words = (brAt xs k).words) → T = false) := uH (fun j hj h => HN.out k hlt (fun h2 => by
    have := h2.2 j hj; rw [HDat.out k hlt, HDat.out j (by omega)] at this; exact h.elim this.1 this.2))
   have HJs : Hid (∀ j, j < k → brJ (xs.map Br.dat) k j → (brAt xs j).mark ≠ (brAt xs k).mark → (brAt xs j).words ≠ (brAt xs k).words → brJ (xs.map Br.dat) k (j + 1)) := uH (fun j hj h h1 h2 => brJ_succ h (by
    rw [HDat.out k hlt, HDat.out j (by omega)]; exact ⟨h1, h2⟩))
   have HIk := uH hI; have i1 : (0 : Int) ≤ (k : Int) := (by omega); have i2 : (k : Int) < (n : Int) := (by omega); clear hkl hsm hI; cases hm1 : markB (brAt xs k).mark with
   | false =>
    have HF := uH (HO.out (by unfold bfB Br.dat; rw [hm1]; rfl)); rw [hm1] at HM; clear hm1 HWo HO HOk HJn HJs HIk; generalize brAt xs k = x at *; (go_wp2_with fail); refine (HM.out _).mono ?_; rintro e w1 ⟨rfl, rfl⟩; go_wp2; go_ret; exact ⟨ret_bool HF.out.symm, hb⟩
   | true =>
    rw [hm1] at HM; cases hm2 : bwB (brAt xs k).words with
    | false =>
     have HF := uH (HO.out (by unfold bfB Br.dat; rw [hm2, Bool.and_false])); rw [hm2] at HWo; clear hm1 hm2 HO HOk HJn HJs HIk; generalize brAt xs k = x at *; (go_wp2_with fail); refine (HM.out _).mono ?_; rintro e w1 ⟨rfl, rfl⟩; (go_wp2_with fail); refine HWo.out.mono ?_; rintro e w1 ⟨rfl, rfl⟩; go_wp2; go_ret; exact ⟨ret_bool HF.out.symm, hb⟩
    | true =>
     rw [hm2] at HWo; have HOk2 := uH (HOk.out (by unfold bfB Br.dat; rw [hm1, hm2]; rfl)); clear hm1 hm2 HO HOk; clear HIk; (go_wp2_with fail); refine (HM.out _).mono ?_; rintro e w1 ⟨rfl, rfl⟩; (go_wp2_with fail); refine HWo.out.mono ?_; rintro e w1 ⟨rfl, rfl⟩; clear c0 c1 HM HWo Hw; go_wp2; go_loopw [4] (fun i wr2 => ∃ j : Nat, j ≤ k ∧ i = .int .i64 j ∧ Hid (brJ (xs.map Br.dat) k j) ∧ Below w.heap.size w wr2) (fun i _ => k - (intOf i).toNat)
     case atStart => exact ⟨0, Nat.zero_le _, rfl, uH (fun i hi => by omega), hb⟩
     case round =>
      obtain ⟨j, hj, rfl, HJ, hb4⟩ := hrel; by_cases hlj : j < k
      ·have Hw := uH (H.out.keep hb4); have hk' := Hw.out.at_ hlt; obtain ⟨b', off', eA, hbB', a0, a1, hIj⟩ := Hw.out.at_ (k := j) (by omega); obtain ⟨b2, off2, eA2, hbB2, d0, d1, hIk⟩ := hk'; injection eA with eA; injection eA with eA1 eA2'; subst eA1 eA2'; injection eA2 with eA2; injection eA2 with eA3 eA4; subst eA3 eA4; have j1 : (0 : Int) ≤ (j : Int) := (by omega); have j2 : (j : Int) < (n : Int) := (by omega); have HNj := uH (HJn.out j hlj); have HSj := uH (HJs.out j hlj HJ.out); have HE : Hid (∀ W, Below wr.heap.size wr W → Calls Tryz.prog 124 #[.slice (brAt xs j).A (brAt xs j).n (brAt xs j).c, .slice (brAt xs k).A (brAt xs k).n (brAt xs k).c] W fun e w' => e = .returned (.bool (decide ((brAt xs j).words = (brAt xs k).words))) ∧ Below W.heap.size W w') := uH (fun W hW => l4Same _ _ _ _ _ _ _ _ W (BrIn.keep hIj hW) (BrIn.keep hIk hW)); have r0 := qcell a0; have r1 := qcell a1; have q0 := qcell d0; have q1 := qcell d1; have hq := beq_str (mkStr (brAt xs k).mark) (brAt xs j).mark (brAt xs k).mark rfl; clear hIj hIk HJ Hw; by_cases hel : (brAt xs j).mark = (brAt xs k).mark
       ·rw [decide_eq_true hel] at hq; have HF := uH (HNj.out (.inl hel)); clear hel HNj HSj HE; generalize brAt xs j = y at *; generalize brAt xs k = x at *; (go_wp2_with fail); refine region_qb (by kernel_rfl) (by kernel_rfl) ?_; repeat (first | go_big_quiet_step (fail) | quiet_step (fail))
        refine wpQuiet_nil ?_; intro w5 hb5; have b5 := below_next hb4 hb5; go_wp2; go_ret; exact ⟨ret_bool HF.out.symm, b5⟩
       ·rw [decide_eq_false hel] at hq; have HSj2 := uH (HSj.out hel); by_cases hes : (brAt xs j).words = (brAt xs k).words
        ·have HF := uH (HNj.out (.inr hes)); rw [decide_eq_true hes] at HE; clear hel hes HNj HSj HSj2; generalize brAt xs j = y at *; generalize brAt xs k = x at *; (go_wp2_with fail); refine region_qb (by kernel_rfl) (by kernel_rfl) ?_; repeat (first | go_big_quiet_step ((go_at_call 124; exact quietB (HE.out _ (below_regrown _ _ _)))) | quiet_step ((go_at_call 124; exact quietB (HE.out _ (below_regrown _ _ _)))))
         refine wpQuiet_nil ?_; intro w5 hb5; have b5 := below_next hb4 hb5; go_wp2; go_ret; exact ⟨ret_bool HF.out.symm, b5⟩
        ·have HF := uH (HSj2.out hes); rw [decide_eq_false hes] at HE; clear hel hes HNj HSj HSj2; generalize brAt xs j = y at *; generalize brAt xs k = x at *; (go_wp2_with fail); refine region_qb (by kernel_rfl) (by kernel_rfl) ?_; repeat (first | go_big_quiet_step ((go_at_call 124; exact quietB (HE.out _ (below_regrown _ _ _)))) | quiet_step ((go_at_call 124; exact quietB (HE.out _ (below_regrown _ _ _)))))
         refine wpQuiet_nil ?_; intro w5 hb5; have b5 := below_next hb4 hb5; clear hb5 hb4 r0 r1 q0 q1 a0 a1 d0 d1; go_wp2; go_roundw
         case rel => exact ⟨j + 1, by omega, by go_num, HF, b5⟩
         case measure => simp [intOf]; omega
      ·obtain rfl : j = k := (by omega); have HF := uH (HOk2.out HJ.out); go_wp2; go_roundw
       case rel => exact ⟨j + 1, by omega, by go_num, HF, hb4⟩
       case measure => simp [intOf]; omega
  ·obtain rfl : k = n := (by omega); have HF := uH (HY.out HK.out); go_wp2; go_ret; exact ⟨ret_bool HF.out.symm, hb⟩
end Go.Proofs.YtbkhnljaajajiaaGreatDoor
