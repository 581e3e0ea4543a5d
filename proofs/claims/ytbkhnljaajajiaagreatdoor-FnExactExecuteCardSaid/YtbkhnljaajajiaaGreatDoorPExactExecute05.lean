/-
  Contracts and plain laws that the proof of the law ExactExecute leans on. Conditions: as each says.
-/
import Derived.Test.YtbkhnljaajajiaaGreatDoorPExactExecute00
import Derived.Test.YtbkhnljaajajiaaGreatDoorPExactExecute03
import Derived.Test.YtbkhnljaajajiaaGreatDoorPExactExecute04
import Derived.Deep.RegionHeld3
import Derived.Deep.DeepCutAuto
import Derived.Deep.Cut
import Derived.Deep.CutRange
import Derived.WalkKit
namespace Go.Proofs.YtbkhnljaajajiaaGreatDoor
open Go.ChangeShapes Go.WideShapes Go.ChangeAt Go.RowKit
set_option maxRecDepth 100000
set_option linter.unusedSimpArgs false
set_option linter.unusedVariables false
theorem join_len1 {n : Nat} {L : List (List UInt8)} {s : UInt8} (h : ∀ l ∈ L, l.length ≤ n) : (Lib.join L [s]).length ≤ (n + 1) * L.length := by
 cases L with
 | nil => simp [Lib.join_nil]
 | cons x r =>
  rw [Lib.join_cons, List.length_append]; have h1 := h x (by simp); have h2 : (Lib.joinTail [s] r).length ≤ (n + 1) * r.length := by
   unfold Lib.joinTail; have h0 : ∀ l ∈ r, l.length ≤ n := fun l hl => h l (by simp [hl]); clear h; induction r with
   | nil => simp
   | cons y r ih =>
    have h3 := h0 y (by simp); have h4 := ih (fun l hl => h0 l (by simp [hl])); simp only [List.map_cons, List.flatten_cons, List.length_append, List.length_cons, List.length_nil] at h4 ⊢; rw [Nat.mul_add]; omega
  rw [List.length_cons, Nat.mul_add]; omega
theorem joinWds (A : Option Addr) (n c : Nat) (ws : List Wd) (s : UInt8) (w : World) (hn : n ≤ 1000000) (hl : ∀ l ∈ ws, l.length ≤ 1000000) (h : WdsIn w w.heap.size A n c ws) :
  Calls Tryz.prog 73 #[.slice A n c, .string { data := #[s] }] w fun e w' => e = .returned (.string (mkStr (Lib.join ws [s]))) ∧ Below w.heap.size w w' := by
 by_cases h0 : n = 0
 ·have hps : ws = [] := List.length_eq_zero_iff.1 (by rw [h.1]; exact h0); subst hps h0; exact (Tryz.strings_Join_none A c _ w).mono fun e w' ⟨he, hw⟩ => ⟨by rw [he, Lib.join_nil]; rfl, by rw [hw]; exact Below.refl _ _⟩
 ·obtain ⟨b, off, eA, hbB, _⟩ := h.at_ (k := 0) (by omega); subst eA; have hS : (ws.map mkStr).length = n := (by rw [List.length_map]; exact h.1); have hmap : (ws.map mkStr).map (·.data.toList) = ws := by
   rw [List.map_map]
   conv => rhs; rw [← List.map_id ws]
   exact List.map_congr_left (fun l _ => mkStr_data l)
  have hJ := Tryz.strings_Join b off c (ws.map mkStr) { data := #[s] } w (fun j x hx => by
   rw [List.getElem?_map] at hx; cases hd : ws[j]? with
   | none => rw [hd] at hx; cases hx
   | some d =>
    rw [hd] at hx; injection hx with hx; subst hx; have hj : j < n := by
     rw [← h.1]; exact (List.getElem?_eq_some_iff.1 hd).1
    obtain ⟨b', off', e1, _, hc⟩ := h.at_ hj; injection e1 with e1; injection e1 with e1 e2; subst e1 e2; rw [hc]; have h6 := wdAt_some (ws := ws) (k := j) (by rw [h.1]; exact hj); rw [hd] at h6; injection h6 with h6; rw [h6]) hbB (by rw [hS]; omega) (by rw [hS]; exact h.2.1) (by
   rw [hmap]; have h7 := join_len1 (s := s) hl; rw [h.1] at h7; have h8 : (1000000 + 1) * n ≤ (1000000 + 1) * 1000000 := Nat.mul_le_mul_left _ hn
   show (Lib.join ws [s]).length ≤ _
   omega)
  rw [hS, hmap] at hJ; exact hJ
def mkTx (m : Mk) : Wd := Lib.decDigits m.at_ ++ [45] ++ Lib.decDigits m.cut ++ [43] ++ Lib.join m.put [44]
def marksTxt (ms : List Mk) : Wd := Lib.join (ms.map mkTx) [32]
def marksText (ws : List Wd) (ms : List Mk) : Wd := if marksB ws ms = true then marksTxt ms else []
theorem marksText_yes {ws : List Wd} {ms : List Mk} (h : marksB ws ms = true) : marksText ws ms = marksTxt ms := if_pos h
theorem marksText_no {ws : List Wd} {ms : List Mk} (h : marksB ws ms = false) : marksText ws ms = [] := by unfold marksText; rw [h]; rfl
theorem itoaSmall (i : Nat) (w : World) (h : i < 100) : Calls Tryz.prog 50 #[.int .i64 (i : Int)] w fun e w' => e = .returned (.string (mkStr (Lib.decDigits i))) ∧ Below w.heap.size w w' :=
 (Tryz.strconv_Itoa_small i h w).mono fun e w' ⟨he, hw⟩ => ⟨he, by rw [hw]; exact Below.refl _ _⟩
theorem mark_bd {base : List Wd} {ms : List Mk} (h : marksB base ms = true) : ms.length ≤ 20 ∧ ∀ x ∈ ms, x.at_ ≤ 20 ∧ x.cut ≤ 20 ∧ x.put.length ≤ 20 ∧ ∀ l ∈ x.put, l.length ≤ 12 := by
 obtain ⟨h0, h1, h2, _⟩ := marksB_iff.1 h; refine ⟨h1, fun x hx => ?_⟩; have h3 := mkB_iff.1 ((gapB_ord h2).1 x hx); have h4 := spB_iff.1 h3.2.1; have h5 := (spB_iff.1 h0).2; refine ⟨by omega, by omega, h4.2, fun l hl => ?_⟩; have := h4.1 l hl; unfold wordB at this; simp only [Bool.and_eq_true, decide_eq_true_eq] at this; exact this.2.2
theorem decN_len (i : Nat) (h : i ≤ 1000000) : (Lib.decDigits i).length ≤ 20 := by
 rw [Lib.decDigits_length]; exact Lib.nDigits_le20 _ (by omega)
theorem mkTx_len {m : Mk} (h1 : m.at_ ≤ 20) (h2 : m.cut ≤ 20) (h3 : m.put.length ≤ 20) (h4 : ∀ l ∈ m.put, l.length ≤ 12) : (mkTx m).length ≤ 400 := by
 have a1 := decN_len m.at_ (by omega); have a2 := decN_len m.cut (by omega); have a3 := join_len1 (s := 44) h4; have a4 : (12 + 1) * m.put.length ≤ (12 + 1) * 20 := Nat.mul_le_mul_left _ h3; unfold mkTx; simp only [List.length_append, List.length_cons, List.length_nil]; omega
set_option maxHeartbeats 3200000 in
theorem implMarksText (A : Option Addr) (n c : Nat) (ws : List Wd) (A' : Option Addr) (n' c' : Nat) (xs : List Mr) (w : World) (hW : ∀ l ∈ ws, l.length ≤ maxLen) (hX : OkMs xs) (h : WdsIn w w.heap.size A n c ws) (h' : MrsIn w w.heap.size A' n' c' xs) :
  Calls Tryz.prog 30 #[.slice A n c, .slice A' n' c'] w fun e w' => e = .returned (.string (mkStr (marksText ws (xs.map Mr.dat)))) ∧ Below w.heap.size w w' := by
 have HV := uH (implMarksValid A n c ws A' n' c' xs w hW hX h h'); cases hv : marksB ws (xs.map Mr.dat) with
 | false =>
  have HR : Hid (marksText ws (xs.map Mr.dat) = []) := uH (marksText_no hv); rw [hv] at HV; clear hv h h' hX hW; go_enter Tryz.func30, Tryz.ntmps30
  (go_wp2_with fail); refine HV.out.mono ?_; rintro e w1 ⟨rfl, hb⟩; go_wp2; go_ret; exact ⟨by rw [HR.out]; rfl, hb⟩
 | true =>
  have HR : Hid (marksText ws (xs.map Mr.dat) = Lib.join (xs.map fun x => mkTx x.dat) [32]) := uH (by rw [marksText_yes hv]; unfold marksTxt; rw [List.map_map]; rfl); obtain ⟨hbd1, hbd2⟩ := mark_bd hv; rw [List.length_map, h'.1] at hbd1; have HBd : Hid (∀ x ∈ xs, x.at_ ≤ 20 ∧ x.cut ≤ 20 ∧ x.put.length ≤ 20 ∧ ∀ l ∈ x.put, l.length ≤ 12) := uH (fun x hx => hbd2 x.dat (List.mem_map.2 ⟨x, hx, rfl⟩)); have HL := uH h'.1; have H := uH h'; obtain ⟨j0, hj, hy0, hy1, hy2⟩ := info_parts infoWd; rw [hv] at HV; clear hv h h' hX hW hbd2; go_enter Tryz.func30, Tryz.ntmps30
  (go_wp2_with fail); refine HV.out.mono ?_; rintro e w1 ⟨rfl, hb1⟩; have ba := hb1.alloc hb1.size (.cells #[] 9); have HO0 : Hid (WdOwn (w1.alloc (.cells #[] 9)) w.heap.size (.slice (some ⟨w1.heap.size, 0, none⟩) 0 0) []) := uH (World.ownsRow_made w1 #[] 0 hb1.size (by simp) (by simp)); clear HV hb1; go_wp2; go_loopw [5, 16] (fun s5 s16 wr => ∃ (k : Nat) (v : Value), k ≤ n' ∧ s5 = v ∧ s16 = .int .i64 k ∧ Hid (wr.ownsRow w.heap.size 9 1 v k (((xs.take k).map fun x => mkTx x.dat).map strP)) ∧ Below w.heap.size w wr) (fun _ s16 _ => n' - (intOf s16).toNat)
  case atStart => exact ⟨0, _, Nat.zero_le _, rfl, rfl, HO0, ba⟩
  case round =>
   obtain ⟨k, v, hk, rfl, rfl, HO, hb⟩ := hrel; have hzw := hb.size; have i1 : (0 : Int) ≤ (k : Int) := (by omega); by_cases hlt : k < n'
   ·have i2 : (k : Int) < (n' : Int) := (by omega); have hkl : k < xs.length := (by rw [HL.out]; exact hlt); obtain ⟨b, off, rfl, hbB, c0, c1, c2, hI⟩ := (H.out.keep hb).at_ hlt; obtain ⟨g1, g2, g3, g4⟩ := HBd.out _ (mrAt_mem hkl); have HSt : Hid (((xs.take (k + 1)).map fun x => mkTx x.dat).map strP = ((xs.take k).map fun x => mkTx x.dat).map strP ++ [.string (mkStr (mkTx (mrAt xs k).dat))]) := uH (by
     have h2 := mrAt_some hkl; rw [List.getElem?_eq_getElem hkl] at h2; injection h2 with h2; rw [List.take_succ_eq_append_getElem hkl, List.map_append, List.map_append, h2]; rfl)
    have hpl := hI.1; have htl := mkTx_len (m := (mrAt xs k).dat) g1 g2 g3 g4; clear hkl; generalize mrAt xs k = x at *; have ba : Below wr.heap.size wr (wr.alloc (.cells #[.int .i64 (x.at_ : Int), .int .i64 (x.cut : Int), .slice x.A x.n x.c] 116)) := (Below.refl _ _).alloc (Nat.le_refl _) _; have K := Blk.new wr 116 #[.int .i64 (x.at_ : Int), .int .i64 (x.cut : Int), .slice x.A x.n x.c]; have k0 := K.cell 0; have k1 := K.cell 1; have k2 := K.cell 2; have HK := uH K; have HIa := uH (fun W => itoaSmall x.at_ W (by omega)); have HIc := uH (fun W => itoaSmall x.cut W (by omega)); have HJ : Hid (∀ W, Below wr.heap.size wr W → Calls Tryz.prog 73 #[.slice x.A x.n x.c, .string { data := #[44] }] W fun e w' => e = .returned (.string (mkStr (Lib.join x.put [44]))) ∧ Below W.heap.size W w') := uH (fun W hW => joinWds x.A x.n x.c x.put 44 W (by omega) (fun l hl => by have := g4 l hl; omega) (MrIn.keep hI hW)); have d1 := decN_len x.at_ (by omega); have d2 := decN_len x.cut (by omega); have d3 := join_len1 (s := 44) g4; have d4 : (12 + 1) * x.put.length ≤ (12 + 1) * 20 := Nat.mul_le_mul_left _ g3; have hadd1 : ∀ W', (Op.stringOp .add (mkStr (Lib.decDigits x.at_)) { data := #[45] }).run Tryz.prog W' = .ok (.string (mkStr (Lib.decDigits x.at_ ++ [45]))) W' := fun W' => run_add _ [45] (by simp; omega) W'; have hadd2 : ∀ W', (Op.stringOp .add (mkStr (Lib.decDigits x.at_ ++ [45])) (mkStr (Lib.decDigits x.cut))).run Tryz.prog W' = .ok (.string (mkStr (Lib.decDigits x.at_ ++ [45] ++ Lib.decDigits x.cut))) W' := fun W' => run_add _ _ (by simp; omega) W'; have hadd3 : ∀ W', (Op.stringOp .add (mkStr (Lib.decDigits x.at_ ++ [45] ++ Lib.decDigits x.cut)) { data := #[43] }).run Tryz.prog W' = .ok (.string (mkStr (Lib.decDigits x.at_ ++ [45] ++ Lib.decDigits x.cut ++ [43]))) W' := fun W' => run_add _ [43] (by simp; omega) W'; have hadd4 : ∀ W', (Op.stringOp .add (mkStr (Lib.decDigits x.at_ ++ [45] ++ Lib.decDigits x.cut ++ [43])) (mkStr (Lib.join x.put [44]))).run Tryz.prog W' = .ok (.string (mkStr (mkTx x.dat))) W' := fun W' => run_add _ _ (by simp; omega) W'; have HVl : Hid (∀ q, u5.ownBlock = some q → q < wr.heap.size ∧ w.heap.size ≤ q) := uH (fun q hq => ⟨ownG_lt HO.out hq, ownG_base HO.out hq⟩); clear hI g1 g2 g3 g4 d1 d2 d3 d4 hpl htl K; generalize mkStr (Lib.decDigits x.at_ ++ [45] ++ Lib.decDigits x.cut ++ [43]) = t4 at *; generalize mkStr (Lib.decDigits x.at_ ++ [45] ++ Lib.decDigits x.cut) = t3 at *; generalize mkStr (Lib.decDigits x.at_ ++ [45]) = t2 at *; generalize mkStr (Lib.decDigits x.at_) = t0 at *; generalize mkStr (Lib.decDigits x.cut) = t1 at *; generalize mkStr (Lib.join x.put [44]) = t5 at *; generalize mkStr (mkTx x.dat) = t6 at *; (go_wp2_with fail); go_region_held3 (fun w' => w'.cell? ⟨wr.heap.size, 0, none⟩ = some (.int .i64 (x.at_ : Int)) ∧ w'.cell? ⟨wr.heap.size, 1, none⟩ = some (.int .i64 (x.cut : Int))) (first | exact ⟨by assumption, by assumption⟩ | go_keep)
     (first
      | (go_at_call_of 50 (Value.int .i64 (x.at_ : Int)); refine (HIa.out _).mono ?_; rintro e w3 ⟨rfl, hb3⟩; have p0 := kcell hb3 (show World.cell? (World.drew _) _ = _ from k0); have p1 := kcell hb3 (show World.cell? (World.drew _) _ = _ from k1))
      | (go_at_call_of 50 (Value.int .i64 (x.cut : Int)); refine (HIc.out _).mono ?_; rintro e w4 ⟨rfl, hb4⟩; have q0 := kcell hb4 p0; have q1 := kcell hb4 p1))
    have hb34 := below_next (below_next ((Below.refl _ _).drew) hb3) hb4; have b4 := below_next (below_next hb ba) hb34; have K4 := (HK.out.below hb34).cell 2; have HO4 : Hid (w4.ownsRow w.heap.size 9 1 u5 k (((xs.take k).map fun x => mkTx x.dat).map strP)) := uH (ownG_keep (ownG_keep HO.out ba) hb34); have HJ4 := uH (HJ.out w4 (below_next ba hb34)); clear hb34 hb3 hb4 p0 p1 q0 q1 HK HO hb ba HIa HIc HJ; (go_wp2_with fail); refine HJ4.out.mono ?_; rintro e w5 ⟨rfl, hb5⟩; have b5 := below_next b4 hb5; have hz5 := b5.size; have HO5 := uH (ownG_keep HO4.out hb5); clear hb5 HJ4 HO4 b4 K4; go_wp2_with (at_builtin; refine wpList_append_any _ rfl (.tmp 28) (.tmp 35) _ rfl w.heap.size 9 j0 _ 1 16 Tryz.underlying27 hj hy0 hy1 hy2 rfl (by omega) _ k (((xs.take k).map fun x => mkTx x.dat).map strP) rfl (ownG_keep HO5.out ((Below.refl _ _).alloc (Nat.le_refl _) _)) (w5.heap.size + 1) (some ⟨w5.heap.size, 0, none⟩) 1 1 [.string t6] (by simp [Act.eval, Act.put]) (rowNew1 _ _ _) (by simp [Value.oneCell']) (by unfold maxLen; omega) (by omega) (by simp; omega) ?_; intro v6 w6 hown6 hg6 hat6)
    have HO6 : Hid (w6.ownsRow w.heap.size 9 1 v6 (k + 1) (((xs.take (k + 1)).map fun x => mkTx x.dat).map strP)) := uH (by rw [HSt.out]; exact hown6); have b6 : Below w.heap.size w w6 := (b5.alloc hz5 _).grown hg6 (by simp; omega) (fun q hq => ownG_base HO5.out hq); clear hown6 hg6 hat6 HO5 HSt hadd1 hadd2 hadd3 hadd4 c0 c1 c2 k0 k1 k2; go_wp2; go_roundw
    case rel => exact ⟨k + 1, v6, by omega, rfl, by go_num, HO6, b6⟩
    case measure => simp [intOf] <;> omega
   ·obtain rfl : k = n' := (by omega); rw [List.take_of_length_le (by rw [HL.out]; exact Nat.le_refl _)] at HO; obtain ⟨A4, c4, rfl, _, _⟩ := ownG_form HO.out; have HJ := uH (joinWds A4 k c4 (xs.map fun x => mkTx x.dat) 32 wr (by omega) (fun l hl => by
     obtain ⟨x, hx, rfl⟩ := List.mem_map.1 hl; obtain ⟨g1, g2, g3, g4⟩ := HBd.out x hx; have := mkTx_len (m := x.dat) g1 g2 g3 g4; omega) (WdOwn.reads (by unfold WdOwn; rw [List.length_map, HL.out]; exact HO.out) (by rw [List.length_map]; exact HL.out)))
    clear HO; (go_wp2_with fail); refine HJ.out.mono ?_; rintro e w3 ⟨rfl, hb3⟩; have b3 := below_next hb hb3; go_wp2; go_ret; exact ⟨by rw [HR.out]; rfl, b3⟩
def preT (L : List Wd) (s : UInt8) (k : Nat) : Wd := if k = 0 then [] else Lib.join (L.take k) [s] ++ [s]
theorem preT_next {L : List Wd} {s : UInt8} {k : Nat} (h : k < L.length) : Lib.join (L.take (k + 1)) [s] = preT L s k ++ wdAt L k := by
 have h6 := wdAt_some h; rw [List.getElem?_eq_getElem h] at h6; injection h6 with h6; unfold preT; by_cases h0 : k = 0
 ·subst h0; rw [if_pos rfl, List.take_succ_eq_append_getElem h, h6]; simp [Lib.join_cons, Lib.joinTail]
 ·rw [if_neg h0, List.take_succ_eq_append_getElem h, h6, joinT_snoc _ _ _ (by rw [List.length_take]; omega), List.append_assoc]
theorem preT_len {L : List Wd} {s : UInt8} {k n : Nat} (h : ∀ l ∈ L, l.length ≤ n) (hk : k ≤ 20) (hn : n ≤ 1000) : (preT L s k).length ≤ 30000 := by
 unfold preT; split
 ·simp
 ·have h1 := join_len1 (s := s) (L := L.take k) (fun l hl => h l (List.mem_of_mem_take hl)); have h2 : (L.take k).length ≤ 20 := (by rw [List.length_take]; omega); have h3 : (n + 1) * (L.take k).length ≤ 1001 * 20 := Nat.mul_le_mul (by omega) h2; rw [List.length_append, List.length_cons, List.length_nil]; omega
theorem joinTake_len {L : List Wd} {s : UInt8} {k n : Nat} (h : ∀ l ∈ L, l.length ≤ n) (hk : k ≤ 20) (hn : n ≤ 1000) : (Lib.join (L.take k) [s]).length ≤ 30000 := by
 have h1 := join_len1 (s := s) (L := L.take k) (fun l hl => h l (List.mem_of_mem_take hl)); have h2 : (L.take k).length ≤ 20 := (by rw [List.length_take]; omega); have h3 : (n + 1) * (L.take k).length ≤ 1001 * 20 := Nat.mul_le_mul (by omega) h2; omega
theorem l6DecSmall (i : Nat) (w : World) (h : i < 100) : Calls Tryz.prog 55 #[.int .i64 (i : Int)] w fun e w' => e = .returned (.string (mkStr (Lib.decDigits i))) ∧ Below w.heap.size w w' := l6DecNat i w (by omega)
set_option maxHeartbeats 3200000 in
theorem specMarksText (A : Option Addr) (n c : Nat) (ws : List Wd) (A' : Option Addr) (n' c' : Nat) (xs : List Mr) (w : World) (hW : ∀ l ∈ ws, l.length ≤ maxLen) (hX : OkMs xs) (h : WdsIn w w.heap.size A n c ws) (h' : MrsIn w w.heap.size A' n' c' xs) :
  Calls Tryz.prog 225 #[.slice A n c, .slice A' n' c'] w fun e w' => e = .returned (.string (mkStr (marksText ws (xs.map Mr.dat)))) ∧ Below w.heap.size w w' := by
 have HV := uH (fun W (hb : Below w.heap.size w W) => specMarksValid A n c ws A' n' c' xs W hW hX (h.keep hb) (h'.keep hb)); cases hv : marksB ws (xs.map Mr.dat) with
 | false =>
  have HR : Hid (marksText ws (xs.map Mr.dat) = []) := uH (marksText_no hv); rw [hv] at HV; clear hv h h' hX hW; go_enter Tryz.func225, Tryz.ntmps225
  go_wp2; go_loopw [5, 6] (fun s5 s6 wr => s5 = .string { data := #[] } ∧ s6 = .int .i64 0 ∧ Below w.heap.size w wr) (fun _ s6 _ => n' - (intOf s6).toNat)
  case atStart => exact ⟨rfl, rfl, Below.refl _ _⟩
  case round =>
   obtain ⟨rfl, rfl, hb⟩ := hrel; by_cases h0 : 0 < n'
   ·have z0 : (0 : Int) < (n' : Int) := (by omega); have HV1 := uH (HV.out wr hb); (go_wp2_with fail); refine HV1.out.mono ?_; rintro e w1 ⟨rfl, hb1⟩; have b1 := below_next hb hb1; go_wp2; go_ret; exact ⟨by rw [HR.out]; rfl, b1⟩
   ·have z0 : ¬ (0 : Int) < (n' : Int) := (by omega); go_wp2; go_ret; exact ⟨by rw [HR.out]; rfl, hb⟩
 | true =>
  obtain ⟨TL, hTL⟩ : ∃ TL : List Wd, TL = xs.map fun x => mkTx x.dat := ⟨_, rfl⟩; have HR : Hid (marksText ws (xs.map Mr.dat) = Lib.join TL [32]) := uH (by rw [marksText_yes hv, hTL]; unfold marksTxt; rw [List.map_map]; rfl); obtain ⟨hbd1, hbd2⟩ := mark_bd hv; rw [List.length_map, h'.1] at hbd1; have HBd : Hid (∀ x ∈ xs, x.at_ ≤ 20 ∧ x.cut ≤ 20 ∧ x.put.length ≤ 20 ∧ ∀ l ∈ x.put, l.length ≤ 12) := uH (fun x hx => hbd2 x.dat (List.mem_map.2 ⟨x, hx, rfl⟩)); have HL := uH h'.1; have HTl : Hid (TL.length = n') := uH (by rw [hTL, List.length_map, h'.1]); have HT4 : Hid (∀ l ∈ TL, l.length ≤ 400) := uH (fun l hl => by
   rw [hTL] at hl; obtain ⟨x, hx, rfl⟩ := List.mem_map.1 hl; obtain ⟨g1, g2, g3, g4⟩ := HBd.out x hx; exact mkTx_len (m := x.dat) g1 g2 g3 g4)
  have HTa : Hid (∀ k, k < n' → wdAt TL k = mkTx (mrAt xs k).dat) := uH (fun k hk => by
   have h2 := mrAt_some (xs := xs) (k := k) (by rw [HL.out]; exact hk); have h3 := wdAt_some (ws := TL) (k := k) (by rw [HTl.out]; exact hk); rw [hTL, List.getElem?_map, h2] at h3; injection h3 with h3; rw [← hTL] at h3; exact h3.symm)
  have H := uH h'; rw [hv] at HV; clear hv h h' hX hW hbd2 hTL; go_enter Tryz.func225, Tryz.ntmps225
  go_wp2; go_loopw [5, 6] (fun s5 s6 wr => ∃ k : Nat, k ≤ n' ∧ s5 = .string (mkStr (Lib.join (TL.take k) [32])) ∧ s6 = .int .i64 k ∧ Below w.heap.size w wr) (fun _ s6 _ => n' - (intOf s6).toNat)
  case atStart => exact ⟨0, Nat.zero_le _, by rw [List.take_zero, Lib.join_nil]; rfl, rfl, Below.refl _ _⟩
  case round =>
   obtain ⟨k, hk, rfl, rfl, hb⟩ := hrel; have i1 : (0 : Int) ≤ (k : Int) := (by omega); by_cases hlt : k < n'
   ·have i2 : (k : Int) < (n' : Int) := (by omega); have HV1 := uH (HV.out wr hb); have HPl := preT_len (s := 32) HT4.out (show k ≤ 20 by omega) (by omega); have HNx := uH (preT_next (L := TL) (s := 32) (k := k) (by rw [HTl.out]; exact hlt)); have HJl := joinTake_len (s := 32) HT4.out (show k ≤ 20 by omega) (by omega); have HTk := HTa.out k hlt; rw [HTk] at HNx; clear HTk; (go_wp2_with fail); refine HV1.out.mono ?_; rintro e w1 ⟨rfl, hb1⟩; have b1 := below_next hb hb1; clear hb1 HV1 hb
    go_upto_if 20 with fail
    go_cut [5] (fun c5 wx => ∃ W : World, W = wx ∧ Value.string (mkStr (preT TL 32 k)) = c5 ∧ Below w.heap.size w W)
    case first =>
     by_cases h0 : k = 0
     ·have hp : preT TL 32 k = [] := if_pos h0; have hj : Lib.join (TL.take k) [32] = [] := (by rw [h0, List.take_zero, Lib.join_nil]); have HPJ : Hid (Value.string (mkStr (preT TL 32 k)) = Value.string (mkStr (Lib.join (TL.take k) [32]))) := uH (by rw [hp, hj]); have z0 : ¬ (0 : Int) < (k : Int) := (by omega); have z1 : decide (0 < k) = false := decide_eq_false (by omega); clear hp hj h0; go_wp2
      go_meet
      exact ⟨_, rfl, HPJ.out, b1⟩
     ·have hp : preT TL 32 k = Lib.join (TL.take k) [32] ++ [32] := if_neg h0; have HPJ : Hid (Value.string (mkStr (preT TL 32 k)) = Value.string (mkStr (Lib.join (TL.take k) [32] ++ [32]))) := uH (by rw [hp]); have z1 : decide (0 < k) = true := decide_eq_true (by omega); have hadd : ∀ W', (Op.stringOp .add (mkStr (Lib.join (TL.take k) [32])) { data := #[32] }).run Tryz.prog W' = .ok (.string (mkStr (Lib.join (TL.take k) [32] ++ [32]))) W' := fun W' => run_add _ [32] (by simp; omega) W'; have z0 : (0 : Int) < (k : Int) := (by omega); clear hp h0; go_wp2
      go_meet
      exact ⟨_, rfl, HPJ.out, b1⟩
    case rest =>
     obtain ⟨W, rfl, rfl, hbW⟩ := hcut; have hkl : k < xs.length := (by rw [HL.out]; exact hlt); obtain ⟨b, off, rfl, hbB, c0, c1, c2, hI⟩ := (H.out.keep hbW).at_ hlt; obtain ⟨g1, g2, g3, g4⟩ := HBd.out _ (mrAt_mem hkl); have HI := uH (fun W2 (h : Below w.heap.size w W2) => ((H.out.keep h).2.2.2.2 _ (mrAt_mem hkl))); have HCell : Hid (∀ W2, Below w.heap.size w W2 → W2.cell? ⟨b, off + k * 3 + 2, none⟩ = some (.slice (mrAt xs k).A (mrAt xs k).n (mrAt xs k).c)) := uH (fun W2 h => by
      obtain ⟨b', off', e1, _, _, _, d2, _⟩ := (H.out.keep h).at_ hlt; injection e1 with e1; injection e1 with e1 e2; subst e1 e2; exact d2)
     clear hkl; generalize mrAt xs k = x at *; have hpl := hI.1; have HPn : Hid (x.put.length = x.n) := uH hpl; have HG4 := uH g4; have hn20' : x.n ≤ 20 := (by omega); have d1 := decN_len x.at_ (by omega); have d2 := decN_len x.cut (by omega); have HIa := uH (fun W => l6DecSmall x.at_ W (by omega)); have HIc := uH (fun W => l6DecSmall x.cut W (by omega)); obtain ⟨P, hP⟩ : ∃ P, P = preT TL 32 k := ⟨_, rfl⟩; rw [← hP] at HPl HNx ⊢; clear hP; obtain ⟨Q, hQ⟩ : ∃ Q, Q = P ++ Lib.decDigits x.at_ ++ [45] ++ Lib.decDigits x.cut ++ [43] := ⟨_, rfl⟩; have hql : Q.length ≤ 31000 := (by rw [hQ]; simp only [List.length_append, List.length_cons, List.length_nil]; omega); have HNx2 : Hid (Lib.join (TL.take (k + 1)) [32] = Q ++ Lib.join x.put [44]) := uH (by
      rw [HNx.out, hQ]; unfold mkTx Mr.dat; simp only [List.append_assoc])
     have hadd1 : ∀ W', (Op.stringOp .add (mkStr P) (mkStr (Lib.decDigits x.at_))).run Tryz.prog W' = .ok (.string (mkStr (P ++ Lib.decDigits x.at_))) W' := fun W' => run_add _ _ (by omega) W'; have hadd2 : ∀ W', (Op.stringOp .add (mkStr (P ++ Lib.decDigits x.at_)) { data := #[45] }).run Tryz.prog W' = .ok (.string (mkStr (P ++ Lib.decDigits x.at_ ++ [45]))) W' := fun W' => run_add _ [45] (by simp only [List.length_append, List.length_cons, List.length_nil]; omega) W'; have hadd3 : ∀ W', (Op.stringOp .add (mkStr (P ++ Lib.decDigits x.at_ ++ [45])) (mkStr (Lib.decDigits x.cut))).run Tryz.prog W' = .ok (.string (mkStr (P ++ Lib.decDigits x.at_ ++ [45] ++ Lib.decDigits x.cut))) W' := fun W' => run_add _ _ (by simp only [List.length_append, List.length_cons, List.length_nil]; omega) W'; have hadd4 : ∀ W', (Op.stringOp .add (mkStr (P ++ Lib.decDigits x.at_ ++ [45] ++ Lib.decDigits x.cut)) { data := #[43] }).run Tryz.prog W' = .ok (.string (mkStr Q)) W' := (fun W' => by rw [hQ]; exact run_add _ [43] (by simp only [List.length_append, List.length_cons, List.length_nil]; omega) W'); have HQ := uH hQ; clear hQ hI d1 d2 hpl g4 HPl HNx HJl; generalize mkStr (P ++ Lib.decDigits x.at_ ++ [45] ++ Lib.decDigits x.cut) = t4 at *; generalize mkStr (P ++ Lib.decDigits x.at_ ++ [45]) = t3 at *; generalize mkStr (P ++ Lib.decDigits x.at_) = t2 at *; generalize mkStr (Lib.decDigits x.at_) = t0 at *; generalize mkStr (Lib.decDigits x.cut) = t1 at *; generalize mkStr P = tP at *; (go_wp2_with fail); go_region_held3 (fun w' => w'.cell? ⟨b, off + k * 3, none⟩ = some (.int .i64 (x.at_ : Int)) ∧ w'.cell? ⟨b, off + k * 3 + 1, none⟩ = some (.int .i64 (x.cut : Int))) (first | exact ⟨by assumption, by assumption⟩ | go_keep)
      (first
       | (go_at_call_of 55 (Value.int .i64 (x.at_ : Int)); refine (HIa.out _).mono ?_; rintro e w3 ⟨rfl, hb3⟩; have p0 := kcell hb3 (show World.cell? (World.drew _) _ = _ from c0); have p1 := kcell hb3 (show World.cell? (World.drew _) _ = _ from c1))
       | (go_at_call_of 55 (Value.int .i64 (x.cut : Int)); refine (HIc.out _).mono ?_; rintro e w4 ⟨rfl, hb4⟩; have q0 := kcell hb4 p0; have q1 := kcell hb4 p1))
     have b4 := below_next (below_next hbW (below_next ((Below.refl _ _).drew) hb3)) hb4; clear hb3 hb4 p0 p1 q0 q1 c0 c1 c2 HIa HIc hadd1 hadd2 hadd3 hadd4 hbW b1; go_wp2; go_loopw [5, 7] (fun s5 s7 wv => ∃ j : Nat, j ≤ x.n ∧ s5 = .string (mkStr (Q ++ Lib.join (x.put.take j) [44])) ∧ s7 = .int .i64 j ∧ Below w.heap.size w wv) (fun _ s7 _ => x.n - (intOf s7).toNat)
     case atStart => exact ⟨0, Nat.zero_le _, by rw [List.take_zero, Lib.join_nil, List.append_nil], rfl, b4⟩
     case round =>
      obtain ⟨j, hj, rfl, rfl, hb5⟩ := hrel; have j1 : (0 : Int) ≤ (j : Int) := (by omega); have e2 := HCell.out _ hb5; by_cases hlj : j < x.n
      ·have j2 : (j : Int) < (x.n : Int) := (by omega); obtain ⟨bw, ow, eA, hbw, cw⟩ := (HI.out _ hb5).at_ hlj; have hjp : j < x.put.length := (by rw [HPn.out]; exact hlj); have HPx := uH (preT_next (L := x.put) (s := 44) hjp); have hwl := HG4.out _ (wdAt_mem hjp); have hpj := preT_len (s := 44) HG4.out (show j ≤ 20 by omega) (by omega); have hjj := joinTake_len (s := 44) HG4.out (show j ≤ 20 by omega) (by omega); have HE : Hid (Q ++ Lib.join (x.put.take (j + 1)) [44] = Q ++ preT x.put 44 j ++ wdAt x.put j) := uH (by rw [HPx.out, List.append_assoc]); rw [eA] at e2; clear HPx hjp; by_cases h0 : j = 0
       ·have HPJ : Hid (Q ++ Lib.join (x.put.take j) [44] = Q ++ preT x.put 44 j) := uH (by unfold preT; rw [if_pos h0, h0, List.take_zero, Lib.join_nil]); have z0 : ¬ (0 : Int) < (j : Int) := (by omega); have z1 : decide (0 < j) = false := decide_eq_false (by omega); rw [HPJ.out]; have hadd : ∀ W', (Op.stringOp .add (mkStr (Q ++ preT x.put 44 j)) (mkStr (wdAt x.put j))).run Tryz.prog W' = .ok (.string (mkStr (Q ++ preT x.put 44 j ++ wdAt x.put j))) W' := fun W' => run_add _ _ (by simp only [List.length_append]; omega) W'; clear h0 hwl hpj hjj; go_wp2; go_roundw
        case rel => exact ⟨j + 1, by omega, by rw [HE.out, List.append_assoc], by go_num, hb5⟩
        case measure => simp [intOf] <;> omega
       ·have HPJ : Hid (Q ++ Lib.join (x.put.take j) [44] ++ [44] = Q ++ preT x.put 44 j) := uH (by unfold preT; rw [if_neg h0, List.append_assoc]); have z0 : (0 : Int) < (j : Int) := (by omega); have z1 : decide (0 < j) = true := decide_eq_true (by omega); have hadd0 : ∀ W', (Op.stringOp .add (mkStr (Q ++ Lib.join (x.put.take j) [44])) { data := #[44] }).run Tryz.prog W' = .ok (.string (mkStr (Q ++ preT x.put 44 j))) W' := fun W' => by
         rw [← HPJ.out]; exact run_add _ [44] (by simp only [List.length_append, List.length_cons, List.length_nil]; omega) W'
        have hadd : ∀ W', (Op.stringOp .add (mkStr (Q ++ preT x.put 44 j)) (mkStr (wdAt x.put j))).run Tryz.prog W' = .ok (.string (mkStr (Q ++ preT x.put 44 j ++ wdAt x.put j))) W' := fun W' => run_add _ _ (by simp only [List.length_append]; omega) W'; clear h0 hwl hpj hjj; go_wp2; go_roundw
        case rel => exact ⟨j + 1, by omega, by rw [HE.out, List.append_assoc], by go_num, hb5⟩
        case measure => simp [intOf] <;> omega
      ·obtain rfl : j = x.n := (by omega); have HE : Hid (Q ++ Lib.join (x.put.take x.n) [44] = Lib.join (TL.take (k + 1)) [32]) := uH (by
        rw [HNx2.out, List.take_of_length_le (by rw [HPn.out]; exact Nat.le_refl _)])
       go_wp2; go_roundw
       case rel => exact ⟨k + 1, by omega, by rw [← HE.out], by go_num, hb5⟩
       case measure => simp [intOf] <;> omega
   ·obtain rfl : k = n' := (by omega); have HF : Hid (Lib.join (TL.take k) [32] = Lib.join TL [32]) := uH (by rw [List.take_of_length_le (by rw [HTl.out]; exact Nat.le_refl _)]); have z0 : ¬ (k : Int) < (k : Int) := (by omega); go_wp2; go_ret; exact ⟨by rw [HR.out, ← HF.out]; rfl, hb⟩
end Go.Proofs.YtbkhnljaajajiaaGreatDoor
namespace Go.Proofs.YtbkhnljaajajiaaGreatDoor
set_option maxRecDepth 100000
set_option linter.unusedSimpArgs false
set_option linter.unusedVariables false
structure Stroke where
 dir : Int
 size : Int
def okS (s : Stroke) : Bool := decide (0 ≤ s.dir ∧ s.dir ≤ 7) && decide (1 ≤ s.size ∧ s.size ≤ 3)
def leadB (a b : Stroke) : Bool := decide ((b.dir - a.dir) % 4 ≠ 0)
def linkB : List Stroke → Bool
 | [] => true
 | [a] => okS a
 | a :: b :: r => okS a && leadB a b && linkB (b :: r)
def outB (l : List Stroke) : Bool := decide (l.length ≤ 8) && linkB l
def strokeAt (l : List Stroke) (i : Nat) : Stroke := l.getD i ⟨0, 0⟩
def goodS (l : List Stroke) (i : Nat) : Prop := okS (strokeAt l i) = true ∧ (0 < i → leadB (strokeAt l (i - 1)) (strokeAt l i) = true)
theorem okS_iff {s : Stroke} : okS s = true ↔ 0 ≤ s.dir ∧ s.dir ≤ 7 ∧ 1 ≤ s.size ∧ s.size ≤ 3 := by unfold okS; simp; omega
theorem okS_not {s : Stroke} : okS s = false ↔ ¬ (0 ≤ s.dir ∧ s.dir ≤ 7 ∧ 1 ≤ s.size ∧ s.size ≤ 3) := by rw [← okS_iff]; simp
theorem linkB_cons {a : Stroke} {r : List Stroke} : linkB (a :: r) = true ↔ okS a = true ∧ (0 < r.length → leadB a (strokeAt r 0) = true) ∧ linkB r = true := by
 cases r with
 | nil => simp [linkB]
 | cons b r => simp [linkB, strokeAt, and_assoc]
theorem strokeAt_cons (a : Stroke) (r : List Stroke) (i : Nat) : strokeAt (a :: r) (i + 1) = strokeAt r i := rfl
theorem strokeAt_zero (a : Stroke) (r : List Stroke) : strokeAt (a :: r) 0 = a := rfl
theorem linkB_iff : ∀ {l : List Stroke}, linkB l = true ↔ ∀ i, i < l.length → goodS l i
 | [] => by simp [linkB]
 | a :: r => by
  rw [linkB_cons, linkB_iff]; constructor
  ·rintro ⟨h1, h2, h3⟩ i hi; cases i with
   | zero => exact ⟨by rw [strokeAt_zero]; exact h1, fun h => absurd h (by omega)⟩
   | succ i =>
    have h4 := h3 i (by simpa using hi); refine ⟨by rw [strokeAt_cons]; exact h4.1, fun _ => ?_⟩; cases i with
    | zero => rw [Nat.add_sub_cancel, strokeAt_zero, strokeAt_cons]; exact h2 (by simpa using hi)
    | succ j => rw [Nat.add_sub_cancel, strokeAt_cons, strokeAt_cons]; simpa using h4.2 (by omega)
  ·intro h; refine ⟨by have := (h 0 (by simp)).1; rwa [strokeAt_zero] at this, fun h0 => ?_, fun i hi => ?_⟩
   ·have := (h 1 (by simpa using h0)).2 (by omega); simpa [strokeAt_cons, strokeAt_zero] using this
   ·have := h (i + 1) (by simpa using hi); refine ⟨by have := this.1; rwa [strokeAt_cons] at this, fun hi0 => ?_⟩; have h2 := this.2 (by omega); obtain ⟨j, rfl⟩ : ∃ j, i = j + 1 := ⟨i - 1, by omega⟩; rw [strokeAt_cons] at h2; simpa [strokeAt_cons] using h2
theorem outB_iff {l : List Stroke} : outB l = true ↔ l.length ≤ 8 ∧ ∀ i, i < l.length → goodS l i := by
 unfold outB; rw [Bool.and_eq_true, decide_eq_true_iff, linkB_iff]
theorem outB_no {l : List Stroke} {i : Nat} (hi : i < l.length) (h : ¬ goodS l i) : outB l = false := by
 rw [Bool.eq_false_iff]; intro h2; exact h ((outB_iff.1 h2).2 i hi)
theorem outB_long {l : List Stroke} (h : 8 < l.length) : outB l = false := by
 rw [Bool.eq_false_iff]; intro h2; have := (outB_iff.1 h2).1; omega
theorem linkB_ok {l : List Stroke} (h : linkB l = true) {s : Stroke} (hs : s ∈ l) : okS s = true := by
 obtain ⟨i, hi, rfl⟩ := List.getElem_of_mem hs; have := (linkB_iff.1 h i hi).1; unfold strokeAt at this
 rwa [List.getD_eq_getElem?_getD, List.getElem?_eq_getElem hi] at this
theorem outB_ok {l : List Stroke} (h : outB l = true) {s : Stroke} (hs : s ∈ l) : okS s = true := linkB_ok (by unfold outB at h; rw [Bool.and_eq_true] at h; exact h.2) hs
theorem outB_link {l : List Stroke} (h : outB l = true) : linkB l = true := by unfold outB at h; rw [Bool.and_eq_true] at h; exact h.2
theorem outB_len {l : List Stroke} (h : outB l = true) : l.length ≤ 8 := (outB_iff.1 h).1
theorem linkB_append {a b : List Stroke} (h : linkB (a ++ b) = true) : linkB a = true ∧ linkB b = true := by
 induction a with
 | nil => exact ⟨rfl, h⟩
 | cons x a ih =>
  rw [List.cons_append, linkB_cons] at h; have := ih h.2.2; refine ⟨linkB_cons.2 ⟨h.1, fun h0 => ?_, this.1⟩, this.2⟩; have h3 := h.2.1 (by simp; omega); cases a with
  | nil => simp at h0
  | cons y a => simpa [strokeAt] using h3
def sizeL (z : Int) : UInt8 := if z = 1 then 115 else if z = 2 then 109 else 108
def sText (s : Stroke) : List UInt8 := [UInt8.ofNat (48 + s.dir).toNat, sizeL s.size]
theorem sText_len (s : Stroke) : (sText s).length = 2 := rfl
def textS (l : List Stroke) : List UInt8 := l.flatMap sText
def outText (l : List Stroke) : List UInt8 := if outB l = true then textS l else []
theorem outText_yes {l : List Stroke} (h : outB l = true) : outText l = textS l := if_pos h
theorem outText_no {l : List Stroke} (h : outB l = false) : outText l = [] := if_neg (by rw [h]; simp)
theorem textS_len : ∀ l : List Stroke, (textS l).length = 2 * l.length
 | [] => rfl
 | s :: l => by have := textS_len l; unfold textS at this ⊢; rw [List.flatMap_cons, List.length_append, this, sText_len, List.length_cons]; omega
def sizeN (c : UInt8) : Int := if c = 115 then 1 else if c = 109 then 2 else if c = 108 then 3 else 0
def pairsS : List UInt8 → List Stroke
 | a :: b :: r => ⟨(a.toNat : Int) - 48, sizeN b⟩ :: pairsS r
 | _ => []
theorem pairsS_len : ∀ l : List UInt8, (pairsS l).length = l.length / 2
 | [] => rfl
 | [_] => by simp [pairsS]
 | a :: b :: r => by rw [pairsS, List.length_cons, pairsS_len r, List.length_cons, List.length_cons]; omega
def fromS (l : List UInt8) : Option (List Stroke) := if l.length % 2 = 0 ∧ outB (pairsS l) = true then some (pairsS l) else none
theorem fromS_yes {l : List UInt8} (h : l.length % 2 = 0) (h2 : outB (pairsS l) = true) : fromS l = some (pairsS l) := if_pos ⟨h, h2⟩
theorem fromS_no {l : List UInt8} (h : l.length % 2 = 1 ∨ outB (pairsS l) = false) : fromS l = none := if_neg (by rintro ⟨h1, h2⟩; rcases h with h | h; (omega); (rw [h2] at h; cases h))
end Go.Proofs.YtbkhnljaajajiaaGreatDoor
namespace Go.Proofs.YtbkhnljaajajiaaGreatDoor
open Go.ChangeShapes Go.WideShapes Go.ChangeAt Go.RowKit Go.Joins
set_option maxRecDepth 100000
set_option linter.unusedSimpArgs false
set_option linter.unusedVariables false
def Stroke.good (s : Stroke) : Prop := (Lit.int .i64 s.dir).wf = true ∧ (Lit.int .i64 s.size).wf = true
def stC (s : Stroke) : List Value := [.int .i64 s.dir, .int .i64 s.size]
theorem stC_len (s : Stroke) : (stC s).length = 2 := rfl
def stVal (s : Stroke) : Value := .agg #[.int .i64 s.dir, .int .i64 s.size]
def StrokesIn (w : World) (B : Nat) (A : Option Addr) (n c : Nat) (ss : List Stroke) : Prop :=
 ss.length = n ∧ n ≤ c ∧ c ≤ maxLen ∧ Row w B A n 2 (ss.flatMap stC) ∧ ∀ s ∈ ss, s.good
structure Wr where
 A : Option Addr
 n : Nat
 c : Nat
 ss : List Stroke
 pos : Int
def wrC (x : Wr) : List Value := [.slice x.A x.n x.c, .int .i64 x.pos]
theorem wrC_len (x : Wr) : (wrC x).length = 2 := rfl
def WrIn (w : World) (B : Nat) (x : Wr) : Prop := StrokesIn w B x.A x.n x.c x.ss ∧ (Lit.int .i64 x.pos).wf = true
def WrsIn (w : World) (B : Nat) (A : Option Addr) (n c : Nat) (xs : List Wr) : Prop :=
 xs.length = n ∧ n ≤ c ∧ c ≤ maxLen ∧ Row w B A n 2 (xs.flatMap wrC) ∧ ∀ x ∈ xs, WrIn w B x
theorem StrokesIn.below {w w' : World} {B n c : Nat} {A : Option Addr} {ss : List Stroke} (h : StrokesIn w B A n c ss) (hb : Below B w w') : StrokesIn w' B A n c ss :=
 ⟨h.1, h.2.1, h.2.2.1, h.2.2.2.1.below hb, h.2.2.2.2⟩
theorem StrokesIn.more {w : World} {B B' n c : Nat} {A : Option Addr} {ss : List Stroke} (h : StrokesIn w B A n c ss) (hb : B ≤ B') : StrokesIn w B' A n c ss :=
 ⟨h.1, h.2.1, h.2.2.1, h.2.2.2.1.more hb, h.2.2.2.2⟩
theorem StrokesIn.keep {w w' : World} {n c : Nat} {A : Option Addr} {ss : List Stroke} (h : StrokesIn w w.heap.size A n c ss) (hb : Below w.heap.size w w') : StrokesIn w' w'.heap.size A n c ss := (h.below hb).more hb.size
theorem strokeAt_some {ss : List Stroke} {k : Nat} (h : k < ss.length) : ss[k]? = some (strokeAt ss k) := by
 unfold strokeAt; simp [List.getD, List.getElem?_eq_getElem h]
theorem strokeAt_mem {ss : List Stroke} {k : Nat} (h : k < ss.length) : strokeAt ss k ∈ ss := List.mem_of_getElem? (strokeAt_some h)
theorem StrokesIn.at_ {w : World} {B n c k : Nat} {A : Option Addr} {ss : List Stroke} (h : StrokesIn w B A n c ss) (hk : k < n) :
  ∃ b off, A = some ⟨b, off, none⟩ ∧ b < B ∧ w.cell? ⟨b, off + k * 2, none⟩ = some (.int .i64 (strokeAt ss k).dir) ∧ w.cell? ⟨b, off + k * 2 + 1, none⟩ = some (.int .i64 (strokeAt ss k).size) ∧ (strokeAt ss k).good := by
 obtain ⟨h1, _, _, h4, h5⟩ := h; obtain ⟨b, off, eA, hbB, hc⟩ := h4.2 (by omega); have hs := strokeAt_some (ss := ss) (k := k) (by omega); have hm := strokeAt_mem (ss := ss) (k := k) (by omega); refine ⟨b, off, eA, hbB, ?_, ?_, h5 _ hm⟩
 ·have := hc (k * 2 + 0) _ (flat_at stC_len ss k _ 0 (.int .i64 (strokeAt ss k).dir) hs rfl); simpa using this
 ·have := hc (k * 2 + 1) _ (flat_at stC_len ss k _ 1 (.int .i64 (strokeAt ss k).size) hs rfl)
  rwa [← Nat.add_assoc] at this
def WrsIn.wr0 : Wr := ⟨none, 0, 0, [], 0⟩
def wrAt (xs : List Wr) (k : Nat) : Wr := xs.getD k WrsIn.wr0
theorem wrAt_some {xs : List Wr} {k : Nat} (h : k < xs.length) : xs[k]? = some (wrAt xs k) := by
 unfold wrAt; simp [List.getD, List.getElem?_eq_getElem h]
theorem wrAt_mem {xs : List Wr} {k : Nat} (h : k < xs.length) : wrAt xs k ∈ xs := List.mem_of_getElem? (wrAt_some h)
theorem WrIn.below {w w' : World} {B : Nat} {x : Wr} (h : WrIn w B x) (hb : Below B w w') : WrIn w' B x := ⟨h.1.below hb, h.2⟩
theorem WrIn.more {w : World} {B B' : Nat} {x : Wr} (h : WrIn w B x) (hb : B ≤ B') : WrIn w B' x := ⟨h.1.more hb, h.2⟩
theorem WrIn.keep {w w' : World} {x : Wr} (h : WrIn w w.heap.size x) (hb : Below w.heap.size w w') : WrIn w' w'.heap.size x := (h.below hb).more hb.size
theorem WrsIn.below {w w' : World} {B n c : Nat} {A : Option Addr} {xs : List Wr} (h : WrsIn w B A n c xs) (hb : Below B w w') : WrsIn w' B A n c xs :=
 ⟨h.1, h.2.1, h.2.2.1, h.2.2.2.1.below hb, fun x hx => (h.2.2.2.2 x hx).below hb⟩
theorem WrsIn.more {w : World} {B B' n c : Nat} {A : Option Addr} {xs : List Wr} (h : WrsIn w B A n c xs) (hb : B ≤ B') : WrsIn w B' A n c xs :=
 ⟨h.1, h.2.1, h.2.2.1, h.2.2.2.1.more hb, fun x hx => (h.2.2.2.2 x hx).more hb⟩
theorem WrsIn.keep {w w' : World} {n c : Nat} {A : Option Addr} {xs : List Wr} (h : WrsIn w w.heap.size A n c xs) (hb : Below w.heap.size w w') : WrsIn w' w'.heap.size A n c xs := (h.below hb).more hb.size
theorem WrsIn.at_ {w : World} {B n c k : Nat} {A : Option Addr} {xs : List Wr} (h : WrsIn w B A n c xs) (hk : k < n) :
  ∃ b off, A = some ⟨b, off, none⟩ ∧ b < B ∧ w.cell? ⟨b, off + k * 2, none⟩ = some (.slice (wrAt xs k).A (wrAt xs k).n (wrAt xs k).c) ∧ w.cell? ⟨b, off + k * 2 + 1, none⟩ = some (.int .i64 (wrAt xs k).pos) ∧ WrIn w B (wrAt xs k) := by
 obtain ⟨h1, _, _, h4, h5⟩ := h; obtain ⟨b, off, eA, hbB, hc⟩ := h4.2 (by omega); have hs := wrAt_some (xs := xs) (k := k) (by omega); have hm := wrAt_mem (xs := xs) (k := k) (by omega); refine ⟨b, off, eA, hbB, ?_, ?_, h5 _ hm⟩
 ·have := hc (k * 2 + 0) _ (flat_at wrC_len xs k _ 0 (.slice (wrAt xs k).A (wrAt xs k).n (wrAt xs k).c) hs rfl); simpa using this
 ·have := hc (k * 2 + 1) _ (flat_at wrC_len xs k _ 1 (.int .i64 (wrAt xs k).pos) hs rfl)
  rwa [← Nat.add_assoc] at this
def StrOwn (w : World) (B : Nat) (v : Value) (ss : List Stroke) : Prop := w.ownsRow B 63 2 v ss.length (ss.flatMap stC)
end Go.Proofs.YtbkhnljaajajiaaGreatDoor
namespace Go.Proofs.YtbkhnljaajajiaaGreatDoor
open Go.ChangeShapes Go.WideShapes Go.ChangeAt Go.RowKit
set_option maxRecDepth 100000
set_option linter.unusedSimpArgs false
set_option linter.unusedVariables false
theorem specStrokeValid (d z : Int) (w : World) : Calls Tryz.prog 156 #[.agg #[.int .i64 d, .int .i64 z]] w fun e w' => e = .returned (.bool (okS ⟨d, z⟩)) ∧ Below w.heap.size w w' := by
 by_cases hd : 0 ≤ d ∧ d ≤ 7
 ·have hr : okS ⟨d, z⟩ = decide (1 ≤ z ∧ z ≤ 3) := (by unfold okS; rw [decide_eq_true hd]; rfl); have HR := uH hr; clear hr; obtain ⟨hd1, hd2⟩ := hd; go_enter Tryz.func156, Tryz.ntmps156
  go_wp2_with (go_at_call 134; refine (l6In_any _ _ _ _).mono ?_; rintro e w' ⟨rfl, rfl⟩)
  go_returns; exact ⟨ret_bool (by rw [HR.out, Bool.decide_and]), by go_grown⟩
 ·have hr : okS ⟨d, z⟩ = false := (by unfold okS; rw [decide_eq_false hd]; rfl); have HR := uH hr; clear hr; have hdd : decide (0 ≤ d ∧ d ≤ 7) = false := decide_eq_false hd; go_enter Tryz.func156, Tryz.ntmps156
  go_wp2_with (go_at_call 134; refine (l6In_any _ _ _ _).mono ?_; rintro e w' ⟨rfl, rfl⟩)
  go_returns; exact ⟨ret_bool (by rw [HR.out]), by go_grown⟩
theorem implStrokeValid (d z : Int) (w : World) : Calls Tryz.prog 91 #[.agg #[.int .i64 d, .int .i64 z]] w fun e w' => e = .returned (.bool (okS ⟨d, z⟩)) ∧ Below w.heap.size w w' := by
 by_cases h : 0 ≤ d ∧ d ≤ 7 ∧ 1 ≤ z ∧ z ≤ 3
 ·have HR := uH ((okS_iff (s := ⟨d, z⟩)).2 h); obtain ⟨h1, h2, h3, h4⟩ := h; go_enter Tryz.func91, Tryz.ntmps91
  go_wp2; go_returns; exact ⟨ret_bool (by rw [HR.out]), by go_grown⟩
 ·have HR := uH ((okS_not (s := ⟨d, z⟩)).2 h); by_cases h1 : 0 ≤ d
  ·by_cases h2 : d ≤ 7
   ·by_cases h3 : 1 ≤ z
    ·have h4 : ¬ z ≤ 3 := (by omega); clear h; go_enter Tryz.func91, Tryz.ntmps91
     go_wp2; go_returns; exact ⟨ret_bool (by rw [HR.out]), by go_grown⟩
    ·clear h; go_enter Tryz.func91, Tryz.ntmps91
     go_wp2; go_returns; exact ⟨ret_bool (by rw [HR.out]), by go_grown⟩
   ·clear h; go_enter Tryz.func91, Tryz.ntmps91
    go_wp2; go_returns; exact ⟨ret_bool (by rw [HR.out]), by go_grown⟩
  ·clear h; go_enter Tryz.func91, Tryz.ntmps91
   go_wp2; go_returns; exact ⟨ret_bool (by rw [HR.out]), by go_grown⟩
def penN (s : Stroke) : Int := s.dir * 3 + s.size - 1
theorem penN_bd {s : Stroke} (h : okS s = true) : 0 ≤ penN s ∧ penN s ≤ 23 := by have := okS_iff.1 h; unfold penN; omega
theorem penN_dir {s : Stroke} (h : okS s = true) : penN s / 3 = s.dir := by have := okS_iff.1 h; unfold penN; omega
theorem penN_size {s : Stroke} (h : okS s = true) : penN s % 3 + 1 = s.size := by have := okS_iff.1 h; unfold penN; omega
theorem penOf (s : Stroke) (h : okS s = true) (w : World) : Calls Tryz.prog 92 #[.agg #[.int .i64 s.dir, .int .i64 s.size]] w fun e w' => e = .returned (.int .i64 (penN s)) ∧ Below w.heap.size w w' := by
 obtain ⟨h1, h2, h3, h4⟩ := okS_iff.1 h; have HR : Hid (penN s = s.dir * 3 + s.size - 1) := uH rfl; clear h; go_enter Tryz.func92, Tryz.ntmps92
 go_wp2; go_returns; exact ⟨ret_int (by rw [HR.out]), by go_grown⟩
theorem penDir (s : Stroke) (h : okS s = true) (w : World) : Calls Tryz.prog 158 #[.int .i64 (penN s)] w fun e w' => e = .returned (.int .i64 s.dir) ∧ w = w' := by
 obtain ⟨h1, h2⟩ := penN_bd h; have HR := uH (penN_dir h); clear h; generalize penN s = p at *; go_enter Tryz.func158, Tryz.ntmps158
 go_wp2; go_ret; exact ⟨ret_int HR.out, rfl⟩
theorem penSize (s : Stroke) (h : okS s = true) (w : World) : Calls Tryz.prog 159 #[.int .i64 (penN s)] w fun e w' => e = .returned (.int .i64 s.size) ∧ w = w' := by
 obtain ⟨h1, h2⟩ := penN_bd h; have HR := uH (penN_size h); clear h; generalize penN s = p at *; go_enter Tryz.func159, Tryz.ntmps159
 go_wp2; go_ret; exact ⟨ret_int HR.out, rfl⟩
theorem penText (s : Stroke) (h : okS s = true) (w : World) : Calls Tryz.prog 93 #[.int .i64 (penN s)] w fun e w' => e = .returned (.string (mkStr (sText s))) ∧ Below w.heap.size w w' := by
 obtain ⟨h1, h2, h3, h4⟩ := okS_iff.1 h; have HD := uH (fun w => penDir s h w); have HZ := uH (fun w => penSize s h w); have hu := u8_digit h1 (by omega); have hC := convNew w (sText s) #[.int .u8 (48 + s.dir), .int .u8 ((sizeL s.size).toNat : Int)] 2 rfl (fun j hj => by
  have hj2 : j < 2 := hj; rcases j with _ | _ | j
  ·simp only [sText, List.getElem_cons_zero, hu]; rfl
  ·rfl
  ·omega)
 clear hu h; have hz : s.size = 1 ∨ s.size = 2 ∨ s.size = 3 := (by omega); generalize penN s = p at *; generalize sText s = t at *; obtain ⟨d, z⟩ := s; simp only at h1 h2 h3 h4 hz hC HD HZ; rcases hz with rfl | rfl | rfl
 all_goals (
  first | rw [show ((sizeL 1).toNat : Int) = 115 from rfl] at hC | rw [show ((sizeL 2).toNat : Int) = 109 from rfl] at hC | rw [show ((sizeL 3).toNat : Int) = 108 from rfl] at hC
  go_enter Tryz.func93, Tryz.ntmps93
  (go_wp2_with fail); refine (HD.out _).mono ?_; rintro e w1 ⟨rfl, rfl⟩; (go_wp2_with fail); refine (HZ.out _).mono ?_; rintro e w1 ⟨rfl, rfl⟩; go_wp2; first | rw [show (((⟨#[115, 109, 108]⟩ : ByteArray)[0]'(by decide)).toNat : Int) = 115 from rfl] | rw [show (((⟨#[115, 109, 108]⟩ : ByteArray)[1]'(by decide)).toNat : Int) = 109 from rfl] | rw [show (((⟨#[115, 109, 108]⟩ : ByteArray)[2]'(by decide)).toNat : Int) = 108 from rfl]
  rw [hC]; simp only [Result.andThen]; rw [Oper.upon_value]; go_wp2; go_returns; exact ⟨rfl, by go_grown⟩)
theorem specStrokeText (s : Stroke) (w : World) : Calls Tryz.prog 268 #[.agg #[.int .i64 s.dir, .int .i64 s.size]] w fun e w' => e = .returned (.string (mkStr (if okS s = true then sText s else []))) ∧ Below w.heap.size w w' := by
 have HV := uH (fun w => specStrokeValid s.dir s.size w); have hal : Below w.heap.size w (w.alloc (.cells #[.int .i64 s.dir, .int .i64 s.size] 63)) := (Below.refl _ _).alloc (Nat.le_refl _) _; have p0 := newcell w #[.int .i64 s.dir, .int .i64 s.size] 63 0 _ rfl; have p1 := newcell w #[.int .i64 s.dir, .int .i64 s.size] 63 1 _ rfl; cases ho : okS s with
 | false =>
  have HO : Hid (okS ⟨s.dir, s.size⟩ = false) := uH ho; clear ho; go_enter Tryz.func268, Tryz.ntmps268
  (go_wp2_with fail); refine (HV.out _).mono ?_; rw [HO.out]; rintro e w1 ⟨rfl, hb1⟩; have b1 := below_next hal hb1; go_wp2; go_returns; exact ⟨rfl, b1⟩
 | true =>
  have HO : Hid (okS ⟨s.dir, s.size⟩ = true) := uH ho; obtain ⟨h1, h2, h3, h4⟩ := okS_iff.1 ho; have HD := uH (fun w => l6DecDigit s.dir w h1 (by omega)); have hA : ∀ W, (Op.stringOp .add (mkStr [UInt8.ofNat (48 + s.dir).toNat]) (mkStr [sizeL s.size])).run Tryz.prog W = .ok (.string (mkStr (sText s))) W := fun W => run_add _ _ (by simp) W; have hz : s.size = 1 ∨ s.size = 2 ∨ s.size = 3 := (by omega); clear ho; generalize sText s = t at *; obtain ⟨d, z⟩ := s; simp only at h1 h2 h3 h4 hz HD hA HO HV p0 p1 hal; generalize mkStr [UInt8.ofNat (48 + d).toNat] = u at *; have x1 : (⟨#[115, 109, 108]⟩ : ByteArray).extract 0 1 = mkStr [sizeL 1] := rfl; have x2 : (⟨#[115, 109, 108]⟩ : ByteArray).extract 1 2 = mkStr [sizeL 2] := rfl; have x3 : (⟨#[115, 109, 108]⟩ : ByteArray).extract 2 3 = mkStr [sizeL 3] := rfl; rcases hz with rfl | rfl | rfl
  all_goals (
   go_enter Tryz.func268, Tryz.ntmps268
   (go_wp2_with fail); refine (HV.out _).mono ?_; rw [HO.out]; rintro e w1 ⟨rfl, hb1⟩; have b1 := below_next hal hb1; have q0 := kcell hb1 p0; have q1 := kcell hb1 p1; have r0 := qcell q0; have r1 := qcell q1; have e0 : IntKind.i64.wrap 0 = 0 := rfl; have e1 : IntKind.i64.wrap 1 = 1 := rfl; have e2 : IntKind.i64.wrap 2 = 2 := rfl; clear hb1; (go_wp2_with fail); refine region_qb (by kernel_rfl) (by kernel_rfl) ?_; repeat (first | go_big_quiet_step ((go_at_call 55; exact quietB (HD.out _))) | quiet_step ((go_at_call 55; exact quietB (HD.out _))))
   refine wpQuiet_nil ?_; intro w3 hb3; have b3 := below_next b1 hb3; clear r0 r1 q0 q1 hb3; go_wp2; go_returns; exact ⟨rfl, b3⟩)
end Go.Proofs.YtbkhnljaajajiaaGreatDoor
