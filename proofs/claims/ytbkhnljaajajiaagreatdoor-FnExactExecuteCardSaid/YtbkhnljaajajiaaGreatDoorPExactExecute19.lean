/-
  Contracts and plain laws that the proof of the law ExactExecute leans on. Conditions: as each says.
-/
import Derived.Test.YtbkhnljaajajiaaGreatDoorPExactExecute02
import Derived.Test.YtbkhnljaajajiaaGreatDoorPExactExecute17
import Derived.Test.YtbkhnljaajajiaaGreatDoorPExactExecute18
import Derived.Deep.DeepCutAuto
import Derived.Deep.Cut
import Derived.Deep.CutRange
import Derived.BigQuiet
set_option maxRecDepth 100000
set_option linter.unusedSimpArgs false
set_option linter.unusedVariables false
set_option linter.unnecessarySimpa false
namespace Go.Proofs.YtbkhnljaajajiaaGreatDoor
open Go.ChangeShapes Go.WideShapes Go.ChangeAt Go.RowKit
structure Hd where
 A1 : Option Addr
 n1 : Nat
 c1 : Nat
 A2 : Option Addr
 n2 : Nat
 c2 : Nat
 A3 : Option Addr
 n3 : Nat
 c3 : Nat
 A4 : Option Addr
 n4 : Nat
 c4 : Nat
 sys : List Sg
 xs : List Br
 sp : List Wd
 ds : List Drawer
def Hd.st (h : Hd) : St := ⟨h.sys, h.xs.map Br.dat, h.sp, h.ds.map (·.ps)⟩
structure StIn (w : World) (h : Hd) : Prop where
 sg : SgsIn w w.heap.size h.A1 h.n1 h.c1 h.sys
 br : BrsIn w w.heap.size h.A2 h.n2 h.c2 h.xs
 wd : WdsIn w w.heap.size h.A3 h.n3 h.c3 h.sp
 dr : DrawersIn w w.heap.size h.A4 h.n4 h.c4 h.ds
theorem StIn.keep {w w' : World} {h : Hd} (H : StIn w h) (hb : Below w.heap.size w w') : StIn w' h := ⟨H.sg.keep hb, H.br.keep hb, H.wd.keep hb, H.dr.keep hb⟩
theorem word12 {l : Wd} (h : wordB l = true) : l.length ≤ 12 := (wordB_iff.1 h).1.2
theorem okBs_ok {xs : List Br} (h : brsB (xs.map Br.dat) = true) : OkBs xs := fun x hx => by
 have h1 := bfB_iff.1 (brsB_mem h x.dat (List.mem_map_of_mem hx)); have h2 := markB_len h1.1; have hm : (13 : Nat) ≤ maxLen := (by unfold maxLen; omega); have e1 : x.dat.mark = x.mark := rfl; rw [e1] at h2; exact ⟨by omega, fun l hl => by have := word12 (bwB_all h1.2 l hl); omega⟩
theorem padsSz_le {k : Nat} : ∀ ps : List Pad, (∀ p ∈ ps, p.case.size ≤ k) → padsSz ps ≤ (k + 1) * ps.length
 | [], _ => by simp [padsSz]
 | p :: r, h => by
  have h1 := h p (by simp); have h2 := padsSz_le r (fun q hq => h q (by simp [hq])); rw [padsSz, List.length_cons, Nat.mul_add]; omega
theorem cabSz_le {k : Nat} : ∀ ds : List Drawer, (∀ d ∈ ds, padsSz d.ps ≤ k) → cabSz ds ≤ (k + 1) * ds.length
 | [], _ => by simp [cabSz]
 | d :: r, h => by
  have h1 := h d (by simp); have h2 := cabSz_le r (fun q hq => h q (by simp [hq])); rw [cabSz, List.length_cons, Nat.mul_add]; omega
theorem cab_case {css : List (List Pad)} (h : cabOK css) {ps : List Pad} (hp : ps ∈ css) {p : Pad} (hm : p ∈ ps) : p.case.size ≤ 12 := by
 have hf : p ∈ css.flatten := List.mem_flatten.2 ⟨ps, hp, hm⟩; obtain ⟨i, hi, he⟩ := List.mem_iff_getElem.1 hf; have h1 := (h.2.2 i hi).1; have e : padAt css.flatten i = p := (by rw [← he]; unfold padAt; rw [List.getD_eq_getElem?_getD, List.getElem?_eq_getElem hi]; rfl); rw [e] at h1; unfold okP padB at h1; rw [Bool.and_eq_true] at h1; have := word12 h1.2; simpa using this
theorem cabSz_ok {ds : List Drawer} (h : cabOK (ds.map (·.ps))) : cabSz ds ≤ 1000 := by
 have h1 := cabSz_le (k := 52) ds (fun d hd => by
  have hm : d.ps ∈ ds.map (·.ps) := List.mem_map_of_mem hd; have h2 := padsSz_le (k := 12) d.ps (fun p hp => cab_case h hm hp); have h3 := h.2.1 _ hm; have := h3.2; omega)
 have h2 := h.1; rw [List.length_map] at h2; have := Nat.mul_le_mul_left 53 h2; omega
structure StSz (h : Hd) : Prop where
 n1 : h.sys.length ≤ 21
 n2 : h.xs.length ≤ 8
 ob : OkBs h.xs
 m2 : ∀ x ∈ h.xs, x.words.length ≤ 3
 n3 : h.sp.length ≤ 20
 w3 : ∀ l ∈ h.sp, l.length ≤ 12
 sz : cabSz h.ds ≤ 1000
theorem stSz {h : Hd} (ok : h.st.ok) : StSz h := by
 obtain ⟨h1, h2, h3, h4⟩ := ok; have e2 := (brsB_iff.1 h2).1; rw [show h.st.brs = h.xs.map Br.dat from rfl, List.length_map] at e2; exact ⟨(sysB_iff.1 h1).1, e2, okBs_ok h2, fun x hx => (bwB_len (bfB_iff.1 (brsB_mem h2 x.dat (List.mem_map_of_mem hx))).2).2, (spB_iff.1 h3).2, fun l hl => word12 ((spB_iff.1 h3).1 l hl), cabSz_ok h4⟩
theorem cost_le {h : Hd} (ok : h.st.ok) : costOf h.st.brs h.st.sp ≤ 240 := by
 have h1 := costOf_le (valid_one ok.2.1) h.st.sp (stSz ok).w3; have := (stSz ok).n3; have e : h.st.sp = h.sp := rfl; rw [e] at h1 ⊢; omega
theorem least_ok {h : Hd} (ok : h.st.ok) : leastI h.st.brs h.st.sp = (costOf h.st.brs h.st.sp : Int) := by
 unfold leastI; rw [if_pos]; rw [ok.2.1, ok.2.2.1]; rfl
end Go.Proofs.YtbkhnljaajajiaaGreatDoor
namespace Go.Proofs.YtbkhnljaajajiaaGreatDoor
open Go.ChangeShapes Go.WideShapes Go.ChangeAt Go.RowKit
theorem goEq {a b : List Wd} {i k : Nat} {cur : Option Mk} (hi : i < a.length) (hk : k < b.length) (he : wdAt a i = wdAt b k) : mkGo (a.drop i) (b.drop k) i cur = cur.toList ++ mkGo (a.drop (i + 1)) (b.drop (k + 1)) (i + 1) none := by
 rw [drop_wd hi, drop_wd hk, he, mkGo_same]
theorem goCut {a b : List Wd} {i k : Nat} {cur : Option Mk} (hi : i < a.length) (hne : k < b.length → wdAt a i ≠ wdAt b k) (hd : dst (a.drop (i + 1)) (b.drop k) < dst (a.drop i) (b.drop k)) :
  mkGo (a.drop i) (b.drop k) i cur = mkGo (a.drop (i + 1)) (b.drop k) (i + 1) (some ⟨(curOf i cur).at_, (curOf i cur).cut + 1, (curOf i cur).put⟩) := by
 rw [drop_wd hi] at hd ⊢; refine mkGo_cut (fun y r h => ?_) hd; by_cases hk : k < b.length
 ·rw [drop_wd hk] at h; injection h with h _; rw [← h]; exact hne hk
 ·rw [List.drop_of_length_le (by omega)] at h; cases h
theorem goPut {a b : List Wd} {i k : Nat} {cur : Option Mk} (hk : k < b.length) (h : i < a.length → wdAt a i ≠ wdAt b k ∧ ¬ dst (a.drop (i + 1)) (b.drop k) < dst (a.drop i) (b.drop k)) :
  mkGo (a.drop i) (b.drop k) i cur = mkGo (a.drop i) (b.drop (k + 1)) i (some ⟨(curOf i cur).at_, (curOf i cur).cut, (curOf i cur).put ++ [wdAt b k]⟩) := by
 rw [drop_wd hk]; refine mkGo_put (fun x r e => ?_); by_cases hi : i < a.length
 ·have h1 := h hi; rw [drop_wd hi] at e h1; rw [drop_wd hk] at h1; injection e with e1 e2; rw [← e1, ← e2]; exact h1
 ·rw [List.drop_of_length_le (by omega)] at e; cases e
theorem goEnd {a b : List Wd} {i k : Nat} {cur : Option Mk} (hi : a.length ≤ i) (hk : b.length ≤ k) : mkGo (a.drop i) (b.drop k) i cur = cur.toList := by
 rw [List.drop_of_length_le hi, List.drop_of_length_le hk, mkGo_done]
theorem dst_edge {a b : List Wd} {i : Nat} (hi : i < a.length) : dst (a.drop (i + 1)) (b.drop b.length) < dst (a.drop i) (b.drop b.length) := by
 rw [dst_bj, dst_bj]; omega
theorem dst_test {a b : List Wd} {i k : Nat} (hi : i < a.length) : dst (a.drop (i + 1)) (b.drop k) < dst (a.drop i) (b.drop k) ↔ 1 + dst (a.drop (i + 1)) (b.drop k) = dst (a.drop i) (b.drop k) := by
 rw [drop_wd hi]; exact dst_step _ _ _
def CurOwn (w : World) (T0 : Nat) (v : Value) (D0 : List Mr) (x : Mr) : Prop :=
 x.put.length = x.n ∧ w.ownsRow T0 9 1 (.slice x.A x.n x.c) x.n (x.put.map strP) ∧ ∀ q, (Value.slice x.A x.n x.c).ownBlock = some q → v.ownBlock ≠ some q ∧ ∀ y ∈ D0, 0 < y.n → ∀ p, y.A = some p → p.block ≠ q
theorem CurOwn.keep {w w' : World} {T0 : Nat} {v : Value} {D0 : List Mr} {x : Mr} (h : CurOwn w T0 v D0 x) (hb : Below w.heap.size w w') : CurOwn w' T0 v D0 x := ⟨h.1, ownG_keep h.2.1 hb, h.2.2⟩
theorem CurOwn.far {w : World} {T0 gv j : Nat} {v u : Value} {D0 : List Mr} {x : Mr} (h : CurOwn w T0 v D0 x) (hv : v.ownBlock = some gv) : CurOwn (w.setCell ⟨gv, j, none⟩ u) T0 v D0 x :=
 ⟨h.1, ownG_congr h.2.1 (fun q hq => Below.heap_setCell w ⟨gv, j, none⟩ u q (fun e => (h.2.2 q hq).1 (by rw [hv]; congr 1; exact e.symm))), h.2.2⟩
theorem MrOwn.put {w w8 : World} {B gv : Nat} {v : Value} {D0 : List Mr} {x x' : Mr} {row : Option Nat} (h : MrOwn w B v (D0 ++ [x])) (hv : v.ownBlock = some gv) (hg : w.grownBy w8 row) (h1 : row ≠ some gv) (h2 : ∀ y ∈ D0, 0 < y.n → ∀ p, y.A = some p → row ≠ some p.block)
  (ha : x'.at_ = x.at_) (hc : x'.cut = x.cut) (hx' : MrIn w8 w8.heap.size x') (hn : 0 < x'.n → ∀ p, x'.A = some p → v.ownBlock ≠ some p.block ∧ p.block < w8.heap.size) :
  MrOwn (w8.setCell ⟨gv, D0.length * 3 + 2, none⟩ (.slice x'.A x'.n x'.c)) B v (D0 ++ [x']) := by
 have h0 : w8.ownsRow B 116 3 v (D0 ++ [x]).length ((D0 ++ [x]).flatMap mkC) := ownG_congr h.1 (fun q hq => hg.block q (ownG_lt h.1 hq) (fun e => h1 (by rw [← e, ← hv, hq]))); have h3 := own_set (j := D0.length * 3 + 2) (u := .slice x'.A x'.n x'.c) h0 hv; rw [flat_last D0 x x' 2 _ (by simp [mkC, ha, hc]) (by omega)] at h3; have hs := only_set1 w8 gv (D0.length * 3 + 2) (.slice x'.A x'.n x'.c); refine ⟨by rw [List.length_append] at h3 ⊢; exact h3, fun y hy => ?_⟩; rcases List.mem_append.1 hy with hy | hy
 ·have k1 := h.2 y (by simp [hy]); refine ⟨WdsIn.grown (WdsIn.grown k1.1 hg (fun hp p hpA => h2 y hy hp p hpA)) hs (fun hp p hpA => by rw [← hv]; exact (k1.2 hp p hpA).1), fun hp p hpA => ⟨(k1.2 hp p hpA).1, ?_⟩⟩; have := (k1.2 hp p hpA).2; have := hg.size; simp; omega
 ·rw [List.mem_singleton] at hy; subst hy; exact ⟨WdsIn.grown hx' hs (fun hp p hpA => by rw [← hv]; exact (hn hp p hpA).1), fun hp p hpA => ⟨(hn hp p hpA).1, by simpa using (hn hp p hpA).2⟩⟩
def TabC (w : World) (g : Nat) (rb : Nat → Nat) (a b : List Wd) : Prop :=
 ∀ i, i ≤ a.length → w.cell? ⟨g, i, none⟩ = some (.slice (some ⟨rb i, 0, none⟩) (b.length + 1) (b.length + 1)) ∧ ∀ j, j ≤ b.length → w.cell? ⟨rb i, j, none⟩ = some (.int .i64 ((dst (a.drop i) (b.drop j) : Nat) : Int))
theorem TabC.only {w w' : World} {g o : Nat} {rb : Nat → Nat} {a b : List Wd} (h : TabC w g rb a b) (hg : w.grownBy w' (some o)) (hog : o ≠ g) (hor : ∀ i, i ≤ a.length → o ≠ rb i) : TabC w' g rb a b :=
 fun i hi => ⟨gcell hg (h i hi).1 (fun e => hog (by injection e)), fun j hj => gcell hg ((h i hi).2 j hj) (fun e => hor i hi (by injection e))⟩
attribute [local go_sem ↓] appZ_eq
set_option maxHeartbeats 3200000 in
theorem specMarksMake (A : Option Addr) (n c : Nat) (a : List Wd) (A' : Option Addr) (n' c' : Nat) (b : List Wd) (w : World) (hW : ∀ l ∈ a, l.length ≤ maxLen) (hW' : ∀ l ∈ b, l.length ≤ maxLen) (h : WdsIn w w.heap.size A n c a) (h' : WdsIn w w.heap.size A' n' c' b) :
  Calls Tryz.prog 28 #[.slice A n c, .slice A' n' c'] w fun e w' => MkAns w' (makeO a b) e ∧ Below w.heap.size w w' := by
 have hal : Below w.heap.size w (w.alloc (.cells #[] 116)) := (Below.refl _ _).alloc (Nat.le_refl _) _; have HS := uH (specSpeechValid A n c a _ hW (h.keep hal)); have HS' := uH (specSpeechValid A' n' c' b _ hW' (h'.keep hal)); have HL := uH h.1; have HL' := uH h'.1; have H := uH h; have H' := uH h'; have HO0 := uH (MrOwn.made w); have HZ := uH (fun (W : World) (AA : Option Addr) => MrsIn.zero W W.heap.size AA); clear h h' hW hW'; cases hA : spB a with
 | false =>
  have HR : Hid (makeO a b = none) := uH (if_neg (by rw [hA]; simp)); rw [hA] at HS; clear hA; go_enter Tryz.func28, Tryz.ntmps28
  (go_wp2_with fail); refine HS.out.mono ?_; rintro e w1 ⟨rfl, rfl⟩; go_wp2; go_returns; exact ⟨.inl ⟨HR.out, _, _, rfl, HZ.out _ _⟩, hal⟩
 | true =>
 cases hB : spB b with
 | false =>
  have HR : Hid (makeO a b = none) := uH (if_neg (by rw [hB]; simp)); rw [hA] at HS; rw [hB] at HS'; clear hA hB; go_enter Tryz.func28, Tryz.ntmps28
  (go_wp2_with fail); refine HS.out.mono ?_; rintro e w1 ⟨rfl, rfl⟩; (go_wp2_with fail); refine HS'.out.mono ?_; rintro e w1 ⟨rfl, rfl⟩; go_wp2; go_returns; exact ⟨.inl ⟨HR.out, _, _, rfl, HZ.out _ _⟩, hal⟩
 | true =>
  obtain ⟨i0, hi, hz0, hz1, hz2⟩ := info_parts infoMk; obtain ⟨j0, hj, hy0, hy1, hy2⟩ := info_parts infoWd; have HR : Hid (makeO a b = some (mkAll a b)) := uH (if_pos (by rw [hA, hB]; rfl)); have h20 : n ≤ 20 := (by have := (spB_iff.1 hA).2; rw [HL.out] at this; exact this); have h20' : n' ≤ 20 := (by have := (spB_iff.1 hB).2; rw [HL'.out] at this; exact this); rw [hA] at HS; rw [hB] at HS'; have HT := uH (specSizes A n c a A' n' c' b _ h20 h20' (H.out.keep hal) (H'.out.keep hal)); clear hA hB; go_enter Tryz.func28, Tryz.ntmps28
  (go_wp2_with fail); refine HS.out.mono ?_; rintro e w1 ⟨rfl, rfl⟩; (go_wp2_with fail); refine HS'.out.mono ?_; rintro e w1 ⟨rfl, rfl⟩; (go_wp2_with fail); refine HT.out.mono ?_; rintro e w2 ⟨⟨v7, rfl, g, rb, rfl, hg1, hg2, hTc⟩, hb2⟩; simp only [World.size_alloc] at hg1; have b2 := below_next hal hb2; have HTC : Hid (TabC w2 g rb a b) := uH (fun i hi => ⟨(hTc i hi).1, (hTc i hi).2.2.2⟩); have HTb : Hid (w.heap.size ≠ g ∧ ∀ i, i ≤ a.length → w.heap.size ≠ rb i) := uH ⟨by omega, fun i hi => by have := (hTc i hi).2.1; omega⟩; have HO2 := uH (HO0.out.keep hb2); have HGo0 : Hid (mkAll a b = ([] : List Mr).map Mr.dat ++ mkGo (a.drop 0) (b.drop 0) 0 ((none : Option Mr).map Mr.dat)) := uH rfl; rw [HL.out]; clear hTc hb2 HT HS HS' HO0 hal hg2; go_wp2; go_loopw [6, 8, 9, 10] (fun s6 s8 s9 s10 wr => ∃ (i k : Nat) (D0 : List Mr) (o : Option Mr) (v : Value), i ≤ n ∧ k ≤ n' ∧ s6 = v ∧ s8 = .int .i64 i ∧ s9 = .int .i64 k ∧ s10 = .bool o.isSome ∧ Hid (mkAll a b = D0.map Mr.dat ++ mkGo (a.drop i) (b.drop k) i (o.map Mr.dat)) ∧ Hid (D0.length + o.toList.length ≤ i + k) ∧ Hid (MrOwn wr w.heap.size v (D0 ++ o.toList)) ∧ Hid (∀ x, o = some x → CurOwn wr w2.heap.size v D0 x ∧ x.at_ ≤ i ∧ x.cut ≤ i ∧ x.n ≤ k) ∧ Hid (∀ q, v.ownBlock = some q → q = w.heap.size ∨ w2.heap.size ≤ q) ∧ Hid (w2.grownBy wr (some w.heap.size))) (fun _ s8 s9 _ _ => (n - (intOf s8).toNat) + (n' - (intOf s9).toNat))
  case atStart => exact ⟨0, 0, [], none, _, Nat.zero_le _, Nat.zero_le _, rfl, rfl, rfl, rfl, HGo0, uH (by simp), HO2, uH (fun x hx => by cases hx), uH (fun q hq => .inl (by injection hq with hq; exact hq.symm)), uH (World.grownBy.refl _ _)⟩
  case round =>
   obtain ⟨i, k, D0, o, v, hin, hkn, rfl, rfl, rfl, rfl, HE, HX, HO, HC, HV, HG⟩ := hrel; have hb := uH (b2.grown HG.out b2.size (fun q hq => by injection hq with hq; omega)); have ii1 : (0 : Int) ≤ (i : Int) := (by omega); have kk1 : (0 : Int) ≤ (k : Int) := by omega
   go_upto_region 8 with fail
   go_cut [34] (fun c34 wx => wr = wx ∧ Value.bool (decide (i < n ∨ k < n')) = c34)
   case first =>
    by_cases hi : i < n
    ·have e0 : (i : Int) < (n : Int) := (by omega); go_wp2
     go_meet
     exact ⟨rfl, congrArg Value.bool (decide_eq_true (.inl hi))⟩
    ·have e0 : ¬ (i : Int) < (n : Int) := (by omega); by_cases hk : k < n'
     ·have e1 : (k : Int) < (n' : Int) := (by omega); go_wp2
      go_meet
      exact ⟨rfl, congrArg Value.bool (decide_eq_true (.inr hk))⟩
     ·have e1 : ¬ (k : Int) < (n' : Int) := (by omega); go_wp2
      go_meet
      exact ⟨rfl, congrArg Value.bool (decide_eq_false (fun h => h.elim hi hk))⟩
   case rest =>
    obtain ⟨rfl, rfl⟩ := hcut; by_cases hgo : i < n ∨ k < n'
    ·rw [decide_eq_true hgo]
     go_upto_region 9 with fail
     go_cut [55] (fun c55 wx => Below wr.heap.size wr wx ∧ Value.bool (decide (i < n ∧ k < n' ∧ wdAt a i = wdAt b k)) = c55)
     case first =>
      clear HE HX HO HC HV HTC HTb HGo0 HO2 HR HZ; by_cases hi : i < n
      ·have e0 : (i : Int) < (n : Int) := (by omega); by_cases hk : k < n'
       ·have e1 : (k : Int) < (n' : Int) := (by omega); obtain ⟨bA, oA, rfl, hbA, cA⟩ := (H.out.keep hb.out).at_ hi; obtain ⟨bB, oB, rfl, hbB, cB⟩ := (H'.out.keep hb.out).at_ hk; have hq1 := beq_str (mkStr (wdAt b k)) (wdAt a i) (wdAt b k) rfl; have HD : Hid (decide (i < n ∧ k < n' ∧ wdAt a i = wdAt b k) = decide (wdAt a i = wdAt b k)) := uH (decide_eq_decide.2 ⟨fun h => h.2.2, fun h => ⟨hi, hk, h⟩⟩); have qA := qcell cA; have qB := qcell cB; generalize mkStr (wdAt a i) = sA at *; generalize mkStr (wdAt b k) = sB at *; generalize decide (wdAt a i = wdAt b k) = q at *; refine region_qb (by kernel_rfl) (by kernel_rfl) ?_; repeat (first | go_big_quiet_step (fail) | quiet_step (fail))
        refine wpQuiet_nil ?_; intro w5 hb5; go_wp2
        go_meet
        exact ⟨hb5, congrArg Value.bool HD.out⟩
       ·have e1 : ¬ (k : Int) < (n' : Int) := (by omega); refine region_qb (by kernel_rfl) (by kernel_rfl) ?_; repeat (first | go_big_quiet_step (fail) | quiet_step (fail))
        refine wpQuiet_nil ?_; intro w5 hb5; go_wp2
        go_meet
        exact ⟨hb5, congrArg Value.bool (decide_eq_false (fun h => hk h.2.1))⟩
      ·have e0 : ¬ (i : Int) < (n : Int) := (by omega); refine region_qb (by kernel_rfl) (by kernel_rfl) ?_; repeat (first | go_big_quiet_step (fail) | quiet_step (fail))
       refine wpQuiet_nil ?_; intro w5 hb5; go_wp2
       go_meet
       exact ⟨hb5, congrArg Value.bool (decide_eq_false (fun h => hi h.1))⟩
     case rest =>
      obtain ⟨hb5, rfl⟩ := hcut; generalize wc = w5 at *; have HO5 := uH (HO.out.keep hb5); have HC5 : Hid (∀ x, o = some x → CurOwn w5 w2.heap.size u6 D0 x ∧ x.at_ ≤ i ∧ x.cut ≤ i ∧ x.n ≤ k) := uH (fun x hx => ⟨(HC.out x hx).1.keep hb5, (HC.out x hx).2⟩); have HG5 := uH (grown_below HG.out hb5); have HB5 := uH (below_next hb.out hb5); have z5 := HG5.out.size; clear HO HC HG hb hb5; by_cases he : i < n ∧ k < n' ∧ wdAt a i = wdAt b k
      ·rw [decide_eq_true he]; obtain ⟨hi3, hk3, he3⟩ := he; have HE2 : Hid (mkAll a b = (D0 ++ o.toList).map Mr.dat ++ mkGo (a.drop (i + 1)) (b.drop (k + 1)) (i + 1) ((none : Option Mr).map Mr.dat)) := uH (by
        rw [HE.out, goEq (by rw [HL.out]; exact hi3) (by rw [HL'.out]; exact hk3) he3, List.map_append, List.append_assoc]; congr 2
        cases o <;> rfl)
       have HX2 : Hid ((D0 ++ o.toList).length + (none : Option Mr).toList.length ≤ i + 1 + (k + 1)) := uH (by have := HX.out; rw [List.length_append]; simp; omega); have HO6 : Hid (MrOwn w5 w.heap.size u6 ((D0 ++ o.toList) ++ (none : Option Mr).toList)) := uH (by simpa using HO5.out); have i5 : (i : Int) + 1 ≤ 21 := (by omega); clear HE HX HO5 HC5 he3; go_wp2; go_roundw
       case rel => exact ⟨i + 1, k + 1, D0 ++ o.toList, none, u6, by omega, by omega, rfl, by go_num, by go_num, rfl, HE2, HX2, HO6, uH (fun x hx => by cases hx), HV, HG5⟩
       case measure => simp [intOf] <;> omega
      ·rw [decide_eq_false he]
       go_upto_if 61 with fail
       go_cut [6, 10] (fun v6 s10 wx => ∃ (W : World) (u : Value) (x : Mr), W = wx ∧ u = v6 ∧ Value.bool true = s10 ∧ Hid (x.dat = curOf i (o.map Mr.dat)) ∧ Hid (MrOwn wx w.heap.size u (D0 ++ [x])) ∧ Hid (CurOwn wx w2.heap.size u D0 x) ∧ x.at_ ≤ i ∧ x.cut ≤ i ∧ x.n ≤ k ∧ Hid (∀ q, u.ownBlock = some q → q = w.heap.size ∨ w2.heap.size ≤ q) ∧ Hid (w2.grownBy wx (some w.heap.size)))
       case first =>
        cases o with
        | some x =>
         obtain ⟨h1, h2, h3, h4⟩ := HC5.out x rfl; have H1 := uH h1; have HO6 : Hid (MrOwn w5 w.heap.size u6 (D0 ++ [x])) := HO5; clear h1 HE HX HO5 HC5; go_wp2
         go_meet
         exact ⟨w5, u6, x, rfl, rfl, rfl, uH rfl, HO6, H1, h2, h3, h4, HV, HG5⟩
        | none =>
         have HO6 : Hid (MrOwn w5 w.heap.size u6 D0) := uH (by simpa using HO5.out); have hlD : D0.length ≤ 40 := (by have := HX.out; simp at this; omega); have hal5 : Below w5.heap.size w5 ((w5.alloc (.cells #[] 9)).alloc (.cells #[.int .i64 (i : Int), .int .i64 0, .slice (some ⟨w5.heap.size, 0, none⟩) 0 0] 116)) := ((Below.refl _ _).alloc (Nat.le_refl _) _).alloc (by simp) _; have HOa := uH (HO6.out.keep hal5); have HRow : Hid (Row ((w5.alloc (.cells #[] 9)).alloc (.cells #[.int .i64 (i : Int), .int .i64 0, .slice (some ⟨w5.heap.size, 0, none⟩) 0 0] 116)) (w5.heap.size + 2) (some ⟨w5.heap.size + 1, 0, none⟩) 1 3 [.int .i64 (i : Int), .int .i64 0, .slice (some ⟨w5.heap.size, 0, none⟩) 0 0]) := uH (by
          have h0 := rowNewMk (w5.alloc (.cells #[] 9)) (.int .i64 (i : Int)) (.int .i64 0) (.slice (some ⟨w5.heap.size, 0, none⟩) 0 0) 116; simp only [World.size_alloc] at h0; exact h0)
         have HSo : Hid (((w5.alloc (.cells #[] 9)).alloc (.cells #[.int .i64 (i : Int), .int .i64 0, .slice (some ⟨w5.heap.size, 0, none⟩) 0 0] 116)).ownsRow w2.heap.size 9 1 (.slice (some ⟨w5.heap.size, 0, none⟩) 0 0) 0 []) := uH (World.ownsRow.alloc (ownG_mono (World.ownsRow_made w5 #[] 0 (Nat.le_refl _) (by simp) (by simp)) z5) _); have zb := HB5.out.size; clear HE HX HO5 HC5 he; go_wp2_with (at_builtin; refine wpList_append_any _ rfl (.tmp 62) (.tmp 66) _ rfl w.heap.size 116 i0 _ 3 40 Tryz.underlying41 hi hz0 hz1 hz2 rfl (by omega) u6 D0.length (D0.flatMap mkC) rfl HOa.out.1 (w5.heap.size + 2) (some ⟨w5.heap.size + 1, 0, none⟩) 1 1 [.int .i64 (i : Int), .int .i64 0, .slice (some ⟨w5.heap.size, 0, none⟩) 0 0] rfl HRow.out (by simp [Value.oneCell']) (by unfold maxLen; omega) (by omega) (by simp; omega) ?_; intro v7 w7 hown7 hg7 hat7)
         have HB7 : Hid (∀ q, u6.ownBlock = some q → q < w5.heap.size) := uH (fun q hq => ownG_lt HO6.out.1 hq); have HO7 : Hid (MrOwn w7 w.heap.size v7 (D0 ++ [⟨i, 0, some ⟨w5.heap.size, 0, none⟩, 0, 0, []⟩])) := uH (MrOwn.push (x := ⟨i, 0, some ⟨w5.heap.size, 0, none⟩, 0, 0, []⟩) HOa.out ⟨rfl, Nat.le_refl _, Nat.zero_le _, ⟨rfl, fun h => absurd h (by simp)⟩⟩ (fun h => absurd h (by simp)) hown7 hg7 hat7); have HV7 : Hid (∀ q, v7.ownBlock = some q → q = w.heap.size ∨ w2.heap.size ≤ q) := uH (fun q hq => by
          rcases hat7 with e | e
          ·exact HV.out q (e.symm.trans hq)
          ·rw [e] at hq; injection hq with hq; simp at hq; omega)
         have HC7 : Hid (CurOwn w7 w2.heap.size v7 D0 ⟨i, 0, some ⟨w5.heap.size, 0, none⟩, 0, 0, []⟩) := uH ⟨rfl, ownG_congr HSo.out (fun q hq => hg7.block q (ownG_lt HSo.out hq) (fun e => by injection hq with hq; have := HB7.out q e.symm; simp at hq; omega)), fun q hq => ⟨fun e => by
          injection hq with hq; simp at hq; rcases hat7 with e2 | e2
          ·have := HB7.out q (e2.symm.trans e); omega
          ·rw [e2] at e; injection e with e; simp at e; omega, fun y hy hp p hpA => by
          injection hq with hq; simp at hq; have := ((HO6.out.2 y hy).2 hp p hpA).2; omega⟩⟩
         have HG7 : Hid (w2.grownBy w7 (some w.heap.size)) := uH ((grown_below HG5.out hal5).andThen hg7 (fun q hq => (HV.out q hq).elim (fun e => .inr (by rw [e])) (fun e => .inl e))); clear hown7 hg7 hat7 HRow HSo HOa; go_wp2
         go_meet
         exact ⟨w7, v7, _, rfl, rfl, rfl, uH rfl, HO7, HC7, Nat.le_refl _, Nat.zero_le _, Nat.zero_le _, HV7, HG7⟩
       case rest =>
        obtain ⟨wz, u, x, rfl, rfl, rfl, HXd, HO7, HC7, hx1, hx2, hx3, HV7, HG7⟩ := hcut; have HEx : Hid (curOf i (o.map Mr.dat) = x.dat) := uH HXd.out.symm; have hlD : D0.length ≤ 40 := (by have := HX.out; omega); obtain ⟨gv, cv, rfl, hgv, hcv, hcm, hov⟩ := own_some HO7.out.1 (show 0 < (D0 ++ [x]).length by simp); have hlen : (D0 ++ [x]).length = D0.length + 1 := (by simp); rw [hlen] at HO7 HC7 HV7 hov hcv; rw [hlen]; clear hlen HXd HO5 HC5 HG5 HB5 HV; have HBz := uH (b2.grown HG7.out b2.size (fun q hq => by injection hq with hq; omega)); have HTz : Hid (TabC wz g rb a b) := uH (HTC.out.only HG7.out HTb.out.1 HTb.out.2)
        go_upto_region 17 with fail
        go_cut [93] (fun c93 wx => Below wz.heap.size wz wx ∧ Value.bool (decide (i < n ∧ dst (a.drop (i + 1)) (b.drop k) < dst (a.drop i) (b.drop k))) = c93)
        case first =>
         clear HE HX HO7 HC7 HV7 HTC HTb HGo0 HO2 HR HZ HG7; by_cases hi3 : i < n
         ·have e0 : (i : Int) < (n : Int) := (by omega); have i4 : (i : Int) + 1 < (n : Int) + 1 := (by omega); have i5 : (i : Int) < (n : Int) + 1 := (by omega); have k5 : (k : Int) < (n' : Int) + 1 := (by omega); obtain ⟨t1, t1'⟩ := HTz.out (i + 1) (by rw [HL.out]; omega); obtain ⟨t0, t0'⟩ := HTz.out i (by rw [HL.out]; omega); have x1 := t1' k (by rw [HL'.out]; exact hkn); have x0 := t0' k (by rw [HL'.out]; exact hkn); rw [HL'.out] at t1 t0; have HDs := uH (dst_test (a := a) (b := b) (i := i) (k := k) (by rw [HL.out]; exact hi3)); have d1 := dst_40 (a := a) (b := b) (i + 1) k; have d0 := dst_40 (a := a) (b := b) i k; rw [HL.out, HL'.out] at d1 d0; clear t1' t0'; have HF : Hid (decide (i < n ∧ dst (a.drop (i + 1)) (b.drop k) < dst (a.drop i) (b.drop k)) = decide (1 + ((dst (a.drop (i + 1)) (b.drop k) : Nat) : Int) = ((dst (a.drop i) (b.drop k) : Nat) : Int))) := uH (decide_eq_decide.2 ⟨fun h => by have := HDs.out.1 h.2; omega, fun h => ⟨hi3, HDs.out.2 (by omega)⟩⟩); obtain ⟨D1, hD1⟩ : ∃ D, D = dst (a.drop (i + 1)) (b.drop k) := ⟨_, rfl⟩; obtain ⟨Dz, hDz⟩ : ∃ D, D = dst (a.drop i) (b.drop k) := ⟨_, rfl⟩; rw [← hD1] at x1 d1; rw [← hDz] at x0 d0; obtain ⟨q, hq⟩ : ∃ q, q = decide (1 + (D1 : Int) = (Dz : Int)) := ⟨_, rfl⟩; have HF2 : Hid (decide (i < n ∧ dst (a.drop (i + 1)) (b.drop k) < dst (a.drop i) (b.drop k)) = q) := uH (by rw [HF.out, hq, hD1, hDz]); have hq2 : ((1 + (D1 : Int)) == (Dz : Int)) = q := by
           rw [hq]; by_cases h : 1 + (D1 : Int) = (Dz : Int)
           ·rw [decide_eq_true h]; simpa using h
           ·rw [decide_eq_false h]; simpa using h
          clear hq hD1 hDz HF HDs; have q1 := qcell t1; have q0 := qcell t0; have p1 := qcell x1; have p0 := qcell x0; refine region_qb (by kernel_rfl) (by kernel_rfl) ?_; repeat (first | go_big_quiet_step (fail) | quiet_step (fail))
          refine wpQuiet_nil ?_; intro w9 hb9; go_wp2
          go_meet
          exact ⟨hb9, congrArg Value.bool HF2.out⟩
         ·have e0 : ¬ (i : Int) < (n : Int) := (by omega); refine region_qb (by kernel_rfl) (by kernel_rfl) ?_; repeat (first | go_big_quiet_step (fail) | quiet_step (fail))
          refine wpQuiet_nil ?_; intro w9 hb9; go_wp2
          go_meet
          exact ⟨hb9, congrArg Value.bool (decide_eq_false (fun h => hi3 h.1))⟩
        case rest =>
         obtain ⟨hb9, rfl⟩ := hcut; generalize wc = w9 at *; have HO9 := uH (HO7.out.keep hb9); have HC9 := uH (HC7.out.keep hb9); have HG9 := uH (grown_below HG7.out hb9); have HB9 := uH (below_next HBz.out hb9); have hgl : (D0 ++ [x])[D0.length]? = some x := (by simp); have l1 := own_cell HO9.out.1 hov (flat_at mkC_len _ _ _ 1 (.int .i64 (x.cut : Int)) hgl rfl); have l2 := own_cell HO9.out.1 hov (flat_at mkC_len _ _ _ 2 (.slice x.A x.n x.c) hgl rfl); have hgv9 := ownG_lt HO9.out.1 hov; have z9 := HG9.out.size; clear hb9 hgl HO7 HC7 HG7 HBz HTz; by_cases hc : i < n ∧ dst (a.drop (i + 1)) (b.drop k) < dst (a.drop i) (b.drop k)
         ·rw [decide_eq_true hc]; obtain ⟨hi3, hlt⟩ := hc; have HE2 : Hid (mkAll a b = D0.map Mr.dat ++ mkGo (a.drop (i + 1)) (b.drop k) (i + 1) ((some ⟨x.at_, x.cut + 1, x.A, x.n, x.c, x.put⟩ : Option Mr).map Mr.dat)) := uH (by
           rw [HE.out, goCut (by rw [HL.out]; exact hi3) (fun hk e => he ⟨hi3, by rw [HL'.out] at hk; exact hk, e⟩) hlt, HEx.out]; rfl)
          have HX2 : Hid (D0.length + (some (⟨x.at_, x.cut + 1, x.A, x.n, x.c, x.put⟩ : Mr)).toList.length ≤ i + 1 + k) := uH (by have := HX.out; simp; omega); have HO2' : Hid (MrOwn (w9.setCell ⟨gv, D0.length * 3 + 1, none⟩ (.int .i64 ((x.cut : Int) + 1))) w.heap.size (.slice (some ⟨gv, 0, none⟩) (D0.length + 1) cv) (D0 ++ (some (⟨x.at_, x.cut + 1, x.A, x.n, x.c, x.put⟩ : Mr)).toList)) := uH (MrOwn.last (x' := ⟨x.at_, x.cut + 1, x.A, x.n, x.c, x.put⟩) HO9.out hov (by simp [mkC]) (by omega) (HO9.out.2 x (by simp)).1 (HO9.out.2 x (by simp)).2); have HC2 : Hid (∀ y, some (⟨x.at_, x.cut + 1, x.A, x.n, x.c, x.put⟩ : Mr) = some y → CurOwn (w9.setCell ⟨gv, D0.length * 3 + 1, none⟩ (.int .i64 ((x.cut : Int) + 1))) w2.heap.size (.slice (some ⟨gv, 0, none⟩) (D0.length + 1) cv) D0 y ∧ y.at_ ≤ i + 1 ∧ y.cut ≤ i + 1 ∧ y.n ≤ k) := uH (fun y hy => by
           injection hy with hy; subst hy; exact ⟨CurOwn.far (x := ⟨x.at_, x.cut + 1, x.A, x.n, x.c, x.put⟩) HC9.out hov, by show x.at_ ≤ i + 1; omega, by show x.cut + 1 ≤ i + 1; omega, hx3⟩)
          have HG2 : Hid (w2.grownBy (w9.setCell ⟨gv, D0.length * 3 + 1, none⟩ (.int .i64 ((x.cut : Int) + 1))) (some w.heap.size)) := uH (HG9.out.andThen (only_set1 w9 gv _ _) (fun q hq => (HV7.out q (hov.trans hq)).elim (fun e => .inr (by rw [e])) (fun e => .inl e))); obtain ⟨l1c, l1f⟩ := l1; clear HE HX HO9 HC9 HG9 HEx l2 hlt he; go_wp2; go_roundw
          case rel => exact ⟨i + 1, k, D0, some ⟨x.at_, x.cut + 1, x.A, x.n, x.c, x.put⟩, _, by omega, by omega, rfl, by go_num, rfl, rfl, HE2, HX2, HO2', HC2, HV7, HG2⟩
          case measure => simp [intOf] <;> omega
         ·rw [decide_eq_false hc]; have hk3 : k < n' := by
           apply Classical.byContradiction; intro hk; have hkn2 : k = n' := (by omega); have hi3 : i < n := (by omega); refine hc ⟨hi3, ?_⟩; rw [hkn2, ← HL'.out]; exact dst_edge (by rw [HL.out]; exact hi3)
          obtain ⟨bB, oB, rfl, hbB, cB⟩ := (H'.out.keep HB9.out).at_ hk3; have HE2 : Hid (mkAll a b = D0.map Mr.dat ++ mkGo (a.drop i) (b.drop (k + 1)) i (some ⟨x.at_, x.cut, x.put ++ [wdAt b k]⟩)) := uH (by
           rw [HE.out, goPut (by rw [HL'.out]; exact hk3) (fun hi => ⟨fun e => he ⟨by rw [HL.out] at hi; exact hi, hk3, e⟩, fun hl => hc ⟨by rw [HL.out] at hi; exact hi, hl⟩⟩), HEx.out]; rfl)
          clear HE HEx he hc; generalize wdAt b k = l at *; have kk3 : (k : Int) < (n' : Int) := (by omega); obtain ⟨xat, xcut, xA, xn, xc, xput⟩ := x; dsimp only at hx1 hx2 hx3 l1 l2 HE2; obtain ⟨l2c, l2f⟩ := l2; have hal9 : Below w9.heap.size w9 (w9.alloc (.cells #[.string (mkStr l)] 9)) := (Below.refl _ _).alloc (Nat.le_refl _) _; have l2a := kcell hal9 l2c; obtain ⟨v8, w8, hrun, hown8, hg8, hat8⟩ := run_append_any (P := Tryz.prog) (w := (w9.alloc (.cells #[.string (mkStr l)] 9)).drew) w2.heap.size 27 27 9 j0 _ 1 16 Tryz.underlying27 hj hy0 hy1 hy2 rfl (by omega) (.slice xA xn xc) xn (xput.map strP) (World.ownsRow.alloc HC9.out.2.1 _) (w9.heap.size + 1) (some ⟨w9.heap.size, 0, none⟩) 1 1 [.string (mkStr l)] (rowNew1 _ _ _) (by simp [Value.oneCell']) (by unfold maxLen; omega) (by omega) (by show w2.heap.size ≤ (w9.alloc _).heap.size; simp; omega); have hrun' : (appZ #[27, 27] 27 #[.slice xA xn xc, .slice (some ⟨w9.heap.size, 0, none⟩) 1 1]).run Tryz.prog (w9.alloc (.cells #[.string (mkStr l)] 9)).drew = .ok v8 w8 := hrun; obtain ⟨A8, c8, rfl, hc8, hm8⟩ := ownG_form hown8; have hg9 : w9.grownBy w8 (Value.slice xA xn xc).ownBlock := ⟨hg8.os.trans hal9.os, hg8.tape, hg8.output.trans hal9.output, Nat.le_trans hal9.size hg8.size, fun q hq hne => (hg8.block q (Nat.lt_of_lt_of_le hq hal9.size) hne).trans (hal9.block q hq)⟩; have hr1 : (Value.slice xA xn xc).ownBlock ≠ some gv := fun e => (HC9.out.2.2 gv e).1 hov; have hr2 : ∀ y ∈ D0, 0 < y.n → ∀ p, y.A = some p → (Value.slice xA xn xc).ownBlock ≠ some p.block := fun y hy hp p hpA e => (HC9.out.2.2 p.block e).2 y hy hp p hpA rfl; have h08 : w8.ownsRow w.heap.size 116 3 (.slice (some ⟨gv, 0, none⟩) (D0.length + 1) cv) (D0 ++ [(⟨xat, xcut, xA, xn, xc, xput⟩ : Mr)]).length ((D0 ++ [(⟨xat, xcut, xA, xn, xc, xput⟩ : Mr)]).flatMap mkC) := ownG_congr HO9.out.1 (fun q hq => hg9.block q (ownG_lt HO9.out.1 hq) (fun e => hr1 (by rw [← e, ← hov, hq]))); have hgl : (D0 ++ [(⟨xat, xcut, xA, xn, xc, xput⟩ : Mr)])[D0.length]? = some ⟨xat, xcut, xA, xn, xc, xput⟩ := (by simp); obtain ⟨l8c, l8f⟩ := own_cell h08 hov (flat_at mkC_len _ _ _ 2 (.slice xA xn xc) hgl rfl); have hpl : xput.length = xn := HC9.out.1; have hIn8 : WdsIn w8 w8.heap.size A8 (xn + 1) c8 (xput ++ [l]) := ⟨by rw [List.length_append, hpl]; rfl, hc8, hm8, by rw [List.map_append]; exact Row.of_own hown8⟩; have hA8 : ∀ q, (Value.slice A8 (xn + 1) c8).ownBlock = some q → gv ≠ q ∧ (∀ y ∈ D0, 0 < y.n → ∀ p, y.A = some p → p.block ≠ q) := fun q hq => by
           rcases hat8 with e | e
           ·have hq2 := e.symm.trans hq; exact ⟨fun e2 => hr1 (by rw [hq2, e2]), (HC9.out.2.2 q hq2).2⟩
           ·rw [e] at hq; injection hq with hq; have hq3 : q = (w9.alloc (.cells #[.string (mkStr l)] 9)).heap.size := hq.symm; rw [World.size_alloc] at hq3; exact ⟨by omega, fun y hy hp p hpA => by have := ((HO9.out.2 y (by simp [hy])).2 hp p hpA).2; omega⟩
          have HO2' : Hid (MrOwn (w8.setCell ⟨gv, D0.length * 3 + 2, none⟩ (.slice A8 (xn + 1) c8)) w.heap.size (.slice (some ⟨gv, 0, none⟩) (D0.length + 1) cv) (D0 ++ (some (⟨xat, xcut, A8, xn + 1, c8, xput ++ [l]⟩ : Mr)).toList)) := uH (MrOwn.put (x' := ⟨xat, xcut, A8, xn + 1, c8, xput ++ [l]⟩) HO9.out hov hg9 hr1 hr2 rfl rfl hIn8 (fun _ p hpA => by
           have hpA' : A8 = some p := hpA; have hob : (Value.slice A8 (xn + 1) c8).ownBlock = some p.block := (by rw [hpA']; rfl); exact ⟨fun e => (hA8 _ hob).1 (by rw [hov] at e; injection e), ownG_lt hown8 hob⟩))
          have HC2 : Hid (∀ y, some (⟨xat, xcut, A8, xn + 1, c8, xput ++ [l]⟩ : Mr) = some y → CurOwn (w8.setCell ⟨gv, D0.length * 3 + 2, none⟩ (.slice A8 (xn + 1) c8)) w2.heap.size (.slice (some ⟨gv, 0, none⟩) (D0.length + 1) cv) D0 y ∧ y.at_ ≤ i ∧ y.cut ≤ i ∧ y.n ≤ k + 1) := uH (fun y hy => by
           injection hy with hy; subst hy; have hC8 : CurOwn w8 w2.heap.size (.slice (some ⟨gv, 0, none⟩) (D0.length + 1) cv) D0 ⟨xat, xcut, A8, xn + 1, c8, xput ++ [l]⟩ := ⟨by show (xput ++ [l]).length = xn + 1; rw [List.length_append, hpl]; rfl, by show w8.ownsRow w2.heap.size 9 1 (.slice A8 (xn + 1) c8) (xn + 1) ((xput ++ [l]).map strP); rw [List.map_append]; exact hown8, fun q hq => ⟨fun e => (hA8 q hq).1 (by rw [hov] at e; injection e), (hA8 q hq).2⟩⟩; exact ⟨hC8.far hov, hx1, hx2, by show xn + 1 ≤ k + 1; omega⟩)
          have HG2 : Hid (w2.grownBy (w8.setCell ⟨gv, D0.length * 3 + 2, none⟩ (.slice A8 (xn + 1) c8)) (some w.heap.size)) := uH ((HG9.out.andThen hg9 (fun q hq => .inl (ownG_base HC9.out.2.1 hq))).andThen (only_set1 w8 gv _ _) (fun q hq => (HV7.out q (hov.trans hq)).elim (fun e => .inr (by rw [e])) (fun e => .inl e))); have HX2 : Hid (D0.length + (some (⟨xat, xcut, A8, xn + 1, c8, xput ++ [l]⟩ : Mr)).toList.length ≤ i + (k + 1)) := uH (by have := HX.out; simp; omega); clear hr1 hr2 h08 hgl hpl hIn8 hA8 hown8 hg8 hat8 hrun hg9 HO9 HC9 HG9 HX l1; (go_wp2_with fail); go_region
          all_goals
           go_wp2; go_roundw
           case rel => exact ⟨i, k + 1, D0, some ⟨xat, xcut, A8, xn + 1, c8, xput ++ [l]⟩, _, by omega, by omega, rfl, rfl, by go_num, rfl, HE2, HX2, HO2', HC2, HV7, HG2⟩
           case measure => simp [intOf] <;> omega
    ·rw [decide_eq_false hgo]; have HE2 : Hid (makeO a b = some ((D0 ++ o.toList).map Mr.dat)) := uH (by
      rw [HR.out, HE.out, goEnd (by rw [HL.out]; omega) (by rw [HL'.out]; omega), List.map_append]; congr 2
      cases o <;> rfl)
     obtain ⟨A6, c6, rfl, hc6, hm6⟩ := ownG_form HO.out.1; have HM := uH (MrOwn.reads HO.out rfl); have HBo := uH hb.out; clear HE HO HC; go_wp2; go_returns; exact ⟨.inr ⟨A6, c6, D0 ++ o.toList, HE2.out, rfl, HM.out⟩, HBo.out⟩
end Go.Proofs.YtbkhnljaajajiaaGreatDoor
