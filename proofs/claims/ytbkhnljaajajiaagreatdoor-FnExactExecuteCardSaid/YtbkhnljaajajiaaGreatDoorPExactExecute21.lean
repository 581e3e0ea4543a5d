/-
  Contracts and plain laws that the proof of the law ExactExecute leans on. Conditions: as each says.
-/
import Derived.Test.YtbkhnljaajajiaaGreatDoorPExactExecute01
import Derived.Test.YtbkhnljaajajiaaGreatDoorPExactExecute09
import Derived.Test.YtbkhnljaajajiaaGreatDoorPExactExecute17
import Derived.Test.YtbkhnljaajajiaaGreatDoorPExactExecute19
import Derived.Test.YtbkhnljaajajiaaGreatDoorPExactExecute20
import Derived.Deep.RegionHeld3
import Derived.RegionTactic
import Derived.BigRegion
import Derived.Shelf.Abstract
import Derived.Deep.Cut
import Derived.Deep.DeepCutAuto
set_option maxRecDepth 100000
set_option linter.unusedSimpArgs false
set_option linter.unusedVariables false
set_option linter.unnecessarySimpa false
namespace Go.Proofs.YtbkhnljaajajiaaGreatDoor
open Go.ChangeShapes Go.WideShapes Go.ChangeAt Go.RowKit
theorem lineText_len9 (L : List Dat) : (lineText L).length ≤ 18 * L.length := by
 cases h : lineB L with
 | true => rw [lineText_yes h]; exact lineT_len L
 | false => rw [lineText_no h]; simp
theorem allW_len9 {xs : List Sg} : ∀ {ws : List (List UInt8)} {L : List Dat}, allW xs ws = some L → L.length = ws.length
 | [], L, h => by injection h with h; subst h; rfl
 | l :: r, L, h => by
  obtain ⟨d, _, h⟩ := Option.bind_eq_some_iff.1 h; obtain ⟨L', h2, rfl⟩ := Option.map_eq_some_iff.1 h; rw [List.length_cons, List.length_cons, allW_len9 h2]
theorem lineOf_len20 {xs : List Sg} {ws : List (List UInt8)} {L : List Dat} (h : lineOf xs ws = some L) : L.length ≤ 20 := by
 unfold lineOf at h; split at h
 ·rename_i hc; rw [allW_len9 h]; exact hc.2
 ·cases h
section
variable {A1 A2 A3 A4 : Option Addr} {n1 c1 n2 c2 n3 c3 n4 c4 : Nat} {sys : List Sg} {xs : List Br} {sp : List Wd} {ds : List Drawer}
set_option maxHeartbeats 800000 in
theorem l9Write (A1 A2 A3 A4 : Option Addr) (n1 c1 n2 c2 n3 c3 n4 c4 : Nat) (sys : List Sg) (xs : List Br) (sp : List Wd) (ds : List Drawer) (w : World) (ok : (Hd.mk A1 n1 c1 A2 n2 c2 A3 n3 c3 A4 n4 c4 sys xs sp ds).st.ok) (h : StIn w ⟨A1, n1, c1, A2, n2, c2, A3, n3, c3, A4, n4, c4, sys, xs, sp, ds⟩) :
  Calls Tryz.prog 176 #[.agg #[.slice A1 n1 c1, .slice A2 n2 c2, .slice A3 n3 c3, .slice A4 n4 c4]] w fun e w' => e = .returned (.string (mkStr (saidO ((lineOf sys sp).map lineText)))) ∧ Below w.heap.size w w' := by
 have hz := stSz ok; have b0 : Below w.heap.size w (w.alloc (.cells #[.slice A1 n1 c1, .slice A2 n2 c2, .slice A3 n3 c3, .slice A4 n4 c4] 91)) := (Below.refl _ _).alloc (Nat.le_refl _) _; have H := h.keep b0; have h3 : n3 ≤ 20 := (by have := hz.n3; have := H.wd.1; simp only at *; omega); have HL := uH (specLineOf A1 n1 c1 sys A3 n3 c3 sp (w.alloc (.cells #[.slice A1 n1 c1, .slice A2 n2 c2, .slice A3 n3 c3, .slice A4 n4 c4] 91)) (fun l hl => by have := hz.w3 l hl; unfold maxLen; omega) h3 H.sg H.wd); clear hz H h ok; go_enter Tryz.func176, Tryz.ntmps176
 (go_wp2_with fail); refine HL.out.mono ?_; rintro e w1 ⟨hA, hb1⟩; have b1 := b0.trans (hb1.mono b0.size); clear HL hb1 b0; rcases hA with ⟨ho, A, c, rfl, hW⟩ | ⟨A, c, L, ho, rfl, hW⟩
 ·have HT := uH (specLineText A 0 c [] w1 hW); have HO : Hid (saidO ((lineOf sys sp).map lineText) = [110, 111, 10]) := uH (by rw [ho]; rfl); clear ho hW; (go_wp2_with fail); refine HT.out.mono ?_; rintro e w2 ⟨rfl, hb2⟩; have b2 := below_next b1 hb2; have HS := uH (l9Said (lineText ([].map Wr.dat)) false w2 (by have h0 := lineText_len9 (([] : List Wr).map Wr.dat); rw [List.length_map, List.length_nil] at h0; omega)); (go_wp2_with fail); refine HS.out.mono ?_; rintro e w3 ⟨rfl, rfl⟩; go_wp2; go_ret; exact ⟨by rw [HO.out]; rfl, b2⟩
 ·have HT := uH (specLineText A L.length c L w1 hW); have hLn : L.length ≤ 20 := by
   have h1 := lineOf_len20 ho; simpa using h1
  have HO : Hid (saidO ((lineOf sys sp).map lineText) = lineText (L.map Wr.dat) ++ [10]) := uH (by rw [ho]; rfl); have hln := lineText_len9 (L.map Wr.dat); rw [List.length_map] at hln; clear ho hW; (go_wp2_with fail); refine HT.out.mono ?_; rintro e w2 ⟨rfl, hb2⟩; have b2 := below_next b1 hb2; have HS := uH (l9Said (lineText (L.map Wr.dat)) true w2 (by omega)); (go_wp2_with fail); refine HS.out.mono ?_; rintro e w3 ⟨rfl, rfl⟩; go_wp2; go_ret; exact ⟨by rw [HO.out]; rfl, b2⟩
theorem bestO_len {bs : List Bf} {ws t : List Wd} (h : brsB bs = true) (hs : spB ws = true) (ho : bestO bs ws = some t) : t.length ≤ 20 := by
 unfold bestO at ho; rw [h, hs] at ho; injection ho with ho; rw [← ho]; exact Nat.le_trans (bestT_len (valid_one h) ws.length ws (Nat.le_refl _)) (spB_iff.1 hs).2
theorem bestT_sm {bs : List Bf} (h : ∀ b ∈ bs, 1 ≤ b.words.length) (hm : ∀ b ∈ bs, b.mark.length ≤ 12) : ∀ (n : Nat) (ws : List Wd), ws.length ≤ n → (∀ l ∈ ws, l.length ≤ 12) → ∀ l ∈ bestT bs ws, l.length ≤ 12 := by
 intro n; induction n with
 | zero => intro ws hl _ l hx; have : ws = [] := List.length_eq_zero_iff.1 (by omega); subst this; rw [bestT_nil] at hx; cases hx
 | succ n ih =>
  intro ws hl hw l hx; by_cases h0 : 0 < ws.length
  ·rw [bestT_step h h0] at hx; have hb := stepT_bd h h0; rcases List.mem_cons.1 hx with rfl | hx
   ·unfold stepT; cases hp : pickB bs ws with
    | some b => exact hm b (pickB_mem hp).1
    | none =>
     match ws, h0 with
     | x :: r, _ => exact hw x (by simp)
   ·exact ih (ws.drop (stepT bs ws).2) (by rw [List.length_drop]; omega) (fun y hy => hw y (List.mem_of_mem_drop hy)) l hx
  ·have : ws = [] := List.length_eq_zero_iff.1 (by omega); subst this; rw [bestT_nil] at hx; cases hx
theorem bestT_small {h : Hd} (ok : h.st.ok) : ∀ l ∈ bestT h.st.brs h.st.sp, l.length ≤ 600 := fun l hl => by
 have := bestT_sm (valid_one ok.2.1) (fun b hb => by have := markB_len (bfB_iff.1 (brsB_mem ok.2.1 b hb)).1; omega) h.st.sp.length h.st.sp (Nat.le_refl _) (stSz ok).w3 l hl; omega
theorem marksText_len9 (ws : List Wd) (ms : List Mk) : (marksText ws ms).length ≤ 1000000 := by
 unfold marksText; split
 ·rename_i hv
  obtain ⟨h1, h2⟩ := mark_bd hv; have h3 : ∀ l ∈ ms.map mkTx, l.length ≤ 400 := fun l hl => by
   obtain ⟨m, hm, rfl⟩ := List.mem_map.1 hl; obtain ⟨g1, g2, g3, g4⟩ := h2 m hm; exact mkTx_len g1 g2 g3 g4
  have h4 := join_len1 (s := 32) h3; rw [List.length_map] at h4; have e : marksTxt ms = Lib.join (ms.map mkTx) [32] := (by unfold marksTxt; rfl); rw [e]; omega
 ·simp
set_option maxHeartbeats 800000 in
theorem l9Copy (A1 A2 A3 A4 : Option Addr) (n1 c1 n2 c2 n3 c3 n4 c4 : Nat) (sys : List Sg) (xs : List Br) (sp : List Wd) (ds : List Drawer) (w : World) (ok : (Hd.mk A1 n1 c1 A2 n2 c2 A3 n3 c3 A4 n4 c4 sys xs sp ds).st.ok) (h : StIn w ⟨A1, n1, c1, A2, n2, c2, A3, n3, c3, A4, n4, c4, sys, xs, sp, ds⟩) :
  Calls Tryz.prog 177 #[.agg #[.slice A1 n1 c1, .slice A2 n2 c2, .slice A3 n3 c3, .slice A4 n4 c4]] w fun e w' => e = .returned (.string (mkStr (saidO ((bestO (xs.map Br.dat) sp).map fun t => Lib.join t [32])))) ∧ Below w.heap.size w w' := by
 have hz := stSz ok; have b0 : Below w.heap.size w (w.alloc (.cells #[.slice A1 n1 c1, .slice A2 n2 c2, .slice A3 n3 c3, .slice A4 n4 c4] 91)) := (Below.refl _ _).alloc (Nat.le_refl _) _; have H := h.keep b0; have HL := uH (specCopyBest A2 n2 c2 xs A3 n3 c3 sp (w.alloc (.cells #[.slice A1 n1 c1, .slice A2 n2 c2, .slice A3 n3 c3, .slice A4 n4 c4] 91)) hz.ob (fun l hl => by have := hz.w3 l hl; unfold maxLen; omega) H.br H.wd); have ho : bestO (xs.map Br.dat) sp = some (bestT (xs.map Br.dat) sp) := by
  have h1 : brsB (xs.map Br.dat) = true := ok.2.1; have h2 : spB sp = true := ok.2.2.1; unfold bestO; rw [h1, h2]; rfl
 have hln := bestO_len (ws := sp) ok.2.1 ok.2.2.1 ho; have HWl : Hid (∀ l ∈ bestT (xs.map Br.dat) sp, l.length ≤ 600) := uH (bestT_small ok); have HO : Hid (saidO ((bestO (xs.map Br.dat) sp).map fun t => Lib.join t [32]) = Lib.join (bestT (xs.map Br.dat) sp) [32] ++ [10]) := uH (by rw [ho]; rfl); rw [ho] at HL; clear hz H h ok ho; generalize bestT (xs.map Br.dat) sp = T at *; go_enter Tryz.func177, Tryz.ntmps177
 (go_wp2_with fail); refine HL.out.mono ?_; rintro e w1 ⟨⟨A, c, rfl, hW⟩, hb1⟩; have b1 := b0.trans (hb1.mono b0.size); have HT := uH (l9Words A T.length c T w1 hln HWl.out (WdOwn.reads hW rfl)); have hj := join_len1 (s := 32) HWl.out; clear HL hb1 b0 hW; (go_wp2_with fail); refine HT.out.mono ?_; rintro e w2 ⟨rfl, hb2⟩; have b2 := below_next b1 hb2; have HS := uH (l9Said (Lib.join T [32]) true w2 (by omega)); (go_wp2_with fail); refine HS.out.mono ?_; rintro e w3 ⟨rfl, rfl⟩; go_wp2; go_ret; exact ⟨by rw [HO.out]; rfl, b2⟩
set_option maxHeartbeats 800000 in
theorem l9Proof (A1 A2 A3 A4 : Option Addr) (n1 c1 n2 c2 n3 c3 n4 c4 : Nat) (sys : List Sg) (xs : List Br) (sp : List Wd) (ds : List Drawer) (A : Option Addr) (n c : Nat) (ws : List Wd) (w : World) (ok : (Hd.mk A1 n1 c1 A2 n2 c2 A3 n3 c3 A4 n4 c4 sys xs sp ds).st.ok) (hWl : ∀ l ∈ ws, l.length ≤ maxLen) (h : StIn w ⟨A1, n1, c1, A2, n2, c2, A3, n3, c3, A4, n4, c4, sys, xs, sp, ds⟩) (hw : WdsIn w w.heap.size A n c ws) :
  Calls Tryz.prog 179 #[.agg #[.slice A1 n1 c1, .slice A2 n2 c2, .slice A3 n3 c3, .slice A4 n4 c4], .slice A n c] w fun e w' => e = .returned (.string (mkStr (saidO ((makeO sp ws).map (marksText sp))))) ∧ Below w.heap.size w w' := by
 have hz := stSz ok; have b0 : Below w.heap.size w (w.alloc (.cells #[.slice A1 n1 c1, .slice A2 n2 c2, .slice A3 n3 c3, .slice A4 n4 c4] 91)) := (Below.refl _ _).alloc (Nat.le_refl _) _; have HK := uH (newcell w #[.slice A1 n1 c1, .slice A2 n2 c2, .slice A3 n3 c3, .slice A4 n4 c4] 91 2 _ rfl); have hz1 : w.heap.size < (w.alloc (.cells #[.slice A1 n1 c1, .slice A2 n2 c2, .slice A3 n3 c3, .slice A4 n4 c4] 91)).heap.size := (by simp); obtain ⟨W, hW0⟩ : ∃ W, W = w.alloc (.cells #[.slice A1 n1 c1, .slice A2 n2 c2, .slice A3 n3 c3, .slice A4 n4 c4] 91) := ⟨_, rfl⟩; rw [← hW0] at b0 HK hz1; have H := uH (h.keep b0).wd; have HW3 : Hid (∀ l ∈ sp, l.length ≤ maxLen) := uH (fun l hl => by have := hz.w3 l hl; unfold maxLen; omega); have HL := uH (specMarksMake A3 n3 c3 sp A n c ws W HW3.out hWl H.out (hw.keep b0)); have HSp : Hid (sp.length ≤ 20) := uH hz.n3; have HWl := uH hWl; clear hz h ok hw hWl; go_enter Tryz.func179, Tryz.ntmps179
 (go_wp2_with fail); rw [← hW0]; clear hW0; (go_wp2_with fail); refine HL.out.mono ?_; rintro e w1 ⟨hA, hb1⟩; have b1 := b0.trans (hb1.mono b0.size); have k1 := kcell hb1 HK.out; have H1 := uH (H.out.keep hb1); clear HL hb1 b0; rcases hA with ⟨ho, A', c', rfl, hM⟩ | ⟨A', c', M, ho, rfl, hM⟩
 ·have HT := uH (specMarksText A3 n3 c3 sp A' 0 c' [] w1 HW3.out okMs_nil H1.out hM); have HO : Hid (saidO ((makeO sp ws).map (marksText sp)) = [110, 111, 10]) := uH (by rw [ho]; rfl); clear ho hM; (go_wp2_with fail); refine HT.out.mono ?_; rintro e w2 ⟨rfl, hb2⟩; have b2 := below_next b1 hb2; have HS := uH (l9Said (marksText sp ([].map Mr.dat)) false w2 (marksText_len9 _ _)); (go_wp2_with fail); refine HS.out.mono ?_; rintro e w3 ⟨rfl, rfl⟩; go_wp2; go_ret; exact ⟨by rw [HO.out]; rfl, b2⟩
 ·have hmk : spB sp = true ∧ spB ws = true ∧ M.map Mr.dat = mkAll sp ws := by
   unfold makeO at ho; split at ho
   ·rename_i hc
    rw [Bool.and_eq_true] at hc; injection ho with ho; exact ⟨hc.1, hc.2, ho.symm⟩
   ·cases ho
  have HT := uH (specMarksText A3 n3 c3 sp A' M.length c' M w1 HW3.out (okMs_make (by have := HSp.out; omega) (by have := (spB_iff.1 hmk.2.1).2; omega) HWl.out hM hmk.2.2) H1.out hM); have HO : Hid (saidO ((makeO sp ws).map (marksText sp)) = marksText sp (M.map Mr.dat) ++ [10]) := uH (by rw [ho]; rfl); clear ho hM hmk; (go_wp2_with fail); refine HT.out.mono ?_; rintro e w2 ⟨rfl, hb2⟩; have b2 := below_next b1 hb2; have HS := uH (l9Said (marksText sp (M.map Mr.dat)) true w2 (marksText_len9 _ _)); (go_wp2_with fail); refine HS.out.mono ?_; rintro e w3 ⟨rfl, rfl⟩; go_wp2; go_ret; exact ⟨by rw [HO.out]; rfl, b2⟩
end
end Go.Proofs.YtbkhnljaajajiaaGreatDoor
namespace Go.Proofs.YtbkhnljaajajiaaGreatDoor
open Go.ChangeShapes Go.WideShapes Go.ChangeAt Go.RowKit Go.Shelf
def brV (x : Br) : Value := .agg #[.string (mkStr x.mark), .slice x.A x.n x.c]
def PredBr (g : Nat) (cb : Array Value) (p : Br → Bool) (ys : List Br) (w : World) : Prop :=
 ∀ (W : World) (x : Br), Below w.heap.size w W → x ∈ ys → BrIn W W.heap.size x → Calls Tryz.prog g (#[brV x] ++ cb) W fun e w' => e = .returned (.bool (p x)) ∧ Below W.heap.size W w'
def FirstBr (p : Br → Bool) (ys : List Br) (r : Int) : Prop :=
 (r = -1 ∧ ∀ j, j < ys.length → p (brAt ys j) = false) ∨ ∃ k : Nat, r = k ∧ k < ys.length ∧ p (brAt ys k) = true
theorem FirstBr.any {p : Br → Bool} {ys : List Br} {r : Int} (h : FirstBr p ys r) : decide (0 ≤ r) = ys.any p := by
 rcases h with ⟨rfl, h⟩ | ⟨k, rfl, hk, h⟩
 ·rw [decide_eq_false (by omega)]
  symm
  rw [List.any_eq_false]; intro x hx; obtain ⟨i, hi, rfl⟩ := List.getElem_of_mem hx; have h1 := h i hi; have h2 := brAt_some hi; rw [List.getElem?_eq_getElem hi] at h2; injection h2 with h2; rw [h2, h1]; simp
 ·rw [decide_eq_true (by omega)]
  symm
  exact List.any_eq_true.2 ⟨_, brAt_mem hk, h⟩
theorem idxFuncBr (g : Nat) (cb : Array Value) (p : Br → Bool) (eg : ∀ args w, (callFunc g args).run Tryz.prog w = .ok (.enter g args) w) (A : Option Addr) (n c : Nat) (ys : List Br) (w : World) (hp : PredBr g cb p ys w) (h : BrsIn w w.heap.size A n c ys) :
  Calls Tryz.prog 226 #[.slice A n c, .func (.func g) #[] cb] w fun e w' => ∃ r, e = .returned (.int .i64 r) ∧ FirstBr p ys r ∧ Below w.heap.size w w' := by
 have hm := h.2.2.1; have hnc := h.2.1; unfold maxLen at hm; have HL := uH h.1; have H := uH h; clear h; have HP := uH hp; clear hp; go_enter Tryz.func226, Tryz.ntmps226
 go_wp2; go_loopw [5, 8] (fun _ i wr => ∃ (k : Nat), k ≤ n ∧ i = .int .i64 k ∧ Hid (∀ j, j < k → p (brAt ys j) = false) ∧ Below w.heap.size w wr) (fun _ i _ => n - (intOf i).toNat)
 case atStart => exact ⟨0, Nat.zero_le _, rfl, uH (fun j hj => absurd hj (by omega)), Below.refl _ _⟩
 case round =>
  obtain ⟨k, hk, rfl, hF, hb⟩ := hrel; by_cases hlt : k < n
  ·obtain ⟨b, off, eA, hbB, c0, c1, hI⟩ := (H.out.keep hb).at_ hlt; have hcall := HP.out wr (brAt ys k) hb (brAt_mem (by rw [HL.out]; exact hlt)) hI; subst eA; unfold brV at hcall; clear hI; cases hq : p (brAt ys k) with
   | true =>
    rw [hq] at hcall; have HA : Hid (FirstBr p ys k) := uH (.inr ⟨k, rfl, by rw [HL.out]; exact hlt, hq⟩); have HC := uH hcall; clear hcall hq; generalize brAt ys k = x at *; go_wp2_with (go_at_fn g; refine HC.out.mono ?_; rintro e w1 ⟨rfl, hb1⟩)
    have b1 := hb.trans (hb1.mono hb.size); go_ret; exact ⟨_, rfl, HA.out, b1⟩
   | false =>
    rw [hq] at hcall; have HF : Hid (∀ j, j < k + 1 → p (brAt ys j) = false) := uH (fun j hj => by
     by_cases hjk : j < k
     ·exact hF.out j hjk
     ·obtain rfl : j = k := (by omega); exact hq)
    have HC := uH hcall; clear hcall hq; generalize brAt ys k = x at *; go_wp2_with (go_at_fn g; refine HC.out.mono ?_; rintro e w1 ⟨rfl, hb1⟩)
    have b1 := hb.trans (hb1.mono hb.size); go_roundw
    case rel => exact ⟨k + 1, by omega, by go_num, HF, b1⟩
    case measure => simp [intOf]; omega
  ·obtain rfl : k = n := (by omega); have HA : Hid (FirstBr p ys (-1)) := uH (.inl ⟨rfl, by rw [HL.out]; exact hF.out⟩); go_wp2; go_ret; exact ⟨_, rfl, HA.out, hb⟩
theorem containsBr (g : Nat) (cb : Array Value) (p : Br → Bool) (eg : ∀ args w, (callFunc g args).run Tryz.prog w = .ok (.enter g args) w) (A : Option Addr) (n c : Nat) (ys : List Br) (w : World) (hp : PredBr g cb p ys w) (h : BrsIn w w.heap.size A n c ys) :
  Calls Tryz.prog 181 #[.slice A n c, .func (.func g) #[] cb] w fun e w' => e = .returned (.bool (ys.any p)) ∧ Below w.heap.size w w' := by
 have HI := uH (idxFuncBr g cb p eg A n c ys w hp h); clear hp h; go_enter Tryz.func181, Tryz.ntmps181
 (go_wp2_with fail); refine HI.out.mono ?_; rintro e w1 ⟨r, rfl, hr, hb1⟩; have HF := uH hr.any; go_wp2; go_ret; exact ⟨ret_bool HF.out, hb1⟩
def sameB (y x : Br) : Bool := decide (x.mark = y.mark) || decide (x.words = y.words)
theorem takenBr (y : Br) (ys : List Br) (w : World) (b : Nat) (hk : Blk w b 34 #[.string (mkStr y.mark), .slice y.A y.n y.c]) (hy : BrIn w w.heap.size y) :
  PredBr 182 #[.pointer (some ⟨b, 0, none⟩)] (sameB y) ys w := by
 intro W x hb _ hx; have HK : Hid (Blk (W.alloc (.cells #[.string (mkStr x.mark), .slice x.A x.n x.c] 34)) b 34 #[.string (mkStr y.mark), .slice y.A y.n y.c]) := uH ((hk.below hb).alloc _); have b0 : Below W.heap.size W (W.alloc (.cells #[.string (mkStr x.mark), .slice x.A x.n x.c] 34)) := (Below.refl _ _).alloc (Nat.le_refl _) _; have HE := uH (equalWds x.A x.n x.c y.A y.n y.c x.words y.words _ (BrIn.keep hx b0) (BrIn.keep (BrIn.keep hy hb) b0)); have k0 := HK.out.cell 0; have k1 := HK.out.cell 1; have hq := beq_str (mkStr y.mark) x.mark y.mark rfl; clear hk hy hx; unfold brV sameB
 show Calls Tryz.prog 182 #[.agg #[.string (mkStr x.mark), .slice x.A x.n x.c], .pointer (some ⟨b, 0, none⟩)] W _
 by_cases h1 : x.mark = y.mark
 ·rw [decide_eq_true h1] at hq ⊢; clear h1 HE; go_enter Tryz.func182, Tryz.ntmps182
  go_wp2; go_ret; exact ⟨rfl, b0⟩
 ·rw [decide_eq_false h1] at hq ⊢; clear h1; go_enter Tryz.func182, Tryz.ntmps182
  (go_wp2_with fail); refine HE.out.mono ?_; rintro e w1 ⟨rfl, hb1⟩; have b1 := below_next b0 hb1; clear hb1 HE; go_wp2; go_ret; exact ⟨by simp, b1⟩
theorem bf_bad {x : Br} (h : ¬ ((1 ≤ x.mark.length ∧ x.mark.length ≤ 3) ∧ 1 ≤ x.words.length ∧ x.words.length ≤ 3)) : bfB x.dat = false := by
 rw [Bool.eq_false_iff]; intro e; obtain ⟨h1, h2⟩ := bfB_iff.1 e; exact h ⟨markB_len h1, bwB_len h2⟩
theorem bw_sp {ws : List Wd} (h : 1 ≤ ws.length ∧ ws.length ≤ 3) : bwB ws = spB ws := by
 unfold bwB spB; rw [decide_eq_true h, decide_eq_true (by omega)]
set_option maxHeartbeats 1600000 in
theorem implBriefValid (x : Br) (w : World) (hs : SmB x) (hx : BrIn w w.heap.size x) :
  Calls Tryz.prog 184 #[brV x] w fun e w' => e = .returned (.bool (bfB x.dat)) ∧ Below w.heap.size w w' := by
 have b0 : Below w.heap.size w (w.alloc (.cells #[.string (mkStr x.mark), .slice x.A x.n x.c] 34)) := (Below.refl _ _).alloc (Nat.le_refl _) _; have k0 := newcell w #[.string (mkStr x.mark), .slice x.A x.n x.c] 34 0 _ rfl; have k1 := newcell w #[.string (mkStr x.mark), .slice x.A x.n x.c] 34 1 _ rfl; have HSp := uH (implSpeechValid x.A x.n x.c x.words _ hs.2 (BrIn.keep hx b0)); have HSz : Hid ((mkStr x.mark).size = x.mark.length) := uH (mkStr_size _); have HXl : Hid (x.words.length = x.n) := uH hx.1; have hml := hs.1; unfold maxLen at hml; have hsz : (mkStr x.mark).size ≤ 9223372036854775807 := (by rw [HSz.out]; exact hml); unfold brV; by_cases hg : (1 ≤ x.mark.length ∧ x.mark.length ≤ 3) ∧ 1 ≤ x.n ∧ x.n ≤ 3
 ·obtain ⟨⟨g1, g2⟩, g3, g4⟩ := hg; have m1 : 1 ≤ (mkStr x.mark).size := (by rw [HSz.out]; exact g1); have m2 : (mkStr x.mark).size ≤ 3 := (by rw [HSz.out]; exact g2); have HD : Hid (bfB x.dat = (markB (mkStr x.mark).data.toList && spB x.words)) := uH (by
   rw [mkStr_data]; unfold bfB; rw [show bwB x.dat.words = spB x.words from bw_sp (by show 1 ≤ x.words.length ∧ x.words.length ≤ 3; rw [HXl.out]; exact ⟨g3, g4⟩)]; rfl)
  rw [HD.out]; clear HD hs hx hml; generalize mkStr x.mark = s at *; go_enter Tryz.func184, Tryz.ntmps184
  go_wp2
  go_loop [29] (fun i => ∃ k : Nat, k ≤ s.size ∧ i = .int .i64 k ∧ Hid ((s.data.toList.take k).all capB = true)) (fun i => s.size - (intOf i).toNat)
  case atStart => exact ⟨0, Nat.zero_le _, rfl, uH rfl⟩
  case round =>
   obtain ⟨k, hk, rfl, hall⟩ := hrel; by_cases hlt : k < s.size
   ·go_wp2
    ·go_ret; exact ⟨ret_bool (by rw [cap_bad s k hlt (by omega)]; rfl), b0⟩
    ·go_round
     case rel => exact ⟨k + 1, by omega, by go_num, uH (cap_step s k hlt hall.out (by omega) (by omega))⟩
     case measure => simp [intOf]; omega
    ·go_ret; exact ⟨ret_bool (by rw [cap_bad s k hlt (by omega)]; rfl), b0⟩
   ·have HM : Hid (markB s.data.toList = true) := uH (by rw [cap_done s k hlt hall.out]; simp; omega); (go_wp2_with fail); refine HSp.out.mono ?_; rintro e w1 ⟨rfl, rfl⟩; go_wp2; go_ret; exact ⟨ret_bool (by rw [HM.out]; rfl), b0⟩
 ·have HF : Hid (bfB x.dat = false) := uH (bf_bad (by rw [HXl.out]; exact hg)); have hn1 : x.n ≤ 9223372036854775807 := (by have := hx.2.1; have := hx.2.2.1; unfold maxLen at this; omega); rw [HF.out]; clear hs hx HSp; by_cases a1 : x.mark.length < 1
  ·have m1 : (mkStr x.mark).size < 1 := (by rw [HSz.out]; exact a1); go_enter Tryz.func184, Tryz.ntmps184
   go_wp2; go_ret; exact ⟨rfl, b0⟩
  by_cases a2 : 3 < x.mark.length
  ·have m1 : 3 < (mkStr x.mark).size := (by rw [HSz.out]; exact a2); go_enter Tryz.func184, Tryz.ntmps184
   go_wp2; go_ret; exact ⟨rfl, b0⟩
  have m1 : 1 ≤ (mkStr x.mark).size := (by rw [HSz.out]; omega); have m2 : (mkStr x.mark).size ≤ 3 := (by rw [HSz.out]; omega); by_cases a3 : x.n < 1
  ·go_enter Tryz.func184, Tryz.ntmps184
   go_wp2; go_ret; exact ⟨rfl, b0⟩
  ·have a4 : 3 < x.n := (by omega); go_enter Tryz.func184, Tryz.ntmps184
   go_wp2; go_ret; exact ⟨rfl, b0⟩
theorem BrsIn.upto {w : World} {B n c k : Nat} {A : Option Addr} {xs : List Br} (h : BrsIn w B A n c xs) (hk : k ≤ n) : BrsIn w B A k c (xs.take k) :=
 ⟨by rw [List.length_take, h.1]; omega, Nat.le_trans hk h.2.1, h.2.2.1, by have := h.2.2.2.1.take hk; rw [flat_take brC_len] at this; exact this, fun x hx => h.2.2.2.2 x (List.mem_of_mem_take hx)⟩
theorem taken_no {xs : List Br} {k : Nat} (hk : k < xs.length) (h : (xs.take k).any (sameB (brAt xs k)) = false) : brJ (xs.map Br.dat) k k := fun i hi => by
 rw [List.any_eq_false] at h; have h1 : brAt xs i ∈ xs.take k := by
  have h2 := brAt_some (xs := xs) (k := i) (by omega); have h3 : (xs.take k)[i]? = some (brAt xs i) := (by rw [List.getElem?_take_of_lt hi]; exact h2); exact List.mem_of_getElem? h3
 have h4 := h _ h1; rw [brAt_dat hk, brAt_dat (by omega)]; unfold sameB at h4; simp only [Bool.or_eq_true, decide_eq_true_eq, not_or] at h4; exact h4
theorem taken_yes {xs : List Br} {k : Nat} (hk : k < xs.length) (h : (xs.take k).any (sameB (brAt xs k)) = true) : ¬ brGood (xs.map Br.dat) k := fun hg => by
 obtain ⟨x, hx, h1⟩ := List.any_eq_true.1 h; obtain ⟨i, hi, rfl⟩ := List.getElem_of_mem hx; rw [List.length_take] at hi; have h2 := hg.2 i (by omega); rw [brAt_dat hk, brAt_dat (by omega)] at h2; have h3 : (xs.take k)[i] = brAt xs i := by
  have h4 := brAt_some (xs := xs) (k := i) (by omega); rw [List.getElem?_eq_getElem (by omega)] at h4; injection h4 with h4; rw [List.getElem_take, h4]
 rw [h3] at h1; unfold sameB at h1; simp only [Bool.or_eq_true, decide_eq_true_eq] at h1; exact h1.elim h2.1 h2.2
set_option maxHeartbeats 1600000 in
theorem implBriefsValid (A : Option Addr) (n c : Nat) (xs : List Br) (w : World) (hX : OkBs xs) (h : BrsIn w w.heap.size A n c xs) :
  Calls Tryz.prog 122 #[.slice A n c] w fun e w' => e = .returned (.bool (brsB (xs.map Br.dat))) ∧ Below w.heap.size w w' := by
 have hm := h.2.2.1; have hnc := h.2.1; unfold maxLen at hm; have HL := uH h.1; have H := uH h; have HX := uH hX; by_cases h8 : 8 < n
 ·have HF : Hid (brsB (xs.map Br.dat) = false) := uH (brsB_long (by rw [List.length_map, HL.out]; exact h8)); clear h hX; go_enter Tryz.func122, Tryz.ntmps122
  go_wp2; go_ret; exact ⟨ret_bool HF.out.symm, Below.refl _ _⟩
 have HN : Hid (∀ k, k < n → ¬ brGood (xs.map Br.dat) k → brsB (xs.map Br.dat) = false) := uH (fun k hk hn => brsB_no (by rw [List.length_map, HL.out]; exact hk) hn); have HY : Hid (brK (xs.map Br.dat) n → brsB (xs.map Br.dat) = true) := uH (fun h => brsB_iff.2 ⟨by rw [List.length_map, HL.out]; omega, fun i hi => h i (by rw [List.length_map, HL.out] at hi; exact hi)⟩); have hmf : ∀ (fn : Fn) (first cap : Array Value) (w : World), (Instr.makeFunc fn first cap).run Tryz.prog w = .ok (.func fn first cap) w := fun _ _ _ _ => rfl; clear h hX; generalize brsB (xs.map Br.dat) = T at *; go_enter Tryz.func122, Tryz.ntmps122
 go_wp2; go_loopw [11] (fun i wr => ∃ k : Nat, k ≤ n ∧ i = .int .i64 k ∧ Hid (brK (xs.map Br.dat) k) ∧ Below w.heap.size w wr) (fun i _ => n - (intOf i).toNat)
 case atStart => exact ⟨0, Nat.zero_le _, rfl, uH (fun i hi => by omega), Below.refl _ _⟩
 case round =>
  obtain ⟨k, hk, rfl, HK, hb⟩ := hrel; by_cases hlt : k < n
  ·have hkl : k < xs.length := (by rw [HL.out]; exact hlt); have Hw := uH (H.out.keep hb); obtain ⟨b, off, rfl, hbB, c0, c1, hI⟩ := Hw.out.at_ hlt; have i1 : (0 : Int) ≤ (k : Int) := (by omega); have i2 : (k : Int) < (n : Int) := (by omega); have b0 : Below wr.heap.size wr (wr.alloc (.cells #[.string (mkStr (brAt xs k).mark), .slice (brAt xs k).A (brAt xs k).n (brAt xs k).c] 34)) := (Below.refl _ _).alloc (Nat.le_refl _) _; have HBk : Hid (Blk (wr.alloc (.cells #[.string (mkStr (brAt xs k).mark), .slice (brAt xs k).A (brAt xs k).n (brAt xs k).c] 34)) wr.heap.size 34 #[.string (mkStr (brAt xs k).mark), .slice (brAt xs k).A (brAt xs k).n (brAt xs k).c]) := uH (Blk.new _ _ _); have hIb := BrIn.keep hI b0; have HCt := uH (containsBr 182 _ _ (fun _ _ => rfl) (some ⟨b, off, none⟩) k c (xs.take k) _ (takenBr (brAt xs k) (xs.take k) _ wr.heap.size HBk.out hIb) ((Hw.out.keep b0).upto hk)); have HBv := uH (fun W (hW : Below wr.heap.size wr W) => implBriefValid (brAt xs k) W (HX.out _ (brAt_mem hkl)) (BrIn.keep hI hW)); have HN1 : Hid ((xs.take k).any (sameB (brAt xs k)) = true → T = false) := uH (fun h => HN.out k hlt (taken_yes hkl h)); have HN2 : Hid (bfB (brAt xs k).dat = false → T = false) := uH (fun h => HN.out k hlt (fun hg => by have := hg.1; rw [brAt_dat hkl, h] at this; cases this)); have HN3 : Hid ((xs.take k).any (sameB (brAt xs k)) = false → bfB (brAt xs k).dat = true → brK (xs.map Br.dat) (k + 1)) := uH (fun h1 h2 => brK_succ HK.out ⟨by rw [brAt_dat hkl]; exact h2, taken_no hkl h1⟩); unfold brV at HBv; clear hI hIb Hw hkl; generalize brAt xs k = x at *; cases h1 : (xs.take k).any (sameB x) with
   | true =>
    have HF := uH (HN1.out h1); rw [h1] at HCt; clear h1 HN1 HN2 HN3 HBv HBk; (go_wp2_with fail); refine HCt.out.mono ?_; rintro e w1 ⟨rfl, hb1⟩; have b2 := below_next (below_next hb b0) hb1; clear hb1 HCt; go_wp2; go_ret; exact ⟨ret_bool HF.out.symm, b2⟩
   | false =>
    rw [h1] at HCt; have HN4 := uH (HN3.out h1); clear h1 HN1 HN3; (go_wp2_with fail); refine HCt.out.mono ?_; rintro e w1 ⟨rfl, hb1⟩; have k0 := (HBk.out.below hb1).cell 0; have k1 := (HBk.out.below hb1).cell 1; have HBv1 := uH (HBv.out w1 (below_next b0 hb1)); have b2 := below_next (below_next hb b0) hb1; clear hb1 HCt HBv HBk b0; cases h2 : bfB x.dat with
    | false =>
     have HF := uH (HN2.out h2); rw [h2] at HBv1; clear h2 HN2 HN4; (go_wp2_with fail); refine HBv1.out.mono ?_; rintro e w2 ⟨rfl, hb2⟩; have b3 := below_next b2 hb2; clear hb2 HBv1; go_wp2; go_ret; exact ⟨ret_bool HF.out.symm, b3⟩
    | true =>
     have HF := uH (HN4.out h2); rw [h2] at HBv1; clear h2 HN2 HN4; (go_wp2_with fail); refine HBv1.out.mono ?_; rintro e w2 ⟨rfl, hb2⟩; have b3 := below_next b2 hb2; clear hb2 HBv1 c0 c1 k0 k1; go_wp2; go_roundw
     case rel => exact ⟨k + 1, by omega, by go_num, HF, b3⟩
     case measure => simp [intOf] <;> omega
  ·obtain rfl : k = n := (by omega); have HF := uH (HY.out HK.out); go_wp2; go_ret; exact ⟨ret_bool HF.out.symm, hb⟩
end Go.Proofs.YtbkhnljaajajiaaGreatDoor
namespace Go.Proofs.YtbkhnljaajajiaaGreatDoor
open Go.ChangeShapes Go.WideShapes Go.ChangeAt Go.RowKit
def deskV (A : Option Addr) (n c : Nat) (A' : Option Addr) (n' c' : Nat) : Value := .agg #[.slice A n c, .slice A' n' c']
theorem implDeskOf (A : Option Addr) (n c : Nat) (xs : List Br) (A' : Option Addr) (n' c' : Nat) (ws : List Wd) (w : World) (hX : OkBs xs) (hW : ∀ l ∈ ws, l.length ≤ maxLen) (h : BrsIn w w.heap.size A n c xs) (h' : WdsIn w w.heap.size A' n' c' ws) :
  Calls Tryz.prog 58 #[.slice A n c, .slice A' n' c'] w fun e w' => e = .returned (.tuple #[if (brsB (xs.map Br.dat) && spB ws) = true then deskV A n c A' n' c' else deskV none 0 0 none 0 0, .bool (brsB (xs.map Br.dat) && spB ws)]) ∧ Below w.heap.size w w' := by
 have ba : Below w.heap.size w (w.alloc (.cells #[.slice none 0 0, .slice none 0 0] 97)) := (Below.refl _ _).alloc (Nat.le_refl _) _; have HB := uH (implBriefsValid A n c xs _ hX (h.keep ba)); have HS := uH (fun W (hb : Below w.heap.size w W) => implSpeechValid A' n' c' ws W hW (h'.keep hb)); have K : Hid (Blk (w.alloc (.cells #[.slice none 0 0, .slice none 0 0] 97)) w.heap.size 97 #[.slice none 0 0, .slice none 0 0]) := uH (Blk.new _ _ _); have hsz : w.heap.size < (w.alloc (.cells #[.slice none 0 0, .slice none 0 0] 97)).heap.size := (by simp); clear h h' hX hW; unfold deskV; cases h1 : brsB (xs.map Br.dat) with
 | false =>
  rw [h1] at HB; rw [Bool.false_and, if_neg (by simp)]; clear h1 HS; go_enter Tryz.func58, Tryz.ntmps58
  (go_wp2_with fail); refine HB.out.mono ?_; rintro e w1 ⟨rfl, hb⟩; have K1 := K.out.below hb; have m0 := K1.cell 0; have m1 := K1.cell 1; have f0 := K1.free 0; have f1 := K1.free 1; have b1 := (below_next ba hb).setCell (p := ⟨w.heap.size, 0, none⟩) (Nat.le_refl _) (.slice none 0 0); have b2 := b1.setCell (p := ⟨w.heap.size, 1, none⟩) (Nat.le_refl _) (.slice none 0 0); have K2 := (K1.set 0 (.slice none 0 0)).set 1 (.slice none 0 0); have q0 := K2.cell 0; have q1 := K2.cell 1; have B2 := uH b2; clear HB hb b1 b2 K1 K2 K; go_wp2; refine bodyPost_ret (v := .tuple #[.agg #[.slice none 0 0, .slice none 0 0], .bool false]) (by simp [results, Tryz.results58, go_sem, q0, q1]) rfl ?_; exact ⟨rfl, B2.out⟩
 | true =>
  rw [h1] at HB; clear h1; cases h2 : spB ws with
  | false =>
   rw [h2] at HS; rw [Bool.and_false, if_neg (by simp)]; clear h2; go_enter Tryz.func58, Tryz.ntmps58
   (go_wp2_with fail); refine HB.out.mono ?_; rintro e w1 ⟨rfl, hb⟩; have HS1 := uH (HS.out w1 (below_next ba hb)); (go_wp2_with fail); refine HS1.out.mono ?_; rintro e w2 ⟨rfl, rfl⟩; have K1 := K.out.below hb; have m0 := K1.cell 0; have m1 := K1.cell 1; have f0 := K1.free 0; have f1 := K1.free 1; have b1 := (below_next ba hb).setCell (p := ⟨w.heap.size, 0, none⟩) (Nat.le_refl _) (.slice none 0 0); have b2 := b1.setCell (p := ⟨w.heap.size, 1, none⟩) (Nat.le_refl _) (.slice none 0 0); have K2 := (K1.set 0 (.slice none 0 0)).set 1 (.slice none 0 0); have q0 := K2.cell 0; have q1 := K2.cell 1; have B2 := uH b2; clear HB hb b1 b2 K1 K2 K HS HS1; go_wp2; refine bodyPost_ret (v := .tuple #[.agg #[.slice none 0 0, .slice none 0 0], .bool false]) (by simp [results, Tryz.results58, go_sem, q0, q1]) rfl ?_; exact ⟨rfl, B2.out⟩
  | true =>
   rw [h2] at HS; rw [Bool.and_true, if_pos rfl]; clear h2; go_enter Tryz.func58, Tryz.ntmps58
   (go_wp2_with fail); refine HB.out.mono ?_; rintro e w1 ⟨rfl, hb⟩; have HS1 := uH (HS.out w1 (below_next ba hb)); (go_wp2_with fail); refine HS1.out.mono ?_; rintro e w2 ⟨rfl, rfl⟩; have K1 := K.out.below hb; have m0 := K1.cell 0; have m1 := K1.cell 1; have f0 := K1.free 0; have f1 := K1.free 1; have b1 := (below_next ba hb).setCell (p := ⟨w.heap.size, 0, none⟩) (Nat.le_refl _) (.slice A n c); have b2 := b1.setCell (p := ⟨w.heap.size, 1, none⟩) (Nat.le_refl _) (.slice A' n' c'); have K2 := (K1.set 0 (.slice A n c)).set 1 (.slice A' n' c'); have q0 := K2.cell 0; have q1 := K2.cell 1; have B2 := uH b2; clear HB hb b1 b2 K1 K2 K HS HS1; go_wp2; refine bodyPost_ret (v := .tuple #[.agg #[.slice A n c, .slice A' n' c'], .bool true]) (by simp [results, Tryz.results58, go_sem, q0, q1]) rfl ?_; exact ⟨rfl, B2.out⟩
def tkC (t : Tk) : List Value := [.int .i64 t.brief, .int .i64 (t.width : Int), .int .i64 (t.cost : Int)]
theorem tkC_len (t : Tk) : (tkC t).length = 3 := rfl
def TkOwn (w : World) (B : Nat) (v : Value) (ts : List Tk) : Prop := w.ownsRow B 103 3 v ts.length (ts.flatMap tkC)
theorem infoTk : (Tryz.prog.info? 103).map (fun i => (i.zero, i.size, i.bytes)) = some (some (.agg #[.int .i64 0, .int .i64 0, .int .i64 0]), 3, 24) := by kernel_rfl
theorem rowNewTk (w : World) (u1 u2 u3 : Value) (t : TypeId) : Row (w.alloc (.cells #[u1, u2, u3] t)) (w.heap.size + 1) (some ⟨w.heap.size, 0, none⟩) 1 3 [u1, u2, u3] := by
 refine ⟨rfl, fun _ => ⟨w.heap.size, 0, rfl, by omega, fun j x hj => ?_⟩⟩; rw [World.cell?_alloc_at _ t w.heap.size (0 + j) rfl]; simpa using hj
theorem TkOwn.keepT {w w' : World} {B : Nat} {v : Value} {ts : List Tk} (h : TkOwn w B v ts) (hb : Below w.heap.size w w') : TkOwn w' B v ts := ownG_keep h hb
def TkAns (w' : World) (B : Nat) (ts : List Tk) (e : Ending) : Prop := ∃ A c, e = .returned (.slice A ts.length c) ∧ TkOwn w' B (.slice A ts.length c) ts
theorem toks_step {bs : List Bf} {ws : List Wd} {k : Nat} (h : k < bs.length) : toksG ws 0 (bs.take (k + 1)) = toksG ws 0 (bs.take k) ++ (if hitB ws (bfAt bs k) = true then [⟨(k : Int), (bfAt bs k).words.length, (bfAt bs k).mark.length⟩] else []) := by
 rw [List.take_succ_eq_append_getElem h, toksG_snoc, bfAt_get h, List.length_take, Nat.min_eq_left (by omega), Nat.zero_add]
set_option maxHeartbeats 3200000 in
theorem implTokensAt (A : Option Addr) (n c : Nat) (xs : List Br) (A' : Option Addr) (n' c' : Nat) (ws : List Wd) (i : Nat) (w : World) (hv : brsB (xs.map Br.dat) = true) (hs : spB ws = true) (hi : i < n') (h : BrsIn w w.heap.size A n c xs) (h' : WdsIn w w.heap.size A' n' c' ws) :
  Calls Tryz.prog 186 #[deskV A n c A' n' c', .int .i64 (i : Int)] w fun e w' => TkAns w' w.heap.size (toksAt (xs.map Br.dat) (ws.drop i)) e ∧ Below w.heap.size w w' := by
 obtain ⟨bs, hbs⟩ : ∃ bs, bs = xs.map Br.dat := ⟨_, rfl⟩; rw [← hbs] at hv ⊢; have hn20 : n' ≤ 20 := (by have := (spB_iff.1 hs).2; rw [h'.1] at this; exact this); have hn8 : n ≤ 8 := (by have := (brsB_iff.1 hv).1; rw [hbs, List.length_map, h.1] at this; exact this); have HLb : Hid (bs.length = n) := uH (by rw [hbs, List.length_map, h.1]); have HL := uH h.1; have HDat : Hid (∀ k, k < n → bfAt bs k = (brAt xs k).dat) := uH (fun k hk => by rw [hbs]; exact brAt_dat (by rw [HL.out]; exact hk)); have HMk : Hid (∀ k, k < n → (brAt xs k).mark.length ≤ 3 ∧ (brAt xs k).n ≤ 3) := uH (fun k hk => by
  have h1 := brsB_mem hv _ (bfAt_mem (bs := bs) (k := k) (by rw [HLb.out]; exact hk)); rw [HDat.out k hk] at h1; obtain ⟨h2, h3⟩ := bfB_iff.1 h1; have h4 := (h.2.2.2.2 _ (brAt_mem (xs := xs) (k := k) (by rw [HL.out]; exact hk))).1; exact ⟨(markB_len h2).2, by rw [← h4]; exact (bwB_len h3).2⟩)
 have HXl : Hid (∀ k, k < n → (brAt xs k).words.length = (brAt xs k).n) := uH (fun k hk => (h.2.2.2.2 _ (brAt_mem (xs := xs) (k := k) (by rw [HL.out]; exact hk))).1); have H := uH h; have hnc' := h'.2.1; have hcm' := h'.2.2.1; unfold maxLen at hcm'; have hfr : ∀ V, (Instr.slice 27 (.slice A' n' c') (some (.int .i64 (i : Int))) none none).run Tryz.prog V = .ok (.slice (fromB A' i c' 1) (n' - i) (c' - i)) V := fun V => run_fromS elemW sizeW A' n' c' i (by omega) V; have HR : Hid (∀ W, Below w.heap.size w W → WdsIn W W.heap.size (fromB A' i c' 1) (n' - i) (c' - i) (ws.drop i)) := uH (fun W hb => (h'.keep hb).fromS (by omega)); obtain ⟨WD, hWD⟩ : ∃ WD, WD = ws.drop i := ⟨_, rfl⟩; have HLr : Hid (WD.length = n' - i) := uH (by rw [hWD, List.length_drop, h'.1]); have HW12 : Hid ((wdAt WD 0).length ≤ 12 ∧ wdAt WD 0 = WD.headD []) := uH (by
  have h1 : i < ws.length := (by rw [h'.1]; exact hi); have h2 : wdAt WD 0 = WD.headD [] := by cases WD <;> rfl
  refine ⟨word_len12 ((spB_iff.1 hs).1 _ (List.mem_of_mem_drop (i := i) ?_)), h2⟩; rw [← hWD]; exact wdAt_mem (by rw [HLr.out]; omega))
 rw [← hWD] at HR ⊢; clear h h' hv hs hbs hWD; have hRp : 0 < n' - i := (by omega); have hCr : n' - i ≤ c' - i := (by omega); have hR20 : n' - i ≤ 20 := (by omega); have hC2 : c' - i ≤ 9223372036854775807 := (by omega); generalize fromB A' i c' 1 = AR at *; generalize n' - i = R at *; generalize c' - i = C at *; obtain ⟨j0, hj, hy0, hy1, hy2⟩ := info_parts infoTk; have b0 : Below w.heap.size w (w.alloc (.cells #[.slice A n c, .slice A' n' c'] 97)) := (Below.refl _ _).alloc (Nat.le_refl _) _; have KD : Hid (Blk (w.alloc (.cells #[.slice A n c, .slice A' n' c'] 97)) w.heap.size 97 #[.slice A n c, .slice A' n' c']) := uH (Blk.new _ _ _); have k0 := KD.out.cell 0; have k1 := KD.out.cell 1; have ba := b0.alloc b0.size (.cells #[] 103); have HO0 : Hid (TkOwn ((w.alloc (.cells #[.slice A n c, .slice A' n' c'] 97)).alloc (.cells #[] 103)) w.heap.size (.slice (some ⟨w.heap.size + 1, 0, none⟩) 0 0) []) := uH (by
  have := World.ownsRow_made (base := w.heap.size) (e := 103) (size := 3) (w.alloc (.cells #[.slice A n c, .slice A' n' c'] 97)) #[] 0 b0.size (by simp) (by simp); rw [World.size_alloc] at this; exact this)
 have m0 := Lib.cell?_alloc_some (.cells #[] 103) k0; have m1 := Lib.cell?_alloc_some (.cells #[] 103) k1; unfold deskV; go_enter Tryz.func186, Tryz.ntmps186
 go_wp2; clear hfr; go_loopw [5, 18] (fun s5 s18 wr => ∃ (k : Nat) (v : Value), k ≤ n ∧ s5 = v ∧ s18 = .int .i64 k ∧ Hid (TkOwn wr w.heap.size v (toksG WD 0 (bs.take k))) ∧ Below w.heap.size w wr) (fun _ s18 _ => n - (intOf s18).toNat)
 case atStart => exact ⟨0, _, Nat.zero_le _, rfl, rfl, HO0, ba⟩
 case round =>
  obtain ⟨k, v, hk, rfl, rfl, HO, hb⟩ := hrel; have hzw := hb.size; have i1 : (0 : Int) ≤ (k : Int) := (by omega); have htl : (toksG WD 0 (bs.take k)).length ≤ 8 := (by have := toksG_len WD (bs.take k) 0; rw [List.length_take] at this; omega); by_cases hlt : k < n
  ·have i2 : (k : Int) < (n : Int) := (by omega); obtain ⟨b, off, rfl, hbB, c0, c1, hI⟩ := (H.out.keep hb).at_ hlt; have hmk := HMk.out k hlt; have hst := toks_step (bs := bs) (ws := WD) (k := k) (by rw [HLb.out]; exact hlt); rw [HDat.out k hlt] at hst; have HXq := uH (HXl.out k hlt); have HSt : Hid (toksG WD 0 (bs.take (k + 1)) = toksG WD 0 (bs.take k) ++ (if hitB WD (brAt xs k).dat = true then [⟨(k : Int), (brAt xs k).n, (brAt xs k).mark.length⟩] else [])) := uH (by rw [hst, ← HXq.out]; rfl); clear hst; generalize brAt xs k = x at *; have hba : Below wr.heap.size wr (wr.alloc (.cells #[.string (mkStr x.mark), .slice x.A x.n x.c] 34)) := (Below.refl _ _).alloc (Nat.le_refl _) _; have x0 := newcell wr #[.string (mkStr x.mark), .slice x.A x.n x.c] 34 0 _ rfl; have x1 := newcell wr #[.string (mkStr x.mark), .slice x.A x.n x.c] 34 1 _ rfl; have HOa := uH (HO.out.keepT hba); have hbw := below_next hb hba; have hza := hbw.size; obtain ⟨m1', m2'⟩ := hmk; by_cases hle : x.n ≤ R
   ·have hs2 : ∀ V, (Instr.slice 27 (.slice AR R C) none (some (.int .i64 (x.n : Int))) none).run Tryz.prog V = .ok (.slice AR x.n C) V := fun V => run_uptoA elemW sizeW AR R C x.n (by omega) V; have HE : Hid (Calls Tryz.prog 183 #[.slice x.A x.n x.c, .slice AR x.n C] (wr.alloc (.cells #[.string (mkStr x.mark), .slice x.A x.n x.c] 34)).drew fun e w' => e = .returned (.bool (hitB WD x.dat)) ∧ Below (wr.alloc (.cells #[.string (mkStr x.mark), .slice x.A x.n x.c] 34)).drew.heap.size (wr.alloc (.cells #[.string (mkStr x.mark), .slice x.A x.n x.c] 34)).drew w') := uH (by
     have key : decide (x.words = WD.take x.n) = hitB WD x.dat := by
      unfold hitB Br.dat; refine decide_eq_decide.2 ?_
      show (x.words = WD.take x.n) ↔ (x.words.length ≤ WD.length ∧ WD.take x.words.length = x.words)
      rw [HXq.out, HLr.out]; exact ⟨fun h => ⟨hle, h.symm⟩, fun h => h.2.symm⟩
     rw [← key]; exact equalWds _ _ _ _ _ _ _ _ _ (BrIn.keep hI hba.drew) ((HR.out _ hbw.drew).upto hle))
    have l1 : (x.n : Int) ≤ (R : Int) := (by omega); have l2 : decide (x.n ≤ R) = true := decide_eq_true hle; clear hI HO; have x1d : (wr.alloc (.cells #[.string (mkStr x.mark), .slice x.A x.n x.c] 34)).drew.cell? ⟨wr.heap.size, 1, none⟩ = some (.slice x.A x.n x.c) := x1; cases hh : hitB WD x.dat with
    | true =>
     rw [hh] at HE HSt; clear hh; (go_wp2_with fail); go_region_held3 (fun w' => w'.cell? ⟨wr.heap.size, 1, none⟩ = some (.slice x.A x.n x.c)) (first | assumption | go_keep)
      (first
       | (go_at_call 183; refine HE.out.mono ?_; rintro e w5 ⟨rfl, hb5⟩; have n1 := kcell hb5 x1d))
     have n0 := kcell (below_next ((Below.refl _ _).drew) hb5) x0; have b5 := below_next hbw (below_next ((Below.refl _ _).drew) hb5); have HO5 : Hid (TkOwn w5 w.heap.size u5 (toksG WD 0 (bs.take k))) := uH (HOa.out.keepT (below_next ((Below.refl _ _).drew) hb5)); have hz5 := b5.size; have hsz : (mkStr x.mark).size = x.mark.length := mkStr_size _; have HSz := uH hsz; have hs3 : (mkStr x.mark).size ≤ 3 := (by omega); clear hsz hb5 HE HOa hbw hba n1 x1d hs2; generalize hsM : mkStr x.mark = sM at *; clear hsM; go_wp2_with (at_builtin; refine wpList_append_any _ rfl (.tmp 38) (.tmp 45) _ rfl w.heap.size 103 j0 _ 3 24 Tryz.underlying100 hj hy0 hy1 hy2 rfl (by omega) _ (toksG WD 0 (bs.take k)).length ((toksG WD 0 (bs.take k)).flatMap tkC) rfl (ownG_keep HO5.out ((Below.refl _ _).alloc (Nat.le_refl _) _)) (w5.heap.size + 1) (some ⟨w5.heap.size, 0, none⟩) 1 1 [.int .i64 (k : Int), .int .i64 (x.n : Int), .int .i64 (sM.size : Int)] (by simp [Act.eval, Act.put]) (rowNewTk _ _ _ _ _) (by simp [Value.oneCell']) (by unfold maxLen; omega) (by omega) (by simp; omega) ?_; intro v6 w6 hown6 hg6 hat6)
     have HO6 : Hid (TkOwn w6 w.heap.size v6 (toksG WD 0 (bs.take (k + 1)))) := uH (by
      rw [HSt.out, if_pos (by trivial)]; unfold TkOwn; rw [List.length_append, List.flatMap_append]; rw [HSz.out] at hown6; exact hown6)
     have b6 : Below w.heap.size w w6 := (b5.alloc hz5 _).grown hg6 (by simp; omega) (fun q hq => ownG_base HO5.out hq); clear hown6 hg6 hat6 HO5 HSt n0 x0 x1 c0 c1 HSz; go_wp2; go_roundw
     case rel => exact ⟨k + 1, v6, by omega, rfl, by go_num, HO6, b6⟩
     case measure => simp [intOf] <;> omega
    | false =>
     rw [hh] at HE HSt; clear hh; have HF : Hid (toksG WD 0 (bs.take (k + 1)) = toksG WD 0 (bs.take k)) := uH (by rw [HSt.out, if_neg (by simp), List.append_nil]); (go_wp2_with fail); go_region_held3 (fun w' => w'.cell? ⟨wr.heap.size, 1, none⟩ = some (.slice x.A x.n x.c)) (first | assumption | go_keep)
      (first
       | (go_at_call 183; refine HE.out.mono ?_; rintro e w5 ⟨rfl, hb5⟩; have n1 := kcell hb5 x1d))
     have b5 := below_next hbw (below_next ((Below.refl _ _).drew) hb5); have HO5 : Hid (TkOwn w5 w.heap.size u5 (toksG WD 0 (bs.take (k + 1)))) := uH (by rw [HF.out]; exact HOa.out.keepT (below_next ((Below.refl _ _).drew) hb5)); clear hb5 HE HOa hbw hba n1 x1d hs2 HSt HF x0 x1 c0 c1; go_wp2; go_roundw
     case rel => exact ⟨k + 1, _, by omega, rfl, by go_num, HO5, b5⟩
     case measure => simp [intOf] <;> omega
   ·have HF : Hid (toksG WD 0 (bs.take (k + 1)) = toksG WD 0 (bs.take k)) := uH (by
     rw [HSt.out, if_neg, List.append_nil]; intro e; have := hitB_len e; unfold Br.dat at this; simp only [HXq.out, HLr.out] at this; omega)
    have HO5 : Hid (TkOwn (wr.alloc (.cells #[.string (mkStr x.mark), .slice x.A x.n x.c] 34)) w.heap.size u5 (toksG WD 0 (bs.take (k + 1)))) := uH (by rw [HF.out]; exact HOa.out); have l1 : ¬ (x.n : Int) ≤ (R : Int) := (by omega); have l2 : decide (x.n ≤ R) = false := decide_eq_false hle; have l3 : decide ((x.n : Int) ≤ (R : Int)) = false := decide_eq_false l1; have l4 : R < x.n := (by omega); have l5 : (R : Int) < (x.n : Int) := (by omega); clear hI HO HOa HSt HF hle l1; (go_wp2_with fail); refine region_qb (by kernel_rfl) (by kernel_rfl) ?_; repeat (first | go_big_quiet_step (fail) | quiet_step (fail))
    refine wpQuiet_nil ?_; intro w5 hb5; have b5 := below_next hbw hb5; have HO6 := uH (HO5.out.keepT hb5); clear hb5 hbw hba HO5 x0 x1 c0 c1 l2 l3 l4 l5; go_wp2; go_roundw
    case rel => exact ⟨k + 1, _, by omega, rfl, by go_num, HO6, b5⟩
    case measure => simp [intOf] <;> omega
  ·obtain rfl : k = n := (by omega); obtain ⟨b, off, eA, hbB, c0⟩ := (HR.out wr hb).at_ (k := 0) hRp; have HTk : Hid (toksAt bs WD = toksG WD 0 (bs.take k) ++ [⟨-1, 1, (wdAt WD 0).length⟩]) := uH (by
    unfold toksAt; rw [HW12.out.2, ← HLb.out, List.take_length])
   subst eA; rw [Nat.add_zero] at c0; have hsz : (mkStr (wdAt WD 0)).size = (wdAt WD 0).length := mkStr_size _; have HSz := uH hsz; have hs12 : (mkStr (wdAt WD 0)).size ≤ 12 := (by have := HW12.out.1; omega); have z1 : (0 : Int) < (R : Int) := (by omega); clear hsz; generalize hsM : mkStr (wdAt WD 0) = sM at *; clear hsM; go_wp2_with (at_builtin; refine wpList_append_any _ rfl (.tmp 48) (.tmp 54) _ rfl w.heap.size 103 j0 _ 3 24 Tryz.underlying100 hj hy0 hy1 hy2 rfl (by omega) _ (toksG WD 0 (bs.take k)).length ((toksG WD 0 (bs.take k)).flatMap tkC) rfl (ownG_keep HO.out ((Below.refl _ _).alloc (Nat.le_refl _) _)) (wr.heap.size + 1) (some ⟨wr.heap.size, 0, none⟩) 1 1 [.int .i64 (-1), .int .i64 1, .int .i64 (sM.size : Int)] (by simp [Act.eval, Act.put]) (rowNewTk _ _ _ _ _) (by simp [Value.oneCell']) (by unfold maxLen; omega) (by omega) (by simp; omega) ?_; intro v6 w6 hown6 hg6 hat6)
   have HO6 : Hid (TkOwn w6 w.heap.size v6 (toksAt bs WD)) := uH (by
    rw [HTk.out]; unfold TkOwn; rw [List.length_append, List.flatMap_append]; rw [HSz.out] at hown6; exact hown6)
   have b6 : Below w.heap.size w w6 := (hb.alloc hzw _).grown hg6 (by simp; omega) (fun q hq => ownG_base HO.out hq); obtain ⟨A6, c6, rfl, _, _⟩ := ownG_form HO6.out; have HF : Hid (TkAns w6 w.heap.size (toksAt bs WD) (.returned (.slice A6 (toksAt bs WD).length c6))) := uH ⟨A6, c6, rfl, HO6.out⟩; clear hown6 hg6 hat6 HO HTk HSz HO6; generalize (toksAt bs WD).length = N at *; go_wp2; go_ret; exact ⟨HF.out, b6⟩
end Go.Proofs.YtbkhnljaajajiaaGreatDoor
