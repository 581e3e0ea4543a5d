/-
  Contracts and plain laws that the proof of the law ExactExecute leans on. Conditions: as each says.
-/
import Derived.Test.YtbkhnljaajajiaaGreatDoorPExactExecute03
import Derived.Test.YtbkhnljaajajiaaGreatDoorPExactExecute04
import Derived.Test.YtbkhnljaajajiaaGreatDoorPExactExecute11
import Derived.Test.YtbkhnljaajajiaaGreatDoorPExactExecute18
import Derived.Test.YtbkhnljaajajiaaGreatDoorPExactExecute19
set_option maxRecDepth 100000
set_option linter.unusedSimpArgs false
set_option linter.unusedVariables false
set_option linter.unnecessarySimpa false
namespace Go.Proofs.YtbkhnljaajajiaaGreatDoor
open Go.ChangeShapes Go.WideShapes Go.ChangeAt Go.RowKit
def curF (b : List Wd) (i k fA fB : Nat) : Option Mk := if fA < i ∨ fB < k then some ⟨fA, i - fA, (b.drop fB).take (k - fB)⟩ else none
theorem curF_of {b : List Wd} {i k fA fB : Nat} (h1 : fA ≤ i) (h2 : fB ≤ k) : curOf i (curF b i k fA fB) = ⟨fA, i - fA, (b.drop fB).take (k - fB)⟩ := by
 unfold curF curOf; by_cases h : fA < i ∨ fB < k
 ·rw [if_pos h]; rfl
 ·rw [if_neg h]; have e1 : fA = i := (by omega); have e2 : fB = k := (by omega); subst e1 e2; simp
theorem curF_new (b : List Wd) (i k : Nat) : curF b i k i k = none := if_neg (by omega)
theorem curF_cut {b : List Wd} {i k fA fB : Nat} (h1 : fA ≤ i) (h2 : fB ≤ k) : some (⟨(curOf i (curF b i k fA fB)).at_, (curOf i (curF b i k fA fB)).cut + 1, (curOf i (curF b i k fA fB)).put⟩ : Mk) = curF b (i + 1) k fA fB := by
 rw [curF_of h1 h2]; unfold curF; rw [if_pos (by omega)]; congr 2; show i - fA + 1 = i + 1 - fA; omega
theorem curF_put {b : List Wd} {i k fA fB : Nat} (h1 : fA ≤ i) (h2 : fB ≤ k) (hk : k < b.length) : some (⟨(curOf i (curF b i k fA fB)).at_, (curOf i (curF b i k fA fB)).cut, (curOf i (curF b i k fA fB)).put ++ [wdAt b k]⟩ : Mk) = curF b i (k + 1) fA fB := by
 rw [curF_of h1 h2]; unfold curF; rw [if_pos (by omega)]; congr 2
 show (b.drop fB).take (k - fB) ++ [wdAt b k] = (b.drop fB).take (k + 1 - fB)
 rw [show k + 1 - fB = k - fB + 1 by omega, List.take_add_one, List.getElem?_drop, show fB + (k - fB) = k by omega, wdAt_some hk]; rfl
def VarsM (w : World) (g i k fA fB : Nat) (v : Value) : Prop :=
 Blk w (g + 1) 41 #[v] ∧ Blk w (g + 2) 3 #[.int .i64 (fA : Int)] ∧ Blk w (g + 3) 3 #[.int .i64 (fB : Int)] ∧ Blk w (g + 4) 3 #[.int .i64 (i : Int)] ∧ Blk w (g + 5) 3 #[.int .i64 (k : Int)]
section
variable {w w' : World} {g i k fA fB : Nat} {v : Value}
theorem VarsM.below (h : VarsM w g i k fA fB v) (hb : Below w.heap.size w w') : VarsM w' g i k fA fB v := ⟨h.1.below hb, h.2.1.below hb, h.2.2.1.below hb, h.2.2.2.1.below hb, h.2.2.2.2.below hb⟩
theorem VarsM.grown {row : Option Nat} (h : VarsM w g i k fA fB v) (hg : w.grownBy w' row) (hr : ∀ q, row = some q → q ≤ g ∨ g + 6 ≤ q) : VarsM w' g i k fA fB v := by
 have key : ∀ {q : Nat} {t : TypeId} {cs : Array Value}, Blk w q t cs → g < q → q < g + 6 → Blk w' q t cs := fun hb h1 h2 => (hg.block _ hb.lt (fun e => by have := hr _ e.symm; omega)).trans hb; exact ⟨key h.1 (by omega) (by omega), key h.2.1 (by omega) (by omega), key h.2.2.1 (by omega) (by omega), key h.2.2.2.1 (by omega) (by omega), key h.2.2.2.2 (by omega) (by omega)⟩
theorem VarsM.setM (h : VarsM w g i k fA fB v) (u : Value) : VarsM (w.setCell ⟨g + 1, 0, none⟩ u) g i k fA fB u :=
 ⟨h.1.set 0 u, h.2.1.far (by simp) u, h.2.2.1.far (by simp) u, h.2.2.2.1.far (by simp) u, h.2.2.2.2.far (by simp) u⟩
theorem VarsM.setA (h : VarsM w g i k fA fB v) (u : Nat) : VarsM (w.setCell ⟨g + 2, 0, none⟩ (.int .i64 (u : Int))) g i k u fB v :=
 ⟨h.1.far (by simp) _, h.2.1.set 0 _, h.2.2.1.far (by simp) _, h.2.2.2.1.far (by simp) _, h.2.2.2.2.far (by simp) _⟩
theorem VarsM.setB (h : VarsM w g i k fA fB v) (u : Nat) : VarsM (w.setCell ⟨g + 3, 0, none⟩ (.int .i64 (u : Int))) g i k fA u v :=
 ⟨h.1.far (by simp) _, h.2.1.far (by simp) _, h.2.2.1.set 0 _, h.2.2.2.1.far (by simp) _, h.2.2.2.2.far (by simp) _⟩
theorem VarsM.setI (h : VarsM w g i k fA fB v) (u : Nat) : VarsM (w.setCell ⟨g + 4, 0, none⟩ (.int .i64 (u : Int))) g u k fA fB v :=
 ⟨h.1.far (by simp) _, h.2.1.far (by simp) _, h.2.2.1.far (by simp) _, h.2.2.2.1.set 0 _, h.2.2.2.2.far (by simp) _⟩
theorem VarsM.setJ (h : VarsM w g i k fA fB v) (u : Nat) : VarsM (w.setCell ⟨g + 5, 0, none⟩ (.int .i64 (u : Int))) g i u fA fB v :=
 ⟨h.1.far (by simp) _, h.2.1.far (by simp) _, h.2.2.1.far (by simp) _, h.2.2.2.1.far (by simp) _, h.2.2.2.2.set 0 _⟩
end
def cellNat (w : World) (b : Nat) : Nat := match w.cell? ⟨b, 0, none⟩ with | some v => (intOf v).toNat | none => 0
theorem cellNat_of {w : World} {b : Nat} {t : TypeId} {x : Nat} (h : Blk w b t #[.int .i64 (x : Int)]) : cellNat w b = x := by
 unfold cellNat; rw [h.cell 0]; simp [intOf]
theorem MrOwn.far {w : World} {B q j : Nat} {v u : Value} {xs : List Mr} (h : MrOwn w B v xs) (hq : v.ownBlock ≠ some q) (hx : ∀ x ∈ xs, 0 < x.n → ∀ a, x.A = some a → a.block ≠ q) : MrOwn (w.setCell ⟨q, j, none⟩ u) B v xs := by
 have hg := only_set1 w q j u; exact ⟨ownG_congr h.1 (fun r hr => hg.block r (ownG_lt h.1 hr) (fun e => hq (by rw [hr, e]))), fun x hm => ⟨WdsIn.grown (h.2 x hm).1 hg (fun hp a ha e => hx x hm hp a ha (by injection e with e; exact e.symm)), fun hp a ha => ⟨((h.2 x hm).2 hp a ha).1, by simpa using ((h.2 x hm).2 hp a ha).2⟩⟩⟩
def LoopM (w1 wr : World) (g i k fA fB : Nat) (D : List Mr) (v : Value) : Prop :=
 VarsM wr g i k fA fB v ∧ MrOwn wr g v D ∧ (∀ q, v.ownBlock = some q → q = g ∨ g + 6 ≤ q) ∧ Below g w1 wr ∧ ∀ x ∈ D, 0 < x.n → ∀ p, x.A = some p → g + 6 ≤ p.block
section
variable {w1 w w' : World} {g i k fA fB : Nat} {D : List Mr} {v : Value}
theorem LoopM.size (h : LoopM w1 w g i k fA fB D v) : g + 6 ≤ w.heap.size := h.1.2.2.2.2.lt
theorem LoopM.below (h : LoopM w1 w g i k fA fB D v) (hb : Below w.heap.size w w') : LoopM w1 w' g i k fA fB D v :=
 ⟨h.1.below hb, h.2.1.keep hb, h.2.2.1, h.2.2.2.1.trans (hb.mono (by have := h.size; omega)), h.2.2.2.2⟩
theorem LoopM.var (h : LoopM w1 w g i k fA fB D v) {q j : Nat} {u : Value} (hq : g < q) (hq2 : q < g + 6) {i' k' fA' fB' : Nat} (hv : VarsM (w.setCell ⟨q, j, none⟩ u) g i' k' fA' fB' v) : LoopM w1 (w.setCell ⟨q, j, none⟩ u) g i' k' fA' fB' D v :=
 ⟨hv, h.2.1.far (fun e => by have := h.2.2.1 q e; omega) (fun x hx hp a ha e => by have := h.2.2.2.2 x hx hp a ha; omega), h.2.2.1,
  h.2.2.2.1.grown (only_set1 w q j u) (by have := h.size; omega) (fun r hr => by injection hr with hr; omega), h.2.2.2.2⟩
theorem LoopM.setI (h : LoopM w1 w g i k fA fB D v) (u : Nat) : LoopM w1 (w.setCell ⟨g + 4, 0, none⟩ (.int .i64 (u : Int))) g u k fA fB D v := h.var (by omega) (by omega) (h.1.setI u)
theorem LoopM.setJ (h : LoopM w1 w g i k fA fB D v) (u : Nat) : LoopM w1 (w.setCell ⟨g + 5, 0, none⟩ (.int .i64 (u : Int))) g i u fA fB D v := h.var (by omega) (by omega) (h.1.setJ u)
theorem LoopM.setA (h : LoopM w1 w g i k fA fB D v) (u : Nat) : LoopM w1 (w.setCell ⟨g + 2, 0, none⟩ (.int .i64 (u : Int))) g i k u fB D v := h.var (by omega) (by omega) (h.1.setA u)
theorem LoopM.setB (h : LoopM w1 w g i k fA fB D v) (u : Nat) : LoopM w1 (w.setCell ⟨g + 3, 0, none⟩ (.int .i64 (u : Int))) g i k fA u D v := h.var (by omega) (by omega) (h.1.setB u)
theorem LoopM.drew (h : LoopM w1 w g i k fA fB D v) : LoopM w1 w.drew g i k fA fB D v := h.below (Below.refl _ _).drew
theorem LoopM.fin (h : LoopM w1 w g i k fA fB D v) {b : List Wd} (hF : FinAns w w' g (g + 1) v D (fA < i ∨ fB < k) ⟨fA, i - fA, (b.drop fB).take (k - fB)⟩) :
  ∃ D' v', LoopM w1 w' g i k fA fB D' v' ∧ D'.map Mr.dat = D.map Mr.dat ++ (curF b i k fA fB).toList ∧ D'.length ≤ D.length + 1 := by
 rcases hF with ⟨hop, hb⟩ | ⟨hop, w2, v2, x, hd, hx, rfl, hg, hO, hv⟩
 ·exact ⟨D, v, h.below hb, by unfold curF; rw [if_neg hop]; simp, by omega⟩
 ·have hr : ∀ q, v.ownBlock = some q → q ≤ g ∨ g + 6 ≤ q := (fun q hq => by have := h.2.2.1 q hq; omega); have hV := h.1.grown hg hr; have hz := h.size; have hv2 : ∀ q, v2.ownBlock = some q → q = g ∨ g + 6 ≤ q := fun q hq => by
   rcases hv with e | ⟨r, e, hr2⟩
   ·exact h.2.2.1 q (e.symm.trans hq)
   ·rw [e] at hq; injection hq with hq; omega
  have hD2 : ∀ y ∈ D ++ [x], 0 < y.n → ∀ p, y.A = some p → g + 6 ≤ p.block := fun y hy hp p hpA => by
   rcases List.mem_append.1 hy with hy | hy
   ·exact h.2.2.2.2 y hy hp p hpA
   ·rw [List.mem_singleton] at hy; subst hy; have := hx hp p hpA; omega
  refine ⟨D ++ [x], v2, ⟨hV.setM v2, hO.far (fun e => by have := hv2 _ e; omega) (fun y hy hp a ha e => by have := hD2 y hy hp a ha; omega), hv2, ?_, hD2⟩, by unfold curF; rw [if_pos hop, List.map_append]; simp [hd], by simp⟩; have b1 : Below g w1 w2 := h.2.2.2.1.grown hg (by omega) (fun q hq => by have := h.2.2.1 q hq; omega); exact b1.grown (only_set1 w2 (g + 1) 0 v2) (by have := hg.size; omega) (fun r hr => by injection hr with hr; omega)
end
theorem LoopM.start {w1 : World} (g : Nat) (hg : w1.heap.size = g) :
  LoopM w1 ((((((w1.alloc (.cells #[] 116)).alloc (.cells #[.slice (some ⟨g, 0, none⟩) 0 0] 41)).alloc (.cells #[.int .i64 0] 3)).alloc (.cells #[.int .i64 0] 3)).alloc (.cells #[.int .i64 0] 3)).alloc (.cells #[.int .i64 0] 3)) g 0 0 0 0 [] (.slice (some ⟨g, 0, none⟩) 0 0) := by
 subst hg; have e1 : (w1.alloc (.cells #[] 116)).heap.size = w1.heap.size + 1 := (by simp); have key : ∀ (W : World) (n : Nat) (cs : Array Value) (t : TypeId), W.heap.size = n → Blk (W.alloc (.cells cs t)) n t cs := (fun W n cs t h => by subst h; exact Blk.new _ _ _); refine ⟨⟨((((key _ _ _ _ (by simp)).alloc _).alloc _).alloc _).alloc _, (((key _ _ _ _ (by simp)).alloc _).alloc _).alloc _, ((key _ _ _ _ (by simp)).alloc _).alloc _, (key _ _ _ _ (by simp)).alloc _, key _ _ _ _ (by simp)⟩, ?_, fun q hq => .inl (by injection hq with hq; exact hq.symm), ?_, by simp⟩
 ·have h0 := MrOwn.made w1; have al : ∀ (W : World) (o : Obj), Below W.heap.size W (W.alloc o) := fun W o => (Below.refl _ _).alloc (Nat.le_refl _) _; exact ((((h0.keep (al _ _)).keep (al _ _)).keep (al _ _)).keep (al _ _)).keep (al _ _)
 ·exact ((((((Below.refl _ _).alloc (Nat.le_refl _) _).alloc (by simp) _).alloc (by simp; omega) _).alloc (by simp; omega) _).alloc (by simp; omega) _).alloc (by simp; omega) _
set_option maxHeartbeats 3200000 in
theorem implMarksMake (A : Option Addr) (n c : Nat) (a : List Wd) (A' : Option Addr) (n' c' : Nat) (b : List Wd) (w : World) (hW : ∀ l ∈ a, l.length ≤ maxLen) (hW' : ∀ l ∈ b, l.length ≤ maxLen) (h : WdsIn w w.heap.size A n c a) (h' : WdsIn w w.heap.size A' n' c' b) :
  Calls Tryz.prog 27 #[.slice A n c, .slice A' n' c'] w fun e w' => MkAns w' (makeO a b) e ∧ Below w.heap.size w w' := by
 have hal : Below w.heap.size w (w.alloc (.cells #[.slice A' n' c'] 27)) := (Below.refl _ _).alloc (Nat.le_refl _) _; have HS := uH (implSpeechValid A n c a _ hW (h.keep hal)); have HS' := uH (implSpeechValid A' n' c' b _ hW' (h'.keep hal)); have HL := uH h.1; have HL' := uH h'.1; have H := uH h; have H' := uH h'; have HZ := uH (fun (W : World) (AA : Option Addr) => MrsIn.zero W W.heap.size AA); clear h h' hW hW'; cases hA : spB a with
 | false =>
  have HR : Hid (makeO a b = none) := uH (if_neg (by rw [hA]; simp)); rw [hA] at HS; clear hA; go_enter Tryz.func27, Tryz.ntmps27
  (go_wp2_with fail); refine HS.out.mono ?_; rintro e w1 ⟨rfl, rfl⟩; go_wp2; go_returns; exact ⟨.inl ⟨HR.out, _, _, rfl, HZ.out _ _⟩, hal⟩
 | true =>
 cases hB : spB b with
 | false =>
  have HR : Hid (makeO a b = none) := uH (if_neg (by rw [hB]; simp)); rw [hA] at HS; rw [hB] at HS'; clear hA hB; go_enter Tryz.func27, Tryz.ntmps27
  (go_wp2_with fail); refine HS.out.mono ?_; rintro e w1 ⟨rfl, rfl⟩; (go_wp2_with fail); refine HS'.out.mono ?_; rintro e w1 ⟨rfl, rfl⟩; go_wp2; go_returns; exact ⟨.inl ⟨HR.out, _, _, rfl, HZ.out _ _⟩, hal⟩
 | true =>
  have HR : Hid (makeO a b = some (mkAll a b)) := uH (if_pos (by rw [hA, hB]; rfl)); have h20 : n ≤ 20 := (by have := (spB_iff.1 hA).2; rw [HL.out] at this; exact this); have h20' : n' ≤ 20 := (by have := (spB_iff.1 hB).2; rw [HL'.out] at this; exact this); rw [hA] at HS; rw [hB] at HS'; have HT := uH (implFarTable A n c a A' n' c' b _ h20 h20' (H.out.keep hal) (H'.out.keep hal)); clear hA hB; go_enter Tryz.func27, Tryz.ntmps27
  (go_wp2_with fail); refine HS.out.mono ?_; rintro e w1 ⟨rfl, rfl⟩; (go_wp2_with fail); refine HS'.out.mono ?_; rintro e w1 ⟨rfl, rfl⟩; (go_wp2_with fail); refine HT.out.mono ?_; rintro e w1 ⟨⟨v7, rfl, gt, rb, rfl, hg1, hg2, hTc⟩, hb2⟩; simp only [World.size_alloc] at hg1; have b1 := below_next hal hb2; have hbc := kcell hb2 (newcell w #[.slice A' n' c'] 27 0 _ rfl); obtain ⟨g, hg⟩ : ∃ g, w1.heap.size = g := ⟨_, rfl⟩; have hNg : w.heap.size < g := (by rw [← hg]; exact World.block_lt_of_cell? _ _ hbc); have HTC : Hid (TabC w1 gt rb a b) := uH (fun i hi => ⟨(hTc i hi).1, (hTc i hi).2.2.2⟩); have HTb : Hid (gt < g ∧ ∀ i, i ≤ a.length → rb i < g) := uH ⟨by rw [← hg]; exact hg2, fun i hi => by rw [← hg]; exact (hTc i hi).2.2.1⟩; have HB1 := uH b1; have HBc := uH hbc; have HM0 := uH (LoopM.start g hg); have HGo0 : Hid (mkAll a b = ([] : List Mr).map Mr.dat ++ mkGo (a.drop 0) (b.drop 0) 0 (curF b 0 0 0 0)) := uH rfl; rw [HL.out]; clear hTc hb2 HT HS HS' hal hg2 b1 hbc; have HFC := uH (fun (W : World) (i k fA fB : Nat) (D : List Mr) (v : Value) (hM : LoopM w1 W g i k fA fB D v) (h1 : fA ≤ i) (h2 : i ≤ 20) (h3 : fB ≤ k) (h4 : k ≤ n') (hD : D.length ≤ 40) =>
   (finishC (g + 4) (g + 2) (g + 5) (g + 3) w.heap.size (g + 1) i fA k fB g A' n' c' b v D W (hM.1.2.2.2.1.cell 0) (hM.1.2.1.cell 0) (hM.1.2.2.2.2.cell 0) (hM.1.2.2.1.cell 0) ((hM.2.2.2.1.cell hNg).trans HBc.out) ⟨hM.1.1.cell 0, hM.1.1.free 0⟩
    (H'.out.keep (HB1.out.trans (hM.2.2.2.1.mono (by omega)))) hM.2.1 (fun e => by have := hM.2.2.1 _ e; omega) (by have := hM.size; omega) h1 h2 h3 h4 h20' hD).mono (fun e w' (hh : e = .returned (.tuple #[]) ∧ FinAns W w' g (g + 1) v D (fA < i ∨ fB < k) ⟨fA, i - fA, (b.drop fB).take (k - fB)⟩) => (⟨hh.1, hM.fin hh.2⟩ : e = .returned (.tuple #[]) ∧ ∃ D' v', LoopM w1 w' g i k fA fB D' v' ∧ D'.map Mr.dat = D.map Mr.dat ++ (curF b i k fA fB).toList ∧ D'.length ≤ D.length + 1)))
  (go_wp2_with fail); rw [show g + 1 + 1 + 1 + 1 + 1 = g + 5 from rfl, show g + 1 + 1 + 1 + 1 = g + 4 from rfl, show g + 1 + 1 + 1 = g + 3 from rfl, show g + 1 + 1 = g + 2 from rfl]; go_loopw [] (fun wr => ∃ (i k fA fB : Nat) (D : List Mr) (v : Value), i ≤ n ∧ k ≤ n' ∧ fA ≤ i ∧ fB ≤ k ∧ Hid (mkAll a b = D.map Mr.dat ++ mkGo (a.drop i) (b.drop k) i (curF b i k fA fB)) ∧ Hid (D.length ≤ fA + fB) ∧ Hid (LoopM w1 wr g i k fA fB D v)) (fun wr => (n - cellNat wr (g + 4)) + (n' - cellNat wr (g + 5)))
  case atStart => exact ⟨0, 0, 0, 0, [], _, Nat.zero_le _, Nat.zero_le _, Nat.le_refl _, Nat.le_refl _, HGo0, uH (by simp), HM0⟩
  case round =>
   obtain ⟨i, k, fA, fB, D, v, hin, hkn, hfi, hfk, HE, HX, HM⟩ := hrel; have ii1 : (0 : Int) ≤ (i : Int) := (by omega); have kk1 : (0 : Int) ≤ (k : Int) := (by omega); have cI : wr.cell? ⟨g + 4, 0, none⟩ = some (.int .i64 (i : Int)) := HM.out.1.2.2.2.1.cell 0; have cK : wr.cell? ⟨g + 5, 0, none⟩ = some (.int .i64 (k : Int)) := HM.out.1.2.2.2.2.cell 0; have cb : wr.cell? ⟨w.heap.size, 0, none⟩ = some (.slice A' n' c') := (HM.out.2.2.2.1.cell hNg).trans HBc.out; have mI : cellNat wr (g + 4) = i := cellNat_of HM.out.1.2.2.2.1; have mK : cellNat wr (g + 5) = k := cellNat_of HM.out.1.2.2.2.2; have HmI := uH mI; have HmK := uH mK; clear mI mK
   go_upto_region 8 with fail
   go_cut [35] (fun c35 wx => wr = wx ∧ Value.bool (decide (i < n ∨ k < n')) = c35)
   case first =>
    by_cases hi : i < n
    ·have e0 : (i : Int) < (n : Int) := (by omega); go_wp2
     go_meet
     exact ⟨rfl, congrArg Value.bool (decide_eq_true (.inl hi))⟩
    ·have e0 : ¬ (i : Int) < (n : Int) := (by omega); by_cases hk : k < n'
     ·have e1 : (k : Int) < (n' : Int) := (by omega); go_wp2
      go_meet
      exact ⟨rfl, congrArg Value.bool (decide_eq_true (.inr hk))⟩
     ·have e1 : ¬ (k : Int) < (n' : Int) := (by omega); go_wp2
      go_meet
      exact ⟨rfl, congrArg Value.bool (decide_eq_false (fun h => h.elim hi hk))⟩
   case rest =>
    obtain ⟨rfl, rfl⟩ := hcut; by_cases hgo : i < n ∨ k < n'
    ·rw [decide_eq_true hgo]
     go_upto_region 10 with fail
     go_cut [38] (fun c38 wx => Below wr.heap.size wr wx ∧ Value.bool (decide (i < n ∧ k < n' ∧ wdAt a i = wdAt b k)) = c38)
     case first =>
      have HbA := uH (H.out.keep (HB1.out.trans (HM.out.2.2.2.1.mono (by omega)))); have HbB := uH (H'.out.keep (HB1.out.trans (HM.out.2.2.2.1.mono (by omega)))); clear HE HX HM HTC HTb HGo0 HR HZ HFC H H'; by_cases hi : i < n
      ·have e0 : (i : Int) < (n : Int) := (by omega); by_cases hk : k < n'
       ·have e1 : (k : Int) < (n' : Int) := (by omega); obtain ⟨bA, oA, rfl, hbA, cA⟩ := HbA.out.at_ hi; obtain ⟨bB, oB, rfl, hbB, cB⟩ := HbB.out.at_ hk; have hq1 := beq_str (mkStr (wdAt b k)) (wdAt a i) (wdAt b k) rfl; have HD : Hid (decide (i < n ∧ k < n' ∧ wdAt a i = wdAt b k) = decide (wdAt a i = wdAt b k)) := uH (decide_eq_decide.2 ⟨fun h => h.2.2, fun h => ⟨hi, hk, h⟩⟩); have qA := qcell cA; have qB := qcell cB; have qI := qcell cI; have qK := qcell cK; have qb := qcell cb; generalize mkStr (wdAt a i) = sA at *; generalize mkStr (wdAt b k) = sB at *; generalize decide (wdAt a i = wdAt b k) = q at *; refine region_qb (by kernel_rfl) (by kernel_rfl) ?_; repeat (first | go_big_quiet_step (fail) | quiet_step (fail))
        refine wpQuiet_nil ?_; intro w5 hb5; go_wp2
        go_meet
        exact ⟨hb5, congrArg Value.bool HD.out⟩
       ·have e1 : ¬ (k : Int) < (n' : Int) := (by omega); have qI := qcell cI; have qK := qcell cK; have qb := qcell cb; refine region_qb (by kernel_rfl) (by kernel_rfl) ?_; repeat (first | go_big_quiet_step (fail) | quiet_step (fail))
        refine wpQuiet_nil ?_; intro w5 hb5; go_wp2
        go_meet
        exact ⟨hb5, congrArg Value.bool (decide_eq_false (fun h => hk h.2.1))⟩
      ·have e0 : ¬ (i : Int) < (n : Int) := (by omega); have qI := qcell cI; have qK := qcell cK; have qb := qcell cb; refine region_qb (by kernel_rfl) (by kernel_rfl) ?_; repeat (first | go_big_quiet_step (fail) | quiet_step (fail))
       refine wpQuiet_nil ?_; intro w5 hb5; go_wp2
       go_meet
       exact ⟨hb5, congrArg Value.bool (decide_eq_false (fun h => hi h.1))⟩
     case rest =>
      obtain ⟨hb5, rfl⟩ := hcut; generalize wc = w5 at *; have HM5 := uH (HM.out.below hb5); clear HM cI cK cb hb5; have cI : w5.cell? ⟨g + 4, 0, none⟩ = some (.int .i64 (i : Int)) := HM5.out.1.2.2.2.1.cell 0; have cK : w5.cell? ⟨g + 5, 0, none⟩ = some (.int .i64 (k : Int)) := HM5.out.1.2.2.2.2.cell 0; have fI : w5.frozen? ⟨g + 4, 0, none⟩ = false := HM5.out.1.2.2.2.1.free 0; have fK : w5.frozen? ⟨g + 5, 0, none⟩ = false := HM5.out.1.2.2.2.2.free 0; by_cases he : i < n ∧ k < n' ∧ wdAt a i = wdAt b k
      ·rw [decide_eq_true he]; obtain ⟨hi3, hk3, he3⟩ := he; have HC := uH (HFC.out w5 i k fA fB D v HM5.out hfi (by omega) hfk hkn (by have := HX.out; omega)); have HE2 : Hid (mkAll a b = (D.map Mr.dat ++ (curF b i k fA fB).toList) ++ mkGo (a.drop (i + 1)) (b.drop (k + 1)) (i + 1) (curF b (i + 1) (k + 1) (i + 1) (k + 1))) := uH (by
        rw [HE.out, goEq (by rw [HL.out]; exact hi3) (by rw [HL'.out]; exact hk3) he3, curF_new, List.append_assoc])
       clear HE HM5 cI cK fI fK he3; (go_wp2_with fail); refine HC.out.mono ?_; rintro e w6 ⟨rfl, D6, v6, hM6, hD6, hl6⟩; have HM6 := uH hM6; have HX2 : Hid (D6.length ≤ i + 1 + (k + 1)) := uH (by have := HX.out; omega); have HE6 : Hid (mkAll a b = D6.map Mr.dat ++ mkGo (a.drop (i + 1)) (b.drop (k + 1)) (i + 1) (curF b (i + 1) (k + 1) (i + 1) (k + 1))) := uH (by rw [hD6]; exact HE2.out); have cI : w6.cell? ⟨g + 4, 0, none⟩ = some (.int .i64 (i : Int)) := hM6.1.2.2.2.1.cell 0; have cK : w6.cell? ⟨g + 5, 0, none⟩ = some (.int .i64 (k : Int)) := hM6.1.2.2.2.2.cell 0; have fI : w6.frozen? ⟨g + 4, 0, none⟩ = false := hM6.1.2.2.2.1.free 0; have fK : w6.frozen? ⟨g + 5, 0, none⟩ = false := hM6.1.2.2.2.2.free 0; clear HE2 HC hM6 hD6 hl6 HX; have i5 : (i : Int) + 1 ≤ 21 := (by omega); have k5 : (k : Int) + 1 ≤ 21 := by omega
       go_upto_region 12 with fail
       go_region
       all_goals
        have HM7 := ((HM6.out.setI (i + 1)).setJ (k + 1)).drew; rw [show ((i + 1 : Nat) : Int) = (i : Int) + 1 by omega, show ((k + 1 : Nat) : Int) = (k : Int) + 1 by omega] at HM7; generalize ((w6.setCell ⟨g + 4, 0, none⟩ (.int .i64 ((i : Int) + 1))).setCell ⟨g + 5, 0, none⟩ (.int .i64 ((k : Int) + 1))).drew = w7 at *; have cI : w7.cell? ⟨g + 4, 0, none⟩ = some (.int .i64 ((i + 1 : Nat) : Int)) := HM7.1.2.2.2.1.cell 0; have cK : w7.cell? ⟨g + 5, 0, none⟩ = some (.int .i64 ((k + 1 : Nat) : Int)) := HM7.1.2.2.2.2.cell 0; have cA : w7.cell? ⟨g + 2, 0, none⟩ = some (.int .i64 (fA : Int)) := HM7.1.2.1.cell 0; have cB : w7.cell? ⟨g + 3, 0, none⟩ = some (.int .i64 (fB : Int)) := HM7.1.2.2.1.cell 0; have fA' : w7.frozen? ⟨g + 2, 0, none⟩ = false := HM7.1.2.1.free 0; have fB' : w7.frozen? ⟨g + 3, 0, none⟩ = false := HM7.1.2.2.1.free 0; have HM8 := uH ((HM7.setA (i + 1)).setB (k + 1)); clear HM7; generalize hi1 : i + 1 = i1 at *; generalize hk1 : k + 1 = k1 at *; (go_wp2_with fail); go_region
        all_goals
         have HM9 := uH HM8.out.drew; generalize ((w7.setCell ⟨g + 2, 0, none⟩ (.int .i64 (i1 : Int))).setCell ⟨g + 3, 0, none⟩ (.int .i64 (k1 : Int))).drew = w9 at *; have HnI := uH (cellNat_of HM9.out.1.2.2.2.1); have HnK := uH (cellNat_of HM9.out.1.2.2.2.2); clear HM8 cI cK cA cB fA' fB'; go_wp2; go_roundw
         case rel => exact ⟨i1, k1, i1, k1, D6, v6, by omega, by omega, Nat.le_refl _, Nat.le_refl _, HE6, HX2, HM9⟩
         case measure => rw [HnI.out, HnK.out, HmI.out, HmK.out]; omega
      ·rw [decide_eq_false he]
       go_upto_region 14 with fail
       go_cut [68] (fun c68 wx => Below w5.heap.size w5 wx ∧ Value.bool (decide (i < n ∧ dst (a.drop (i + 1)) (b.drop k) < dst (a.drop i) (b.drop k))) = c68)
       case first =>
        have HTz : Hid (TabC w5 gt rb a b) := uH (fun i hi => ⟨(HM5.out.2.2.2.1.cell HTb.out.1).trans (HTC.out i hi).1, fun j hj => (HM5.out.2.2.2.1.cell (HTb.out.2 i hi)).trans ((HTC.out i hi).2 j hj)⟩); clear HE HX HM5 HTC HTb HGo0 HR HZ HFC H H' fI fK; have qI := qcell cI; have qK := qcell cK; by_cases hi3 : i < n
        ·have e0 : (i : Int) < (n : Int) := (by omega); have i4 : (i : Int) + 1 < (n : Int) + 1 := (by omega); have i5 : (i : Int) < (n : Int) + 1 := (by omega); have k5 : (k : Int) < (n' : Int) + 1 := (by omega); obtain ⟨t1, t1'⟩ := HTz.out (i + 1) (by rw [HL.out]; omega); obtain ⟨t0, t0'⟩ := HTz.out i (by rw [HL.out]; omega); have x1 := t1' k (by rw [HL'.out]; exact hkn); have x0 := t0' k (by rw [HL'.out]; exact hkn); rw [HL'.out] at t1 t0; have d1 := dst_40 (a := a) (b := b) (i + 1) k; have d0 := dst_40 (a := a) (b := b) i k; rw [HL.out, HL'.out] at d1 d0; clear t1' t0'; obtain ⟨D1, hD1⟩ : ∃ D, D = dst (a.drop (i + 1)) (b.drop k) := ⟨_, rfl⟩; obtain ⟨Dz, hDz⟩ : ∃ D, D = dst (a.drop i) (b.drop k) := ⟨_, rfl⟩; rw [← hD1] at x1 d1; rw [← hDz] at x0 d0; have HF2 : Hid (decide (i < n ∧ dst (a.drop (i + 1)) (b.drop k) < dst (a.drop i) (b.drop k)) = decide (D1 < Dz)) := uH (by
          rw [← hD1, ← hDz]; exact decide_eq_decide.2 ⟨fun h => by have := h.2; omega, fun h => ⟨hi3, by omega⟩⟩)
         clear hD1 hDz; have q1 := qcell t1; have q0 := qcell t0; have p1 := qcell x1; have p0 := qcell x0; refine region_qb (by kernel_rfl) (by kernel_rfl) ?_; repeat (first | go_big_quiet_step (fail) | quiet_step (fail))
         refine wpQuiet_nil ?_; intro w9 hb9; go_wp2
         go_meet
         exact ⟨hb9, congrArg Value.bool HF2.out⟩
        ·have e0 : ¬ (i : Int) < (n : Int) := (by omega); refine region_qb (by kernel_rfl) (by kernel_rfl) ?_; repeat (first | go_big_quiet_step (fail) | quiet_step (fail))
         refine wpQuiet_nil ?_; intro w9 hb9; go_wp2
         go_meet
         exact ⟨hb9, congrArg Value.bool (decide_eq_false (fun h => hi3 h.1))⟩
       case rest =>
        obtain ⟨hb9, rfl⟩ := hcut; generalize wc = w9 at *; have HM9 := uH (HM5.out.below hb9); clear HM5 cI cK fI fK hb9; have cI : w9.cell? ⟨g + 4, 0, none⟩ = some (.int .i64 (i : Int)) := HM9.out.1.2.2.2.1.cell 0; have cK : w9.cell? ⟨g + 5, 0, none⟩ = some (.int .i64 (k : Int)) := HM9.out.1.2.2.2.2.cell 0; have fI : w9.frozen? ⟨g + 4, 0, none⟩ = false := HM9.out.1.2.2.2.1.free 0; have fK : w9.frozen? ⟨g + 5, 0, none⟩ = false := HM9.out.1.2.2.2.2.free 0; by_cases hc : i < n ∧ dst (a.drop (i + 1)) (b.drop k) < dst (a.drop i) (b.drop k)
        ·rw [decide_eq_true hc]; obtain ⟨hi3, hlt⟩ := hc; have HE2 : Hid (mkAll a b = D.map Mr.dat ++ mkGo (a.drop (i + 1)) (b.drop k) (i + 1) (curF b (i + 1) k fA fB)) := uH (by
          rw [HE.out, goCut (by rw [HL.out]; exact hi3) (fun hk e => he ⟨hi3, by rw [HL'.out] at hk; exact hk, e⟩) hlt, curF_cut hfi hfk])
         have HM10 := HM9.out.setI (i + 1); rw [show ((i + 1 : Nat) : Int) = (i : Int) + 1 by omega] at HM10; have HMx := uH HM10; have HnI := uH (cellNat_of HM10.1.2.2.2.1); have HnK := uH (cellNat_of HM10.1.2.2.2.2); clear HM10 HE HM9 hlt he; go_wp2; go_roundw
         case rel => exact ⟨i + 1, k, fA, fB, D, v, by omega, by omega, by omega, by omega, HE2, HX, HMx⟩
         case measure => rw [HnI.out, HnK.out, HmI.out, HmK.out]; omega
        ·rw [decide_eq_false hc]; have hk3 : k < n' := by
          apply Classical.byContradiction; intro hk; have hkn2 : k = n' := (by omega); have hi3 : i < n := (by omega); refine hc ⟨hi3, ?_⟩; rw [hkn2, ← HL'.out]; exact dst_edge (by rw [HL.out]; exact hi3)
         have HE2 : Hid (mkAll a b = D.map Mr.dat ++ mkGo (a.drop i) (b.drop (k + 1)) i (curF b i (k + 1) fA fB)) := uH (by
          rw [HE.out, goPut (by rw [HL'.out]; exact hk3) (fun hi => ⟨fun e => he ⟨by rw [HL.out] at hi; exact hi, hk3, e⟩, fun hl => hc ⟨by rw [HL.out] at hi; exact hi, hl⟩⟩), curF_put hfi hfk (by rw [HL'.out]; exact hk3)])
         have HM10 := HM9.out.setJ (k + 1); rw [show ((k + 1 : Nat) : Int) = (k : Int) + 1 by omega] at HM10; have HMx := uH HM10; have HnI := uH (cellNat_of HM10.1.2.2.2.1); have HnK := uH (cellNat_of HM10.1.2.2.2.2); clear HM10 HE HM9 hc he; go_wp2; go_roundw
         case rel => exact ⟨i, k + 1, fA, fB, D, v, by omega, by omega, by omega, by omega, HE2, HX, HMx⟩
         case measure => rw [HnI.out, HnK.out, HmI.out, HmK.out]; omega
    ·rw [decide_eq_false hgo]; have HC := uH (HFC.out wr i k fA fB D v HM.out hfi (by omega) hfk hkn (by have := HX.out; omega)); have HE2 : Hid (makeO a b = some (D.map Mr.dat ++ (curF b i k fA fB).toList)) := uH (by
      rw [HR.out, HE.out, goEnd (by rw [HL.out]; omega) (by rw [HL'.out]; omega)])
     clear HE HM cI cK cb HFC; (go_wp2_with fail); refine HC.out.mono ?_; rintro e w6 ⟨rfl, D6, v6, hM6, hD6, hl6⟩; have cM : w6.cell? ⟨g + 1, 0, none⟩ = some v6 := hM6.1.1.cell 0; have HBo := uH (HB1.out.trans (hM6.2.2.2.1.mono (by omega))); have HE6 : Hid (makeO a b = some (D6.map Mr.dat)) := uH (by rw [HE2.out, hD6]); obtain ⟨A6, c6, rfl, hc6, hm6⟩ := ownG_form hM6.2.1.1; have HMs := uH (MrOwn.reads hM6.2.1 rfl); clear HE2 HC hM6 hD6 hl6 HX; go_wp2; go_returns; exact ⟨.inr ⟨A6, c6, D6, HE6.out, rfl, HMs.out⟩, HBo.out⟩
theorem curOf_put {i : Nat} {cur : Option Mk} {S : List Wd} (h : ∀ m, cur = some m → ∀ l ∈ m.put, l ∈ S) : ∀ l ∈ (curOf i cur).put, l ∈ S := by
 cases cur with
 | none => intro l hl; cases hl
 | some m => exact h m rfl
theorem mkGo_mem {S : List Wd} : ∀ (a b : List Wd) (i : Nat) (cur : Option Mk), (∀ l ∈ b, l ∈ S) → (∀ m, cur = some m → ∀ l ∈ m.put, l ∈ S) → ∀ m ∈ mkGo a b i cur, ∀ l ∈ m.put, l ∈ S := by
 intro a b i cur; induction a, b, i, cur using mkGo.induct with
 | case1 i cur =>
  intro hb hc m hm; rw [mkGo_done] at hm; cases cur with
  | none => cases hm
  | some m' =>
   have e : m = m' := (by simpa using hm); rw [e]; exact hc m' rfl
 | case2 x a i cur ih =>
  intro hb hc m hm; rw [mkGo_cut (fun y r h => by cases h) (dst_end x a)] at hm; exact ih hb (fun m' e => by injection e with e; subst e; exact curOf_put hc) m hm
 | case3 y b i cur ih =>
  intro hb hc m hm; rw [mkGo_put (fun x r h => by cases h)] at hm; refine ih (fun l hl => hb l (by simp [hl])) (fun m' e => ?_) m hm; injection e with e; subst e; intro l hl; rcases List.mem_append.1 hl with h | h
  ·exact curOf_put hc l h
  ·rw [List.mem_singleton] at h; subst h; exact hb _ (by simp)
 | case4 x a b i cur ih =>
  intro hb hc m hm; rw [mkGo_same] at hm; rcases List.mem_append.1 hm with hm | hm
  ·cases cur with
   | none => cases hm
   | some m' =>
    have e : m = m' := (by simpa using hm); rw [e]; exact hc m' rfl
  ·exact ih (fun l hl => hb l (by simp [hl])) (fun m' e => by cases e) m hm
 | case5 x a y b i cur hne hd ih =>
  intro hb hc m hm; rw [mkGo_cut (fun y' r h => by injection h with h _; rw [← h]; exact hne) hd] at hm; exact ih hb (fun m' e => by injection e with e; subst e; exact curOf_put hc) m hm
 | case6 x a y b i cur hne hd ih =>
  intro hb hc m hm; rw [mkGo_put (fun x' r h => by injection h with h1 h2; rw [← h1, ← h2]; exact ⟨hne, hd⟩)] at hm; refine ih (fun l hl => hb l (by simp [hl])) (fun m' e => ?_) m hm; injection e with e; subst e; intro l hl; rcases List.mem_append.1 hl with h | h
  ·exact curOf_put hc l h
  ·rw [List.mem_singleton] at h; subst h; exact hb _ (by simp)
theorem okMs_make {w : World} {B n c : Nat} {A : Option Addr} {a b : List Wd} {xs : List Mr} (ha : a.length ≤ 1000) (hb : b.length ≤ 1000) (hW : ∀ l ∈ b, l.length ≤ maxLen) (h : MrsIn w B A n c xs) (e : xs.map Mr.dat = mkAll a b) : OkMs xs := by
 intro x hx; have hm : x.dat ∈ mkAll a b := (by rw [← e]; exact List.mem_map_of_mem hx); have h1 := mkGo_bd (N := a.length) (M := b.length) a b 0 none (by omega) (fun m e => by cases e) (Nat.le_refl _) x.dat hm; have h2 := mkGo_mem (S := b) a b 0 none (fun l h => h) (fun m e => by cases e) x.dat hm; have h3 := (h.2.2.2.2 x hx).1; simp only [Mr.dat] at h1 h2; exact ⟨⟨by omega, by omega, by omega⟩, fun l hl => hW l (h2 l hl)⟩
theorem okMs_nil : OkMs [] := fun x hx => by cases hx
theorem ret_bytes2 {a b : List UInt8} (h : a = b) : Ending.returned (.string (mkStr a)) = .returned (.string (mkStr b)) := by rw [h]
theorem cabTxt_step2 {css : List (List Pad)} {k : Nat} {ps : List Pad} (h : css[k]? = some ps) : cabTxt (css.take (k + 1)) = cabTxt (css.take k) ++ drawT ps ++ [10] := by
 rw [take_step h, cabTxt_app]; unfold cabTxt; simp
theorem cabTxt_bd2 {css : List (List Pad)} (h : cabOK css) (k : Nat) : (cabTxt (css.take k)).length ≤ 822 := by
 have h1 := cabTxt_len (css := css.take k) (fun ps hps => cab_all h ps (List.mem_of_mem_take hps)); have h2 := h.1; rw [List.length_take] at h1; have : min k css.length ≤ 6 := (by omega); omega
theorem dec_len20' (d : Int) (h0 : 0 ≤ d) (h1 : d ≤ 9999) : (Lib.decDigits d.toNat).length ≤ 20 := by
 rw [Lib.decDigits_length]; exact Lib.nDigits_le20 _ (by omega)
theorem l6DecDay (d : Int) (w : World) (h0 : 0 ≤ d) (h1 : d ≤ 9999) : Calls Tryz.prog 55 #[.int .i64 d] w fun e w' => e = .returned (.string (mkStr (Lib.decDigits d.toNat))) ∧ Below w.heap.size w w' := by
 obtain ⟨n, rfl⟩ := Int.eq_ofNat_of_zero_le h0; exact l6DecNat n w (by omega)
set_option maxHeartbeats 3200000 in
theorem specCabinetText (A : Option Addr) (n c : Nat) (ds : List Drawer) (w : World) (hsz : cabSz ds ≤ 1048576) (h : DrawersIn w w.heap.size A n c ds) :
  Calls Tryz.prog 180 #[.slice A n c] w fun e w' => e = .returned (.string (mkStr (cabText (ds.map (·.ps))))) ∧ Below w.heap.size w w' := by
 have hm := h.2.2.1; have hnc := h.2.1; unfold maxLen at hm; have HL := uH h.1; have H := uH h; clear h; have HV : Hid (∀ W, Below w.heap.size w W → Calls Tryz.prog 119 #[.slice A n c] W fun e w' => e = .returned (.bool (cabB (ds.map (·.ps)))) ∧ Below W.heap.size W w') := uH (fun W hW => specCabinetValid A n c ds W hsz (H.out.keep hW)); cases hv : cabB (ds.map (·.ps)) with
 | false =>
  have HR := uH (cabText_no hv); rw [hv] at HV; clear hv; go_enter Tryz.func180, Tryz.ntmps180
  (go_wp2_with fail); refine wp_loop_rounds 1 ?_; rw [rounds_succ]; by_cases h0 : 0 < n
  ·(go_wp2_with fail); refine (HV.out w (Below.refl _ _)).mono ?_; rintro e w1 ⟨rfl, b1⟩; go_wp2; go_returns; exact ⟨ret_bytes2 (a := []) HR.out.symm, b1⟩
  ·obtain rfl : n = 0 := (by omega); go_wp2; go_returns; exact ⟨ret_bytes2 (a := []) HR.out.symm, Below.refl _ _⟩
 | true =>
  have HR := uH (cabText_yes hv); have HOk := uH (cabB_iff.1 hv); have h6 : n ≤ 6 := (by have := HOk.out.1; rw [List.length_map] at this; have := HL.out; omega); rw [hv] at HV; clear hv; go_enter Tryz.func180, Tryz.ntmps180
  go_wp2; go_loopw [3, 4] (fun v i wr => ∃ k : Nat, k ≤ n ∧ i = .int .i64 k ∧ v = .string (mkStr (cabTxt ((ds.map (·.ps)).take k))) ∧ Below w.heap.size w wr) (fun _ i _ => n - (intOf i).toNat)
  case atStart => exact ⟨0, Nat.zero_le _, rfl, rfl, Below.refl _ _⟩
  case round =>
   obtain ⟨k, hk, rfl, rfl, hb⟩ := hrel; by_cases hlt : k < n
   ·have hkl : k < ds.length := (by have := HL.out; omega); have hcs : (ds.map (·.ps))[k]? = some (drAt ds k).ps := (by rw [List.getElem?_map, drAt_some hkl]; rfl); have hall := cab_all HOk.out (drAt ds k).ps (List.mem_of_getElem? hcs); have HSt := uH (cabTxt_step2 hcs); have hbd := cabTxt_bd2 HOk.out k; have HAl := uH hall; have h4 := hall.2; have HDr : Hid (∀ W, Below w.heap.size w W → ∃ b off, A = some ⟨b, off, none⟩ ∧ b < w.heap.size ∧ W.cell? ⟨b, off + k, none⟩ = some (.slice (drAt ds k).A (drAt ds k).n (drAt ds k).c) ∧ PadsIn W W.heap.size (drAt ds k).A (drAt ds k).n (drAt ds k).c (drAt ds k).ps) := uH (fun W hW => by
     obtain ⟨b, off, eA, hbB, c0, hP⟩ := H.out.at_ hlt; obtain ⟨b', off', eA', _, c0', hP'⟩ := (H.out.keep hW).at_ hlt; rw [eA] at eA'; injection eA' with e1; injection e1 with e1 e2 _; subst e1 e2; exact ⟨b, off, eA, hbB, c0', hP'⟩)
    have hdn : (drAt ds k).ps.length = (drAt ds k).n := (by obtain ⟨_, _, _, _, _, hP⟩ := H.out.at_ hlt; exact hP.1); have hT10 : ∀ W', (Op.stringOp .add (mkStr (cabTxt ((ds.map (·.ps)).take k) ++ drawT (drAt ds k).ps)) { data := #[10] }).run Tryz.prog W' = .ok (.string (mkStr (cabTxt ((ds.map (·.ps)).take (k + 1))))) W' := fun W' => by
     rw [HSt.out]; exact run_add _ [10] (by have := drawT_len hall.1; rw [List.length_append, List.length_singleton]; omega) W'
    have HDn := uH hdn; obtain ⟨b, off, eA, hbB, c0, _⟩ := HDr.out w (Below.refl _ _); have HT10 := uH hT10; clear hkl hcs hall hT10 hdn c0; subst eA; have HVk := uH (HV.out wr hb); generalize hX : cabTxt ((ds.map (·.ps)).take k) = X at *; clear hX; (go_wp2_with fail); refine HVk.out.mono ?_; rintro e w1 ⟨rfl, hb1⟩; have b1 := hb.trans (hb1.mono hb.size); clear hb1 HVk; go_wp2; go_loopw [3, 5] (fun v j wr2 => ∃ q : Nat, q ≤ (drAt ds k).n ∧ j = .int .i64 q ∧ v = .string (mkStr (X ++ drawK (drAt ds k).ps q)) ∧ Below w.heap.size w wr2) (fun _ j _ => (drAt ds k).n - (intOf j).toNat)
    case atStart => exact ⟨0, Nat.zero_le _, rfl, by rw [drawK_zero, List.append_nil], b1⟩
    case round =>
     obtain ⟨q, hq, rfl, rfl, hb2⟩ := hrel; obtain ⟨b', off', eA', _, c0, hP⟩ := HDr.out _ hb2; injection eA' with e1; injection e1 with e1 e2 _; subst e1 e2; have hdm := hP.2.2.1; have hdc := hP.2.1; unfold maxLen at hdm; by_cases hlq : q < (drAt ds k).n
     ·have hql : q < (drAt ds k).ps.length := (by rw [HDn.out]; exact hlq); obtain ⟨b2, off2, eA2, _, d0, d1, _⟩ := hP.at_ hlq; have hpo := HAl.out.1 _ (padAt_mem hql); obtain ⟨hd0, hd1, hcl⟩ := ok_case hpo; have HDe := uH (fun W => l6DecDay (padAt (drAt ds k).ps q).day W hd0 hd1); have hdl := dec_len20' (padAt (drAt ds k).ps q).day hd0 hd1; have hkl2 := drawK_len HAl.out.1 q; have h44 : (drAt ds k).ps.length ≤ 4 := h4; by_cases hq0 : q = 0
      ·subst hq0; have HN : Hid (X ++ drawK (drAt ds k).ps 0 ++ Lib.decDigits (padAt (drAt ds k).ps 0).day.toNat ++ [58] ++ (padAt (drAt ds k).ps 0).case.data.toList = X ++ drawK (drAt ds k).ps (0 + 1)) := uH (by
        rw [drawK_zero, drawK_first hql]; unfold dayT; simp [List.append_assoc])
       simp only [Nat.zero_mul, Nat.add_zero] at d0 d1; have hadd1 : ∀ W', (Op.stringOp .add (mkStr (X ++ drawK (drAt ds k).ps 0)) (mkStr (Lib.decDigits (padAt (drAt ds k).ps 0).day.toNat))).run Tryz.prog W' = .ok (.string (mkStr (X ++ drawK (drAt ds k).ps 0 ++ Lib.decDigits (padAt (drAt ds k).ps 0).day.toNat))) W' := fun W' => run_add _ _ (by simp only [List.length_append, List.length_singleton]; omega) W'; have hadd2 : ∀ W', (Op.stringOp .add (mkStr (X ++ drawK (drAt ds k).ps 0 ++ Lib.decDigits (padAt (drAt ds k).ps 0).day.toNat)) { data := #[58] }).run Tryz.prog W' = .ok (.string (mkStr (X ++ drawK (drAt ds k).ps 0 ++ Lib.decDigits (padAt (drAt ds k).ps 0).day.toNat ++ [58]))) W' := fun W' => run_add _ [58] (by simp only [List.length_append, List.length_singleton]; omega) W'; have hadd3 : ∀ W', (Op.stringOp .add (mkStr (X ++ drawK (drAt ds k).ps 0 ++ Lib.decDigits (padAt (drAt ds k).ps 0).day.toNat ++ [58])) (padAt (drAt ds k).ps 0).case).run Tryz.prog W' = .ok (.string (mkStr (X ++ drawK (drAt ds k).ps (0 + 1)))) W' := fun W' => by
        have h := run_add (P := Tryz.prog) (X ++ drawK (drAt ds k).ps 0 ++ Lib.decDigits (padAt (drAt ds k).ps 0).day.toNat ++ [58]) (padAt (drAt ds k).ps 0).case.data.toList (by simp only [List.length_append, List.length_singleton]; omega) W'; rw [mkStr_self, HN.out] at h; exact h
       have hi1 : (0 : Int) ≤ (k : Int) := (by omega); have hi2 : (k : Int) < (n : Int) := (by omega); have hi4 : (0 : Int) < ((drAt ds k).n : Int) := (by omega); rw [eA2] at c0; have r0 := qcell c0; have r1 := qcell d0; have r2 := qcell d1; clear hP hpo hcl hdl hkl2 h44 hql HN eA2; generalize hs4 : mkStr (X ++ drawK (drAt ds k).ps (0 + 1)) = s4 at *; have HS4 := uH hs4; clear hs4; generalize mkStr (X ++ drawK (drAt ds k).ps 0 ++ Lib.decDigits (padAt (drAt ds k).ps 0).day.toNat ++ [58]) = s3 at *; generalize mkStr (X ++ drawK (drAt ds k).ps 0 ++ Lib.decDigits (padAt (drAt ds k).ps 0).day.toNat) = s2 at *; generalize mkStr (Lib.decDigits (padAt (drAt ds k).ps 0).day.toNat) = sd at *; generalize mkStr (X ++ drawK (drAt ds k).ps 0) = s1 at *; generalize padAt (drAt ds k).ps 0 = p at *; (go_wp2_with fail); refine region_qb (by kernel_rfl) (by kernel_rfl) ?_; repeat (first | go_big_quiet_step ((go_at_call 55; exact quietB (HDe.out _))) | quiet_step ((go_at_call 55; exact quietB (HDe.out _))))
       refine wpQuiet_nil ?_; intro w3 hb3; have b3 := hb2.trans (hb3.mono hb2.size); clear r0 r1 r2 c0 d0 d1 hb3; go_wp2; go_roundw
       case rel => exact ⟨0 + 1, by omega, by go_num, by rw [HS4.out], b3⟩
       case measure => simp [intOf]; omega
      ·have hqp : 0 < q := (by omega); have hadd0 : ∀ W', (Op.stringOp .add (mkStr (X ++ drawK (drAt ds k).ps q)) { data := #[32] }).run Tryz.prog W' = .ok (.string (mkStr (X ++ drawK (drAt ds k).ps q ++ [32]))) W' := fun W' => run_add _ [32] (by rw [List.length_append, List.length_singleton]; omega) W'; have HN : Hid (X ++ drawK (drAt ds k).ps q ++ [32] ++ Lib.decDigits (padAt (drAt ds k).ps q).day.toNat ++ [58] ++ (padAt (drAt ds k).ps q).case.data.toList = X ++ drawK (drAt ds k).ps (q + 1)) := uH (by
        rw [drawK_step hql hqp]; unfold dayT; simp [List.append_assoc])
       have hadd1 : ∀ W', (Op.stringOp .add (mkStr (X ++ drawK (drAt ds k).ps q ++ [32])) (mkStr (Lib.decDigits (padAt (drAt ds k).ps q).day.toNat))).run Tryz.prog W' = .ok (.string (mkStr (X ++ drawK (drAt ds k).ps q ++ [32] ++ Lib.decDigits (padAt (drAt ds k).ps q).day.toNat))) W' := fun W' => run_add _ _ (by simp only [List.length_append, List.length_singleton]; omega) W'; have hadd2 : ∀ W', (Op.stringOp .add (mkStr (X ++ drawK (drAt ds k).ps q ++ [32] ++ Lib.decDigits (padAt (drAt ds k).ps q).day.toNat)) { data := #[58] }).run Tryz.prog W' = .ok (.string (mkStr (X ++ drawK (drAt ds k).ps q ++ [32] ++ Lib.decDigits (padAt (drAt ds k).ps q).day.toNat ++ [58]))) W' := fun W' => run_add _ [58] (by simp only [List.length_append, List.length_singleton]; omega) W'; have hadd3 : ∀ W', (Op.stringOp .add (mkStr (X ++ drawK (drAt ds k).ps q ++ [32] ++ Lib.decDigits (padAt (drAt ds k).ps q).day.toNat ++ [58])) (padAt (drAt ds k).ps q).case).run Tryz.prog W' = .ok (.string (mkStr (X ++ drawK (drAt ds k).ps (q + 1)))) W' := fun W' => by
        have h := run_add (P := Tryz.prog) (X ++ drawK (drAt ds k).ps q ++ [32] ++ Lib.decDigits (padAt (drAt ds k).ps q).day.toNat ++ [58]) (padAt (drAt ds k).ps q).case.data.toList (by simp only [List.length_append, List.length_singleton]; omega) W'; rw [mkStr_self, HN.out] at h; exact h
       have hi1 : (0 : Int) ≤ (k : Int) := (by omega); have hi2 : (k : Int) < (n : Int) := (by omega); have hi3 : (0 : Int) ≤ (q : Int) := (by omega); have hi4 : (q : Int) < ((drAt ds k).n : Int) := (by omega); rw [eA2] at c0; have r0 := qcell c0; have r1 := qcell d0; have r2 := qcell d1; clear hP hpo hcl hdl hkl2 h44 hql HN eA2; generalize hs4 : mkStr (X ++ drawK (drAt ds k).ps (q + 1)) = s4 at *; have HS4 := uH hs4; clear hs4; generalize mkStr (X ++ drawK (drAt ds k).ps q ++ [32] ++ Lib.decDigits (padAt (drAt ds k).ps q).day.toNat ++ [58]) = s3 at *; generalize mkStr (X ++ drawK (drAt ds k).ps q ++ [32] ++ Lib.decDigits (padAt (drAt ds k).ps q).day.toNat) = s2 at *; generalize mkStr (Lib.decDigits (padAt (drAt ds k).ps q).day.toNat) = sd at *; generalize mkStr (X ++ drawK (drAt ds k).ps q ++ [32]) = s1 at *; generalize mkStr (X ++ drawK (drAt ds k).ps q) = s0 at *; generalize padAt (drAt ds k).ps q = p at *; (go_wp2_with fail); refine region_qb (by kernel_rfl) (by kernel_rfl) ?_; repeat (first | go_big_quiet_step ((go_at_call 55; exact quietB (HDe.out _))) | quiet_step ((go_at_call 55; exact quietB (HDe.out _))))
       refine wpQuiet_nil ?_; intro w3 hb3; have b3 := hb2.trans (hb3.mono hb2.size); clear r0 r1 r2 c0 d0 d1 hb3; go_wp2; go_roundw
       case rel => exact ⟨q + 1, by omega, by go_num, by rw [HS4.out], b3⟩
       case measure => simp [intOf]; omega
     ·have hqe : drawK (drAt ds k).ps q = drawT (drAt ds k).ps := drawK_all (by rw [HDn.out]; omega); rw [hqe]; have hT10 := HT10.out; clear hP hqe; generalize mkStr (X ++ drawT (drAt ds k).ps) = t1 at *; generalize hT2 : mkStr (cabTxt ((ds.map (·.ps)).take (k + 1))) = t2 at *; have HT2 := uH hT2; clear hT2; go_wp2; go_roundw
      case rel => exact ⟨k + 1, by omega, by go_num, by rw [HT2.out], hb2⟩
      case measure => simp [intOf]; omega
   ·have e2 : (ds.map (·.ps)).take k = ds.map (·.ps) := List.take_of_length_le (by rw [List.length_map, HL.out]; omega); rw [e2]; go_wp2; go_returns; exact ⟨ret_bytes2 HR.out.symm, hb⟩
end Go.Proofs.YtbkhnljaajajiaaGreatDoor
