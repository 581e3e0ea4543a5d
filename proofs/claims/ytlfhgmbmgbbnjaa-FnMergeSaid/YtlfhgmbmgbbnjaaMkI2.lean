/-
  MarksMake of the program. Conditions: the lists lie in memory; no text is absurdly long.
-/
import Derived.Test.YtlfhgmbmgbbnjaaMkI
import Derived.Test.YtlfhgmbmgbbnjaaMkS
namespace Go.Proofs.Ytlfhgmbmgbbnjaa
open Go.ChangeShapes Go.WideShapes Go.ChangeAt Go.RowKit
set_option maxRecDepth 100000
set_option linter.unusedSimpArgs false

/-- The open mark by its two beginnings. -/
def curF (b : List Wd) (i k fA fB : Nat) : Option Mk := if fA < i ∨ fB < k then some ⟨fA, i - fA, (b.drop fB).take (k - fB)⟩ else none
theorem curF_of {b : List Wd} {i k fA fB : Nat} (h1 : fA ≤ i) (h2 : fB ≤ k) : curOf i (curF b i k fA fB) = ⟨fA, i - fA, (b.drop fB).take (k - fB)⟩ := by
  unfold curF curOf
  by_cases h : fA < i ∨ fB < k
  · rw [if_pos h]; rfl
  · rw [if_neg h]
    have e1 : fA = i := by omega
    have e2 : fB = k := by omega
    subst e1 e2
    simp
theorem curF_new (b : List Wd) (i k : Nat) : curF b i k i k = none := if_neg (by omega)
theorem curF_cut {b : List Wd} {i k fA fB : Nat} (h1 : fA ≤ i) (h2 : fB ≤ k) : some (⟨(curOf i (curF b i k fA fB)).at_, (curOf i (curF b i k fA fB)).cut + 1, (curOf i (curF b i k fA fB)).put⟩ : Mk) = curF b (i + 1) k fA fB := by
  rw [curF_of h1 h2]; unfold curF; rw [if_pos (by omega)]
  congr 2; show i - fA + 1 = i + 1 - fA; omega
theorem curF_put {b : List Wd} {i k fA fB : Nat} (h1 : fA ≤ i) (h2 : fB ≤ k) (hk : k < b.length) : some (⟨(curOf i (curF b i k fA fB)).at_, (curOf i (curF b i k fA fB)).cut, (curOf i (curF b i k fA fB)).put ++ [wdAt b k]⟩ : Mk) = curF b i (k + 1) fA fB := by
  rw [curF_of h1 h2]; unfold curF; rw [if_pos (by omega)]
  congr 2
  show (b.drop fB).take (k - fB) ++ [wdAt b k] = (b.drop fB).take (k + 1 - fB)
  rw [show k + 1 - fB = k - fB + 1 by omega, List.take_add_one, List.getElem?_drop, show fB + (k - fB) = k by omega, wdAt_some hk]
  rfl
/-- The variables. -/
def VarsM (w : World) (g i k fA fB : Nat) (v : Value) : Prop :=
  Blk w (g + 1) 32 #[v] ∧ Blk w (g + 2) 3 #[.int .i64 (fA : Int)] ∧ Blk w (g + 3) 3 #[.int .i64 (fB : Int)] ∧ Blk w (g + 4) 3 #[.int .i64 (i : Int)] ∧ Blk w (g + 5) 3 #[.int .i64 (k : Int)]
section
variable {w w' : World} {g i k fA fB : Nat} {v : Value}
theorem VarsM.below (h : VarsM w g i k fA fB v) (hb : Below w.heap.size w w') : VarsM w' g i k fA fB v := ⟨h.1.below hb, h.2.1.below hb, h.2.2.1.below hb, h.2.2.2.1.below hb, h.2.2.2.2.below hb⟩
theorem VarsM.grown {row : Option Nat} (h : VarsM w g i k fA fB v) (hg : w.grownBy w' row) (hr : ∀ q, row = some q → q ≤ g ∨ g + 6 ≤ q) : VarsM w' g i k fA fB v := by
  have key : ∀ {q : Nat} {t : TypeId} {cs : Array Value}, Blk w q t cs → g < q → q < g + 6 → Blk w' q t cs := fun hb h1 h2 => (hg.block _ hb.lt (fun e => by have := hr _ e.symm; omega)).trans hb
  exact ⟨key h.1 (by omega) (by omega), key h.2.1 (by omega) (by omega), key h.2.2.1 (by omega) (by omega), key h.2.2.2.1 (by omega) (by omega), key h.2.2.2.2 (by omega) (by omega)⟩
theorem VarsM.setM (h : VarsM w g i k fA fB v) (u : Value) : VarsM (w.setCell ⟨g + 1, 0, none⟩ u) g i k fA fB u :=
  ⟨h.1.set 0 u, h.2.1.far (by simp) u, h.2.2.1.far (by simp) u, h.2.2.2.1.far (by simp) u, h.2.2.2.2.far (by simp) u⟩
theorem VarsM.setA (h : VarsM w g i k fA fB v) (u : Nat) : VarsM (w.setCell ⟨g + 2, 0, none⟩ (.int .i64 (u : Int))) g i k u fB v :=
  ⟨h.1.far (by simp) _, h.2.1.set 0 _, h.2.2.1.far (by simp) _, h.2.2.2.1.far (by simp) _, h.2.2.2.2.far (by simp) _⟩
theorem VarsM.setB (h : VarsM w g i k fA fB v) (u : Nat) : VarsM (w.setCell ⟨g + 3, 0, none⟩ (.int .i64 (u : Int))) g i k fA u v :=
  ⟨h.1.far (by simp) _, h.2.1.far (by simp) _, h.2.2.1.set 0 _, h.2.2.2.1.far (by simp) _, h.2.2.2.2.far (by simp) _⟩
theorem VarsM.setI (h : VarsM w g i k fA fB v) (u : Nat) : VarsM (w.setCell ⟨g + 4, 0, none⟩ (.int .i64 (u : Int))) g u k fA fB v :=
  ⟨h.1.far (by simp) _, h.2.1.far (by simp) _, h.2.2.1.far (by simp) _, h.2.2.2.1.set 0 _, h.2.2.2.2.far (by simp) _⟩
theorem VarsM.setJ (h : VarsM w g i k fA fB v) (u : Nat) : VarsM (w.setCell ⟨g + 5, 0, none⟩ (.int .i64 (u : Int))) g i u fA fB v :=
  ⟨h.1.far (by simp) _, h.2.1.far (by simp) _, h.2.2.1.far (by simp) _, h.2.2.2.1.far (by simp) _, h.2.2.2.2.set 0 _⟩
end
def cellNat (w : World) (b : Nat) : Nat := match w.cell? ⟨b, 0, none⟩ with | some v => (intOf v).toNat | none => 0
theorem cellNat_of {w : World} {b : Nat} {t : TypeId} {x : Nat} (h : Blk w b t #[.int .i64 (x : Int)]) : cellNat w b = x := by
  unfold cellNat; rw [h.cell 0]; simp [intOf]
theorem MrOwn.far {w : World} {B q j : Nat} {v u : Value} {xs : List Mr} (h : MrOwn w B v xs) (hq : v.ownBlock ≠ some q) (hx : ∀ x ∈ xs, 0 < x.n → ∀ a, x.A = some a → a.block ≠ q) : MrOwn (w.setCell ⟨q, j, none⟩ u) B v xs := by
  have hg := only_set1 w q j u
  exact ⟨ownG_congr h.1 (fun r hr => hg.block r (ownG_lt h.1 hr) (fun e => hq (by rw [hr, e]))), fun x hm => ⟨WdsIn.grown (h.2 x hm).1 hg (fun hp a ha e => hx x hm hp a ha (by injection e with e; exact e.symm)), fun hp a ha => ⟨((h.2 x hm).2 hp a ha).1, by simpa using ((h.2 x hm).2 hp a ha).2⟩⟩⟩
/-- What the loop keeps: the marks so far. -/
def LoopM (w1 wr : World) (g i k fA fB : Nat) (D : List Mr) (v : Value) : Prop :=
  VarsM wr g i k fA fB v ∧ MrOwn wr g v D ∧ (∀ q, v.ownBlock = some q → q = g ∨ g + 6 ≤ q) ∧ Below g w1 wr ∧ ∀ x ∈ D, 0 < x.n → ∀ p, x.A = some p → g + 6 ≤ p.block
section
variable {w1 w w' : World} {g i k fA fB : Nat} {D : List Mr} {v : Value}
theorem LoopM.size (h : LoopM w1 w g i k fA fB D v) : g + 6 ≤ w.heap.size := h.1.2.2.2.2.lt
theorem LoopM.below (h : LoopM w1 w g i k fA fB D v) (hb : Below w.heap.size w w') : LoopM w1 w' g i k fA fB D v :=
  ⟨h.1.below hb, h.2.1.keep hb, h.2.2.1, h.2.2.2.1.trans (hb.mono (by have := h.size; omega)), h.2.2.2.2⟩
theorem LoopM.var (h : LoopM w1 w g i k fA fB D v) {q j : Nat} {u : Value} (hq : g < q) (hq2 : q < g + 6) {i' k' fA' fB' : Nat} (hv : VarsM (w.setCell ⟨q, j, none⟩ u) g i' k' fA' fB' v) : LoopM w1 (w.setCell ⟨q, j, none⟩ u) g i' k' fA' fB' D v :=
  ⟨hv, h.2.1.far (fun e => by have := h.2.2.1 q e; omega) (fun x hx hp a ha e => by have := h.2.2.2.2 x hx hp a ha; omega), h.2.2.1,
    h.2.2.2.1.grown (only_set1 w q j u) (by have := h.size; omega) (fun r hr => by injection hr with hr; omega), h.2.2.2.2⟩
theorem LoopM.setI (h : LoopM w1 w g i k fA fB D v) (u : Nat) : LoopM w1 (w.setCell ⟨g + 4, 0, none⟩ (.int .i64 (u : Int))) g u k fA fB D v := h.var (by omega) (by omega) (h.1.setI u)
theorem LoopM.setJ (h : LoopM w1 w g i k fA fB D v) (u : Nat) : LoopM w1 (w.setCell ⟨g + 5, 0, none⟩ (.int .i64 (u : Int))) g i u fA fB D v := h.var (by omega) (by omega) (h.1.setJ u)
theorem LoopM.setA (h : LoopM w1 w g i k fA fB D v) (u : Nat) : LoopM w1 (w.setCell ⟨g + 2, 0, none⟩ (.int .i64 (u : Int))) g i k u fB D v := h.var (by omega) (by omega) (h.1.setA u)
theorem LoopM.setB (h : LoopM w1 w g i k fA fB D v) (u : Nat) : LoopM w1 (w.setCell ⟨g + 3, 0, none⟩ (.int .i64 (u : Int))) g i k fA u D v := h.var (by omega) (by omega) (h.1.setB u)
theorem LoopM.drew (h : LoopM w1 w g i k fA fB D v) : LoopM w1 w.drew g i k fA fB D v := h.below (Below.refl _ _).drew
/-- The closure has run. -/
theorem LoopM.fin (h : LoopM w1 w g i k fA fB D v) {b : List Wd} (hF : FinAns w w' g (g + 1) v D (fA < i ∨ fB < k) ⟨fA, i - fA, (b.drop fB).take (k - fB)⟩) :
    ∃ D' v', LoopM w1 w' g i k fA fB D' v' ∧ D'.map Mr.dat = D.map Mr.dat ++ (curF b i k fA fB).toList ∧ D'.length ≤ D.length + 1 := by
  rcases hF with ⟨hop, hb⟩ | ⟨hop, w2, v2, x, hd, hx, rfl, hg, hO, hv⟩
  · exact ⟨D, v, h.below hb, by unfold curF; rw [if_neg hop]; simp, by omega⟩
  · have hr : ∀ q, v.ownBlock = some q → q ≤ g ∨ g + 6 ≤ q := fun q hq => by have := h.2.2.1 q hq; omega
    have hV := h.1.grown hg hr
    have hz := h.size
    have hv2 : ∀ q, v2.ownBlock = some q → q = g ∨ g + 6 ≤ q := fun q hq => by
      rcases hv with e | ⟨r, e, hr2⟩
      · exact h.2.2.1 q (e.symm.trans hq)
      · rw [e] at hq; injection hq with hq; omega
    have hD2 : ∀ y ∈ D ++ [x], 0 < y.n → ∀ p, y.A = some p → g + 6 ≤ p.block := fun y hy hp p hpA => by
      rcases List.mem_append.1 hy with hy | hy
      · exact h.2.2.2.2 y hy hp p hpA
      · rw [List.mem_singleton] at hy
        subst hy
        have := hx hp p hpA; omega
    refine ⟨D ++ [x], v2, ⟨hV.setM v2, hO.far (fun e => by have := hv2 _ e; omega) (fun y hy hp a ha e => by have := hD2 y hy hp a ha; omega), hv2, ?_, hD2⟩, by unfold curF; rw [if_pos hop, List.map_append]; simp [hd], by simp⟩
    have b1 : Below g w1 w2 := h.2.2.2.1.grown hg (by omega) (fun q hq => by have := h.2.2.1 q hq; omega)
    exact b1.grown (only_set1 w2 (g + 1) 0 v2) (by have := hg.size; omega) (fun r hr => by injection hr with hr; omega)
end

theorem LoopM.start {w1 : World} (g : Nat) (hg : w1.heap.size = g) :
    LoopM w1 ((((((w1.alloc (.cells #[] 37)).alloc (.cells #[.slice (some ⟨g, 0, none⟩) 0 0] 32)).alloc (.cells #[.int .i64 0] 3)).alloc (.cells #[.int .i64 0] 3)).alloc (.cells #[.int .i64 0] 3)).alloc (.cells #[.int .i64 0] 3)) g 0 0 0 0 [] (.slice (some ⟨g, 0, none⟩) 0 0) := by
  subst hg
  have e1 : (w1.alloc (.cells #[] 37)).heap.size = w1.heap.size + 1 := by simp
  have key : ∀ (W : World) (n : Nat) (cs : Array Value) (t : TypeId), W.heap.size = n → Blk (W.alloc (.cells cs t)) n t cs := fun W n cs t h => by subst h; exact Blk.new _ _ _
  refine ⟨⟨((((key _ _ _ _ (by simp)).alloc _).alloc _).alloc _).alloc _, (((key _ _ _ _ (by simp)).alloc _).alloc _).alloc _, ((key _ _ _ _ (by simp)).alloc _).alloc _, (key _ _ _ _ (by simp)).alloc _, key _ _ _ _ (by simp)⟩, ?_, fun q hq => .inl (by injection hq with hq; exact hq.symm), ?_, by simp⟩
  · have h0 := MrOwn.made w1
    have al : ∀ (W : World) (o : Obj), Below W.heap.size W (W.alloc o) := fun W o => (Below.refl _ _).alloc (Nat.le_refl _) _
    exact ((((h0.keep (al _ _)).keep (al _ _)).keep (al _ _)).keep (al _ _)).keep (al _ _)
  · exact ((((((Below.refl _ _).alloc (Nat.le_refl _) _).alloc (by simp) _).alloc (by simp; omega) _).alloc (by simp; omega) _).alloc (by simp; omega) _).alloc (by simp; omega) _
set_option maxHeartbeats 3200000 in
theorem implMarksMake (A : Option Addr) (n c : Nat) (a : List Wd) (A' : Option Addr) (n' c' : Nat) (b : List Wd) (w : World) (hW : ∀ l ∈ a, l.length ≤ maxLen) (hW' : ∀ l ∈ b, l.length ≤ maxLen) (h : WdsIn w w.heap.size A n c a) (h' : WdsIn w w.heap.size A' n' c' b) :
    Calls Try.prog 14 #[.slice A n c, .slice A' n' c'] w fun e w' => MkAns w' (makeO a b) e ∧ Below w.heap.size w w' := by
  have hal : Below w.heap.size w (w.alloc (.cells #[.slice A' n' c'] 22)) := (Below.refl _ _).alloc (Nat.le_refl _) _
  have HS := Lib.hid (implSpeechValid A n c a _ hW (h.keep hal))
  have HS' := Lib.hid (implSpeechValid A' n' c' b _ hW' (h'.keep hal))
  have HL := Lib.hid h.1; have HL' := Lib.hid h'.1
  have H := Lib.hid h; have H' := Lib.hid h'
  have HZ := Lib.hid (fun (W : World) (AA : Option Addr) => MrsIn.zero W W.heap.size AA)
  clear h h' hW hW'
  cases hA : spB a with
  | false =>
    have HR : Hid (makeO a b = none) := Lib.hid (if_neg (by rw [hA]; simp))
    rw [hA] at HS
    clear hA
    go_enter Try.func14, Try.ntmps14
    go_wp2_with fail
    refine HS.out.mono ?_
    rintro e w1 ⟨rfl, rfl⟩
    go_wp2
    go_returns
    exact ⟨.inl ⟨HR.out, _, _, rfl, HZ.out _ _⟩, hal⟩
  | true =>
  cases hB : spB b with
  | false =>
    have HR : Hid (makeO a b = none) := Lib.hid (if_neg (by rw [hB]; simp))
    rw [hA] at HS; rw [hB] at HS'
    clear hA hB
    go_enter Try.func14, Try.ntmps14
    go_wp2_with fail
    refine HS.out.mono ?_
    rintro e w1 ⟨rfl, rfl⟩
    go_wp2_with fail
    refine HS'.out.mono ?_
    rintro e w1 ⟨rfl, rfl⟩
    go_wp2
    go_returns
    exact ⟨.inl ⟨HR.out, _, _, rfl, HZ.out _ _⟩, hal⟩
  | true =>
    have HR : Hid (makeO a b = some (mkAll a b)) := Lib.hid (if_pos (by rw [hA, hB]; rfl))
    have h20 : n ≤ 20 := by have := (spB_iff.1 hA).2; rw [HL.out] at this; exact this
    have h20' : n' ≤ 20 := by have := (spB_iff.1 hB).2; rw [HL'.out] at this; exact this
    rw [hA] at HS; rw [hB] at HS'
    have HT := Lib.hid (implFarTable A n c a A' n' c' b _ h20 h20' (H.out.keep hal) (H'.out.keep hal))
    clear hA hB
    go_enter Try.func14, Try.ntmps14
    go_wp2_with fail
    refine HS.out.mono ?_
    rintro e w1 ⟨rfl, rfl⟩
    go_wp2_with fail
    refine HS'.out.mono ?_
    rintro e w1 ⟨rfl, rfl⟩
    go_wp2_with fail
    refine HT.out.mono ?_
    rintro e w1 ⟨⟨v7, rfl, gt, rb, rfl, hg1, hg2, hTc⟩, hb2⟩
    simp only [World.size_alloc] at hg1
    have b1 := below_next hal hb2
    have hbc := kcell hb2 (newcell w #[.slice A' n' c'] 22 0 _ rfl)
    obtain ⟨g, hg⟩ : ∃ g, w1.heap.size = g := ⟨_, rfl⟩
    have hNg : w.heap.size < g := by rw [← hg]; exact World.block_lt_of_cell? _ _ hbc
    have HTC : Hid (TabC w1 gt rb a b) := Lib.hid (fun i hi => ⟨(hTc i hi).1, (hTc i hi).2.2.2⟩)
    have HTb : Hid (gt < g ∧ ∀ i, i ≤ a.length → rb i < g) := Lib.hid ⟨by rw [← hg]; exact hg2, fun i hi => by rw [← hg]; exact (hTc i hi).2.2.1⟩
    have HB1 := Lib.hid b1
    have HBc := Lib.hid hbc
    have HM0 := Lib.hid (LoopM.start g hg)
    have HGo0 : Hid (mkAll a b = ([] : List Mr).map Mr.dat ++ mkGo (a.drop 0) (b.drop 0) 0 (curF b 0 0 0 0)) := Lib.hid rfl
    rw [HL.out]
    clear hTc hb2 HT HS HS' hal hg2 b1 hbc
    have HFC := Lib.hid (fun (W : World) (i k fA fB : Nat) (D : List Mr) (v : Value) (hM : LoopM w1 W g i k fA fB D v) (h1 : fA ≤ i) (h2 : i ≤ 20) (h3 : fB ≤ k) (h4 : k ≤ n') (hD : D.length ≤ 40) =>
      (finishC (g + 4) (g + 2) (g + 5) (g + 3) w.heap.size (g + 1) i fA k fB g A' n' c' b v D W (hM.1.2.2.2.1.cell 0) (hM.1.2.1.cell 0) (hM.1.2.2.2.2.cell 0) (hM.1.2.2.1.cell 0) ((hM.2.2.2.1.cell hNg).trans HBc.out) ⟨hM.1.1.cell 0, hM.1.1.free 0⟩
        (H'.out.keep (HB1.out.trans (hM.2.2.2.1.mono (by omega)))) hM.2.1 (fun e => by have := hM.2.2.1 _ e; omega) (by have := hM.size; omega) h1 h2 h3 h4 h20' hD).mono (fun e w' (hh : e = .returned (.tuple #[]) ∧ FinAns W w' g (g + 1) v D (fA < i ∨ fB < k) ⟨fA, i - fA, (b.drop fB).take (k - fB)⟩) => (⟨hh.1, hM.fin hh.2⟩ : e = .returned (.tuple #[]) ∧ ∃ D' v', LoopM w1 w' g i k fA fB D' v' ∧ D'.map Mr.dat = D.map Mr.dat ++ (curF b i k fA fB).toList ∧ D'.length ≤ D.length + 1)))
    go_wp2_with fail
    rw [show g + 1 + 1 + 1 + 1 + 1 = g + 5 from rfl, show g + 1 + 1 + 1 + 1 = g + 4 from rfl, show g + 1 + 1 + 1 = g + 3 from rfl, show g + 1 + 1 = g + 2 from rfl]
    go_loopw [] (fun wr => ∃ (i k fA fB : Nat) (D : List Mr) (v : Value), i ≤ n ∧ k ≤ n' ∧ fA ≤ i ∧ fB ≤ k ∧ Hid (mkAll a b = D.map Mr.dat ++ mkGo (a.drop i) (b.drop k) i (curF b i k fA fB)) ∧ Hid (D.length ≤ fA + fB) ∧ Hid (LoopM w1 wr g i k fA fB D v)) (fun wr => (n - cellNat wr (g + 4)) + (n' - cellNat wr (g + 5)))
    case atStart => exact ⟨0, 0, 0, 0, [], _, Nat.zero_le _, Nat.zero_le _, Nat.le_refl _, Nat.le_refl _, HGo0, Lib.hid (by simp), HM0⟩
    case round =>
      obtain ⟨i, k, fA, fB, D, v, hin, hkn, hfi, hfk, HE, HX, HM⟩ := hrel
      have ii1 : (0 : Int) ≤ (i : Int) := by omega
      have kk1 : (0 : Int) ≤ (k : Int) := by omega
      have cI : wr.cell? ⟨g + 4, 0, none⟩ = some (.int .i64 (i : Int)) := HM.out.1.2.2.2.1.cell 0
      have cK : wr.cell? ⟨g + 5, 0, none⟩ = some (.int .i64 (k : Int)) := HM.out.1.2.2.2.2.cell 0
      have cb : wr.cell? ⟨w.heap.size, 0, none⟩ = some (.slice A' n' c') := (HM.out.2.2.2.1.cell hNg).trans HBc.out
      have mI : cellNat wr (g + 4) = i := cellNat_of HM.out.1.2.2.2.1
      have mK : cellNat wr (g + 5) = k := cellNat_of HM.out.1.2.2.2.2
      have HmI := Lib.hid mI; have HmK := Lib.hid mK
      clear mI mK
      go_upto_region 8 with fail
      go_cut [35] (fun c35 wx => wr = wx ∧ Value.bool (decide (i < n ∨ k < n')) = c35)
      case first =>
        by_cases hi : i < n
        · have e0 : (i : Int) < (n : Int) := by omega
          go_wp2
          go_meet
          exact ⟨rfl, congrArg Value.bool (decide_eq_true (.inl hi))⟩
        · have e0 : ¬ (i : Int) < (n : Int) := by omega
          by_cases hk : k < n'
          · have e1 : (k : Int) < (n' : Int) := by omega
            go_wp2
            go_meet
            exact ⟨rfl, congrArg Value.bool (decide_eq_true (.inr hk))⟩
          · have e1 : ¬ (k : Int) < (n' : Int) := by omega
            go_wp2
            go_meet
            exact ⟨rfl, congrArg Value.bool (decide_eq_false (fun h => h.elim hi hk))⟩
      case rest =>
        obtain ⟨rfl, rfl⟩ := hcut
        by_cases hgo : i < n ∨ k < n'
        · rw [decide_eq_true hgo]
          go_upto_region 10 with fail
          go_cut [38] (fun c38 wx => Below wr.heap.size wr wx ∧ Value.bool (decide (i < n ∧ k < n' ∧ wdAt a i = wdAt b k)) = c38)
          case first =>
            have HbA := Lib.hid (H.out.keep (HB1.out.trans (HM.out.2.2.2.1.mono (by omega))))
            have HbB := Lib.hid (H'.out.keep (HB1.out.trans (HM.out.2.2.2.1.mono (by omega))))
            clear HE HX HM HTC HTb HGo0 HR HZ HFC H H'
            by_cases hi : i < n
            · have e0 : (i : Int) < (n : Int) := by omega
              by_cases hk : k < n'
              · have e1 : (k : Int) < (n' : Int) := by omega
                obtain ⟨bA, oA, rfl, hbA, cA⟩ := HbA.out.at_ hi
                obtain ⟨bB, oB, rfl, hbB, cB⟩ := HbB.out.at_ hk
                have hq1 := beq_str (mkStr (wdAt b k)) (wdAt a i) (wdAt b k) rfl
                have HD : Hid (decide (i < n ∧ k < n' ∧ wdAt a i = wdAt b k) = decide (wdAt a i = wdAt b k)) := Lib.hid (decide_eq_decide.2 ⟨fun h => h.2.2, fun h => ⟨hi, hk, h⟩⟩)
                have qA := qcell cA; have qB := qcell cB; have qI := qcell cI; have qK := qcell cK; have qb := qcell cb
                generalize mkStr (wdAt a i) = sA at *
                generalize mkStr (wdAt b k) = sB at *
                generalize decide (wdAt a i = wdAt b k) = q at *
                refine region_qb (by kernel_rfl) (by kernel_rfl) ?_
                repeat (first | go_big_quiet_step (fail) | quiet_step (fail))
                refine wpQuiet_nil ?_
                intro w5 hb5
                go_wp2
                go_meet
                exact ⟨hb5, congrArg Value.bool HD.out⟩
              · have e1 : ¬ (k : Int) < (n' : Int) := by omega
                have qI := qcell cI; have qK := qcell cK; have qb := qcell cb
                refine region_qb (by kernel_rfl) (by kernel_rfl) ?_
                repeat (first | go_big_quiet_step (fail) | quiet_step (fail))
                refine wpQuiet_nil ?_
                intro w5 hb5
                go_wp2
                go_meet
                exact ⟨hb5, congrArg Value.bool (decide_eq_false (fun h => hk h.2.1))⟩
            · have e0 : ¬ (i : Int) < (n : Int) := by omega
              have qI := qcell cI; have qK := qcell cK; have qb := qcell cb
              refine region_qb (by kernel_rfl) (by kernel_rfl) ?_
              repeat (first | go_big_quiet_step (fail) | quiet_step (fail))
              refine wpQuiet_nil ?_
              intro w5 hb5
              go_wp2
              go_meet
              exact ⟨hb5, congrArg Value.bool (decide_eq_false (fun h => hi h.1))⟩
          case rest =>
            obtain ⟨hb5, rfl⟩ := hcut
            generalize wc = w5 at *
            have HM5 := Lib.hid (HM.out.below hb5)
            clear HM cI cK cb hb5
            have cI : w5.cell? ⟨g + 4, 0, none⟩ = some (.int .i64 (i : Int)) := HM5.out.1.2.2.2.1.cell 0
            have cK : w5.cell? ⟨g + 5, 0, none⟩ = some (.int .i64 (k : Int)) := HM5.out.1.2.2.2.2.cell 0
            have fI : w5.frozen? ⟨g + 4, 0, none⟩ = false := HM5.out.1.2.2.2.1.free 0
            have fK : w5.frozen? ⟨g + 5, 0, none⟩ = false := HM5.out.1.2.2.2.2.free 0
            by_cases he : i < n ∧ k < n' ∧ wdAt a i = wdAt b k
            · rw [decide_eq_true he]
              obtain ⟨hi3, hk3, he3⟩ := he
              have HC := Lib.hid (HFC.out w5 i k fA fB D v HM5.out hfi (by omega) hfk hkn (by have := HX.out; omega))
              have HE2 : Hid (mkAll a b = (D.map Mr.dat ++ (curF b i k fA fB).toList) ++ mkGo (a.drop (i + 1)) (b.drop (k + 1)) (i + 1) (curF b (i + 1) (k + 1) (i + 1) (k + 1))) := Lib.hid (by
                rw [HE.out, goEq (by rw [HL.out]; exact hi3) (by rw [HL'.out]; exact hk3) he3, curF_new, List.append_assoc])
              clear HE HM5 cI cK fI fK he3
              go_wp2_with fail
              refine HC.out.mono ?_
              rintro e w6 ⟨rfl, D6, v6, hM6, hD6, hl6⟩
              have HM6 := Lib.hid hM6
              have HX2 : Hid (D6.length ≤ i + 1 + (k + 1)) := Lib.hid (by have := HX.out; omega)
              have HE6 : Hid (mkAll a b = D6.map Mr.dat ++ mkGo (a.drop (i + 1)) (b.drop (k + 1)) (i + 1) (curF b (i + 1) (k + 1) (i + 1) (k + 1))) := Lib.hid (by rw [hD6]; exact HE2.out)
              have cI : w6.cell? ⟨g + 4, 0, none⟩ = some (.int .i64 (i : Int)) := hM6.1.2.2.2.1.cell 0
              have cK : w6.cell? ⟨g + 5, 0, none⟩ = some (.int .i64 (k : Int)) := hM6.1.2.2.2.2.cell 0
              have fI : w6.frozen? ⟨g + 4, 0, none⟩ = false := hM6.1.2.2.2.1.free 0
              have fK : w6.frozen? ⟨g + 5, 0, none⟩ = false := hM6.1.2.2.2.2.free 0
              clear HE2 HC hM6 hD6 hl6 HX
              have i5 : (i : Int) + 1 ≤ 21 := by omega
              have k5 : (k : Int) + 1 ≤ 21 := by omega
              go_upto_region 12 with fail
              go_region
              all_goals
                have HM7 := ((HM6.out.setI (i + 1)).setJ (k + 1)).drew
                rw [show ((i + 1 : Nat) : Int) = (i : Int) + 1 by omega, show ((k + 1 : Nat) : Int) = (k : Int) + 1 by omega] at HM7
                generalize ((w6.setCell ⟨g + 4, 0, none⟩ (.int .i64 ((i : Int) + 1))).setCell ⟨g + 5, 0, none⟩ (.int .i64 ((k : Int) + 1))).drew = w7 at *
                have cI : w7.cell? ⟨g + 4, 0, none⟩ = some (.int .i64 ((i + 1 : Nat) : Int)) := HM7.1.2.2.2.1.cell 0
                have cK : w7.cell? ⟨g + 5, 0, none⟩ = some (.int .i64 ((k + 1 : Nat) : Int)) := HM7.1.2.2.2.2.cell 0
                have cA : w7.cell? ⟨g + 2, 0, none⟩ = some (.int .i64 (fA : Int)) := HM7.1.2.1.cell 0
                have cB : w7.cell? ⟨g + 3, 0, none⟩ = some (.int .i64 (fB : Int)) := HM7.1.2.2.1.cell 0
                have fA' : w7.frozen? ⟨g + 2, 0, none⟩ = false := HM7.1.2.1.free 0
                have fB' : w7.frozen? ⟨g + 3, 0, none⟩ = false := HM7.1.2.2.1.free 0
                have HM8 := Lib.hid ((HM7.setA (i + 1)).setB (k + 1))
                clear HM7
                generalize hi1 : i + 1 = i1 at *
                generalize hk1 : k + 1 = k1 at *
                go_wp2_with fail
                go_region
                all_goals
                  have HM9 := Lib.hid HM8.out.drew
                  generalize ((w7.setCell ⟨g + 2, 0, none⟩ (.int .i64 (i1 : Int))).setCell ⟨g + 3, 0, none⟩ (.int .i64 (k1 : Int))).drew = w9 at *
                  have HnI := Lib.hid (cellNat_of HM9.out.1.2.2.2.1)
                  have HnK := Lib.hid (cellNat_of HM9.out.1.2.2.2.2)
                  clear HM8 cI cK cA cB fA' fB'
                  go_wp2
                  go_roundw
                  case rel => exact ⟨i1, k1, i1, k1, D6, v6, by omega, by omega, Nat.le_refl _, Nat.le_refl _, HE6, HX2, HM9⟩
                  case measure => rw [HnI.out, HnK.out, HmI.out, HmK.out]; omega
            · rw [decide_eq_false he]
              go_upto_region 14 with fail
              go_cut [68] (fun c68 wx => Below w5.heap.size w5 wx ∧ Value.bool (decide (i < n ∧ dst (a.drop (i + 1)) (b.drop k) < dst (a.drop i) (b.drop k))) = c68)
              case first =>
                have HTz : Hid (TabC w5 gt rb a b) := Lib.hid (fun i hi => ⟨(HM5.out.2.2.2.1.cell HTb.out.1).trans (HTC.out i hi).1, fun j hj => (HM5.out.2.2.2.1.cell (HTb.out.2 i hi)).trans ((HTC.out i hi).2 j hj)⟩)
                clear HE HX HM5 HTC HTb HGo0 HR HZ HFC H H' fI fK
                have qI := qcell cI; have qK := qcell cK
                by_cases hi3 : i < n
                · have e0 : (i : Int) < (n : Int) := by omega
                  have i4 : (i : Int) + 1 < (n : Int) + 1 := by omega
                  have i5 : (i : Int) < (n : Int) + 1 := by omega
                  have k5 : (k : Int) < (n' : Int) + 1 := by omega
                  obtain ⟨t1, t1'⟩ := HTz.out (i + 1) (by rw [HL.out]; omega)
                  obtain ⟨t0, t0'⟩ := HTz.out i (by rw [HL.out]; omega)
                  have x1 := t1' k (by rw [HL'.out]; exact hkn)
                  have x0 := t0' k (by rw [HL'.out]; exact hkn)
                  rw [HL'.out] at t1 t0
                  have d1 := dst_40 (a := a) (b := b) (i + 1) k
                  have d0 := dst_40 (a := a) (b := b) i k
                  rw [HL.out, HL'.out] at d1 d0
                  clear t1' t0'
                  obtain ⟨D1, hD1⟩ : ∃ D, D = dst (a.drop (i + 1)) (b.drop k) := ⟨_, rfl⟩
                  obtain ⟨Dz, hDz⟩ : ∃ D, D = dst (a.drop i) (b.drop k) := ⟨_, rfl⟩
                  rw [← hD1] at x1 d1
                  rw [← hDz] at x0 d0
                  have HF2 : Hid (decide (i < n ∧ dst (a.drop (i + 1)) (b.drop k) < dst (a.drop i) (b.drop k)) = decide (D1 < Dz)) := Lib.hid (by
                    rw [← hD1, ← hDz]; exact decide_eq_decide.2 ⟨fun h => by have := h.2; omega, fun h => ⟨hi3, by omega⟩⟩)
                  clear hD1 hDz
                  have q1 := qcell t1; have q0 := qcell t0; have p1 := qcell x1; have p0 := qcell x0
                  refine region_qb (by kernel_rfl) (by kernel_rfl) ?_
                  repeat (first | go_big_quiet_step (fail) | quiet_step (fail))
                  refine wpQuiet_nil ?_
                  intro w9 hb9
                  go_wp2
                  go_meet
                  exact ⟨hb9, congrArg Value.bool HF2.out⟩
                · have e0 : ¬ (i : Int) < (n : Int) := by omega
                  refine region_qb (by kernel_rfl) (by kernel_rfl) ?_
                  repeat (first | go_big_quiet_step (fail) | quiet_step (fail))
                  refine wpQuiet_nil ?_
                  intro w9 hb9
                  go_wp2
                  go_meet
                  exact ⟨hb9, congrArg Value.bool (decide_eq_false (fun h => hi3 h.1))⟩
              case rest =>
                obtain ⟨hb9, rfl⟩ := hcut
                generalize wc = w9 at *
                have HM9 := Lib.hid (HM5.out.below hb9)
                clear HM5 cI cK fI fK hb9
                have cI : w9.cell? ⟨g + 4, 0, none⟩ = some (.int .i64 (i : Int)) := HM9.out.1.2.2.2.1.cell 0
                have cK : w9.cell? ⟨g + 5, 0, none⟩ = some (.int .i64 (k : Int)) := HM9.out.1.2.2.2.2.cell 0
                have fI : w9.frozen? ⟨g + 4, 0, none⟩ = false := HM9.out.1.2.2.2.1.free 0
                have fK : w9.frozen? ⟨g + 5, 0, none⟩ = false := HM9.out.1.2.2.2.2.free 0
                by_cases hc : i < n ∧ dst (a.drop (i + 1)) (b.drop k) < dst (a.drop i) (b.drop k)
                · rw [decide_eq_true hc]
                  obtain ⟨hi3, hlt⟩ := hc
                  have HE2 : Hid (mkAll a b = D.map Mr.dat ++ mkGo (a.drop (i + 1)) (b.drop k) (i + 1) (curF b (i + 1) k fA fB)) := Lib.hid (by
                    rw [HE.out, goCut (by rw [HL.out]; exact hi3) (fun hk e => he ⟨hi3, by rw [HL'.out] at hk; exact hk, e⟩) hlt, curF_cut hfi hfk])
                  have HM10 := HM9.out.setI (i + 1)
                  rw [show ((i + 1 : Nat) : Int) = (i : Int) + 1 by omega] at HM10
                  have HMx := Lib.hid HM10
                  have HnI := Lib.hid (cellNat_of HM10.1.2.2.2.1)
                  have HnK := Lib.hid (cellNat_of HM10.1.2.2.2.2)
                  clear HM10 HE HM9 hlt he
                  go_wp2
                  go_roundw
                  case rel => exact ⟨i + 1, k, fA, fB, D, v, by omega, by omega, by omega, by omega, HE2, HX, HMx⟩
                  case measure => rw [HnI.out, HnK.out, HmI.out, HmK.out]; omega
                · rw [decide_eq_false hc]
                  have hk3 : k < n' := by
                    apply Classical.byContradiction
                    intro hk
                    have hkn2 : k = n' := by omega
                    have hi3 : i < n := by omega
                    refine hc ⟨hi3, ?_⟩
                    rw [hkn2, ← HL'.out]
                    exact dst_edge (by rw [HL.out]; exact hi3)
                  have HE2 : Hid (mkAll a b = D.map Mr.dat ++ mkGo (a.drop i) (b.drop (k + 1)) i (curF b i (k + 1) fA fB)) := Lib.hid (by
                    rw [HE.out, goPut (by rw [HL'.out]; exact hk3) (fun hi => ⟨fun e => he ⟨by rw [HL.out] at hi; exact hi, hk3, e⟩, fun hl => hc ⟨by rw [HL.out] at hi; exact hi, hl⟩⟩), curF_put hfi hfk (by rw [HL'.out]; exact hk3)])
                  have HM10 := HM9.out.setJ (k + 1)
                  rw [show ((k + 1 : Nat) : Int) = (k : Int) + 1 by omega] at HM10
                  have HMx := Lib.hid HM10
                  have HnI := Lib.hid (cellNat_of HM10.1.2.2.2.1)
                  have HnK := Lib.hid (cellNat_of HM10.1.2.2.2.2)
                  clear HM10 HE HM9 hc he
                  go_wp2
                  go_roundw
                  case rel => exact ⟨i, k + 1, fA, fB, D, v, by omega, by omega, by omega, by omega, HE2, HX, HMx⟩
                  case measure => rw [HnI.out, HnK.out, HmI.out, HmK.out]; omega
        · rw [decide_eq_false hgo]
          have HC := Lib.hid (HFC.out wr i k fA fB D v HM.out hfi (by omega) hfk hkn (by have := HX.out; omega))
          have HE2 : Hid (makeO a b = some (D.map Mr.dat ++ (curF b i k fA fB).toList)) := Lib.hid (by
            rw [HR.out, HE.out, goEnd (by rw [HL.out]; omega) (by rw [HL'.out]; omega)])
          clear HE HM cI cK cb HFC
          go_wp2_with fail
          refine HC.out.mono ?_
          rintro e w6 ⟨rfl, D6, v6, hM6, hD6, hl6⟩
          have cM : w6.cell? ⟨g + 1, 0, none⟩ = some v6 := hM6.1.1.cell 0
          have HBo := Lib.hid (HB1.out.trans (hM6.2.2.2.1.mono (by omega)))
          have HE6 : Hid (makeO a b = some (D6.map Mr.dat)) := Lib.hid (by rw [HE2.out, hD6])
          obtain ⟨A6, c6, rfl, hc6, hm6⟩ := ownG_form hM6.2.1.1
          have HMs := Lib.hid (MrOwn.reads hM6.2.1 rfl)
          clear HE2 HC hM6 hD6 hl6 HX
          go_wp2
          go_returns
          exact ⟨.inr ⟨A6, c6, D6, HE6.out, rfl, HMs.out⟩, HBo.out⟩
end Go.Proofs.Ytlfhgmbmgbbnjaa
