/-
  The head of the cabinets' laws: the measure and the copies. Conditions: the drawers hold no more than a law lets by.
  A tree's leaves one by one; all pads of a tree, in one list of new memory: cabinetTree.pads. Conditions: no more pads than a law lets by.
  CabinetCount and CabinetPads of both packages. Conditions: the drawers hold no more than a law lets by.
  The marks that a law writes into what it has handed over: markText, markPadS, heldPadS. Conditions: marks no greater than a law's.
  markPadS and heldPadS: marks in a row of the call's own. Conditions: marks no greater than a law's.
  heldPadS finds the marks, markPadSS marks a copy of drawers. Conditions: marks no greater than a law's.
  One leaf of a tree is turned: its list of pads, in the same row. Conditions: none.
  A list of pads as an answer; parts of a row. Conditions: none.
  A list of drawers in memory of the call's own: the outer row, each drawer's row. Conditions: none.
  A slice from a place on, its address under one name. Conditions: none.
-/
import Derived.Test.YtlphefpgnfogfaaDoorCabA
import Derived.Test.YtlphefpgnfogfaaDoorTreeOf
import Derived.Laws.IdiomStrings
import Derived.BigQuiet
namespace Go.Proofs.YtlphefpgnfogfaaDoor
open Go.ChangeShapes Go.WideShapes Go.ChangeAt Go.RowKit
set_option maxRecDepth 100000

theorem cabSz_congr : ∀ {ds ds' : List Drawer}, ds'.map (·.ps) = ds.map (·.ps) → cabSz ds' = cabSz ds
  | [], [], _ => rfl
  | [], _ :: _, h => by simp at h
  | _ :: _, [], h => by simp at h
  | d :: ds, d' :: ds', h => by
    simp only [List.map_cons, List.cons.injEq] at h
    simp only [cabSz, h.1, cabSz_congr h.2]

/-- A copy of a list of drawers. -/
def Copy (w : World) (n : Nat) (A : Option Addr) (ds ds' : List Drawer) : Prop := DrawersIn w w.heap.size A n n ds' ∧ ds'.map (·.ps) = ds.map (·.ps) ∧ cabSz ds' ≤ 1048576 ∧ (∃ g, A = some ⟨g, 0, none⟩ ∧ CopiedTo w g ds ds')
theorem copyCab (A : Option Addr) (n c : Nat) (ds : List Drawer) (w : World) (hn : cabSz ds ≤ 1048576) (h : DrawersIn w w.heap.size A n c ds) :
    Calls Tryd.prog 7 #[.slice A n c] w fun e w' => ∃ ds', e = .returned (.slice (some ⟨w.heap.size, 0, none⟩) n n) ∧ Copy w' n (some ⟨w.heap.size, 0, none⟩) ds ds' ∧ Below w.heap.size w w' := by
  refine (toPadSS A n c ds w hn h).mono ?_
  rintro e w' ⟨ds', rfl, hC, hb⟩
  have hD := hC.drawers hn
  rw [h.1] at hD
  exact ⟨ds', rfl, ⟨hD, hC.2.1, by rw [cabSz_congr hC.2.1]; exact hn, _, rfl, hC⟩, hb⟩
theorem DrawersIn.keep {w w' : World} {n c : Nat} {A : Option Addr} {ds : List Drawer} (h : DrawersIn w w.heap.size A n c ds) (hb : Below w.heap.size w w') : DrawersIn w' w'.heap.size A n c ds := (h.below hb).more hb.size
theorem PadsIn.keep {w w' : World} {n c : Nat} {A : Option Addr} {ps : List Pad} (h : PadsIn w w.heap.size A n c ps) (hb : Below w.heap.size w w') : PadsIn w' w'.heap.size A n c ps := (h.below hb).more hb.size
theorem sz_split {r : Int} {tot : Nat} (h : SzR 1048576 r tot) : r < 0 ∨ (0 ≤ r ∧ tot ≤ 1048576) := by
  rcases h with rfl | ⟨h1, h2⟩
  · left; decide
  · right; exact ⟨h1, by omega⟩
end Go.Proofs.YtlphefpgnfogfaaDoor

namespace Go.Proofs.YtlphefpgnfogfaaDoor
open Go.ChangeShapes Go.WideShapes Go.ChangeAt Go.RowKit
set_option maxRecDepth 100000

def leafAt (ls : List Leaf) (k : Nat) : Leaf := ls.getD k ⟨0, .slice none 0 0, []⟩
theorem leafAt_some {ls : List Leaf} {k : Nat} (h : k < ls.length) : ls[k]? = some (leafAt ls k) := by
  unfold leafAt; simp [List.getD, List.getElem?_eq_getElem h]
theorem leafAt_mem {ls : List Leaf} {k : Nat} (h : k < ls.length) : leafAt ls k ∈ ls := List.mem_of_getElem? (leafAt_some h)
def leafPads (ls : List Leaf) : List Pad := ls.flatMap (·.ps)
theorem leafPads_step {ls : List Leaf} {k : Nat} (h : k < ls.length) : leafPads (ls.take (k + 1)) = leafPads (ls.take k) ++ (leafAt ls k).ps := by
  rw [take_step (leafAt_some h)]; simp [leafPads]
theorem leafPads_split {ls : List Leaf} {k : Nat} : (leafPads (ls.take k)).length ≤ (leafPads ls).length := by
  have h : leafPads ls = leafPads (ls.take k) ++ leafPads (ls.drop k) := by
    unfold leafPads; rw [← List.flatMap_append, List.take_append_drop]
  rw [h, List.length_append]; omega
theorem leafPads_flat (ls : List Leaf) : leafPads ls = (ls.map (·.ps)).flatten := by unfold leafPads; rw [List.flatMap_def]

/-- The k-th leaf of a row of leaves, as the program reads it. -/
theorem LeavesIn.at_ {w : World} {B k n c : Nat} {A : Option Addr} {ls : List Leaf} (h : LeavesIn w B (.slice A n c) ls) (hn : ls.length = n) (hk : k < n) :
    ∃ b off, A = some ⟨b, off, none⟩ ∧ b < w.heap.size ∧ w.cell? ⟨b, off + k, none⟩ = some (.pointer (some ⟨(leafAt ls k).g, 0, none⟩)) ∧ (leafAt ls k).g < w.heap.size ∧ w.cell? ⟨(leafAt ls k).g, 0, none⟩ = some (leafAt ls k).v ∧
      w.frozen? ⟨(leafAt ls k).g, 0, none⟩ = false ∧ B ≤ (leafAt ls k).g ∧ PadsOwn w B (leafAt ls k).v (leafAt ls k).ps ∧ ∀ p ∈ (leafAt ls k).ps, p.good := by
  have h1 := h.1
  rw [hn] at h1
  obtain ⟨b, off, e, hb, hc⟩ := (Row.of_own h1).2 (by omega)
  obtain ⟨l1, l2, l3, l4⟩ := h.2.1 _ (leafAt_mem (ls := ls) (k := k) (by omega))
  refine ⟨b, off, e, hb, hc k _ ?_, l2.lt, l2.cell 0, l2.free 0, l1, l3, l4⟩
  rw [List.getElem?_map, leafAt_some (by omega)]; rfl

theorem treePads (t : Nat) (v : Value) (ls : List Leaf) (B : Nat) (w : World) (hsz : (leafPads ls).length ≤ 1048576) (h : TreeIn w B t v ls) :
    Calls Tryd.prog 24 #[.pointer (some ⟨t, 0, none⟩)] w fun e w' => ∃ A' c', e = .returned (.slice A' (leafPads ls).length c') ∧ PadsOwn w' w.heap.size (.slice A' (leafPads ls).length c') (leafPads ls) ∧ Below w.heap.size w w' := by
  obtain ⟨A, c, rfl, hnc, hm⟩ := own_form h.2.2.1
  have hc0 := h.2.1.cell 0
  have H := Lib.hid h.2.2
  have htl := h.2.1.lt
  generalize hn : ls.length = n at *
  have HL := Lib.hid hn; clear h hn
  unfold maxLen at hm
  obtain ⟨i0, hi, hz0, hz1, hz2⟩ := info_parts infoPad
  go_enter Tryd.func24, Tryd.ntmps24
  go_wp2
  go_loopw [3, 12] (fun v i wr => ∃ (k : Nat), k ≤ n ∧ i = .int .i64 k ∧ Hid (PadsOwn wr w.heap.size v (leafPads (ls.take k))) ∧ Below w.heap.size w wr) (fun _ i _ => n - (intOf i).toNat)
  case atStart => exact ⟨0, Nat.zero_le _, rfl, Lib.hid ⟨by simp [leafPads], .inr ⟨w.heap.size, 0, #[], rfl, Nat.le_refl _, heap_alloc_new _ _, Nat.le_refl _, Nat.zero_le _, rfl, by simp [leafPads]⟩⟩, (Below.refl _ _).alloc (Nat.le_refl _) _⟩
  case round =>
    obtain ⟨k, hk, rfl, hO, hb⟩ := hrel
    by_cases hlt : k < n
    · obtain ⟨b, off, eA, hbB, c0, hgl, c1, _, _, hP, _⟩ := (H.out.below hb).at_ HL.out hlt
      have hkl : k < ls.length := by have := HL.out; omega
      have HS := Lib.hid (leafPads_step hkl)
      have hlen : (leafPads (ls.take k)).length + (leafAt ls k).ps.length ≤ 1048576 := by
        have h1 := leafPads_split (ls := ls) (k := k + 1)
        rw [HS.out, List.length_append] at h1
        omega
      subst eA
      obtain ⟨A2, c2, e2, _, _⟩ := own_form hP
      rw [e2] at c1 hP
      have HR := Lib.hid (Row.of_own hP)
      clear hkl hP e2
      generalize leafAt ls k = l at *
      generalize l.ps.length = m at *
      generalize hap : leafPads (ls.take k) = pk at *
      clear hap
      go_wp2_with (at_builtin; refine wpList_append_any _ rfl (.tmp 16) (.tmp 20) _ rfl w.heap.size 40 i0 _ 2 24 Tryd.underlying37 hi hz0 hz1 hz2 rfl (by omega) _ pk.length (pk.flatMap padC) rfl hO.out wr.heap.size A2 m c2 (l.ps.flatMap padC) rfl HR.out padC_one (by unfold maxLen; omega) (by omega) hb.size ?_; intro v1 w1 hown1 hg1 hat1)
      have b1 := hb.grown hg1 hb.size (fun q hq => own_base hO.out hq)
      have HO1 : Hid (PadsOwn w1 w.heap.size v1 (leafPads (ls.take (k + 1)))) := Lib.hid (by
        rw [HS.out]
        unfold PadsOwn
        have hlm : l.ps.length = m := by
          have := HR.out.1
          rw [flat_len padC_len] at this; omega
        rw [List.length_append, List.flatMap_append, hlm]
        exact hown1)
      go_roundw
      case rel => exact ⟨k + 1, by omega, by go_num, HO1, b1⟩
      case measure => simp [intOf]; omega
    · have hkn : ls.take k = ls := List.take_of_length_le (by have := HL.out; omega)
      rw [hkn] at hO
      have hF := Lib.hid (own_form hO.out)
      clear hkn
      go_wp2
      go_ret
      obtain ⟨A', c', rfl, _⟩ := hF.out
      exact ⟨A', c', rfl, hO.out, hb⟩
end Go.Proofs.YtlphefpgnfogfaaDoor

namespace Go.Proofs.YtlphefpgnfogfaaDoor
open Go.ChangeShapes Go.WideShapes Go.ChangeAt Go.RowKit
set_option maxRecDepth 100000

noncomputable def cntI (css : List (List Pad)) : Int := if cabB css = true then (css.flatten.length : Int) else -1
theorem cntI_yes {css : List (List Pad)} (h : cabB css = true) : cntI css = css.flatten.length := by unfold cntI; rw [if_pos h]
theorem cntI_no {css : List (List Pad)} (h : cabB css = false) : cntI css = -1 := by unfold cntI; rw [h]; rfl
theorem ret_i {a b : Int} (h : a = b) : Ending.returned (.int .i64 a) = .returned (.int .i64 b) := by rw [h]
theorem flat_len_le {ds : List Drawer} (hsz : cabSz ds ≤ 1048576) : (allPads ds).length ≤ 1048576 := by have := allPads_len ds; omega
theorem leaf_all {ls : List Leaf} {ds : List Drawer} (h : ls.map (·.ps) = ds.map (·.ps)) : leafPads ls = allPads ds := by
  rw [leafPads_flat, h, allPads_flat]


theorem implCabinetCount (A : Option Addr) (n c : Nat) (ds : List Drawer) (w : World) (hsz : cabSz ds ≤ 1048576) (h : DrawersIn w w.heap.size A n c ds) :
    Calls Tryd.prog 12 #[.slice A n c] w fun e w' => e = .returned (.int .i64 (cntI (ds.map (·.ps)))) ∧ Below w.heap.size w w' := by
  have H := Lib.hid h; clear h
  go_enter Tryd.func12, Tryd.ntmps12
  go_wp2_with fail
  refine (treeOf A n c ds w H.out).mono ?_
  rintro e w1 ⟨hT, b1⟩
  rcases hT with ⟨hn, rfl⟩ | ⟨hy, t, v, ls, rfl, hT, hM⟩
  · have HN := Lib.hid (cntI_no hn); clear hn
    go_wp2
    go_ret
    exact ⟨ret_i HN.out.symm, b1⟩
  · have HN := Lib.hid (cntI_yes hy); clear hy
    have HA := Lib.hid (leaf_all hM); clear hM
    have HT := Lib.hid hT; clear hT
    go_wp2_with fail
    refine (treePads t v ls _ w1 (by rw [HA.out]; exact flat_len_le hsz) HT.out).mono ?_
    rintro e w2 ⟨A', c', rfl, _, hb2⟩
    have b2 := below_next b1 hb2
    go_wp2
    go_ret
    exact ⟨ret_i (by rw [HN.out, allPads_flat, HA.out]), b2⟩

/-- The pads of a cabinet; of another list none. -/
noncomputable def ansP (css : List (List Pad)) : List Pad := if cabB css = true then css.flatten else []
theorem ansP_yes {css : List (List Pad)} (h : cabB css = true) : ansP css = css.flatten := by unfold ansP; rw [if_pos h]
theorem ansP_no {css : List (List Pad)} (h : cabB css = false) : ansP css = [] := by unfold ansP; rw [h]; rfl

/-- What CabinetPads answers. -/
def PadsAns (w' : World) (B : Nat) (css : List (List Pad)) (e : Ending) : Prop :=
  ∃ A c, e = .returned (.tuple #[.slice A (ansP css).length c, .bool (cabB css)]) ∧ PadsOwn w' B (.slice A (ansP css).length c) (ansP css)
theorem PadsAns.no {w' : World} {B : Nat} {css : List (List Pad)} {e : Ending} (h : cabB css = false) {A : Option Addr} {c : Nat} (he : e = .returned (.tuple #[.slice A 0 c, .bool false])) (ho : PadsOwn w' B (.slice A 0 c) []) : PadsAns w' B css e := by
  refine ⟨A, c, ?_, ?_⟩
  · rw [ansP_no h, h]; exact he
  · rw [ansP_no h]; exact ho
theorem PadsAns.yes {w' : World} {B : Nat} {css : List (List Pad)} {e : Ending} (h : cabB css = true) {A : Option Addr} {c : Nat} (he : e = .returned (.tuple #[.slice A css.flatten.length c, .bool true])) (ho : PadsOwn w' B (.slice A css.flatten.length c) css.flatten) : PadsAns w' B css e := by
  refine ⟨A, c, ?_, ?_⟩
  · rw [ansP_yes h, h]; exact he
  · rw [ansP_yes h]; exact ho


end Go.Proofs.YtlphefpgnfogfaaDoor

namespace Go.Proofs.YtlphefpgnfogfaaDoor
open Go.ChangeShapes Go.WideShapes Go.ChangeAt Go.RowKit
set_option maxRecDepth 100000

/-- The digits of n ahead of s. -/
def mkDig (n : Nat) (s : ByteArray) : ByteArray := if n = 0 then s else mkDig (n / 10) ((⟨#[UInt8.ofNat (48 + n % 10)]⟩ : ByteArray) ++ s)
termination_by n
decreasing_by omega
theorem mkDig_zero (s : ByteArray) : mkDig 0 s = s := by rw [mkDig]; rfl
theorem mkDig_pos {n : Nat} (h : 0 < n) (s : ByteArray) : mkDig n s = mkDig (n / 10) ((⟨#[UInt8.ofNat (48 + n % 10)]⟩ : ByteArray) ++ s) := by
  rw [mkDig, if_neg (by omega)]
def markT (n : Nat) : ByteArray := (⟨#[109]⟩ : ByteArray) ++ mkDig n ByteArray.empty

end Go.Proofs.YtlphefpgnfogfaaDoor

namespace Go.Proofs.YtlphefpgnfogfaaDoor
open Go.ChangeShapes Go.WideShapes Go.ChangeAt Go.RowKit
set_option maxRecDepth 100000

def markPad (m : Nat) : Pad := ⟨m, markT (m + 1)⟩
/-- n pads that hold the marks from m on. -/
def marked : Nat → Nat → List Pad
  | _, 0 => []
  | m, n + 1 => markPad m :: marked (m + 2) n
theorem marked_len : ∀ m n, (marked m n).length = n
  | _, 0 => rfl
  | m, n + 1 => by simp [marked, marked_len (m + 2) n]
theorem marked_get : ∀ m n i, i < n → (marked m n)[i]? = some (markPad (m + 2 * i))
  | _, 0, _, h => absurd h (by omega)
  | m, n + 1, 0, _ => rfl
  | m, n + 1, i + 1, h => by
    rw [marked, List.getElem?_cons_succ, marked_get (m + 2) n i (by omega)]
    congr 2; omega

theorem Below.only {w w' : World} {row : Option Nat} (h : Below w.heap.size w w') : w.grownBy w' row := ⟨h.os, h.tape, h.output, h.size, fun i hi _ => h.block i hi⟩
theorem only_set {a w : World} {p : Addr} {g : Nat} (h : a.grownBy w (some g)) (hp : p.block = g) (u : Value) : a.grownBy (w.setCell p u) (some g) :=
  ⟨h.os, h.tape, h.output, by simpa [World.setCell] using h.size, fun i hi hne => (Below.heap_setCell w p u i (by rintro rfl; exact hne (by rw [hp]))).trans (h.block i hi hne)⟩
theorem marked_snoc : ∀ m n, marked m (n + 1) = marked m n ++ [markPad (m + 2 * n)]
  | _, 0 => rfl
  | m, n + 1 => by
    rw [marked, marked_snoc (m + 2) n, marked, List.cons_append]
    congr 4; omega
theorem marked_flat_len (m n : Nat) : ((marked m n).flatMap padC).length = n * 2 := by rw [flat_len padC_len, marked_len]

/-- The first k pads of the block hold marks. -/
def MarkedTo (cur : Array Value) (cap m k : Nat) : Prop := cur.size = cap * 2 ∧ cur.toList.take (k * 2) = (marked m k).flatMap padC
theorem MarkedTo.step {cur : Array Value} {cap m k : Nat} (h : MarkedTo cur cap m k) (hk : k < cap) {x : Int} (hx : x = ((m + 2 * k : Nat) : Int)) :
    MarkedTo ((cur.setIfInBounds (k * 2) (.int .i64 x)).setIfInBounds (k * 2 + 1) (.string (markT (m + 2 * k + 1)))) cap m (k + 1) := by
  subst hx
  refine ⟨by simpa using h.1, ?_⟩
  have h1 := h.1
  rw [marked_snoc, List.flatMap_append, ← h.2]
  apply List.ext_getElem?
  intro j
  have hl : (cur.toList.take (k * 2)).length = k * 2 := by simp; omega
  rcases Nat.lt_trichotomy j (k * 2) with hj | rfl | hj
  · rw [List.getElem?_append_left (by omega), List.getElem?_take_of_lt hj, List.getElem?_take_of_lt (by omega)]
    simp only [Array.getElem?_toList]
    rw [Array.getElem?_setIfInBounds_ne (by omega), Array.getElem?_setIfInBounds_ne (by omega)]
  · rw [List.getElem?_append_right (by omega), hl, List.getElem?_take_of_lt (by omega)]
    simp only [Array.getElem?_toList]
    rw [Array.getElem?_setIfInBounds_ne (by omega), Array.getElem?_setIfInBounds_self_of_lt (by omega)]
    simp [padC, markPad]
  · rcases Nat.lt_or_ge j (k * 2 + 2) with hj2 | hj2
    · obtain rfl : j = k * 2 + 1 := by omega
      rw [List.getElem?_append_right (by omega), hl, List.getElem?_take_of_lt (by omega)]
      simp only [Array.getElem?_toList]
      rw [Array.getElem?_setIfInBounds_self_of_lt (by simp; omega)]
      simp [padC, markPad]
    · rw [List.getElem?_eq_none (by simp; omega), List.getElem?_eq_none (by rw [List.length_append, hl]; simp [padC]; omega)]

end Go.Proofs.YtlphefpgnfogfaaDoor

namespace Go.Proofs.YtlphefpgnfogfaaDoor
open Go.ChangeShapes Go.WideShapes Go.ChangeAt Go.RowKit
set_option maxRecDepth 100000

theorem mkDig_size : ∀ (n : Nat) (s : ByteArray), (mkDig n s).size ≤ s.size + n := by
  intro n
  induction n using Nat.strongRecOn with
  | _ n ih =>
    intro s
    rcases Nat.eq_zero_or_pos n with rfl | h
    · rw [mkDig_zero]; omega
    · rw [mkDig_pos h]
      have h1 := ih (n / 10) (by omega) ((⟨#[UInt8.ofNat (48 + n % 10)]⟩ : ByteArray) ++ s)
      rw [ByteArray.size_append, show (⟨#[UInt8.ofNat (48 + n % 10)]⟩ : ByteArray).size = 1 from rfl] at h1
      omega
theorem markT_size (n : Nat) : (markT n).size ≤ n + 1 := by
  unfold markT
  have h := mkDig_size n ByteArray.empty
  rw [show ByteArray.empty.size = 0 from rfl] at h
  rw [ByteArray.size_append, show (⟨#[109]⟩ : ByteArray).size = 1 from rfl]; omega
theorem marked_good : ∀ m n, m + 2 * n ≤ 20000000 → ∀ p ∈ marked m n, p.good
  | _, 0, _, p, hp => by simp [marked] at hp
  | m, n + 1, h, p, hp => by
    simp only [marked, List.mem_cons] at hp
    rcases hp with rfl | hp
    · have := markT_size (m + 1)
      refine ⟨?_, by show (markT (m + 1)).size ≤ maxLen; unfold maxLen; omega⟩
      show (decide (IntKind.i64.min ≤ (m : Int)) && decide ((m : Int) ≤ IntKind.i64.max)) = true
      rw [show IntKind.i64.min = -9223372036854775808 from rfl, show IntKind.i64.max = 9223372036854775807 from rfl, decide_eq_true (by omega), decide_eq_true (by omega)]; rfl
    · exact marked_good (m + 2) n (by omega) p hp
theorem marked_at {m n k : Nat} (h : k < n) : padAt (marked m n) k = markPad (m + 2 * k) := by
  unfold padAt; rw [List.getD, marked_get m n k h]; rfl

/-- Worlds that differ only from block lo up to hi, among the blocks that were there. -/
structure Within (lo hi : Nat) (w w' : World) : Prop where
  os : w'.os = w.os
  tape : w'.tape = w.tape
  output : w'.output = w.output
  size : w.heap.size ≤ w'.heap.size
  block : ∀ b, b < w.heap.size → (b < lo ∨ hi ≤ b) → w'.heap[b]? = w.heap[b]?
theorem Within.refl (lo hi : Nat) (w : World) : Within lo hi w w := ⟨rfl, rfl, rfl, Nat.le_refl _, fun _ _ _ => rfl⟩
theorem Within.trans {lo hi : Nat} {a b c : World} (h : Within lo hi a b) (k : Within lo hi b c) : Within lo hi a c :=
  ⟨k.os.trans h.os, k.tape.trans h.tape, k.output.trans h.output, Nat.le_trans h.size k.size, fun i hi' hr => (k.block i (Nat.lt_of_lt_of_le hi' h.size) hr).trans (h.block i hi' hr)⟩
theorem Within.of_only {lo hi g : Nat} {w w' : World} (h : w.grownBy w' (some g)) (h1 : lo ≤ g) (h2 : g < hi) : Within lo hi w w' :=
  ⟨h.os, h.tape, h.output, h.size, fun b hb hr => h.block b hb (fun e => by injection e with e; omega)⟩
theorem Within.of_below {lo hi : Nat} {w w' : World} (h : Below w.heap.size w w') : Within lo hi w w' := ⟨h.os, h.tape, h.output, h.size, fun b hb _ => h.block b hb⟩
theorem Within.below {lo hi B : Nat} {a w w' : World} (h : Within lo hi w w') (hb : Below B a w) (h1 : B ≤ lo) (h2 : B ≤ w.heap.size) : Below B a w' :=
  hb.trans ⟨h.os, h.tape, h.output, h.size, fun b hb' => h.block b (by omega) (.inl (by omega))⟩
theorem own_within {w w' : World} {B n sz lo hi : Nat} {e : TypeId} {v : Value} {xs : List Value} (h : w.ownsRow B e sz v n xs) (hw : Within lo hi w w') (hr : ∀ b, v.ownBlock = some b → b < lo ∨ hi ≤ b) : w'.ownsRow B e sz v n xs :=
  own_congr h fun b hb => hw.block b (own_lt h hb) (hr b hb)

theorem DrOwn.own {w : World} {B : Nat} {d : Drawer} (h : DrOwn w B d) (hn : d.n ≤ maxLen) : PadsOwn w B (.slice d.A d.n d.c) d.ps := by
  obtain ⟨g, h1, h2, h3, h4, h5, h6⟩ := h
  refine ⟨by rw [flat_len padC_len], .inr ⟨g, d.c, _, by rw [h2, h4], h1, h5, by rw [h4, h3]; exact Nat.le_refl _, by rw [h3]; exact hn, by rw [List.size_toArray, flat_len padC_len, h4, h3], ?_⟩⟩
  rw [List.take_of_length_le (by simp [flat_len padC_len])]

theorem nodup_ne {l : List Nat} (h : l.Nodup) {i j : Nat} {x y : Nat} (hi : l[i]? = some x) (hj : l[j]? = some y) (hij : i < j) : x ≠ y := by
  obtain ⟨hi1, rfl⟩ := List.getElem?_eq_some_iff.1 hi
  obtain ⟨hj1, rfl⟩ := List.getElem?_eq_some_iff.1 hj
  exact List.pairwise_iff_getElem.1 h i j hi1 hj1 hij

theorem CopiedTo.below {w w' : World} {g : Nat} {ds ds' : List Drawer} (h : CopiedTo w g ds ds') (hb : Below w.heap.size w w') : CopiedTo w' g ds ds' :=
  ⟨h.1.below hb, h.2.1, fun d hd => (h.2.2.1 d hd).below hb, h.2.2.2⟩
theorem Copy.keep {w w' : World} {n : Nat} {A : Option Addr} {ds ds' : List Drawer} (h : Copy w n A ds ds') (hb : Below w.heap.size w w') : Copy w' n A ds ds' := by
  obtain ⟨h1, h2, h3, g, h4, h5⟩ := h
  exact ⟨h1.keep hb, h2, h3, g, h4, h5.below hb⟩
theorem Copy.under {w : World} {n : Nat} {A : Option Addr} {ds ds' : List Drawer} (h : Copy w n A ds ds') : ∀ d ∈ ds', drBlock d < w.heap.size := by
  obtain ⟨_, _, _, g, _, h5⟩ := h
  exact fun d hd => (drBlock_of (h5.2.2.1 d hd)).2.1
theorem own_only {w w' : World} {row : Option Nat} {B n sz : Nat} {e : TypeId} {v : Value} {xs : List Value} (h : w.ownsRow B e sz v n xs) (hg : w.grownBy w' row) (hr : ∀ b, v.ownBlock = some b → row ≠ some b) : w'.ownsRow B e sz v n xs :=
  own_congr h fun b hb => hg.block b (own_lt h hb) (fun e => hr b hb e.symm)

theorem PadsOwn.keep {w w' : World} {B : Nat} {v : Value} {ps : List Pad} (h : PadsOwn w B v ps) (hb : Below w.heap.size w w') : PadsOwn w' B v ps := own_congr h fun b hv => hb.block b (own_lt h hv)
theorem PadsOwn.within {w w' : World} {B lo hi : Nat} {v : Value} {ps : List Pad} (h : PadsOwn w B v ps) (hw : Within lo hi w w') (hr : ∀ b, v.ownBlock = some b → b < lo ∨ hi ≤ b) : PadsOwn w' B v ps := own_within h hw hr
theorem PadsOwn.only {w w' : World} {row : Option Nat} {B : Nat} {v : Value} {ps : List Pad} (h : PadsOwn w B v ps) (hg : w.grownBy w' row) (hr : ∀ b, v.ownBlock = some b → row ≠ some b) : PadsOwn w' B v ps := own_only h hg hr

end Go.Proofs.YtlphefpgnfogfaaDoor

namespace Go.Proofs.YtlphefpgnfogfaaDoor
open Go.ChangeShapes Go.WideShapes Go.ChangeAt Go.RowKit
set_option maxRecDepth 100000

theorem set_map_same {α β : Type} (f : α → β) : ∀ (l : List α) (k : Nat) (x y : α), l[k]? = some x → f y = f x → (l.set k y).map f = l.map f
  | [], _, _, _, h, _ => by simp at h
  | a :: r, 0, x, y, h, e => by simp at h; subst h; simp [e]
  | a :: r, k + 1, x, y, h, e => by simp only [List.set_cons_succ, List.map_cons]; rw [set_map_same f r k x y (by simpa using h) e]
theorem set_filterMap_same {α β : Type} (f : α → Option β) (l : List α) (k : Nat) (x y : α) (h : l[k]? = some x) (e : f y = f x) : (l.set k y).filterMap f = l.filterMap f := by
  have h1 := set_map_same f l k x y h e
  have h2 : ∀ m : List α, m.filterMap f = (m.map f).filterMap id := fun m => by rw [List.filterMap_map]; rfl
  rw [h2, h2, h1]
theorem own_apart {ls : List Leaf} (h : (ls.filterMap (·.v.ownBlock)).Nodup) {i j : Nat} {x y : Leaf} (hi : ls[i]? = some x) (hj : ls[j]? = some y) (hij : i ≠ j) {b : Nat} (hx : x.v.ownBlock = some b) (hy : y.v.ownBlock = some b) : False := by
  have h1 := List.pairwise_filterMap.1 h
  obtain ⟨hi1, rfl⟩ := List.getElem?_eq_some_iff.1 hi
  obtain ⟨hj1, rfl⟩ := List.getElem?_eq_some_iff.1 hj
  rcases Nat.lt_or_gt_of_ne hij with hlt | hgt
  · exact List.pairwise_iff_getElem.1 h1 i j hi1 hj1 hlt b hx b hy rfl
  · exact List.pairwise_iff_getElem.1 h1 j i hj1 hi1 hgt b hy b hx rfl
theorem g_apart {ls : List Leaf} (h : (ls.map (·.g)).Nodup) {i j : Nat} {x y : Leaf} (hi : ls[i]? = some x) (hj : ls[j]? = some y) (hij : i ≠ j) : x.g ≠ y.g := by
  rcases Nat.lt_or_gt_of_ne hij with hlt | hgt
  · exact nodup_ne h (by rw [List.getElem?_map, hi]; rfl) (by rw [List.getElem?_map, hj]; rfl) hlt
  · exact (nodup_ne h (by rw [List.getElem?_map, hj]; rfl) (by rw [List.getElem?_map, hi]; rfl) hgt).symm

theorem TreeIn.turn {w w1 : World} {B t k : Nat} {v v2 : Value} {ls : List Leaf} {l : Leaf} {ps2 : List Pad} (h : TreeIn w B t v ls) (hl : ls[k]? = some l) (hg : w.grownBy w1 l.v.ownBlock) (hO : PadsOwn w1 B v2 ps2) (hv : v2.ownBlock = l.v.ownBlock) (hgood : ∀ p ∈ ps2, p.good) :
    TreeIn (w1.setCell ⟨l.g, 0, none⟩ v2) B t v (ls.set k ⟨l.g, v2, ps2⟩) := by
  have hlm := List.mem_of_getElem? hl
  have hlI := h.2.2.2.1 l hlm
  have hkl : k < ls.length := (List.getElem?_eq_some_iff.1 hl).1
  -- blocks of other types than pads are as they were in w1
  have hty : ∀ {b : Nat} {cs : Array Value} {ty : TypeId}, Blk w b ty cs → ty ≠ 40 → Blk w1 b ty cs := fun {b cs ty} hb hne =>
    (hg.block b hb.lt (fun e => hb.ne_own hlI.2.2.1 (fun e => hne e.symm) e.symm)).trans hb
  have hleaf1 : Blk w1 l.g 72 #[l.v] := hty hlI.2.1 (by decide)
  have hrow : ∀ b, v.ownBlock = some b → (w1.setCell ⟨l.g, 0, none⟩ v2).heap[b]? = w.heap[b]? := fun b hb => by
    obtain ⟨cur, h1⟩ := own_obj h.2.2.1 hb
    have h2 : Blk w1 b 51 cur := hty h1 (by decide)
    rw [Below.heap_setCell w1 _ v2 b (h2.ne_blk hleaf1 (by decide))]
    exact h2.trans h1.symm
  refine ⟨h.1, ?_, own_congr ?_ hrow, ?_, ?_, ?_⟩
  · have h2 := hty h.2.1 (by decide)
    exact (Below.heap_setCell w1 _ v2 t (h2.ne_blk hleaf1 (by decide))).trans h2
  · rw [List.length_set, set_map_same Leaf.ptr ls k l ⟨l.g, v2, ps2⟩ hl rfl]; exact h.2.2.1
  · intro m hm
    obtain ⟨j, hj⟩ := List.getElem?_of_mem hm
    by_cases hjk : j = k
    · subst hjk
      rw [List.getElem?_set_self hkl] at hj
      injection hj with hj; subst hj
      refine ⟨hlI.1, by simpa using hleaf1.set 0 v2, own_congr hO (fun b hb => Below.heap_setCell w1 _ v2 b ?_), hgood⟩
      rintro rfl
      exact hleaf1.ne_own hO (by decide) hb
    · rw [List.getElem?_set_ne (fun e => hjk e.symm)] at hj
      have hmI := h.2.2.2.1 m (List.mem_of_getElem? hj)
      have hm1 := hty hmI.2.1 (by decide)
      refine hmI.congr ?_ (fun b hb => ?_)
      · rw [Below.heap_setCell w1 _ v2 m.g (g_apart h.2.2.2.2.1 hj hl hjk)]
        exact hm1.trans hmI.2.1.symm
      · obtain ⟨cur, h1⟩ := own_obj hmI.2.2.1 hb
        have h2 : w1.heap[b]? = w.heap[b]? := hg.block b (own_lt hmI.2.2.1 hb) (fun e => own_apart h.2.2.2.2.2 hj hl hjk hb e.symm)
        rw [Below.heap_setCell w1 _ v2 b (by rintro rfl; exact (show Blk w1 l.g 40 cur from h2.trans h1).ne_blk hleaf1 (by decide) rfl)]
        exact h2
  · rw [set_map_same (·.g) ls k l ⟨l.g, v2, ps2⟩ hl rfl]; exact h.2.2.2.2.1
  · rw [set_filterMap_same (·.v.ownBlock) ls k l ⟨l.g, v2, ps2⟩ hl hv]; exact h.2.2.2.2.2
end Go.Proofs.YtlphefpgnfogfaaDoor

namespace Go.Proofs.YtlphefpgnfogfaaDoor
open Go.ChangeShapes Go.WideShapes Go.ChangeAt Go.RowKit
set_option maxRecDepth 100000

/-- A list of pads in memory of the call's own. -/
def RowAns (w' : World) (B : Nat) (D : List Pad) (e : Ending) : Prop :=
  ∃ A c, e = .returned (.slice A D.length c) ∧ PadsOwn w' B (.slice A D.length c) D
theorem RowAns.of {w' : World} {B : Nat} {D : List Pad} {e : Ending} {v : Value} (he : e = .returned v) (ho : PadsOwn w' B v D) : RowAns w' B D e := by
  obtain ⟨A, c, rfl, _⟩ := own_form ho
  exact ⟨A, c, he, ho⟩

theorem rowNew1 (w : World) (u : Value) (t : TypeId) : Row (w.alloc (.cells #[u] t)) (w.heap.size + 1) (some ⟨w.heap.size, 0, none⟩) 1 1 [u] := by
  refine ⟨rfl, fun _ => ⟨w.heap.size, 0, rfl, by omega, fun j x hx => ?_⟩⟩
  rcases j with _ | j
  · simp at hx; subst hx
    exact newcell w #[u] t 0 u rfl
  · simp at hx
theorem rowNewPad (w : World) (u1 u2 : Value) (t : TypeId) : Row (w.alloc (.cells #[u1, u2] t)) (w.heap.size + 1) (some ⟨w.heap.size, 0, none⟩) 1 2 [u1, u2] := by
  refine ⟨rfl, fun _ => ⟨w.heap.size, 0, rfl, by omega, fun j x hx => ?_⟩⟩
  rcases j with _ | _ | j
  · simp at hx; subst hx; exact newcell w #[u1, u2] t 0 u1 rfl
  · simp at hx; subst hx; exact newcell w #[u1, u2] t 1 u2 rfl
  · simp at hx

theorem Row.take {w : World} {B n sz k : Nat} {A : Option Addr} {xs : List Value} (h : Row w B A n sz xs) (hk : k ≤ n) : Row w B A k sz (xs.take (k * sz)) := by
  refine ⟨by rw [List.length_take, h.1, Nat.min_eq_left (Nat.mul_le_mul_right _ hk)], fun h0 => ?_⟩
  obtain ⟨b, off, e, hb, hc⟩ := h.2 (by omega)
  refine ⟨b, off, e, hb, fun j u hu => hc j u ?_⟩
  have hj : j < (xs.take (k * sz)).length := (List.getElem?_eq_some_iff.1 hu).1
  rw [List.length_take] at hj
  rwa [List.getElem?_take_of_lt (by omega)] at hu
theorem Row.drop {w : World} {B n sz k b off : Nat} {xs : List Value} (h : Row w B (some ⟨b, off, none⟩) n sz xs) (hk : k ≤ n) : Row w B (some ⟨b, off + k * sz, none⟩) (n - k) sz (xs.drop (k * sz)) := by
  refine ⟨by rw [List.length_drop, h.1, Nat.sub_mul], fun h0 => ?_⟩
  obtain ⟨b', off', e, hb, hc⟩ := h.2 (by omega)
  injection e with e; injection e with e1 e2; subst e1 e2
  refine ⟨b, off + k * sz, rfl, hb, fun j u hu => ?_⟩
  rw [List.getElem?_drop] at hu
  have := hc _ u hu
  rwa [← Nat.add_assoc] at this
theorem Row.empty {w : World} {B sz : Nat} {A : Option Addr} : Row w B A 0 sz [] := ⟨by simp, fun h => by omega⟩
theorem flat_take {α : Type} {ea : α → List Value} {sz : Nat} (hl : ∀ a, (ea a).length = sz) (l : List α) (k : Nat) : (l.flatMap ea).take (k * sz) = (l.take k).flatMap ea := by
  rcases Nat.lt_or_ge k l.length with h | h
  · have e : l.flatMap ea = (l.take k).flatMap ea ++ (l.drop k).flatMap ea := by rw [← List.flatMap_append, List.take_append_drop]
    have e2 : ((l.take k).flatMap ea).length = k * sz := by rw [flat_len hl, List.length_take, Nat.min_eq_left (by omega)]
    rw [e, List.take_append_of_le_length (by omega), List.take_of_length_le (by omega)]
  · rw [List.take_of_length_le h, List.take_of_length_le (by rw [flat_len hl]; exact Nat.mul_le_mul_right _ h)]
theorem flat_drop {α : Type} {ea : α → List Value} {sz : Nat} (hl : ∀ a, (ea a).length = sz) (l : List α) (k : Nat) : (l.flatMap ea).drop (k * sz) = (l.drop k).flatMap ea := by
  rcases Nat.lt_or_ge k l.length with h | h
  · have e : l.flatMap ea = (l.take k).flatMap ea ++ (l.drop k).flatMap ea := by rw [← List.flatMap_append, List.take_append_drop]
    have e2 : ((l.take k).flatMap ea).length = k * sz := by rw [flat_len hl, List.length_take, Nat.min_eq_left (by omega)]
    rw [e, List.drop_append_of_le_length (by omega), List.drop_of_length_le (by omega), List.nil_append]
  · rw [List.drop_of_length_le h, List.drop_of_length_le (by rw [flat_len hl]; exact Nat.mul_le_mul_right _ h)]; rfl
end Go.Proofs.YtlphefpgnfogfaaDoor

namespace Go.Proofs.YtlphefpgnfogfaaDoor
open Go.ChangeShapes Go.WideShapes Go.ChangeAt Go.RowKit
set_option maxRecDepth 100000

def Drawer.v (d : Drawer) : Value := .slice d.A d.n d.c
def DrIn (w : World) (B : Nat) (d : Drawer) : Prop := d.ps.length = d.n ∧ PadsOwn w B d.v d.ps ∧ ∀ p ∈ d.ps, p.good
theorem DrIn.congr {w w' : World} {B : Nat} {d : Drawer} (h : DrIn w B d) (h2 : ∀ b, d.v.ownBlock = some b → w'.heap[b]? = w.heap[b]?) : DrIn w' B d := ⟨h.1, own_congr h.2.1 h2, h.2.2⟩
theorem DrIn.keep {w w' : World} {B : Nat} {d : Drawer} (h : DrIn w B d) (hb : Below w.heap.size w w') : DrIn w' B d := h.congr fun b hv => hb.block b (own_lt h.2.1 hv)
theorem DrIn.pads {w : World} {B : Nat} {d : Drawer} (h : DrIn w B d) : PadsIn w w.heap.size d.A d.n d.c d.ps := by
  have h2 := h.2.1
  unfold Drawer.v at h2
  exact h2.reads h.1 h.2.2
/-- The row of the drawers, the drawers. -/
def CabOwn (w : World) (B : Nat) (v : Value) (ds : List Drawer) : Prop :=
  w.ownsRow B 37 1 v ds.length (ds.flatMap drawerC) ∧ (∀ d ∈ ds, DrIn w B d) ∧ (ds.filterMap (·.v.ownBlock)).Nodup
theorem CabOwn.congr {w w' : World} {B : Nat} {v : Value} {ds : List Drawer} (h : CabOwn w B v ds) (h0 : ∀ b, v.ownBlock = some b → w'.heap[b]? = w.heap[b]?)
    (h1 : ∀ d ∈ ds, ∀ b, d.v.ownBlock = some b → w'.heap[b]? = w.heap[b]?) : CabOwn w' B v ds :=
  ⟨own_congr h.1 h0, fun d hd => (h.2.1 d hd).congr (h1 d hd), h.2.2⟩
theorem CabOwn.keep {w w' : World} {B : Nat} {v : Value} {ds : List Drawer} (h : CabOwn w B v ds) (hb : Below w.heap.size w w') : CabOwn w' B v ds :=
  h.congr (fun _ hv => hb.block _ (own_lt h.1 hv)) fun d hd _ hv => hb.block _ (own_lt (h.2.1 d hd).2.1 hv)
theorem CabOwn.mono {w : World} {B B' : Nat} {v : Value} {ds : List Drawer} (h : CabOwn w B v ds) (hB : B' ≤ B) : CabOwn w B' v ds :=
  ⟨own_mono h.1 hB, fun d hd => ⟨(h.2.1 d hd).1, own_mono (h.2.1 d hd).2.1 hB, (h.2.1 d hd).2.2⟩, h.2.2⟩
theorem CabOwn.nil (w : World) (B : Nat) : CabOwn w B (.slice none 0 0) [] := ⟨World.ownsRow_nil _ _ _ _, by simp, by simp⟩
theorem CabOwn.made (w : World) : CabOwn (w.alloc (.cells #[] 37)) w.heap.size (.slice (some ⟨w.heap.size, 0, none⟩) 0 0) [] := ⟨World.ownsRow_made w #[] 0 (Nat.le_refl _) (by simp) (by simp), by simp, by simp⟩
theorem CabOwn.reads {w : World} {B n c : Nat} {A : Option Addr} {ds : List Drawer} (h : CabOwn w B (.slice A n c) ds) (hn : ds.length = n) : DrawersIn w w.heap.size A n c ds := by
  have h1 := h.1
  rw [hn] at h1
  obtain ⟨A', c', e, q1, q2⟩ := own_form h1
  injection e with e1 e2 e3
  subst e1 e3
  exact ⟨hn, q1, q2, Row.of_own h1, fun d hd => (h.2.1 d hd).pads⟩
/-- A row of drawers grows by one. -/
theorem CabOwn.push {w w1 w2 : World} {B : Nat} {v v' : Value} {ds : List Drawer} {d : Drawer} (h : CabOwn w B v ds) (hb : Below w.heap.size w w1) (hg : w1.grownBy w2 v.ownBlock)
    (hown : w2.ownsRow B 37 1 v' (ds.length + 1) (ds.flatMap drawerC ++ [d.v])) (hl : DrIn w1 B d) (hm : ∀ b, d.v.ownBlock = some b → w.heap.size ≤ b) : CabOwn w2 B v' (ds ++ [d]) := by
  have hne : ∀ {b : Nat} {cur : Array Value} {e : TypeId}, w1.heap[b]? = some (.cells cur e (0, 0)) → e ≠ 37 → w2.heap[b]? = w1.heap[b]? := by
    intro b cur e h1 h2
    rcases Nat.lt_or_ge b w1.heap.size with hlt | hge
    · refine hg.block b hlt (fun hq => h2 ?_)
      obtain ⟨cur', h3⟩ := own_obj (h.keep hb).1 hq.symm
      rw [h1] at h3; injection h3 with h3; injection h3
    · rw [Array.getElem?_eq_none hge] at h1; cases h1
  have hold : ∀ m, DrIn w1 B m → DrIn w2 B m := fun m hm => hm.congr fun b hv => by
    obtain ⟨cur, h1⟩ := own_obj hm.2.1 hv
    exact hne h1 (by decide)
  refine ⟨?_, fun m hm => ?_, ?_⟩
  · rw [List.length_append, List.flatMap_append]
    simpa [drawerC, Drawer.v] using hown
  · rcases List.mem_append.1 hm with hm | hm
    · exact hold m ((h.keep hb).2.1 m hm)
    · simp at hm; subst hm; exact hold m hl
  · rw [List.filterMap_append, List.nodup_append]
    refine ⟨h.2.2, ?_, ?_⟩
    · cases hv : d.v.ownBlock <;> simp [hv]
    · intro a ha b hb' hab
      obtain ⟨m, hm', hma⟩ := List.mem_filterMap.1 ha
      have h1 := own_lt (h.2.1 m hm').2.1 hma
      obtain ⟨m', hm'', hmb⟩ := List.mem_filterMap.1 hb'
      simp at hm''; subst hm''
      have := hm b hmb
      omega
theorem CabOwn.len {w : World} {B n c : Nat} {A : Option Addr} {ds : List Drawer} (h : CabOwn w B (.slice A n c) ds) : ds.length = n := by
  obtain ⟨A', c', e, _⟩ := own_form h.1
  injection e with e1 e2 e3
  exact e2.symm
theorem CabOwn.form {w : World} {B : Nat} {v : Value} {ds : List Drawer} (h : CabOwn w B v ds) : ∃ A c, v = .slice A ds.length c ∧ ds.length ≤ c ∧ c ≤ maxLen := own_form h.1

/-- A list of drawers as an answer, with a word whether there is one. -/
def FileAns (w' : World) (B : Nat) (o : Option (List (List Pad))) (e : Ending) : Prop :=
  (o = none ∧ ∃ A c, e = .returned (.tuple #[.slice A 0 c, .bool false]) ∧ CabOwn w' B (.slice A 0 c) []) ∨
  ∃ A c ds, o = some (ds.map (·.ps)) ∧ e = .returned (.tuple #[.slice A ds.length c, .bool true]) ∧ CabOwn w' B (.slice A ds.length c) ds
theorem FileAns.no {w' : World} {B : Nat} {o : Option (List (List Pad))} {e : Ending} {A : Option Addr} {c : Nat} (h : o = none) (he : e = .returned (.tuple #[.slice A 0 c, .bool false])) (hc : CabOwn w' B (.slice A 0 c) []) : FileAns w' B o e := .inl ⟨h, A, c, he, hc⟩
theorem FileAns.yes {w' : World} {B n : Nat} {o : Option (List (List Pad))} {e : Ending} {A : Option Addr} {c : Nat} {ds : List Drawer} (h : o = some (ds.map (·.ps))) (he : e = .returned (.tuple #[.slice A n c, .bool true])) (hc : CabOwn w' B (.slice A n c) ds) : FileAns w' B o e :=
  .inr ⟨A, c, ds, h, by rw [hc.len]; exact he, by rw [hc.len]; exact hc⟩
end Go.Proofs.YtlphefpgnfogfaaDoor

namespace Go.Proofs.YtlphefpgnfogfaaDoor
open Go.ChangeShapes Go.WideShapes Go.ChangeAt Go.RowKit
set_option maxRecDepth 100000

/-- The address of a[k:]. -/
def fromA (a : Option Addr) (k c sz : Nat) : Option Addr := if c = k then a else a.map (·.add (k * sz))
theorem run_from {P : Program} {t : TypeId} {sz : Nat} (ht : P.underlying t = some (.slice (P.elem t))) (hs : ∀ w, (sizeOf (P.elem t)).run P w = .ok sz w) (a : Option Addr) (n c k : Nat) (hk : k ≤ n) (w : World) :
    (Instr.slice t (.slice a n c) (some (.int .i64 (k : Int))) none none).run P w = .ok (.slice (fromA a k c sz) (n - k) (c - k)) w := by
  rw [run_slice_l w t a n c ht .i64 (k : Int) (by omega) (by omega), hs]
  simp [Result.andThen, sliced, fromA]
theorem run_upto {P : Program} {t : TypeId} {sz : Nat} (ht : P.underlying t = some (.slice (P.elem t))) (hs : ∀ w, (sizeOf (P.elem t)).run P w = .ok sz w) (b off n c k : Nat) (hk : k ≤ c) (w : World) :
    (Instr.slice t (.slice (some ⟨b, off, none⟩) n c) none (some (.int .i64 (k : Int))) none).run P w = .ok (.slice (some ⟨b, off, none⟩) k c) w := by
  rw [run_slice_h w t (some ⟨b, off, none⟩) n c ht .i64 (k : Int) (by omega) (by omega), hs]
  simp [Result.andThen, sliced, Addr.add]
theorem Row.from_ {w : World} {B n sz k c : Nat} {A : Option Addr} {xs : List Value} (h : Row w B A n sz xs) (hk : k ≤ n) (hc : n ≤ c) : Row w B (fromA A k c sz) (n - k) sz (xs.drop (k * sz)) := by
  unfold fromA
  by_cases e : c = k
  · rw [if_pos e]
    have h0 : n - k = 0 := by omega
    have h1 : xs.drop (k * sz) = [] := List.drop_of_length_le (by rw [h.1]; exact Nat.mul_le_mul_right _ (by omega))
    rw [h0, h1]; exact Row.empty
  · rw [if_neg e]
    rcases Nat.eq_zero_or_pos n with hn | hn
    · have h0 : n - k = 0 := by omega
      have h1 : xs.drop (k * sz) = [] := List.drop_of_length_le (by rw [h.1, hn]; simp)
      rw [h0, h1]; exact Row.empty
    · obtain ⟨b, off, eA, _⟩ := h.2 hn
      subst eA
      rw [show Option.map (fun x : Addr => x.add (k * sz)) (some (⟨b, off, none⟩ : Addr)) = some ⟨b, off + k * sz, none⟩ from by
        by_cases hz : k * sz = 0
        · simp [Addr.add, hz]
        · simp [Addr.add, hz]]
      exact h.drop hk
theorem PadsIn.from_ {w : World} {B n c k : Nat} {A : Option Addr} {ps : List Pad} (h : PadsIn w B A n c ps) (hk : k ≤ n) : PadsIn w B (fromA A k c 2) (n - k) (c - k) (ps.drop k) :=
  ⟨by rw [List.length_drop, h.1], by have := h.2.1; omega, by have := h.2.2.1; omega, by rw [← flat_drop padC_len]; exact h.2.2.2.1.from_ hk h.2.1, fun p hp => h.2.2.2.2 p (List.mem_of_mem_drop hp)⟩
theorem PadsIn.upto {w : World} {B n c k : Nat} {A : Option Addr} {ps : List Pad} (h : PadsIn w B A n c ps) (hk : k ≤ n) : PadsIn w B A k c (ps.take k) :=
  ⟨by rw [List.length_take, h.1]; omega, by have := h.2.1; omega, h.2.2.1, by rw [← flat_take padC_len]; exact h.2.2.2.1.take hk, fun p hp => h.2.2.2.2 p (List.mem_of_mem_take hp)⟩
theorem DrawersIn.from_ {w : World} {B n c k : Nat} {A : Option Addr} {ds : List Drawer} (h : DrawersIn w B A n c ds) (hk : k ≤ n) : DrawersIn w B (fromA A k c 1) (n - k) (c - k) (ds.drop k) :=
  ⟨by rw [List.length_drop, h.1], by have := h.2.1; omega, by have := h.2.2.1; omega, by rw [← flat_drop drawerC_len]; exact h.2.2.2.1.from_ hk h.2.1, fun p hp => h.2.2.2.2 p (List.mem_of_mem_drop hp)⟩
theorem DrawersIn.upto {w : World} {B n c k : Nat} {A : Option Addr} {ds : List Drawer} (h : DrawersIn w B A n c ds) (hk : k ≤ n) : DrawersIn w B A k c (ds.take k) :=
  ⟨by rw [List.length_take, h.1]; omega, by have := h.2.1; omega, h.2.2.1, by rw [← flat_take drawerC_len]; exact h.2.2.2.1.take hk, fun p hp => h.2.2.2.2 p (List.mem_of_mem_take hp)⟩
theorem elemPads : Tryd.prog.underlying 37 = some (.slice (Tryd.prog.elem 37)) := by kernel_rfl
theorem elemCab : Tryd.prog.underlying 25 = some (.slice (Tryd.prog.elem 25)) := by kernel_rfl
theorem sizePad : ∀ w, (sizeOf (Tryd.prog.elem 37)).run Tryd.prog w = .ok 2 w := fun w => by kernel_rfl
theorem sizeSl : ∀ w, (sizeOf (Tryd.prog.elem 25)).run Tryd.prog w = .ok 1 w := fun w => by kernel_rfl
end Go.Proofs.YtlphefpgnfogfaaDoor
