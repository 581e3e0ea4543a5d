/-
  Contracts and plain laws that the proof of the law ExactExecute leans on. Conditions: as each says.
-/
import Derived.Test.YtbkhnljaajajiaaGreatDoorPExactExecute00
import Derived.Test.YtbkhnljaajajiaaGreatDoorPExactExecute01
import Derived.Test.YtbkhnljaajajiaaGreatDoorPExactExecute04
import Derived.Test.YtbkhnljaajajiaaGreatDoorPExactExecute10
import Derived.Laws.IdiomStrings
import Derived.BigQuiet
namespace Go.Proofs.YtbkhnljaajajiaaGreatDoor
open Go.ChangeShapes Go.WideShapes Go.ChangeAt Go.RowKit
set_option maxRecDepth 100000
set_option linter.unusedSimpArgs false
set_option linter.unusedVariables false
theorem DrawersIn.keep {w w' : World} {n c : Nat} {A : Option Addr} {ds : List Drawer} (h : DrawersIn w w.heap.size A n c ds) (hb : Below w.heap.size w w') : DrawersIn w' w'.heap.size A n c ds := (h.below hb).more hb.size
theorem PadsIn.keep {w w' : World} {n c : Nat} {A : Option Addr} {ps : List Pad} (h : PadsIn w w.heap.size A n c ps) (hb : Below w.heap.size w w') : PadsIn w' w'.heap.size A n c ps := (h.below hb).more hb.size
end Go.Proofs.YtbkhnljaajajiaaGreatDoor
namespace Go.Proofs.YtbkhnljaajajiaaGreatDoor
open Go.ChangeShapes Go.WideShapes Go.ChangeAt Go.RowKit
set_option maxRecDepth 100000
def leafAt (ls : List Leaf) (k : Nat) : Leaf := ls.getD k ⟨0, .slice none 0 0, []⟩
theorem leafAt_some {ls : List Leaf} {k : Nat} (h : k < ls.length) : ls[k]? = some (leafAt ls k) := by
 unfold leafAt; simp [List.getD, List.getElem?_eq_getElem h]
theorem leafAt_mem {ls : List Leaf} {k : Nat} (h : k < ls.length) : leafAt ls k ∈ ls := List.mem_of_getElem? (leafAt_some h)
def leafPads (ls : List Leaf) : List Pad := ls.flatMap (·.ps)
theorem leafPads_step {ls : List Leaf} {k : Nat} (h : k < ls.length) : leafPads (ls.take (k + 1)) = leafPads (ls.take k) ++ (leafAt ls k).ps := by
 rw [take_step (leafAt_some h)]; simp [leafPads]
theorem leafPads_split {ls : List Leaf} {k : Nat} : (leafPads (ls.take k)).length ≤ (leafPads ls).length := by
 have h : leafPads ls = leafPads (ls.take k) ++ leafPads (ls.drop k) := by
  unfold leafPads; rw [← List.flatMap_append, List.take_append_drop]
 rw [h, List.length_append]; omega
theorem leafPads_flat (ls : List Leaf) : leafPads ls = (ls.map (·.ps)).flatten := by unfold leafPads; rw [List.flatMap_def]
theorem LeavesIn.at_ {w : World} {B k n c : Nat} {A : Option Addr} {ls : List Leaf} (h : LeavesIn w B (.slice A n c) ls) (hn : ls.length = n) (hk : k < n) :
  ∃ b off, A = some ⟨b, off, none⟩ ∧ b < w.heap.size ∧ w.cell? ⟨b, off + k, none⟩ = some (.pointer (some ⟨(leafAt ls k).g, 0, none⟩)) ∧ (leafAt ls k).g < w.heap.size ∧ w.cell? ⟨(leafAt ls k).g, 0, none⟩ = some (leafAt ls k).v ∧
   w.frozen? ⟨(leafAt ls k).g, 0, none⟩ = false ∧ B ≤ (leafAt ls k).g ∧ PadsOwn w B (leafAt ls k).v (leafAt ls k).ps ∧ ∀ p ∈ (leafAt ls k).ps, p.good := by
 have h1 := h.1; rw [hn] at h1; obtain ⟨b, off, e, hb, hc⟩ := (Row.of_own h1).2 (by omega); obtain ⟨l1, l2, l3, l4⟩ := h.2.1 _ (leafAt_mem (ls := ls) (k := k) (by omega)); refine ⟨b, off, e, hb, hc k _ ?_, l2.lt, l2.cell 0, l2.free 0, l1, l3, l4⟩; rw [List.getElem?_map, leafAt_some (by omega)]; rfl
theorem treePads (t : Nat) (v : Value) (ls : List Leaf) (B : Nat) (w : World) (hsz : (leafPads ls).length ≤ 1048576) (h : TreeIn w B t v ls) :
  Calls Tryz.prog 113 #[.pointer (some ⟨t, 0, none⟩)] w fun e w' => ∃ A' c', e = .returned (.slice A' (leafPads ls).length c') ∧ PadsOwn w' w.heap.size (.slice A' (leafPads ls).length c') (leafPads ls) ∧ Below w.heap.size w w' := by
 obtain ⟨A, c, rfl, hnc, hm⟩ := own_form h.2.2.1; have hc0 := h.2.1.cell 0; have H := uH h.2.2; have htl := h.2.1.lt; generalize hn : ls.length = n at *; have HL := uH hn; clear h hn; unfold maxLen at hm; obtain ⟨i0, hi, hz0, hz1, hz2⟩ := info_parts infoPad; go_enter Tryz.func113, Tryz.ntmps113
 go_wp2; go_loopw [3, 12] (fun v i wr => ∃ (k : Nat), k ≤ n ∧ i = .int .i64 k ∧ Hid (PadsOwn wr w.heap.size v (leafPads (ls.take k))) ∧ Below w.heap.size w wr) (fun _ i _ => n - (intOf i).toNat)
 case atStart => exact ⟨0, Nat.zero_le _, rfl, uH ⟨by simp [leafPads], .inr ⟨w.heap.size, 0, #[], rfl, Nat.le_refl _, heap_alloc_new _ _, Nat.le_refl _, Nat.zero_le _, rfl, by simp [leafPads]⟩⟩, (Below.refl _ _).alloc (Nat.le_refl _) _⟩
 case round =>
  obtain ⟨k, hk, rfl, hO, hb⟩ := hrel; by_cases hlt : k < n
  ·obtain ⟨b, off, eA, hbB, c0, hgl, c1, _, _, hP, _⟩ := (H.out.below hb).at_ HL.out hlt; have hkl : k < ls.length := (by have := HL.out; omega); have HS := uH (leafPads_step hkl); have hlen : (leafPads (ls.take k)).length + (leafAt ls k).ps.length ≤ 1048576 := by
    have h1 := leafPads_split (ls := ls) (k := k + 1); rw [HS.out, List.length_append] at h1; omega
   subst eA; obtain ⟨A2, c2, e2, _, _⟩ := own_form hP; rw [e2] at c1 hP; have HR := uH (Row.of_own hP); clear hkl hP e2; generalize leafAt ls k = l at *; generalize l.ps.length = m at *; generalize hap : leafPads (ls.take k) = pk at *; clear hap; go_wp2_with (at_builtin; refine wpList_append_any _ rfl (.tmp 16) (.tmp 20) _ rfl w.heap.size 53 i0 _ 2 24 Tryz.underlying46 hi hz0 hz1 hz2 rfl (by omega) _ pk.length (pk.flatMap padC) rfl hO.out wr.heap.size A2 m c2 (l.ps.flatMap padC) rfl HR.out padC_one (by unfold maxLen; omega) (by omega) hb.size ?_; intro v1 w1 hown1 hg1 hat1)
   have b1 := hb.grown hg1 hb.size (fun q hq => own_base hO.out hq); have HO1 : Hid (PadsOwn w1 w.heap.size v1 (leafPads (ls.take (k + 1)))) := uH (by
    rw [HS.out]; unfold PadsOwn; have hlm : l.ps.length = m := by
     have := HR.out.1; rw [flat_len padC_len] at this; omega
    rw [List.length_append, List.flatMap_append, hlm]; exact hown1)
   go_roundw
   case rel => exact ⟨k + 1, by omega, by go_num, HO1, b1⟩
   case measure => simp [intOf]; omega
  ·have hkn : ls.take k = ls := List.take_of_length_le (by have := HL.out; omega); rw [hkn] at hO; have hF := uH (own_form hO.out); clear hkn; go_wp2; go_ret; obtain ⟨A', c', rfl, _⟩ := hF.out; exact ⟨A', c', rfl, hO.out, hb⟩
end Go.Proofs.YtbkhnljaajajiaaGreatDoor
namespace Go.Proofs.YtbkhnljaajajiaaGreatDoor
open Go.ChangeShapes Go.WideShapes Go.ChangeAt Go.RowKit
set_option maxRecDepth 100000
noncomputable def cntI (css : List (List Pad)) : Int := if cabB css = true then (css.flatten.length : Int) else -1
theorem cntI_yes {css : List (List Pad)} (h : cabB css = true) : cntI css = css.flatten.length := by unfold cntI; rw [if_pos h]
theorem cntI_no {css : List (List Pad)} (h : cabB css = false) : cntI css = -1 := by unfold cntI; rw [h]; rfl
theorem ret_i {a b : Int} (h : a = b) : Ending.returned (.int .i64 a) = .returned (.int .i64 b) := by rw [h]
theorem flat_len_le {ds : List Drawer} (hsz : cabSz ds ≤ 1048576) : (allPads ds).length ≤ 1048576 := by have := allPads_len ds; omega
theorem leaf_all {ls : List Leaf} {ds : List Drawer} (h : ls.map (·.ps) = ds.map (·.ps)) : leafPads ls = allPads ds := by
 rw [leafPads_flat, h, allPads_flat]
theorem specCabinetCount (A : Option Addr) (n c : Nat) (ds : List Drawer) (w : World) (hsz : cabSz ds ≤ 1048576) (h : DrawersIn w w.heap.size A n c ds) :
  Calls Tryz.prog 56 #[.slice A n c] w fun e w' => e = .returned (.int .i64 (cntI (ds.map (·.ps)))) ∧ Below w.heap.size w w' := by
 have H := uH h; clear h; have CV := uH (specCabinetValid A n c ds w hsz H.out); by_cases hv : cabB (ds.map (·.ps)) = true
 ·rw [hv] at CV; have HN := uH (cntI_yes hv); clear hv; go_enter Tryz.func56, Tryz.ntmps56
  (go_wp2_with fail); refine CV.out.mono ?_; rintro e w1 ⟨rfl, b1⟩; (go_wp2_with fail); refine (l8Pads A n c ds w1 hsz (H.out.keep b1)).mono ?_; rintro e w2 ⟨A', c', rfl, _, hb2⟩; have b2 := below_next b1 hb2; go_wp2; go_ret; exact ⟨ret_i (by rw [HN.out, allPads_flat]), b2⟩
 ·have hv' : cabB (ds.map (·.ps)) = false := (by simpa using hv); rw [hv'] at CV; have HN := uH (cntI_no hv'); clear hv hv'; go_enter Tryz.func56, Tryz.ntmps56
  (go_wp2_with fail); refine CV.out.mono ?_; rintro e w1 ⟨rfl, b1⟩; go_wp2; go_ret; exact ⟨ret_i HN.out.symm, b1⟩
theorem implCabinetCount (A : Option Addr) (n c : Nat) (ds : List Drawer) (w : World) (hsz : cabSz ds ≤ 1048576) (h : DrawersIn w w.heap.size A n c ds) :
  Calls Tryz.prog 51 #[.slice A n c] w fun e w' => e = .returned (.int .i64 (cntI (ds.map (·.ps)))) ∧ Below w.heap.size w w' := by
 have H := uH h; clear h; go_enter Tryz.func51, Tryz.ntmps51
 (go_wp2_with fail); refine (treeOf A n c ds w H.out).mono ?_; rintro e w1 ⟨hT, b1⟩; rcases hT with ⟨hn, rfl⟩ | ⟨hy, t, v, ls, rfl, hT, hM⟩
 ·have HN := uH (cntI_no hn); clear hn; go_wp2; go_ret; exact ⟨ret_i HN.out.symm, b1⟩
 ·have HN := uH (cntI_yes hy); clear hy; have HA := uH (leaf_all hM); clear hM; have HT := uH hT; clear hT; (go_wp2_with fail); refine (treePads t v ls _ w1 (by rw [HA.out]; exact flat_len_le hsz) HT.out).mono ?_; rintro e w2 ⟨A', c', rfl, _, hb2⟩; have b2 := below_next b1 hb2; go_wp2; go_ret; exact ⟨ret_i (by rw [HN.out, allPads_flat, HA.out]), b2⟩
end Go.Proofs.YtbkhnljaajajiaaGreatDoor
namespace Go.Proofs.YtbkhnljaajajiaaGreatDoor
open Go.ChangeShapes Go.WideShapes Go.ChangeAt Go.RowKit
set_option maxRecDepth 100000
end Go.Proofs.YtbkhnljaajajiaaGreatDoor
namespace Go.Proofs.YtbkhnljaajajiaaGreatDoor
open Go.ChangeShapes Go.WideShapes Go.ChangeAt Go.RowKit
set_option maxRecDepth 100000
theorem Below.only {w w' : World} {row : Option Nat} (h : Below w.heap.size w w') : w.grownBy w' row := ⟨h.os, h.tape, h.output, h.size, fun i hi _ => h.block i hi⟩
theorem only_set {a w : World} {p : Addr} {g : Nat} (h : a.grownBy w (some g)) (hp : p.block = g) (u : Value) : a.grownBy (w.setCell p u) (some g) :=
 ⟨h.os, h.tape, h.output, by simpa [World.setCell] using h.size, fun i hi hne => (Below.heap_setCell w p u i (by rintro rfl; exact hne (by rw [hp]))).trans (h.block i hi hne)⟩
end Go.Proofs.YtbkhnljaajajiaaGreatDoor
namespace Go.Proofs.YtbkhnljaajajiaaGreatDoor
open Go.ChangeShapes Go.WideShapes Go.ChangeAt Go.RowKit
set_option maxRecDepth 100000
theorem nodup_ne {l : List Nat} (h : l.Nodup) {i j : Nat} {x y : Nat} (hi : l[i]? = some x) (hj : l[j]? = some y) (hij : i < j) : x ≠ y := by
 obtain ⟨hi1, rfl⟩ := List.getElem?_eq_some_iff.1 hi; obtain ⟨hj1, rfl⟩ := List.getElem?_eq_some_iff.1 hj; exact List.pairwise_iff_getElem.1 h i j hi1 hj1 hij
theorem PadsOwn.keep {w w' : World} {B : Nat} {v : Value} {ps : List Pad} (h : PadsOwn w B v ps) (hb : Below w.heap.size w w') : PadsOwn w' B v ps := own_congr h fun b hv => hb.block b (own_lt h hv)
end Go.Proofs.YtbkhnljaajajiaaGreatDoor
namespace Go.Proofs.YtbkhnljaajajiaaGreatDoor
open Go.ChangeShapes Go.WideShapes Go.ChangeAt Go.RowKit
set_option maxRecDepth 100000
theorem set_map_same {α β : Type} (f : α → β) : ∀ (l : List α) (k : Nat) (x y : α), l[k]? = some x → f y = f x → (l.set k y).map f = l.map f
 | [], _, _, _, h, _ => by simp at h
 | a :: r, 0, x, y, h, e => by simp at h; subst h; simp [e]
 | a :: r, k + 1, x, y, h, e => by simp only [List.set_cons_succ, List.map_cons]; rw [set_map_same f r k x y (by simpa using h) e]
theorem set_filterMap_same {α β : Type} (f : α → Option β) (l : List α) (k : Nat) (x y : α) (h : l[k]? = some x) (e : f y = f x) : (l.set k y).filterMap f = l.filterMap f := by
 have h1 := set_map_same f l k x y h e; have h2 : ∀ m : List α, m.filterMap f = (m.map f).filterMap id := (fun m => by rw [List.filterMap_map]; rfl); rw [h2, h2, h1]
theorem own_apart {ls : List Leaf} (h : (ls.filterMap (·.v.ownBlock)).Nodup) {i j : Nat} {x y : Leaf} (hi : ls[i]? = some x) (hj : ls[j]? = some y) (hij : i ≠ j) {b : Nat} (hx : x.v.ownBlock = some b) (hy : y.v.ownBlock = some b) : False := by
 have h1 := List.pairwise_filterMap.1 h; obtain ⟨hi1, rfl⟩ := List.getElem?_eq_some_iff.1 hi; obtain ⟨hj1, rfl⟩ := List.getElem?_eq_some_iff.1 hj; rcases Nat.lt_or_gt_of_ne hij with hlt | hgt
 ·exact List.pairwise_iff_getElem.1 h1 i j hi1 hj1 hlt b hx b hy rfl
 ·exact List.pairwise_iff_getElem.1 h1 j i hj1 hi1 hgt b hy b hx rfl
theorem g_apart {ls : List Leaf} (h : (ls.map (·.g)).Nodup) {i j : Nat} {x y : Leaf} (hi : ls[i]? = some x) (hj : ls[j]? = some y) (hij : i ≠ j) : x.g ≠ y.g := by
 rcases Nat.lt_or_gt_of_ne hij with hlt | hgt
 ·exact nodup_ne h (by rw [List.getElem?_map, hi]; rfl) (by rw [List.getElem?_map, hj]; rfl) hlt
 ·exact (nodup_ne h (by rw [List.getElem?_map, hj]; rfl) (by rw [List.getElem?_map, hi]; rfl) hgt).symm
theorem TreeIn.turn {w w1 : World} {B t k : Nat} {v v2 : Value} {ls : List Leaf} {l : Leaf} {ps2 : List Pad} (h : TreeIn w B t v ls) (hl : ls[k]? = some l) (hg : w.grownBy w1 l.v.ownBlock) (hO : PadsOwn w1 B v2 ps2) (hv : v2.ownBlock = l.v.ownBlock) (hgood : ∀ p ∈ ps2, p.good) :
  TreeIn (w1.setCell ⟨l.g, 0, none⟩ v2) B t v (ls.set k ⟨l.g, v2, ps2⟩) := by
 have hlm := List.mem_of_getElem? hl; have hlI := h.2.2.2.1 l hlm; have hkl : k < ls.length := (List.getElem?_eq_some_iff.1 hl).1; have hty : ∀ {b : Nat} {cs : Array Value} {ty : TypeId}, Blk w b ty cs → ty ≠ 53 → Blk w1 b ty cs := fun {b cs ty} hb hne =>
  (hg.block b hb.lt (fun e => hb.ne_own hlI.2.2.1 (fun e => hne e.symm) e.symm)).trans hb
 have hleaf1 : Blk w1 l.g 192 #[l.v] := hty hlI.2.1 (by decide); have hrow : ∀ b, v.ownBlock = some b → (w1.setCell ⟨l.g, 0, none⟩ v2).heap[b]? = w.heap[b]? := fun b hb => by
  obtain ⟨cur, h1⟩ := own_obj h.2.2.1 hb; have h2 : Blk w1 b 134 cur := hty h1 (by decide); rw [Below.heap_setCell w1 _ v2 b (h2.ne_blk hleaf1 (by decide))]; exact h2.trans h1.symm
 refine ⟨h.1, ?_, own_congr ?_ hrow, ?_, ?_, ?_⟩
 ·have h2 := hty h.2.1 (by decide); exact (Below.heap_setCell w1 _ v2 t (h2.ne_blk hleaf1 (by decide))).trans h2
 ·rw [List.length_set, set_map_same Leaf.ptr ls k l ⟨l.g, v2, ps2⟩ hl rfl]; exact h.2.2.1
 ·intro m hm; obtain ⟨j, hj⟩ := List.getElem?_of_mem hm; by_cases hjk : j = k
  ·subst hjk; rw [List.getElem?_set_self hkl] at hj; injection hj with hj; subst hj; refine ⟨hlI.1, by simpa using hleaf1.set 0 v2, own_congr hO (fun b hb => Below.heap_setCell w1 _ v2 b ?_), hgood⟩; rintro rfl; exact hleaf1.ne_own hO (by decide) hb
  ·rw [List.getElem?_set_ne (fun e => hjk e.symm)] at hj; have hmI := h.2.2.2.1 m (List.mem_of_getElem? hj); have hm1 := hty hmI.2.1 (by decide); refine hmI.congr ?_ (fun b hb => ?_)
   ·rw [Below.heap_setCell w1 _ v2 m.g (g_apart h.2.2.2.2.1 hj hl hjk)]; exact hm1.trans hmI.2.1.symm
   ·obtain ⟨cur, h1⟩ := own_obj hmI.2.2.1 hb; have h2 : w1.heap[b]? = w.heap[b]? := hg.block b (own_lt hmI.2.2.1 hb) (fun e => own_apart h.2.2.2.2.2 hj hl hjk hb e.symm); rw [Below.heap_setCell w1 _ v2 b (by rintro rfl; exact (show Blk w1 l.g 53 cur from h2.trans h1).ne_blk hleaf1 (by decide) rfl)]; exact h2
 ·rw [set_map_same (·.g) ls k l ⟨l.g, v2, ps2⟩ hl rfl]; exact h.2.2.2.2.1
 ·rw [set_filterMap_same (·.v.ownBlock) ls k l ⟨l.g, v2, ps2⟩ hl hv]; exact h.2.2.2.2.2
end Go.Proofs.YtbkhnljaajajiaaGreatDoor
namespace Go.Proofs.YtbkhnljaajajiaaGreatDoor
open Go.ChangeShapes Go.WideShapes Go.ChangeAt Go.RowKit
set_option maxRecDepth 100000
def RowAns (w' : World) (B : Nat) (D : List Pad) (e : Ending) : Prop :=
 ∃ A c, e = .returned (.slice A D.length c) ∧ PadsOwn w' B (.slice A D.length c) D
theorem RowAns.of {w' : World} {B : Nat} {D : List Pad} {e : Ending} {v : Value} (he : e = .returned v) (ho : PadsOwn w' B v D) : RowAns w' B D e := by
 obtain ⟨A, c, rfl, _⟩ := own_form ho; exact ⟨A, c, he, ho⟩
theorem rowNewPad (w : World) (u1 u2 : Value) (t : TypeId) : Row (w.alloc (.cells #[u1, u2] t)) (w.heap.size + 1) (some ⟨w.heap.size, 0, none⟩) 1 2 [u1, u2] := by
 refine ⟨rfl, fun _ => ⟨w.heap.size, 0, rfl, by omega, fun j x hx => ?_⟩⟩; rcases j with _ | _ | j
 ·simp at hx; subst hx; exact newcell w #[u1, u2] t 0 u1 rfl
 ·simp at hx; subst hx; exact newcell w #[u1, u2] t 1 u2 rfl
 ·simp at hx
end Go.Proofs.YtbkhnljaajajiaaGreatDoor
namespace Go.Proofs.YtbkhnljaajajiaaGreatDoor
open Go.ChangeShapes Go.WideShapes Go.ChangeAt Go.RowKit
set_option maxRecDepth 100000
def Drawer.v (d : Drawer) : Value := .slice d.A d.n d.c
def DrIn (w : World) (B : Nat) (d : Drawer) : Prop := d.ps.length = d.n ∧ PadsOwn w B d.v d.ps ∧ ∀ p ∈ d.ps, p.good
theorem DrIn.congr {w w' : World} {B : Nat} {d : Drawer} (h : DrIn w B d) (h2 : ∀ b, d.v.ownBlock = some b → w'.heap[b]? = w.heap[b]?) : DrIn w' B d := ⟨h.1, own_congr h.2.1 h2, h.2.2⟩
theorem DrIn.pads {w : World} {B : Nat} {d : Drawer} (h : DrIn w B d) : PadsIn w w.heap.size d.A d.n d.c d.ps := by
 have h2 := h.2.1; unfold Drawer.v at h2; exact h2.reads h.1 h.2.2
def CabOwn (w : World) (B : Nat) (v : Value) (ds : List Drawer) : Prop :=
 w.ownsRow B 46 1 v ds.length (ds.flatMap drawerC) ∧ (∀ d ∈ ds, DrIn w B d) ∧ (ds.filterMap (·.v.ownBlock)).Nodup
theorem CabOwn.congr {w w' : World} {B : Nat} {v : Value} {ds : List Drawer} (h : CabOwn w B v ds) (h0 : ∀ b, v.ownBlock = some b → w'.heap[b]? = w.heap[b]?)
  (h1 : ∀ d ∈ ds, ∀ b, d.v.ownBlock = some b → w'.heap[b]? = w.heap[b]?) : CabOwn w' B v ds :=
 ⟨own_congr h.1 h0, fun d hd => (h.2.1 d hd).congr (h1 d hd), h.2.2⟩
theorem CabOwn.keep {w w' : World} {B : Nat} {v : Value} {ds : List Drawer} (h : CabOwn w B v ds) (hb : Below w.heap.size w w') : CabOwn w' B v ds :=
 h.congr (fun _ hv => hb.block _ (own_lt h.1 hv)) fun d hd _ hv => hb.block _ (own_lt (h.2.1 d hd).2.1 hv)
theorem CabOwn.mono {w : World} {B B' : Nat} {v : Value} {ds : List Drawer} (h : CabOwn w B v ds) (hB : B' ≤ B) : CabOwn w B' v ds :=
 ⟨own_mono h.1 hB, fun d hd => ⟨(h.2.1 d hd).1, own_mono (h.2.1 d hd).2.1 hB, (h.2.1 d hd).2.2⟩, h.2.2⟩
theorem CabOwn.nil (w : World) (B : Nat) : CabOwn w B (.slice none 0 0) [] := ⟨World.ownsRow_nil _ _ _ _, by simp, by simp⟩
theorem CabOwn.made (w : World) : CabOwn (w.alloc (.cells #[] 46)) w.heap.size (.slice (some ⟨w.heap.size, 0, none⟩) 0 0) [] := ⟨World.ownsRow_made w #[] 0 (Nat.le_refl _) (by simp) (by simp), by simp, by simp⟩
theorem CabOwn.reads {w : World} {B n c : Nat} {A : Option Addr} {ds : List Drawer} (h : CabOwn w B (.slice A n c) ds) (hn : ds.length = n) : DrawersIn w w.heap.size A n c ds := by
 have h1 := h.1; rw [hn] at h1; obtain ⟨A', c', e, q1, q2⟩ := own_form h1; injection e with e1 e2 e3; subst e1 e3; exact ⟨hn, q1, q2, Row.of_own h1, fun d hd => (h.2.1 d hd).pads⟩
theorem CabOwn.push {w w1 w2 : World} {B : Nat} {v v' : Value} {ds : List Drawer} {d : Drawer} (h : CabOwn w B v ds) (hb : Below w.heap.size w w1) (hg : w1.grownBy w2 v.ownBlock)
  (hown : w2.ownsRow B 46 1 v' (ds.length + 1) (ds.flatMap drawerC ++ [d.v])) (hl : DrIn w1 B d) (hm : ∀ b, d.v.ownBlock = some b → w.heap.size ≤ b) : CabOwn w2 B v' (ds ++ [d]) := by
 have hne : ∀ {b : Nat} {cur : Array Value} {e : TypeId}, w1.heap[b]? = some (.cells cur e (0, 0)) → e ≠ 46 → w2.heap[b]? = w1.heap[b]? := by
  intro b cur e h1 h2; rcases Nat.lt_or_ge b w1.heap.size with hlt | hge
  ·refine hg.block b hlt (fun hq => h2 ?_); obtain ⟨cur', h3⟩ := own_obj (h.keep hb).1 hq.symm; rw [h1] at h3; injection h3 with h3; injection h3
  ·rw [Array.getElem?_eq_none hge] at h1; cases h1
 have hold : ∀ m, DrIn w1 B m → DrIn w2 B m := fun m hm => hm.congr fun b hv => by
  obtain ⟨cur, h1⟩ := own_obj hm.2.1 hv; exact hne h1 (by decide)
 refine ⟨?_, fun m hm => ?_, ?_⟩
 ·rw [List.length_append, List.flatMap_append]; simpa [drawerC, Drawer.v] using hown
 ·rcases List.mem_append.1 hm with hm | hm
  ·exact hold m ((h.keep hb).2.1 m hm)
  ·simp at hm; subst hm; exact hold m hl
 ·rw [List.filterMap_append, List.nodup_append]; refine ⟨h.2.2, ?_, ?_⟩
  ·cases hv : d.v.ownBlock <;> simp [hv]
  ·intro a ha b hb' hab; obtain ⟨m, hm', hma⟩ := List.mem_filterMap.1 ha; have h1 := own_lt (h.2.1 m hm').2.1 hma; obtain ⟨m', hm'', hmb⟩ := List.mem_filterMap.1 hb'; simp at hm''; subst hm''; have := hm b hmb; omega
theorem CabOwn.len {w : World} {B n c : Nat} {A : Option Addr} {ds : List Drawer} (h : CabOwn w B (.slice A n c) ds) : ds.length = n := by
 obtain ⟨A', c', e, _⟩ := own_form h.1; injection e with e1 e2 e3; exact e2.symm
theorem CabOwn.form {w : World} {B : Nat} {v : Value} {ds : List Drawer} (h : CabOwn w B v ds) : ∃ A c, v = .slice A ds.length c ∧ ds.length ≤ c ∧ c ≤ maxLen := own_form h.1
def FileAns (w' : World) (B : Nat) (o : Option (List (List Pad))) (e : Ending) : Prop :=
 (o = none ∧ ∃ A c, e = .returned (.tuple #[.slice A 0 c, .bool false]) ∧ CabOwn w' B (.slice A 0 c) []) ∨
 ∃ A c ds, o = some (ds.map (·.ps)) ∧ e = .returned (.tuple #[.slice A ds.length c, .bool true]) ∧ CabOwn w' B (.slice A ds.length c) ds
theorem FileAns.no {w' : World} {B : Nat} {o : Option (List (List Pad))} {e : Ending} {A : Option Addr} {c : Nat} (h : o = none) (he : e = .returned (.tuple #[.slice A 0 c, .bool false])) (hc : CabOwn w' B (.slice A 0 c) []) : FileAns w' B o e := .inl ⟨h, A, c, he, hc⟩
theorem FileAns.yes {w' : World} {B n : Nat} {o : Option (List (List Pad))} {e : Ending} {A : Option Addr} {c : Nat} {ds : List Drawer} (h : o = some (ds.map (·.ps))) (he : e = .returned (.tuple #[.slice A n c, .bool true])) (hc : CabOwn w' B (.slice A n c) ds) : FileAns w' B o e :=
 .inr ⟨A, c, ds, h, by rw [hc.len]; exact he, by rw [hc.len]; exact hc⟩
end Go.Proofs.YtbkhnljaajajiaaGreatDoor
namespace Go.Proofs.YtbkhnljaajajiaaGreatDoor
open Go.ChangeShapes Go.WideShapes Go.ChangeAt Go.RowKit
set_option maxRecDepth 100000
def fromA (a : Option Addr) (k c sz : Nat) : Option Addr := if c = k then a else a.map (·.add (k * sz))
theorem run_from {P : Program} {t : TypeId} {sz : Nat} (ht : P.underlying t = some (.slice (P.elem t))) (hs : ∀ w, (sizeOf (P.elem t)).run P w = .ok sz w) (a : Option Addr) (n c k : Nat) (hk : k ≤ n) (w : World) :
  (Instr.slice t (.slice a n c) (some (.int .i64 (k : Int))) none none).run P w = .ok (.slice (fromA a k c sz) (n - k) (c - k)) w := by
 rw [run_slice_l w t a n c ht .i64 (k : Int) (by omega) (by omega), hs]; simp [Result.andThen, sliced, fromA]
theorem run_upto {P : Program} {t : TypeId} {sz : Nat} (ht : P.underlying t = some (.slice (P.elem t))) (hs : ∀ w, (sizeOf (P.elem t)).run P w = .ok sz w) (b off n c k : Nat) (hk : k ≤ c) (w : World) :
  (Instr.slice t (.slice (some ⟨b, off, none⟩) n c) none (some (.int .i64 (k : Int))) none).run P w = .ok (.slice (some ⟨b, off, none⟩) k c) w := by
 rw [run_slice_h w t (some ⟨b, off, none⟩) n c ht .i64 (k : Int) (by omega) (by omega), hs]; simp [Result.andThen, sliced, Addr.add]
theorem Row.from_ {w : World} {B n sz k c : Nat} {A : Option Addr} {xs : List Value} (h : Row w B A n sz xs) (hk : k ≤ n) (hc : n ≤ c) : Row w B (fromA A k c sz) (n - k) sz (xs.drop (k * sz)) := by
 unfold fromA; by_cases e : c = k
 ·rw [if_pos e]; have h0 : n - k = 0 := (by omega); have h1 : xs.drop (k * sz) = [] := List.drop_of_length_le (by rw [h.1]; exact Nat.mul_le_mul_right _ (by omega)); rw [h0, h1]; exact Row.empty
 ·rw [if_neg e]; rcases Nat.eq_zero_or_pos n with hn | hn
  ·have h0 : n - k = 0 := (by omega); have h1 : xs.drop (k * sz) = [] := List.drop_of_length_le (by rw [h.1, hn]; simp); rw [h0, h1]; exact Row.empty
  ·obtain ⟨b, off, eA, _⟩ := h.2 hn; subst eA; rw [show Option.map (fun x : Addr => x.add (k * sz)) (some (⟨b, off, none⟩ : Addr)) = some ⟨b, off + k * sz, none⟩ from by
    by_cases hz : k * sz = 0
    ·simp [Addr.add, hz]
    ·simp [Addr.add, hz]]
   exact h.drop hk
theorem PadsIn.from_ {w : World} {B n c k : Nat} {A : Option Addr} {ps : List Pad} (h : PadsIn w B A n c ps) (hk : k ≤ n) : PadsIn w B (fromA A k c 2) (n - k) (c - k) (ps.drop k) :=
 ⟨by rw [List.length_drop, h.1], by have := h.2.1; omega, by have := h.2.2.1; omega, by rw [← flat_drop padC_len]; exact h.2.2.2.1.from_ hk h.2.1, fun p hp => h.2.2.2.2 p (List.mem_of_mem_drop hp)⟩
theorem PadsIn.upto {w : World} {B n c k : Nat} {A : Option Addr} {ps : List Pad} (h : PadsIn w B A n c ps) (hk : k ≤ n) : PadsIn w B A k c (ps.take k) :=
 ⟨by rw [List.length_take, h.1]; omega, by have := h.2.1; omega, h.2.2.1, by rw [← flat_take padC_len]; exact h.2.2.2.1.take hk, fun p hp => h.2.2.2.2 p (List.mem_of_mem_take hp)⟩
theorem elemPads : Tryz.prog.underlying 46 = some (.slice (Tryz.prog.elem 46)) := by kernel_rfl
theorem elemCab : Tryz.prog.underlying 48 = some (.slice (Tryz.prog.elem 48)) := by kernel_rfl
theorem sizePad : ∀ w, (sizeOf (Tryz.prog.elem 46)).run Tryz.prog w = .ok 2 w := fun w => by kernel_rfl
theorem sizeSl : ∀ w, (sizeOf (Tryz.prog.elem 48)).run Tryz.prog w = .ok 1 w := fun w => by kernel_rfl
end Go.Proofs.YtbkhnljaajajiaaGreatDoor
