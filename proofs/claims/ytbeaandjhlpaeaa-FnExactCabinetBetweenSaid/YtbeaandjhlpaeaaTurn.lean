/-
  One leaf of a tree is turned: its list of pads, in the same row. Conditions: none.
-/
import Derived.Test.YtbeaandjhlpaeaaTreePads
import Derived.Test.YtbeaandjhlpaeaaHeldPads
namespace Go.Proofs.Ytbeaandjhlpaeaa
open Go.ChangeShapes Go.WideShapes Go.ChangeAt Go.RowKit
set_option maxRecDepth 100000

theorem set_map_same {α β : Type} (f : α → β) : ∀ (l : List α) (k : Nat) (x y : α), l[k]? = some x → f y = f x → (l.set k y).map f = l.map f
  | [], _, _, _, h, _ => by simp at h
  | a :: r, 0, x, y, h, e => by simp at h; subst h; simp [e]
  | a :: r, k + 1, x, y, h, e => by simp only [List.set_cons_succ, List.map_cons]; rw [set_map_same f r k x y (by simpa using h) e]
theorem set_filterMap_same {α β : Type} (f : α → Option β) (l : List α) (k : Nat) (x y : α) (h : l[k]? = some x) (e : f y = f x) : (l.set k y).filterMap f = l.filterMap f := by
  have h1 := set_map_same f l k x y h e
  have h2 : ∀ m : List α, m.filterMap f = (m.map f).filterMap id := fun m => by rw [List.filterMap_map]; rfl
  rw [h2, h2, h1]
theorem own_apart {ls : List Leaf} (h : (ls.filterMap (·.v.ownBlock)).Nodup) {i j : Nat} {x y : Leaf} (hi : ls[i]? = some x) (hj : ls[j]? = some y) (hij : i ≠ j) {b : Nat} (hx : x.v.ownBlock = some b) (hy : y.v.ownBlock = some b) : False := by
  have h1 := List.pairwise_filterMap.1 h
  obtain ⟨hi1, rfl⟩ := List.getElem?_eq_some_iff.1 hi
  obtain ⟨hj1, rfl⟩ := List.getElem?_eq_some_iff.1 hj
  rcases Nat.lt_or_gt_of_ne hij with hlt | hgt
  · exact List.pairwise_iff_getElem.1 h1 i j hi1 hj1 hlt b hx b hy rfl
  · exact List.pairwise_iff_getElem.1 h1 j i hj1 hi1 hgt b hy b hx rfl
theorem g_apart {ls : List Leaf} (h : (ls.map (·.g)).Nodup) {i j : Nat} {x y : Leaf} (hi : ls[i]? = some x) (hj : ls[j]? = some y) (hij : i ≠ j) : x.g ≠ y.g := by
  rcases Nat.lt_or_gt_of_ne hij with hlt | hgt
  · exact nodup_ne h (by rw [List.getElem?_map, hi]; rfl) (by rw [List.getElem?_map, hj]; rfl) hlt
  · exact (nodup_ne h (by rw [List.getElem?_map, hj]; rfl) (by rw [List.getElem?_map, hi]; rfl) hgt).symm

theorem TreeIn.turn {w w1 : World} {B t k : Nat} {v v2 : Value} {ls : List Leaf} {l : Leaf} {ps2 : List Pad} (h : TreeIn w B t v ls) (hl : ls[k]? = some l) (hg : w.grownBy w1 l.v.ownBlock) (hO : PadsOwn w1 B v2 ps2) (hv : v2.ownBlock = l.v.ownBlock) (hgood : ∀ p ∈ ps2, p.good) :
    TreeIn (w1.setCell ⟨l.g, 0, none⟩ v2) B t v (ls.set k ⟨l.g, v2, ps2⟩) := by
  have hlm := List.mem_of_getElem? hl
  have hlI := h.2.2.2.1 l hlm
  have hkl : k < ls.length := (List.getElem?_eq_some_iff.1 hl).1
  -- blocks of other types than pads are as they were in w1
  have hty : ∀ {b : Nat} {cs : Array Value} {ty : TypeId}, Blk w b ty cs → ty ≠ 26 → Blk w1 b ty cs := fun {b cs ty} hb hne =>
    (hg.block b hb.lt (fun e => hb.ne_own hlI.2.2.1 (fun e => hne e.symm) e.symm)).trans hb
  have hleaf1 : Blk w1 l.g 100 #[l.v] := hty hlI.2.1 (by decide)
  have hrow : ∀ b, v.ownBlock = some b → (w1.setCell ⟨l.g, 0, none⟩ v2).heap[b]? = w.heap[b]? := fun b hb => by
    obtain ⟨cur, h1⟩ := own_obj h.2.2.1 hb
    have h2 : Blk w1 b 97 cur := hty h1 (by decide)
    rw [Below.heap_setCell w1 _ v2 b (h2.ne_blk hleaf1 (by decide))]
    exact h2.trans h1.symm
  refine ⟨h.1, ?_, own_congr ?_ hrow, ?_, ?_, ?_⟩
  · have h2 := hty h.2.1 (by decide)
    exact (Below.heap_setCell w1 _ v2 t (h2.ne_blk hleaf1 (by decide))).trans h2
  · rw [List.length_set, set_map_same Leaf.ptr ls k l ⟨l.g, v2, ps2⟩ hl rfl]; exact h.2.2.1
  · intro m hm
    obtain ⟨j, hj⟩ := List.getElem?_of_mem hm
    by_cases hjk : j = k
    · subst hjk
      rw [List.getElem?_set_self hkl] at hj
      injection hj with hj; subst hj
      refine ⟨hlI.1, by simpa using hleaf1.set 0 v2, own_congr hO (fun b hb => Below.heap_setCell w1 _ v2 b ?_), hgood⟩
      rintro rfl
      exact hleaf1.ne_own hO (by decide) hb
    · rw [List.getElem?_set_ne (fun e => hjk e.symm)] at hj
      have hmI := h.2.2.2.1 m (List.mem_of_getElem? hj)
      have hm1 := hty hmI.2.1 (by decide)
      refine hmI.congr ?_ (fun b hb => ?_)
      · rw [Below.heap_setCell w1 _ v2 m.g (g_apart h.2.2.2.2.1 hj hl hjk)]
        exact hm1.trans hmI.2.1.symm
      · obtain ⟨cur, h1⟩ := own_obj hmI.2.2.1 hb
        have h2 : w1.heap[b]? = w.heap[b]? := hg.block b (own_lt hmI.2.2.1 hb) (fun e => own_apart h.2.2.2.2.2 hj hl hjk hb e.symm)
        rw [Below.heap_setCell w1 _ v2 b (by rintro rfl; exact (show Blk w1 l.g 26 cur from h2.trans h1).ne_blk hleaf1 (by decide) rfl)]
        exact h2
  · rw [set_map_same (·.g) ls k l ⟨l.g, v2, ps2⟩ hl rfl]; exact h.2.2.2.2.1
  · rw [set_filterMap_same (·.v.ownBlock) ls k l ⟨l.g, v2, ps2⟩ hl hv]; exact h.2.2.2.2.2
end Go.Proofs.Ytbeaandjhlpaeaa
