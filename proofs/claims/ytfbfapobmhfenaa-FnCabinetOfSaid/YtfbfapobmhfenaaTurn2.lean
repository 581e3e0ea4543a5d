/-
  A leaf's list is turned for a new one, in its own block or in a new one. Conditions: none.
-/
import Derived.Test.YtfbfapobmhfenaaTreeB
namespace Go.Proofs.Ytfbfapobmhfenaa
open Go.ChangeShapes Go.WideShapes Go.ChangeAt Go.RowKit
set_option maxRecDepth 100000

theorem turn_nodup {ls : List Leaf} {l' : Leaf} {k S : Nat} (h : (ls.filterMap (·.v.ownBlock)).Nodup) (hb : ∀ m ∈ ls, ∀ b, m.v.ownBlock = some b → b < S) (hn : ∀ b, l'.v.ownBlock = some b → S ≤ b) : ((ls.set k l').filterMap (·.v.ownBlock)).Nodup := by
  have h1 := List.pairwise_filterMap.1 h
  refine List.pairwise_filterMap.2 (List.pairwise_iff_getElem.2 fun i j hi hj hij b e b' e' => ?_)
  rw [List.length_set] at hi hj
  rw [List.getElem_set] at e e'
  split at e
  · split at e'
    · omega
    · have := hn b e
      have := hb _ (List.getElem_mem hj) b' e'
      omega
  · split at e'
    · have := hn b' e'
      have := hb _ (List.getElem_mem hi) b e
      omega
    · exact List.pairwise_iff_getElem.1 h1 i j hi hj hij b e b' e'
theorem TreeIn.turn2 {w w1 : World} {B t k : Nat} {v v2 : Value} {ls : List Leaf} {l : Leaf} {ps2 : List Pad} (h : TreeIn w B t v ls) (hl : ls[k]? = some l) (hg : w.grownBy w1 l.v.ownBlock) (hO : PadsOwn w1 B v2 ps2) (hv : ∀ b, v2.ownBlock = some b → w.heap.size ≤ b) (hgood : ∀ p ∈ ps2, p.good) :
    TreeIn (w1.setCell ⟨l.g, 0, none⟩ v2) B t v (ls.set k ⟨l.g, v2, ps2⟩) := by
  have hlm := List.mem_of_getElem? hl
  have hlI := h.2.2.2.1 l hlm
  have hkl : k < ls.length := (List.getElem?_eq_some_iff.1 hl).1
  have hty : ∀ {b : Nat} {cs : Array Value} {ty : TypeId}, Blk w b ty cs → ty ≠ 49 → Blk w1 b ty cs := fun {b cs ty} hb hne =>
    (hg.block b hb.lt (fun e => hb.ne_own hlI.2.2.1 (fun e => hne e.symm) e.symm)).trans hb
  have hleaf1 : Blk w1 l.g 95 #[l.v] := hty hlI.2.1 (by decide)
  have hrow : ∀ b, v.ownBlock = some b → (w1.setCell ⟨l.g, 0, none⟩ v2).heap[b]? = w.heap[b]? := fun b hb => by
    obtain ⟨cur, h1⟩ := own_obj h.2.2.1 hb
    have h2 : Blk w1 b 93 cur := hty h1 (by decide)
    rw [Below.heap_setCell w1 _ v2 b (h2.ne_blk hleaf1 (by decide))]
    exact h2.trans h1.symm
  refine ⟨h.1, ?_, own_congr ?_ hrow, ?_, ?_, ?_⟩
  · have h2 := hty h.2.1 (by decide)
    exact (Below.heap_setCell w1 _ v2 t (h2.ne_blk hleaf1 (by decide))).trans h2
  · rw [List.length_set, set_map_same Leaf.ptr ls k l ⟨l.g, v2, ps2⟩ hl rfl]; exact h.2.2.1
  · intro m hm
    obtain ⟨j, hj⟩ := List.getElem?_of_mem hm
    by_cases hjk : j = k
    · subst hjk
      rw [List.getElem?_set_self hkl] at hj
      injection hj with hj; subst hj
      refine ⟨hlI.1, by simpa using hleaf1.set 0 v2, own_congr hO (fun b hb => Below.heap_setCell w1 _ v2 b ?_), hgood⟩
      rintro rfl
      exact hleaf1.ne_own hO (by decide) hb
    · rw [List.getElem?_set_ne (fun e => hjk e.symm)] at hj
      have hmI := h.2.2.2.1 m (List.mem_of_getElem? hj)
      have hm1 := hty hmI.2.1 (by decide)
      refine hmI.congr ?_ (fun b hb => ?_)
      · rw [Below.heap_setCell w1 _ v2 m.g (g_apart h.2.2.2.2.1 hj hl hjk)]
        exact hm1.trans hmI.2.1.symm
      · obtain ⟨cur, h1⟩ := own_obj hmI.2.2.1 hb
        have h2 : w1.heap[b]? = w.heap[b]? := hg.block b (own_lt hmI.2.2.1 hb) (fun e => own_apart h.2.2.2.2.2 hj hl hjk hb e.symm)
        rw [Below.heap_setCell w1 _ v2 b (by rintro rfl; exact (show Blk w1 l.g 49 cur from h2.trans h1).ne_blk hleaf1 (by decide) rfl)]
        exact h2
  · rw [set_map_same (·.g) ls k l ⟨l.g, v2, ps2⟩ hl rfl]; exact h.2.2.2.2.1
  · exact turn_nodup h.2.2.2.2.2 (fun m hm b hb => own_lt (h.2.2.2.1 m hm).2.2.1 hb) hv
end Go.Proofs.Ytfbfapobmhfenaa
