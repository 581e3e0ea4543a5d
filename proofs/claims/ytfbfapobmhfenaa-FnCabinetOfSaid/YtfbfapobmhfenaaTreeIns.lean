/-
  A leaf is put into a tree's row at a place. Conditions: none.
-/
import Derived.Test.YtfbfapobmhfenaaLeafSplit
import Derived.Test.YtfbfapobmhfenaaInsLeaf
namespace Go.Proofs.Ytfbfapobmhfenaa
open Go.ChangeShapes Go.WideShapes Go.ChangeAt Go.RowKit Go.Shelf
set_option maxRecDepth 100000

/-- The leaves with a leaf at a place. -/
def insL (ls : List Leaf) (l : Leaf) (d : Nat) : List Leaf := ls.take d ++ l :: ls.drop d
theorem insL_perm (ls : List Leaf) (l : Leaf) (d : Nat) : (insL ls l d).Perm (l :: ls) := by
  unfold insL
  have h := List.perm_middle (a := l) (l₁ := ls.take d) (l₂ := ls.drop d)
  rwa [List.take_append_drop] at h
theorem LeavesIn.insert {w w2 : World} {B d : Nat} {v v' : Value} {ls : List Leaf} {l : Leaf} (h : LeavesIn w B v ls) (hg : w.grownBy w2 v.ownBlock) (hl : LeafIn w B l) (hne : ∀ m ∈ ls, m.g ≠ l.g ∧ ∀ b, m.v.ownBlock = some b → l.v.ownBlock ≠ some b)
    (hown : w2.ownsRow B 93 1 v' (ls.length + 1) ((ls.map Leaf.ptr).take d ++ [l.ptr] ++ (ls.map Leaf.ptr).drop d)) : LeavesIn w2 B v' (insL ls l d) := by
  have hkeep : ∀ {b : Nat} {cur : Array Value} {e : TypeId}, w.heap[b]? = some (.cells cur e (0, 0)) → e ≠ 93 → w2.heap[b]? = w.heap[b]? := by
    intro b cur e h1 h2
    rcases Nat.lt_or_ge b w.heap.size with hlt | hge
    · refine hg.block b hlt (fun hq => h2 ?_)
      obtain ⟨cur', h3⟩ := own_obj h.1 hq.symm
      rw [h1] at h3; injection h3 with h3; injection h3
    · rw [Array.getElem?_eq_none hge] at h1; cases h1
  have hold : ∀ m, LeafIn w B m → LeafIn w2 B m := fun m hm => hm.congr (hkeep hm.2.1 (by decide)) fun b hv => by
    obtain ⟨cur, h1⟩ := own_obj hm.2.2.1 hv
    exact hkeep h1 (by decide)
  have hp := insL_perm ls l d
  refine ⟨?_, fun m hm => ?_, ?_, ?_⟩
  · rw [hp.length_eq, List.length_cons]
    have e : (insL ls l d).map Leaf.ptr = (ls.map Leaf.ptr).take d ++ [l.ptr] ++ (ls.map Leaf.ptr).drop d := by
      unfold insL
      rw [List.map_append, List.map_cons, List.map_take, List.map_drop, List.append_assoc]
      rfl
    rw [e]; exact hown
  · rcases List.mem_cons.1 (hp.mem_iff.1 hm) with rfl | hm
    · exact hold _ hl
    · exact hold m (h.2.1 m hm)
  · refine ((hp.map (·.g)).nodup_iff).2 ?_
    rw [List.map_cons, List.nodup_cons]
    refine ⟨fun hm => ?_, h.2.2.1⟩
    obtain ⟨m, hm', e⟩ := List.mem_map.1 hm
    exact (hne m hm').1 e
  · refine ((hp.filterMap (·.v.ownBlock)).nodup_iff).2 ?_
    cases hv : l.v.ownBlock with
    | none => rw [List.filterMap_cons_none (f := fun x : Leaf => x.v.ownBlock) hv]; exact h.2.2.2
    | some b =>
      rw [List.filterMap_cons_some (f := fun x : Leaf => x.v.ownBlock) hv, List.nodup_cons]
      refine ⟨fun hm => ?_, h.2.2.2⟩
      obtain ⟨m, hm', e⟩ := List.mem_filterMap.1 hm
      exact (hne m hm').2 b e hv
theorem TreeIn.insert {w wA w5 : World} {B t d : Nat} {v v' : Value} {ls : List Leaf} {l : Leaf} (h : TreeIn w B t v ls) (hB : B ≤ w.heap.size) (hA : Below w.heap.size w wA) (hg : wA.grownBy w5 v.ownBlock) (hl : LeafIn w B l) (hne : ∀ m ∈ ls, m.g ≠ l.g ∧ ∀ b, m.v.ownBlock = some b → l.v.ownBlock ≠ some b)
    (hown : w5.ownsRow B 93 1 v' (ls.length + 1) ((ls.map Leaf.ptr).take d ++ [l.ptr] ++ (ls.map Leaf.ptr).drop d)) : TreeIn (w5.setCell ⟨t, 0, none⟩ v') B t v' (insL ls l d) ∧ Below B w (w5.setCell ⟨t, 0, none⟩ v') := by
  have hlA : LeafIn wA B l := hl.congr (hA.block _ hl.2.1.lt) fun b hb => hA.block _ (own_lt hl.2.2.1 hb)
  have hL := (h.2.2.below hA).insert hg hlA hne hown
  have ht : Blk w5 t 85 #[v] := (h.2.1.below hA |> fun hb : Blk wA t 85 #[v] => (hg.block t hb.lt (fun e => h.2.1.ne_own h.2.2.1 (by decide) e.symm)).trans hb)
  exact ⟨⟨h.1, by simpa using ht.set 0 v', hL.root ht v'⟩, ((hA.mono hB).grown hg (Nat.le_trans hB hA.size) (fun z hz => own_base h.2.2.1 hz)).setCell h.1 _⟩
end Go.Proofs.Ytfbfapobmhfenaa
