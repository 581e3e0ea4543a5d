/-
  A tree's leaves one by one; all pads of a tree, in one list of new memory: cabinetTree.pads. Conditions: no more pads than a law lets by.
-/
import Derived.Test.YtbeaandjhlpaeaaTreeOf
namespace Go.Proofs.Ytbeaandjhlpaeaa
open Go.ChangeShapes Go.WideShapes Go.ChangeAt Go.RowKit
set_option maxRecDepth 100000

def leafAt (ls : List Leaf) (k : Nat) : Leaf := ls.getD k ⟨0, .slice none 0 0, []⟩
theorem leafAt_some {ls : List Leaf} {k : Nat} (h : k < ls.length) : ls[k]? = some (leafAt ls k) := by
  unfold leafAt; simp [List.getD, List.getElem?_eq_getElem h]
theorem leafAt_mem {ls : List Leaf} {k : Nat} (h : k < ls.length) : leafAt ls k ∈ ls := List.mem_of_getElem? (leafAt_some h)
def leafPads (ls : List Leaf) : List Pad := ls.flatMap (·.ps)
theorem leafPads_step {ls : List Leaf} {k : Nat} (h : k < ls.length) : leafPads (ls.take (k + 1)) = leafPads (ls.take k) ++ (leafAt ls k).ps := by
  rw [take_step (leafAt_some h)]; simp [leafPads]
theorem leafPads_split {ls : List Leaf} {k : Nat} : (leafPads (ls.take k)).length ≤ (leafPads ls).length := by
  have h : leafPads ls = leafPads (ls.take k) ++ leafPads (ls.drop k) := by
    unfold leafPads; rw [← List.flatMap_append, List.take_append_drop]
  rw [h, List.length_append]; omega
theorem leafPads_flat (ls : List Leaf) : leafPads ls = (ls.map (·.ps)).flatten := by unfold leafPads; rw [List.flatMap_def]

/-- The k-th leaf of a row of leaves, as the program reads it. -/
theorem LeavesIn.at_ {w : World} {B k n c : Nat} {A : Option Addr} {ls : List Leaf} (h : LeavesIn w B (.slice A n c) ls) (hn : ls.length = n) (hk : k < n) :
    ∃ b off, A = some ⟨b, off, none⟩ ∧ b < w.heap.size ∧ w.cell? ⟨b, off + k, none⟩ = some (.pointer (some ⟨(leafAt ls k).g, 0, none⟩)) ∧ (leafAt ls k).g < w.heap.size ∧ w.cell? ⟨(leafAt ls k).g, 0, none⟩ = some (leafAt ls k).v ∧
      w.frozen? ⟨(leafAt ls k).g, 0, none⟩ = false ∧ B ≤ (leafAt ls k).g ∧ PadsOwn w B (leafAt ls k).v (leafAt ls k).ps ∧ ∀ p ∈ (leafAt ls k).ps, p.good := by
  have h1 := h.1
  rw [hn] at h1
  obtain ⟨b, off, e, hb, hc⟩ := (Row.of_own h1).2 (by omega)
  obtain ⟨l1, l2, l3, l4⟩ := h.2.1 _ (leafAt_mem (ls := ls) (k := k) (by omega))
  refine ⟨b, off, e, hb, hc k _ ?_, l2.lt, l2.cell 0, l2.free 0, l1, l3, l4⟩
  rw [List.getElem?_map, leafAt_some (by omega)]; rfl

theorem treePads (t : Nat) (v : Value) (ls : List Leaf) (B : Nat) (w : World) (hsz : (leafPads ls).length ≤ 1048576) (h : TreeIn w B t v ls) :
    Calls Try.prog 61 #[.pointer (some ⟨t, 0, none⟩)] w fun e w' => ∃ A' c', e = .returned (.slice A' (leafPads ls).length c') ∧ PadsOwn w' w.heap.size (.slice A' (leafPads ls).length c') (leafPads ls) ∧ Below w.heap.size w w' := by
  obtain ⟨A, c, rfl, hnc, hm⟩ := own_form h.2.2.1
  have hc0 := h.2.1.cell 0
  have H := Lib.hid h.2.2
  have htl := h.2.1.lt
  generalize hn : ls.length = n at *
  have HL := Lib.hid hn; clear h hn
  unfold maxLen at hm
  obtain ⟨i0, hi, hz0, hz1, hz2⟩ := info_parts infoPad
  go_enter Try.func61, Try.ntmps61
  go_wp2
  go_loopw [3, 12] (fun v i wr => ∃ (k : Nat), k ≤ n ∧ i = .int .i64 k ∧ Hid (PadsOwn wr w.heap.size v (leafPads (ls.take k))) ∧ Below w.heap.size w wr) (fun _ i _ => n - (intOf i).toNat)
  case atStart => exact ⟨0, Nat.zero_le _, rfl, Lib.hid ⟨by simp [leafPads], .inr ⟨w.heap.size, 0, #[], rfl, Nat.le_refl _, heap_alloc_new _ _, Nat.le_refl _, Nat.zero_le _, rfl, by simp [leafPads]⟩⟩, (Below.refl _ _).alloc (Nat.le_refl _) _⟩
  case round =>
    obtain ⟨k, hk, rfl, hO, hb⟩ := hrel
    by_cases hlt : k < n
    · obtain ⟨b, off, eA, hbB, c0, hgl, c1, _, _, hP, _⟩ := (H.out.below hb).at_ HL.out hlt
      have hkl : k < ls.length := by have := HL.out; omega
      have HS := Lib.hid (leafPads_step hkl)
      have hlen : (leafPads (ls.take k)).length + (leafAt ls k).ps.length ≤ 1048576 := by
        have h1 := leafPads_split (ls := ls) (k := k + 1)
        rw [HS.out, List.length_append] at h1
        omega
      subst eA
      obtain ⟨A2, c2, e2, _, _⟩ := own_form hP
      rw [e2] at c1 hP
      have HR := Lib.hid (Row.of_own hP)
      clear hkl hP e2
      generalize leafAt ls k = l at *
      generalize l.ps.length = m at *
      generalize hap : leafPads (ls.take k) = pk at *
      clear hap
      go_wp2_with (at_builtin; refine wpList_append_any _ rfl (.tmp 16) (.tmp 20) _ rfl w.heap.size 26 i0 _ 2 24 Try.underlying49 hi hz0 hz1 hz2 rfl (by omega) _ pk.length (pk.flatMap padC) rfl hO.out wr.heap.size A2 m c2 (l.ps.flatMap padC) rfl HR.out padC_one (by unfold maxLen; omega) (by omega) hb.size ?_; intro v1 w1 hown1 hg1 hat1)
      have b1 := hb.grown hg1 hb.size (fun q hq => own_base hO.out hq)
      have HO1 : Hid (PadsOwn w1 w.heap.size v1 (leafPads (ls.take (k + 1)))) := Lib.hid (by
        rw [HS.out]
        unfold PadsOwn
        have hlm : l.ps.length = m := by
          have := HR.out.1
          rw [flat_len padC_len] at this; omega
        rw [List.length_append, List.flatMap_append, hlm]
        exact hown1)
      go_roundw
      case rel => exact ⟨k + 1, by omega, by go_num, HO1, b1⟩
      case measure => simp [intOf]; omega
    · have hkn : ls.take k = ls := List.take_of_length_le (by have := HL.out; omega)
      rw [hkn] at hO
      have hF := Lib.hid (own_form hO.out)
      clear hkn
      go_wp2
      go_ret
      obtain ⟨A', c', rfl, _⟩ := hF.out
      exact ⟨A', c', rfl, hO.out, hb⟩
end Go.Proofs.Ytbeaandjhlpaeaa
