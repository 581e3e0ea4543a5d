/-
  A leaf that is too long is split: its second half goes into a new leaf. Conditions: none but Go's own sizes.
-/
import Derived.Test.YtfbfapobmhfenaaLeafPut
import Derived.Test.YtfbfapobmhfenaaDrawA
namespace Go.Proofs.Ytfbfapobmhfenaa
open Go.ChangeShapes Go.WideShapes Go.ChangeAt Go.RowKit Go.Shelf
set_option maxRecDepth 100000

theorem leafWhole (t k : Nat) (v : Value) (ls : List Leaf) (l : Leaf) (B : Nat) (w : World) (h : TreeIn w B t v ls) (hl : ls[k]? = some l) (hn : l.ps.length ≤ 4) :
    Calls Try.prog 91 #[.pointer (some ⟨l.g, 0, none⟩)] w fun e w' => e = .returned (.pointer none) ∧ w' = w := by
  have hlI := h.2.2.2.1 l (List.mem_of_getElem? hl)
  obtain ⟨A, c, e1, hnc, hcm⟩ := own_form hlI.2.2.1
  have hbk := hlI.2.1
  rw [e1] at hbk
  have k0 := hbk.cell 0
  clear h hl hlI hbk
  go_enter Try.func91, Try.ntmps91
  go_wp2
  go_returns
  exact ⟨rfl, rfl⟩

set_option maxHeartbeats 1000000 in
theorem leafSplit (t k : Nat) (v : Value) (ls : List Leaf) (l : Leaf) (B : Nat) (w : World) (hB : B ≤ w.heap.size) (h : TreeIn w B t v ls) (hl : ls[k]? = some l) (hn4 : 4 < l.ps.length) (hn : l.ps.length ≤ 1048576) :
    Calls Try.prog 91 #[.pointer (some ⟨l.g, 0, none⟩)] w fun e w' => ∃ G sv v2, e = .returned (.pointer (some ⟨G, 0, none⟩)) ∧ Below B w w' ∧ w.heap.size ≤ G ∧ (∀ b, sv.ownBlock = some b → w.heap.size ≤ b) ∧ (∀ b, v2.ownBlock = some b → w.heap.size ≤ b ∧ sv.ownBlock ≠ some b) ∧ LeafIn w' B ⟨G, sv, l.ps.drop ((l.ps.length + 1) / 2)⟩ ∧ TreeIn w' B t v (ls.set k ⟨l.g, v2, l.ps.take ((l.ps.length + 1) / 2)⟩) := by
  have hlI := h.2.2.2.1 l (List.mem_of_getElem? hl)
  obtain ⟨A, c, e1, hnc, hcm⟩ := own_form hlI.2.2.1
  have hbk := hlI.2.1
  have hO := hlI.2.2.1
  rw [e1] at hbk hO
  have k0 := hbk.cell 0
  have HR := Lib.hid (hO.reads rfl hlI.2.2.2)
  have HT := Lib.hid h; have HL := Lib.hid hl; have HI := Lib.hid hlI
  unfold maxLen at hcm
  have hw1 : IntKind.i64.wrap ((l.ps.length : Int) + 1) = (l.ps.length : Int) + 1 := IntWalk.i64_in _ (by omega)
  clear h hl hlI hbk hO
  go_enter Try.func91, Try.ntmps91
  go_wp2_with fail
  have hfa : Option.map (fun x : Addr => x.add ((l.ps.length + 1) / 2 * 2)) A = fromA A ((l.ps.length + 1) / 2) c 2 := by unfold fromA; rw [if_neg (by omega)]
  rw [hfa]
  have hgd := HI.out.2.2.2
  refine (clonePads _ _ _ (l.ps.drop ((l.ps.length + 1) / 2)) w (by omega) (by omega) (HR.out.from_ (by omega))).mono ?_
  rintro e w1 ⟨g1, c1, rfl, hO1, hg1, hb1⟩
  have hbA : Below w.heap.size w (w1.alloc (.cells #[.slice (some ⟨g1, 0, none⟩) (l.ps.length - (l.ps.length + 1) / 2) c1] 95)) := hb1.alloc hb1.size _
  have k2 := kcell hbA k0
  have HBA := Lib.hid hbA; have HO1 := Lib.hid hO1; have HB1 := Lib.hid hb1
  clear hO1 hb1 hbA
  go_wp2_with fail
  refine (clonePads _ _ _ (l.ps.take ((l.ps.length + 1) / 2)) _ (by omega) (by omega) (((HR.out.upto (k := (l.ps.length + 1) / 2) (by omega)).below HBA.out).more HBA.out.size)).mono ?_
  rintro e w2 ⟨g2, c2, rfl, hO2, hg2, hb2⟩
  have k3 := kcell hb2 k2
  have f3 := kfree (HBA.out.trans (hb2.mono HBA.out.size)) (HI.out.2.1.cell 0) (HI.out.2.1.free 0)
  have HO2 := Lib.hid hO2; have HB2 := Lib.hid hb2
  clear hO2 hb2
  go_wp2
  go_returns
  have hb0 := HBA.out.trans (HB2.out.mono HBA.out.size)
  have hlg := HI.out.2.1.lt
  have h1z := HB1.out.size
  have hg1l := own_lt HO1.out (b := g1) rfl
  have hg2z : w1.heap.size + 1 ≤ g2 := by simpa using hg2
  have hfar : ∀ b, b < w1.heap.size + 1 → b ≠ l.g → ∀ u, (w2.setCell ⟨l.g, 0, none⟩ u).heap[b]? = (w1.alloc (.cells #[.slice (some ⟨g1, 0, none⟩) (l.ps.length - (l.ps.length + 1) / 2) c1] 95)).heap[b]? := fun b hb hne u =>
    (Below.heap_setCell w2 _ u b hne).trans (HB2.out.block b (by simpa using hb))
  refine ⟨w1.heap.size, .slice (some ⟨g1, 0, none⟩) (l.ps.length - (l.ps.length + 1) / 2) c1, .slice (some ⟨g2, 0, none⟩) ((l.ps.length + 1) / 2) c2, rfl, (hb0.mono hB).setCell HI.out.1 _, h1z, ?_, ?_, ?_, ?_⟩
  · intro b hb; injection hb with hb; rw [← hb]; exact hg1
  · intro b hb; injection hb with hb
    have hb' : g2 = b := hb
    refine ⟨by omega, fun e => ?_⟩
    injection e with e
    have e' : g1 = b := e
    omega
  · refine ⟨Nat.le_trans hB h1z, ?_, ?_, fun x hx => hgd x (List.mem_of_mem_drop hx)⟩
    · exact (hfar w1.heap.size (by omega) (by omega) _).trans (Blk.new w1 _ _)
    · refine own_congr (own_mono HO1.out hB) (fun b hb => ?_)
      injection hb with hb
      have hb' : g1 = b := hb
      subst hb'
      exact (hfar _ (by omega) (by omega) _).trans (Below.heap_alloc w1 _ _ hg1l)
  · exact TreeIn.turn2 HT.out HL.out (Below.only hb0) (own_mono HO2.out (Nat.le_trans hB HBA.out.size)) (fun b hb => by injection hb with hb; have hb' : g2 = b := hb; omega) (fun x hx => hgd x (List.mem_of_mem_take hx))
end Go.Proofs.Ytfbfapobmhfenaa
