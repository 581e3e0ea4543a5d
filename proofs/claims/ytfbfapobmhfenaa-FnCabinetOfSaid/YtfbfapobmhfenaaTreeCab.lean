/-
  A cabinet's tree as a list of drawers in new memory: cabinetTree.cabinet. Conditions: no more than a law lets by, no empty drawer.
-/
import Derived.Test.YtfbfapobmhfenaaFileA
import Derived.Test.YtfbfapobmhfenaaCabA
namespace Go.Proofs.Ytfbfapobmhfenaa
open Go.ChangeShapes Go.WideShapes Go.ChangeAt Go.RowKit
set_option maxRecDepth 100000

theorem treeCab (t : Nat) (v : Value) (ls : List Leaf) (B : Nat) (w : World) (hn : ls.length ≤ 1048576) (hne : ∀ l ∈ ls, 1 ≤ l.ps.length ∧ l.ps.length ≤ 1048576) (h : TreeIn w B t v ls) :
    Calls Try.prog 62 #[.pointer (some ⟨t, 0, none⟩)] w fun e w' => CabAns w' w.heap.size (ls.map (·.ps)) e ∧ Below w.heap.size w w' := by
  obtain ⟨A, c, rfl, hnc, hm⟩ := own_form h.2.2.1
  have hc0 := h.2.1.cell 0
  have H := Lib.hid h.2.2
  have htl := h.2.1.lt
  generalize hl : ls.length = n at *
  have HL := Lib.hid hl; clear h hl
  have HNe := Lib.hid hne; clear hne
  unfold maxLen at hm
  obtain ⟨i1, hj, hy0, hy1, hy2⟩ := info_parts infoSl
  go_enter Try.func62, Try.ntmps62
  go_wp2
  go_loopw [3, 12] (fun v i wr => ∃ (k : Nat) (ds : List Drawer), k ≤ n ∧ i = .int .i64 k ∧ ds.length = k ∧ Hid (CabOwn wr w.heap.size v ds) ∧ Hid (ds.map (·.ps) = (ls.take k).map (·.ps)) ∧ Below w.heap.size w wr) (fun _ i _ => n - (intOf i).toNat)
  case atStart => exact ⟨0, [], Nat.zero_le _, rfl, rfl, Lib.hid (CabOwn.made w), Lib.hid (by simp), (Below.refl _ _).alloc (Nat.le_refl _) _⟩
  case round =>
    obtain ⟨k, ds, hk, rfl, hdl, hO, hM, hb⟩ := hrel
    have HDL := Lib.hid hdl
    by_cases hlt : k < n
    · obtain ⟨b, off, eA, hbB, c0, hgl, c1, _, _, hP, hgd⟩ := (H.out.below hb).at_ HL.out hlt
      have hkl : k < ls.length := by rw [HL.out]; exact hlt
      have HT : Hid ((ls.take (k + 1)).map (·.ps) = (ls.take k).map (·.ps) ++ [(leafAt ls k).ps]) := Lib.hid (by rw [take_step (leafAt_some hkl)]; simp)
      obtain ⟨h1, h2⟩ := HNe.out _ (leafAt_mem hkl)
      subst eA
      obtain ⟨A2, c2, e2, hnc2, hcm2⟩ := own_form hP
      rw [e2] at c1 hP
      have HCl := Lib.hid (clonePads A2 (leafAt ls k).ps.length c2 (leafAt ls k).ps wr h1 h2 (hP.reads rfl hgd))
      have HGd := Lib.hid hgd
      have hz := hb.size
      have hdn : ds.length ≤ n := by omega
      clear hkl hP e2 hgd hdl
      generalize leafAt ls k = l at *
      generalize hlm : l.ps.length = m at *
      have HLM := Lib.hid hlm; clear hlm
      go_wp2_with (first
        | (go_at_call 56; refine HCl.out.mono ?_; rintro e w1 ⟨g1, c3, rfl, hO1, hg1, hb1⟩; have HO1 := Lib.hid hO1; have HC1 := Lib.hid (hO.out.keep hb1); have z1 := hb1.size; have b1 := hb1; clear hO1 hb1)
        | (at_builtin; refine wpList_append_any _ rfl (.tmp 16) (.tmp 22) _ rfl w.heap.size 35 i1 _ 1 24 Try.underlying24 hj hy0 hy1 hy2 rfl (by omega) _ ds.length (ds.flatMap drawerC) rfl (HC1.out.1.alloc _) (w1.heap.size + 1) (some ⟨w1.heap.size, 0, none⟩) 1 1 [.slice (some ⟨g1, 0, none⟩) m c3] rfl cabRow1 (by simp [Value.oneCell']) (by unfold maxLen; omega) (by omega) (by simp; omega) ?_; intro v2 w2 hown2 hg2 hat2; obtain ⟨hcab, hbb⟩ := newPush hz hO.out b1 (by have h := HO1.out; unfold PadsOwn at h; rw [HLM.out] at h; exact h) HLM.out HGd.out hg2 hown2; have HC2 := Lib.hid hcab; have b2 := hb.trans hbb; clear hown2 hg2 hat2 hcab hbb))
      have HM2 : Hid ((ds ++ [(⟨some ⟨g1, 0, none⟩, m, c3, l.ps⟩ : Drawer)]).map (·.ps) = (ls.take (k + 1)).map (·.ps)) := Lib.hid (by rw [HT.out, ← hM.out, List.map_append]; rfl)
      go_roundw
      case rel => exact ⟨k + 1, _, by omega, by go_num, by rw [List.length_append, HDL.out]; rfl, HC2, HM2, b2⟩
      case measure => simp [intOf]; omega
    · have hkn : ls.take k = ls := List.take_of_length_le (by have := HL.out; omega)
      rw [hkn] at hM
      clear hkn hdl
      go_wp2
      go_ret
      exact ⟨.of rfl hO.out hM.out, hb⟩
end Go.Proofs.Ytfbfapobmhfenaa
