/-
  A pad is put into a leaf at its place. Conditions: the pads stand in order, no more of them than a law lets by.
-/
import Derived.Test.YtfbfapobmhfenaaInsPad
import Derived.Test.YtfbfapobmhfenaaTurn2
import Derived.Test.YtfbfapobmhfenaaFindA
namespace Go.Proofs.Ytfbfapobmhfenaa
open Go.ChangeShapes Go.WideShapes Go.ChangeAt Go.RowKit Go.Shelf
set_option maxRecDepth 100000

set_option maxHeartbeats 1000000 in
theorem leafPut (t k : Nat) (v : Value) (ls : List Leaf) (l : Leaf) (B : Nat) (p : Pad) (w : World) (hB : B ≤ w.heap.size) (h : TreeIn w B t v ls) (hl : ls[k]? = some l) (hn : l.ps.length ≤ 1048575) (hs : sortedOK l.ps) (hp : p.good) :
    Calls Try.prog 90 #[.pointer (some ⟨l.g, 0, none⟩), padVal p] w fun e w' => e = .returned (.tuple #[]) ∧ Below B w w' ∧ ∃ v2, TreeIn w' B t v (ls.set k ⟨l.g, v2, ins l.ps p (putIdx l.ps p)⟩) := by
  have hlI := h.2.2.2.1 l (List.mem_of_getElem? hl)
  obtain ⟨A, c, e1, hnc, hcm⟩ := own_form hlI.2.2.1
  have hal : Below w.heap.size w (w.alloc (.cells #[.int .i64 p.day, .string p.case] 49)) := (Below.refl _ _).alloc (Nat.le_refl _) _
  have hO := hlI.2.2.1
  have hbk := hlI.2.1
  rw [e1] at hO hbk
  have k0 : (w.alloc (.cells #[.int .i64 p.day, .string p.case] 49)).cell? ⟨l.g, 0, none⟩ = some (.slice A l.ps.length c) := Lib.cell?_alloc_some _ (hbk.cell 0)
  have HB : Hid (∀ W, Below w.heap.size w W → Calls Try.prog 88 #[.slice A l.ps.length c, .agg #[.int .i64 p.day, .string p.case], .func (.func 80) #[] #[]] W fun e w' => e = .returned (.tuple #[.int .i64 (putIdx l.ps p), .bool (bsB l.ps p)]) ∧ Below W.heap.size W w') := Lib.hid (fun W hW => bsearchV A _ c l.ps p W (by omega) hs ((hO.keep hW).reads rfl hlI.2.2.2))
  have HT := Lib.hid h
  have HL := Lib.hid hl
  have HI := Lib.hid hlI
  have hpi := putIdx_le l.ps p
  have p0 := newcell w #[.int .i64 p.day, .string p.case] 49 0 _ rfl
  have p1 := newcell w #[.int .i64 p.day, .string p.case] 49 1 _ rfl
  have r0 := qcell p0; have r1 := qcell p1; have r2 := qcell k0
  clear h hl hlI hO hbk
  unfold padVal
  generalize putIdx l.ps p = q at *
  generalize bsB l.ps p = bb at *
  go_enter Try.func90, Try.ntmps90
  go_wp2_with fail
  refine region_qb (by kernel_rfl) (by kernel_rfl) ?_
  repeat (first | go_big_quiet_step ((go_at_call 88; exact quietB (HB.out _ (hal.trans ((below_regrown _ _ _).mono (by simp)))))) | quiet_step ((go_at_call 88; exact quietB (HB.out _ (hal.trans ((below_regrown _ _ _).mono (by simp)))))))
  refine wpQuiet_nil ?_
  intro w3 hb3
  have b3 := hal.trans (hb3.mono (by simp))
  have s0 := kcell hb3 p0; have s1 := kcell hb3 p1; have s2 := kcell hb3 k0
  have hT3 := HT.out.below b3
  have hlI3 := hT3.2.2.2.1 l (List.mem_of_getElem? HL.out)
  have hO3 := hlI3.2.2.1
  have hbk3 := hlI3.2.1
  have hf3 := hbk3.free 0
  rw [e1] at hO3
  have ha4 : Below w3.heap.size w3 (w3.drew.alloc (.cells #[.int .i64 p.day, .string p.case] 49)) := (Below.refl _ _).drew.alloc (Nat.le_refl _) _
  have hc4 : w3.drew.cell? ⟨l.g, 0, none⟩ = some (.slice A l.ps.length c) ∧ w3.drew.frozen? ⟨l.g, 0, none⟩ = false := ⟨s2, hf3⟩
  have hc5 := keepAlloc hc4 (.cells #[.int .i64 p.day, .string p.case] 49)
  have hro : (Value.slice A l.ps.length c).ownBlock ≠ some l.g := hbk3.ne_own hO3 (by decide)
  have HIn := Lib.hid (insertPad (.slice A l.ps.length c) l.ps.length q w3.heap.size B (l.ps.flatMap padC) [.int .i64 p.day, .string p.case] (w3.drew.alloc (.cells #[.int .i64 p.day, .string p.case] 49)) hpi (by omega) (Nat.le_trans hB (b3.trans (ha4.mono b3.size)).size) (PadsOwn.keep hO3 ha4) (Blk.new w3.drew _ _) (fun e => by have := own_lt hO3 e; omega) rfl padC_one (by simp [Value.oneCell']))
  have n5 : (w3.alloc (.cells #[.int .i64 p.day, .string p.case] 49)).cell? ⟨l.g, 0, none⟩ = some (.slice A l.ps.length c) := hc5.1
  have m5 : (w3.alloc (.cells #[.int .i64 p.day, .string p.case] 49)).cell? ⟨w.heap.size, 0, none⟩ = some (.int .i64 p.day) := Lib.cell?_alloc_some _ s0
  have HO3 := Lib.hid hO3
  have HG4 := Lib.hid (b3.trans (ha4.mono b3.size))
  clear hT3 hlI3 hO3 hbk3 p0 p1 k0 r0 r1 r2 HB hb3
  go_wp2_with fail
  go_region_law (go_simp; go_at_call 100; refine HIn.out.mono ?_; rintro e w5 ⟨v5, rfl, hO5, hg5, hv5⟩; obtain ⟨A5, c5, rfl, _, _⟩ := own_form hO5; have hc6 := keepCell hg5 hro hc5; have n6 := hc6.1; have f6 := hc6.2; dsimp only)
  all_goals (
    have hgr : w.grownBy w5 l.v.ownBlock := by rw [e1]; exact only_next (Below.only HG4.out) hg5
    have hpo : PadsOwn w5 B (.slice A5 (l.ps.length + 1) c5) (ins l.ps p q) := by
      rw [flat_take padC_len, flat_drop padC_len] at hO5
      unfold PadsOwn
      rw [ins_len]
      unfold ins
      rw [List.flatMap_append, List.flatMap_cons]
      simpa [padC, List.append_assoc] using hO5
    have hgd : ∀ x ∈ ins l.ps p q, x.good := fun x hx => by
      unfold ins at hx
      rcases List.mem_append.1 hx with hx | hx
      · exact HI.out.2.2.2 x (List.mem_of_mem_take hx)
      · rcases List.mem_cons.1 hx with rfl | hx
        · exact hp
        · exact HI.out.2.2.2 x (List.mem_of_mem_drop hx)
    have hbl : Below B w (w5.setCell ⟨l.g, 0, none⟩ (.slice A5 (l.ps.length + 1) c5)) := ((HG4.out.mono hB).grown hg5 (Nat.le_trans hB HG4.out.size) (fun z hz => own_base HO3.out hz)).setCell HI.out.1 _
    have hT5 : TreeIn (w5.setCell ⟨l.g, 0, none⟩ (.slice A5 (l.ps.length + 1) c5)) B t v (ls.set k ⟨l.g, .slice A5 (l.ps.length + 1) c5, ins l.ps p q⟩) := by
      rcases hv5 with hv5 | hv5
      · exact TreeIn.turn HT.out HL.out hgr hpo (by rw [e1]; exact hv5) hgd
      · exact TreeIn.turn2 HT.out HL.out hgr hpo (fun b hb => by rw [hv5] at hb; injection hb with hb; rw [← hb]; exact HG4.out.size) hgd
    have HT5 := Lib.hid hT5; have HB5 := Lib.hid hbl
    clear hT5 hbl hgd hpo hgr hO5 hg5 hv5
    go_wp2
    go_returns
    exact ⟨rfl, HB5.out, _, HT5.out⟩)
end Go.Proofs.Ytfbfapobmhfenaa
