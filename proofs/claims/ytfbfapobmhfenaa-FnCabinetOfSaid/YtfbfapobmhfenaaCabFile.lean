/-
  The program's CabinetFile. Conditions: the drawers hold no more than a law lets by.
-/
import Derived.Test.YtfbfapobmhfenaaTreeFile
import Derived.Test.YtfbfapobmhfenaaTreeCab
import Derived.Test.YtfbfapobmhfenaaFileA
namespace Go.Proofs.Ytfbfapobmhfenaa
open Go.ChangeShapes Go.WideShapes Go.ChangeAt Go.RowKit Go.Shelf
set_option maxRecDepth 100000

theorem TreeIn.mono {w : World} {B B' t : Nat} {v : Value} {ls : List Leaf} (h : TreeIn w B t v ls) (hB : B' ≤ B) : TreeIn w B' t v ls :=
  ⟨Nat.le_trans hB h.1, h.2.1, own_mono h.2.2.1 hB, fun l hl => have m := h.2.2.2.1 l hl; ⟨Nat.le_trans hB m.1, m.2.1, own_mono m.2.2.1 hB, m.2.2.2⟩, h.2.2.2.2⟩
theorem implPadB (p : Pad) (hp : p.good) {b : Bool} (h : okP p = b) (W : World) : Calls Try.prog 70 #[.agg #[.int .i64 p.day, .string p.case]] W fun e w' => e = .returned (.bool b) ∧ Below W.heap.size W w' := by
  have := implPadValid p.day p.case W hp.2
  rwa [show padB p.day p.case.data.toList = b from h] at this

set_option maxHeartbeats 1000000 in
theorem implCabinetFile (A : Option Addr) (n c : Nat) (ds : List Drawer) (p : Pad) (w : World) (_ : cabSz ds ≤ 1048576) (hp : p.good) (h : DrawersIn w w.heap.size A n c ds) :
    Calls Try.prog 48 #[.slice A n c, padVal p] w fun e w' => FileAns w' w.heap.size (fileO (ds.map (·.ps)) p) e ∧ Below w.heap.size w w' := by
  have hal : Below w.heap.size w (w.alloc (.cells #[.int .i64 p.day, .string p.case] 49)) := (Below.refl _ _).alloc (Nat.le_refl _) _
  have HT := Lib.hid (treeOf A n c ds _ (h.keep hal))
  clear h
  unfold padVal
  go_enter Try.func48, Try.ntmps48
  go_wp2_with fail
  refine HT.out.mono ?_
  rintro e w1 ⟨hT, hb1⟩
  have b1 := below_next hal hb1
  have p0 := kcell hb1 (newcell w #[.int .i64 p.day, .string p.case] _ 0 _ rfl)
  have p1 := kcell hb1 (newcell w #[.int .i64 p.day, .string p.case] _ 1 _ rfl)
  rcases hT with ⟨hn, rfl⟩ | ⟨hy, t, v, ls, rfl, hT, hM⟩
  · have HN : Hid (fileO (ds.map (·.ps)) p = none) := Lib.hid (fileO_no (fun hc => by rw [cabB_yes hc.1] at hn; cases hn))
    clear hn
    go_wp2
    go_returns
    exact ⟨.no HN.out rfl (CabOwn.nil _ _), b1⟩
  · have HC := Lib.hid (cabB_iff.1 hy)
    have hc : cabOK (ls.map (·.ps)) := by rw [hM]; exact HC.out
    cases ho : okP p with
    | false =>
      have HN : Hid (fileO (ds.map (·.ps)) p = none) := Lib.hid (fileO_no (fun h => by rw [h.2.1] at ho; cases ho))
      have HV := Lib.hid (implPadB p hp ho w1)
      clear hy hT hM hc ho
      go_wp2_with fail
      refine HV.out.mono ?_
      rintro e w2 ⟨rfl, hb2⟩
      have b2 := below_next b1 hb2
      go_wp2
      go_returns
      exact ⟨.no HN.out rfl (CabOwn.nil _ _), b2⟩
    | true =>
      have HV := Lib.hid (implPadB p hp ho w1)
      have HTr := Lib.hid hT; have HM := Lib.hid hM; have HCc := Lib.hid hc; have HO := Lib.hid ho
      have hBB := hb1.size
      clear hy hT hM hc ho hb1
      go_wp2_with fail
      refine HV.out.mono ?_
      rintro e w2 ⟨rfl, hb2⟩
      have b2 := below_next b1 hb2
      have q0 := kcell hb2 p0; have q1 := kcell hb2 p1
      have HF := Lib.hid (treeFile t v ls w.heap.size p w2 b2.size HO.out hp HCc.out ((TreeIn.mono HTr.out (by simp)).below hb2))
      unfold padVal at HF
      rw [HM.out] at HF
      clear hb2 p0 p1
      go_wp2_with fail
      refine HF.out.mono ?_
      rintro e w3 ⟨hF, hb3⟩
      have b3 := b2.trans hb3
      rcases hF with ⟨hN, rfl⟩ | ⟨v', ls', hN, rfl, hT3⟩
      · have HN := Lib.hid hN
        clear hN
        go_wp2
        go_returns
        exact ⟨.no HN.out rfl (CabOwn.nil _ _), b3⟩
      · have HN := Lib.hid hN
        have hc' := fileO_ok hN
        have h6 : ls'.length ≤ 6 := by have := hc'.1; rwa [List.length_map] at this
        have HP := Lib.hid (treeCab t v' ls' _ w3 (by omega) (fun l hl => by
          have := hc'.2.1 l.ps (List.mem_map_of_mem hl)
          unfold lenOK at this; omega) hT3)
        have hz3 := b3.size
        clear hN hc' hT3 h6 hb3
        go_wp2_with fail
        refine HP.out.mono ?_
        rintro e w4 ⟨⟨A4, c4, d4, rfl, hO4, hM4⟩, hb4⟩
        have b4 := below_next b3 hb4
        have HO4 := Lib.hid (hO4.mono hz3)
        have HM3 : Hid (fileO (ds.map (·.ps)) p = some (d4.map (·.ps))) := Lib.hid (by rw [HN.out, hM4])
        clear hO4 hM4
        go_wp2
        go_returns
        exact ⟨.yes HM3.out rfl HO4.out, b4⟩
end Go.Proofs.Ytfbfapobmhfenaa
