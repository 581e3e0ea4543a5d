/-
  The program's CabinetTake. Conditions: the drawers hold no more than a law lets by.
-/
import Derived.Test.YtfbfapobmhfenaaTakeLaw
import Derived.Test.YtfbfapobmhfenaaSame
namespace Go.Proofs.Ytfbfapobmhfenaa
open Go.ChangeShapes Go.WideShapes Go.ChangeAt Go.RowKit Go.Shelf
set_option maxRecDepth 100000

theorem takePred (p : Pad) (B b4 : Nat) (w : World) (h4 : Blk w b4 49 #[.int .i64 p.day, .string p.case]) (l4 : b4 < B) :
    PredB 68 #[.pointer (some ⟨b4, 0, none⟩)] (notP p) B w := by
  intro W x hb _
  have hg0 : Try.prog.eqGuardType Try.prog.depth 49 = false := by kernel_rfl
  have h4W : Blk W b4 49 #[.int .i64 p.day, .string p.case] := (hb.block b4 l4).trans h4
  have c4 : (W.alloc (.cells #[.int .i64 x.day, .string x.case] 49)).cell? ⟨b4, 0, none⟩ = some (.int .i64 p.day) := Lib.cell?_alloc_some _ (h4W.cell 0)
  have c5 : (W.alloc (.cells #[.int .i64 x.day, .string x.case] 49)).cell? ⟨b4, 1, none⟩ = some (.string p.case) := Lib.cell?_alloc_some _ (h4W.cell 1)
  have hE : ∀ W, (binOp .neq 49 (.agg #[.int .i64 x.day, .string x.case]) (.agg #[.int .i64 p.day, .string p.case])).run Try.prog W = .ok (.bool (notP p x)) W := fun W => neqPadRun _ _ _ _ W
  clear hb h4W h4
  unfold padV
  show Calls Try.prog 68 #[.agg #[.int .i64 x.day, .string x.case], .pointer (some ⟨b4, 0, none⟩)] W _
  go_enter Try.func68, Try.ntmps68
  go_wp2
  go_ret
  exact ⟨rfl, (Below.refl _ _).alloc (Nat.le_refl _) _⟩

theorem implCabinetTake (A : Option Addr) (n c : Nat) (ds : List Drawer) (p : Pad) (w : World) (hsz : cabSz ds ≤ 1048576) (h : DrawersIn w w.heap.size A n c ds) :
    Calls Try.prog 35 #[.slice A n c, padVal p] w fun e w' => FileAns w' w.heap.size (takeO (ds.map (·.ps)) p) e ∧ Below w.heap.size w w' := by
  have hal : Below w.heap.size w (w.alloc (.cells #[.int .i64 p.day, .string p.case] 49)) := (Below.refl _ _).alloc (Nat.le_refl _) _
  have HT := Lib.hid (treeOf A n c ds _ (h.keep hal))
  have hln : ds.length ≤ 1048576 := by have := cabSz_len ds; omega
  have HLn := Lib.hid hln
  clear h hln
  have H4 : Hid (Blk (w.alloc (.cells #[.int .i64 p.day, .string p.case] 49)) w.heap.size 49 #[.int .i64 p.day, .string p.case]) := Lib.hid (Blk.new _ _ _)
  have eg : ∀ args w, (callFunc 68 args).run Try.prog w = .ok (.enter 68 args) w := enters_of Try.func68 (by kernel_rfl) rfl
  have EG := Lib.hid eg; clear eg
  unfold padVal
  go_enter Try.func35, Try.ntmps35
  go_wp2_with fail
  refine HT.out.mono ?_
  rintro e w1 ⟨hT, hb1⟩
  have b1 := below_next hal hb1
  have p0 := kcell hb1 (newcell w #[.int .i64 p.day, .string p.case] 49 0 _ rfl)
  have p1 := kcell hb1 (newcell w #[.int .i64 p.day, .string p.case] 49 1 _ rfl)
  rcases hT with ⟨hn, rfl⟩ | ⟨hy, t, v, ls, rfl, hT, hM⟩
  · have HN : Hid (takeO (ds.map (·.ps)) p = none) := Lib.hid (takeO_no (findO_bad (fun hc => by rw [cabB_yes hc] at hn; cases hn)))
    clear hn
    go_wp2
    go_returns
    exact ⟨.no HN.out rfl (CabOwn.nil _ _), b1⟩
  · have HC := Lib.hid (cabB_iff.1 hy)
    have hc : cabOK (ls.map (·.ps)) := by rw [hM]; exact HC.out
    have HF := Lib.hid (treeFind t v ls _ p w1 hc hT)
    unfold padVal at HF
    rw [hM] at HF
    have HM := Lib.hid hM; have HTr := Lib.hid hT
    have hBB := hb1.size
    have H41 := Lib.hid (H4.out.below hb1)
    clear hy hT hM hc hb1
    go_wp2_with fail
    refine HF.out.mono ?_
    rintro e w2 ⟨hF, hb2⟩
    have b2 := below_next b1 hb2
    have HTr2 := Lib.hid (HTr.out.below hb2)
    have H42 := Lib.hid (H41.out.below hb2)
    have hB2 := Nat.le_trans hBB hb2.size
    clear hb2 p0 p1
    unfold FindAns at hF
    cases hq : findO (ds.map (·.ps)) p with
    | none =>
      rw [hq] at hF
      have HN := Lib.hid (takeO_no hq); clear hq
      subst hF
      unfold findV
      go_wp2
      go_returns
      exact ⟨.no HN.out rfl (CabOwn.nil _ _), b2⟩
    | some x =>
      rw [hq] at hF
      have HN := Lib.hid (takeO_yes hq); clear hq
      rcases x with ⟨xi, xk⟩
      subst hF
      unfold findV
      have hlp : (leafPads ls).length ≤ 1048576 := by rw [leaf_all HM.out]; exact flat_len_le hsz
      have hll : ls.length ≤ 1048576 := by
        have := congrArg List.length HM.out
        rw [List.length_map, List.length_map] at this
        have := HLn.out; omega
      have hPr := takePred p (w.alloc (.cells #[.int .i64 p.day, .string p.case] 49)).heap.size w.heap.size w2 H42.out (by simp)
      have HK := Lib.hid (keep 68 _ (notP p) EG.out _ t v ls w2 hB2 hll hlp hPr HTr2.out)
      clear hPr hlp hll
      go_wp2_with fail
      refine HK.out.mono ?_
      rintro e w3 ⟨rfl, hb3, v', ls', hT2, hM2⟩
      have b3 : Below w.heap.size w w3 := b2.trans (hb3.mono (by simp))
      have HMk := Lib.hid (thin_keep HM.out hM2)
      obtain ⟨hl2, hl3⟩ := thin_lens HC.out HMk.out
      have HP := Lib.hid (treeCab t v' ls' _ w3 (by omega) hl3 hT2)
      have hz3 := b3.size
      clear hT2 hM2 hl2 hl3 hb3
      go_wp2_with fail
      refine HP.out.mono ?_
      rintro e w4 ⟨⟨A4, c4, d4, rfl, hO4, hM4⟩, hb4⟩
      have b4 := below_next b3 hb4
      have HO := Lib.hid (hO4.mono hz3)
      have HM3 : Hid (takeO (ds.map (·.ps)) p = some (d4.map (·.ps))) := Lib.hid (by rw [HN.out, hM4, HMk.out])
      clear hO4 hM4
      go_wp2
      go_returns
      exact ⟨.yes HM3.out rfl HO.out, b4⟩
end Go.Proofs.Ytfbfapobmhfenaa
