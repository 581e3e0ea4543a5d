/-
  CabinetBetween of both packages. Conditions: the drawers hold no more than a law lets by.
-/
import Derived.Test.YtbeaandjhlpaeaaCabBetween
import Derived.Test.YtbeaandjhlpaeaaTreeB
namespace Go.Proofs.Ytbeaandjhlpaeaa
open Go.ChangeShapes Go.WideShapes Go.ChangeAt Go.RowKit Go.Shelf
set_option maxRecDepth 100000

theorem specCabinetBetween (A : Option Addr) (n c : Nat) (ds : List Drawer) (x y : Int) (w : World) (hsz : cabSz ds ≤ 1048576) (h : DrawersIn w w.heap.size A n c ds) :
    Calls Try.prog 43 #[.slice A n c, .int .i64 x, .int .i64 y] w fun e w' => RowAns w' w.heap.size ((ansP (ds.map (·.ps))).filter (inDays x y)) e ∧ Below w.heap.size w w' := by
  have H := Lib.hid h; clear h
  obtain ⟨i0, hi, hz0, hz1, hz2⟩ := info_parts infoPad
  go_enter Try.func43, Try.ntmps43
  go_wp2_with fail
  have hb0 : Below w.heap.size w (w.alloc (.cells #[] 26)) := (Below.refl _ _).alloc (Nat.le_refl _) _
  have HV0 : Hid (PadsOwn (w.alloc (.cells #[] 26)) w.heap.size (.slice (some ⟨w.heap.size, 0, none⟩) 0 0) []) := Lib.hid (World.ownsRow_made w #[] 0 (Nat.le_refl _) (by simp) (by simp))
  refine (specCabinetPads A n c ds _ hsz (H.out.keep hb0)).mono ?_
  rintro e w1 ⟨⟨A1, c1, rfl, hO⟩, hb1⟩
  have b1 : Below w.heap.size w w1 := below_next hb0 hb1
  have HV1 := Lib.hid (HV0.out.keep hb1)
  have hpl : (ansP (ds.map (·.ps))).length ≤ 1048576 := by
    by_cases h : cabB (ds.map (·.ps)) = true
    · rw [ansP_yes h, allPads_flat]; exact flat_len_le hsz
    · rw [ansP_no (by simpa using h)]; simp
  have hgood : ∀ p ∈ ansP (ds.map (·.ps)), p.good := by
    by_cases hc : cabB (ds.map (·.ps)) = true
    · rw [ansP_yes hc, allPads_flat]; exact allPads_good H.out
    · rw [ansP_no (by simpa using hc)]; simp
  generalize hep : ansP (ds.map (·.ps)) = P at *
  have HEP := Lib.hid hep; clear hep
  have HO := Lib.hid hO; clear hO
  have HG := Lib.hid hgood; clear hgood
  generalize hpn : P.length = N at *
  have HPN := Lib.hid hpn; clear hpn
  have hx := (HO.out.reads HPN.out HG.out).2.2.1
  have hy := (HO.out.reads HPN.out HG.out).2.1
  unfold maxLen at hx
  clear hb0 HV0 hb1
  have HPb : Hid (∀ q, (Value.slice A1 N c1).ownBlock = some q → w.heap.size < q ∧ q < w1.heap.size) := Lib.hid (fun q hq => by
    have h1 := own_base HO.out hq
    have h2 := own_lt HO.out hq
    simp at h1; omega)
  have hz1' := b1.size
  go_wp2
  go_loopw [7, 10] (fun v i wr => ∃ (k : Nat), k ≤ N ∧ i = .int .i64 k ∧ Hid (PadsOwn wr w.heap.size v ((P.take k).filter (inDays x y))) ∧ Hid (∀ q, v.ownBlock = some q → q = w.heap.size ∨ w1.heap.size ≤ q) ∧ Hid (PadsOwn wr (w.alloc (.cells #[] 26)).heap.size (.slice A1 N c1) P) ∧ w1.heap.size ≤ wr.heap.size ∧ Below w.heap.size w wr) (fun _ i _ => N - (intOf i).toNat)
  case atStart => exact ⟨0, Nat.zero_le _, rfl, Lib.hid (by simpa using HV1.out), Lib.hid (fun q hq => by left; injection hq with hq; exact hq.symm), HO, Nat.le_refl _, b1⟩
  case round =>
    obtain ⟨k, hk, rfl, hD, hV, hP, hsz1, hb⟩ := hrel
    by_cases hlt : k < N
    · obtain ⟨b, off, eA, hbB, c0, c2, _⟩ := (hP.out.reads HPN.out HG.out).at_ hlt
      have hkl : k < P.length := by have := HPN.out; omega
      subst eA
      cases he : inDays x y (padAt P k) with
      | true =>
        have HS : Hid ((P.take (k + 1)).filter (inDays x y) = (P.take k).filter (inDays x y) ++ [padAt P k]) := Lib.hid (by
          rw [take_step (padAt_some hkl), List.filter_append]; simp [he])
        have hln : ((P.take k).filter (inDays x y)).length ≤ k := Nat.le_trans (List.length_filter_le _ _) (by rw [List.length_take]; omega)
        have hal : Below wr.heap.size wr (wr.alloc (.cells #[.int .i64 (padAt P k).day, .string (padAt P k).case] 26)) := (Below.refl _ _).alloc (Nat.le_refl _) _
        have HD2 := Lib.hid (hD.out.keep hal)
        have HP2 := Lib.hid (hP.out.keep hal)
        have hb2 := hb.trans (hal.mono hb.size)
        have HE : Hid (decide (x ≤ (padAt P k).day ∧ (padAt P k).day ≤ y) = true) := Lib.hid (by rw [← he]; unfold inDays; rw [Bool.decide_and])
        clear hkl hal hD hP he
        generalize padAt P k = p at *
        generalize (P.take k).filter (inDays x y) = D at *
        go_wp2_with fail
        refine (l6In_any _ _ _ _).mono ?_; rintro e w' ⟨rfl, rfl⟩; rw [HE.out]
        go_wp2_with (at_builtin; refine wpList_append_any _ rfl (.tmp 31) (.tmp 36) _ rfl w.heap.size 26 i0 _ 2 24 Try.underlying49 hi hz0 hz1 hz2 rfl (by omega) _ D.length (D.flatMap padC) rfl HD2.out (wr.heap.size + 1) (some ⟨wr.heap.size, 0, none⟩) 1 1 [.int .i64 p.day, .string p.case] rfl (rowNewPad _ _ _ _) (by simp [Value.oneCell']) (by unfold maxLen; omega) (by omega) hb2.size ?_; intro v1 w2 hown1 hg1 hat1)
        have b3 := hb2.grown hg1 hb2.size (fun q hq => own_base HD2.out hq)
        have HP3 := Lib.hid (HP2.out.only hg1 (fun q hq e => by
          have h1 := HPb.out q hq
          rcases hV.out q e with h | h <;> omega))
        have HD3 : Hid (PadsOwn w2 w.heap.size v1 ((P.take (k + 1)).filter (inDays x y))) := Lib.hid (by
          rw [HS.out]; unfold PadsOwn; rw [List.length_append, List.flatMap_append]; exact hown1)
        have HV3 : Hid (∀ q, v1.ownBlock = some q → q = w.heap.size ∨ w1.heap.size ≤ q) := Lib.hid (fun q hq => by
          rcases hat1 with h | h
          · exact hV.out q (h.symm.trans hq)
          · rw [h] at hq; injection hq with hq; right; simp at hq; omega)
        have hs3 : w1.heap.size ≤ w2.heap.size := by have := hg1.size; simp at this; omega
        go_wp2
        go_roundw
        case rel => exact ⟨k + 1, by omega, by go_num, HD3, HV3, HP3, hs3, b3⟩
        case measure => simp [intOf]; omega
      | false =>
        have HD3 : Hid (PadsOwn wr w.heap.size _ ((P.take (k + 1)).filter (inDays x y))) := Lib.hid (by
          rw [take_step (padAt_some hkl), List.filter_append]; simpa [he] using hD.out)
        have HE : Hid (decide (x ≤ (padAt P k).day ∧ (padAt P k).day ≤ y) = false) := Lib.hid (by rw [← he]; unfold inDays; rw [Bool.decide_and])
        clear hkl hD he
        generalize padAt P k = p at *
        go_wp2_with fail
        refine (l6In_any _ _ _ _).mono ?_; rintro e w' ⟨rfl, rfl⟩; rw [HE.out]
        go_wp2
        go_roundw
        case rel => exact ⟨k + 1, by omega, by go_num, HD3, hV, hP, hsz1, hb⟩
        case measure => simp [intOf]; omega
    · have hkn : P.take k = P := List.take_of_length_le (by have := HPN.out; omega)
      rw [hkn] at hD
      clear hkn
      go_wp2
      go_ret
      exact ⟨by rw [HEP.out]; exact .of rfl hD.out, hb⟩

theorem flat_filter (p : Pad → Bool) : ∀ css : List (List Pad), ((css.map (·.filter p)).filter (fun ps => !(ps.length == 0))).flatten = css.flatten.filter p
  | [] => rfl
  | ps :: r => by
    rw [List.flatten_cons, List.filter_append, ← flat_filter p r, List.map_cons, List.filter_cons]
    by_cases h : (ps.filter p).length = 0
    · have e : ps.filter p = [] := List.eq_nil_of_length_eq_zero h
      rw [if_neg (by simp [e]), e, List.nil_append]
    · rw [if_pos (by simpa using h), List.flatten_cons]
theorem thin_pads {p : Pad → Bool} {ls ls' : List Leaf} {ds : List Drawer} (h : ls'.map (·.ps) = (ls.map (·.ps.filter p)).filter (fun ps => !(ps.length == 0))) (hM : ls.map (·.ps) = ds.map (·.ps)) : leafPads ls' = (ds.map (·.ps)).flatten.filter p := by
  rw [leafPads_flat, h, ← flat_filter, ← hM, List.map_map]; rfl

theorem implCabinetBetween (A : Option Addr) (n c : Nat) (ds : List Drawer) (x y : Int) (w : World) (hsz : cabSz ds ≤ 1048576) (h : DrawersIn w w.heap.size A n c ds) :
    Calls Try.prog 44 #[.slice A n c, .int .i64 x, .int .i64 y] w fun e w' => RowAns w' w.heap.size ((ansP (ds.map (·.ps))).filter (inDays x y)) e ∧ Below w.heap.size w w' := by
  have hal : Below w.heap.size w ((w.alloc (.cells #[.int .i64 x] 3)).alloc (.cells #[.int .i64 y] 3)) := ((Below.refl _ _).alloc (Nat.le_refl _) _).alloc (by simp) _
  have HT := Lib.hid (treeOf A n c ds _ (h.keep hal))
  have hln : ds.length ≤ 1048576 := by have := cabSz_len ds; omega
  have HLn := Lib.hid hln
  clear h hln
  have h4 : Blk ((w.alloc (.cells #[.int .i64 x] 3)).alloc (.cells #[.int .i64 y] 3)) w.heap.size 3 #[.int .i64 x] := (Blk.new _ _ _).alloc _
  have h5 : Blk ((w.alloc (.cells #[.int .i64 x] 3)).alloc (.cells #[.int .i64 y] 3)) (w.heap.size + 1) 3 #[.int .i64 y] := by
    have := Blk.new (w.alloc (.cells #[.int .i64 x] 3)) 3 #[.int .i64 y]
    rwa [show (w.alloc (.cells #[.int .i64 x] 3)).heap.size = w.heap.size + 1 by simp] at this
  have H4 := Lib.hid h4; have H5 := Lib.hid h5; clear h4 h5
  have eg : ∀ args w, (callFunc 67 args).run Try.prog w = .ok (.enter 67 args) w := enters_of Try.func67 (by kernel_rfl) rfl
  have EG := Lib.hid eg; clear eg
  go_enter Try.func44, Try.ntmps44
  go_wp2_with fail
  refine HT.out.mono ?_
  rintro e w1 ⟨hT, hb1⟩
  have b1 := below_next hal hb1
  rcases hT with ⟨hn, rfl⟩ | ⟨hy, t, v, ls, rfl, hT, hM⟩
  · have HN : Hid ((ansP (ds.map (·.ps))).filter (inDays x y) = []) := Lib.hid (by rw [ansP_no hn]; rfl)
    clear hn
    go_wp2
    go_ret
    exact ⟨.of rfl (by rw [HN.out]; exact World.ownsRow_nil _ _ _ _), b1⟩
  · have HN : Hid ((ansP (ds.map (·.ps))).filter (inDays x y) = (ds.map (·.ps)).flatten.filter (inDays x y)) := Lib.hid (by rw [ansP_yes hy])
    have hlp : (leafPads ls).length ≤ 1048576 := by rw [leaf_all hM]; exact flat_len_le hsz
    have hll : ls.length ≤ 1048576 := by
      have := congrArg List.length hM
      rw [List.length_map, List.length_map] at this
      have := HLn.out; omega
    have hB : ((w.alloc (.cells #[.int .i64 x] 3)).alloc (.cells #[.int .i64 y] 3)).heap.size ≤ w1.heap.size := hb1.size
    have hPr := betweenPred x y ((w.alloc (.cells #[.int .i64 x] 3)).alloc (.cells #[.int .i64 y] 3)).heap.size w.heap.size (w.heap.size + 1) w1 (H4.out.below hb1) (H5.out.below hb1) (by simp <;> omega) (by simp <;> omega)
    have HK := Lib.hid (keep 67 _ (inDays x y) EG.out _ t v ls w1 hB hll hlp hPr hT)
    have HM := Lib.hid hM
    clear hPr hT hM hy hlp hll
    go_wp2_with fail
    refine HK.out.mono ?_
    rintro e w2 ⟨rfl, hb2, v', ls', hT2, hM2⟩
    have b2 : Below w.heap.size w w2 := b1.trans (hb2.mono (by simp <;> omega))
    have HLP := Lib.hid (thin_pads hM2 HM.out)
    have hl2 : (leafPads ls').length ≤ 1048576 := by
      rw [HLP.out]
      refine Nat.le_trans (List.length_filter_le _ _) ?_
      rw [allPads_flat]; exact flat_len_le hsz
    have HP := Lib.hid (treePads t v' ls' _ w2 hl2 hT2)
    clear hT2 hM2 hl2
    have hz2 := b2.size
    go_wp2_with fail
    refine HP.out.mono ?_
    rintro e w3 ⟨A3, c3, rfl, hO3, hb3⟩
    have b3 := below_next b2 hb3
    have HO := Lib.hid (own_mono hO3 hz2); clear hO3
    go_wp2
    go_ret
    exact ⟨.of rfl (by rw [HN.out, ← HLP.out]; exact HO.out), b3⟩
end Go.Proofs.Ytbeaandjhlpaeaa
