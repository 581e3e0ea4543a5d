/-
  CabinetBetween of both packages. Conditions: the drawers hold no more than a law lets by.
-/
import Derived.Test.YtfbfapobmhfenaaCabBetween
import Derived.Test.YtfbfapobmhfenaaTreeB
namespace Go.Proofs.Ytfbfapobmhfenaa
open Go.ChangeShapes Go.WideShapes Go.ChangeAt Go.RowKit Go.Shelf
set_option maxRecDepth 100000


theorem flat_filter (p : Pad → Bool) : ∀ css : List (List Pad), ((css.map (·.filter p)).filter (fun ps => !(ps.length == 0))).flatten = css.flatten.filter p
  | [] => rfl
  | ps :: r => by
    rw [List.flatten_cons, List.filter_append, ← flat_filter p r, List.map_cons, List.filter_cons]
    by_cases h : (ps.filter p).length = 0
    · have e : ps.filter p = [] := List.eq_nil_of_length_eq_zero h
      rw [if_neg (by simp [e]), e, List.nil_append]
    · rw [if_pos (by simpa using h), List.flatten_cons]
theorem thin_pads {p : Pad → Bool} {ls ls' : List Leaf} {ds : List Drawer} (h : ls'.map (·.ps) = (ls.map (·.ps.filter p)).filter (fun ps => !(ps.length == 0))) (hM : ls.map (·.ps) = ds.map (·.ps)) : leafPads ls' = (ds.map (·.ps)).flatten.filter p := by
  rw [leafPads_flat, h, ← flat_filter, ← hM, List.map_map]; rfl

theorem implCabinetBetween (A : Option Addr) (n c : Nat) (ds : List Drawer) (x y : Int) (w : World) (hsz : cabSz ds ≤ 1048576) (h : DrawersIn w w.heap.size A n c ds) :
    Calls Try.prog 29 #[.slice A n c, .int .i64 x, .int .i64 y] w fun e w' => RowAns w' w.heap.size ((ansP (ds.map (·.ps))).filter (inDays x y)) e ∧ Below w.heap.size w w' := by
  have hal : Below w.heap.size w ((w.alloc (.cells #[.int .i64 x] 3)).alloc (.cells #[.int .i64 y] 3)) := ((Below.refl _ _).alloc (Nat.le_refl _) _).alloc (by simp) _
  have HT := Lib.hid (treeOf A n c ds _ (h.keep hal))
  have hln : ds.length ≤ 1048576 := by have := cabSz_len ds; omega
  have HLn := Lib.hid hln
  clear h hln
  have h4 : Blk ((w.alloc (.cells #[.int .i64 x] 3)).alloc (.cells #[.int .i64 y] 3)) w.heap.size 3 #[.int .i64 x] := (Blk.new _ _ _).alloc _
  have h5 : Blk ((w.alloc (.cells #[.int .i64 x] 3)).alloc (.cells #[.int .i64 y] 3)) (w.heap.size + 1) 3 #[.int .i64 y] := by
    have := Blk.new (w.alloc (.cells #[.int .i64 x] 3)) 3 #[.int .i64 y]
    rwa [show (w.alloc (.cells #[.int .i64 x] 3)).heap.size = w.heap.size + 1 by simp] at this
  have H4 := Lib.hid h4; have H5 := Lib.hid h5; clear h4 h5
  have eg : ∀ args w, (callFunc 66 args).run Try.prog w = .ok (.enter 66 args) w := enters_of Try.func66 (by kernel_rfl) rfl
  have EG := Lib.hid eg; clear eg
  go_enter Try.func29, Try.ntmps29
  go_wp2_with fail
  refine HT.out.mono ?_
  rintro e w1 ⟨hT, hb1⟩
  have b1 := below_next hal hb1
  rcases hT with ⟨hn, rfl⟩ | ⟨hy, t, v, ls, rfl, hT, hM⟩
  · have HN : Hid ((ansP (ds.map (·.ps))).filter (inDays x y) = []) := Lib.hid (by rw [ansP_no hn]; rfl)
    clear hn
    go_wp2
    go_ret
    exact ⟨.of rfl (by rw [HN.out]; exact World.ownsRow_nil _ _ _ _), b1⟩
  · have HN : Hid ((ansP (ds.map (·.ps))).filter (inDays x y) = (ds.map (·.ps)).flatten.filter (inDays x y)) := Lib.hid (by rw [ansP_yes hy])
    have hlp : (leafPads ls).length ≤ 1048576 := by rw [leaf_all hM]; exact flat_len_le hsz
    have hll : ls.length ≤ 1048576 := by
      have := congrArg List.length hM
      rw [List.length_map, List.length_map] at this
      have := HLn.out; omega
    have hB : ((w.alloc (.cells #[.int .i64 x] 3)).alloc (.cells #[.int .i64 y] 3)).heap.size ≤ w1.heap.size := hb1.size
    have hPr := betweenPred x y ((w.alloc (.cells #[.int .i64 x] 3)).alloc (.cells #[.int .i64 y] 3)).heap.size w.heap.size (w.heap.size + 1) w1 (H4.out.below hb1) (H5.out.below hb1) (by simp <;> omega) (by simp <;> omega)
    have HK := Lib.hid (keep 66 _ (inDays x y) EG.out _ t v ls w1 hB hll hlp hPr hT)
    have HM := Lib.hid hM
    clear hPr hT hM hy hlp hll
    go_wp2_with fail
    refine HK.out.mono ?_
    rintro e w2 ⟨rfl, hb2, v', ls', hT2, hM2⟩
    have b2 : Below w.heap.size w w2 := b1.trans (hb2.mono (by simp <;> omega))
    have HLP := Lib.hid (thin_pads hM2 HM.out)
    have hl2 : (leafPads ls').length ≤ 1048576 := by
      rw [HLP.out]
      refine Nat.le_trans (List.length_filter_le _ _) ?_
      rw [allPads_flat]; exact flat_len_le hsz
    have HP := Lib.hid (treePads t v' ls' _ w2 hl2 hT2)
    clear hT2 hM2 hl2
    have hz2 := b2.size
    go_wp2_with fail
    refine HP.out.mono ?_
    rintro e w3 ⟨A3, c3, rfl, hO3, hb3⟩
    have b3 := below_next b2 hb3
    have HO := Lib.hid (own_mono hO3 hz2); clear hO3
    go_wp2
    go_ret
    exact ⟨.of rfl (by rw [HN.out, ← HLP.out]; exact HO.out), b3⟩
end Go.Proofs.Ytfbfapobmhfenaa
