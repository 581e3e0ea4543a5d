/-
  CabinetClear of both packages. Conditions: the drawers hold no more than a law lets by.
-/
import Derived.Test.YtfbfapobmhfenaaTreeCab
import Derived.Test.YtfbfapobmhfenaaDelA
import Derived.Test.YtfbfapobmhfenaaTreeB
import Derived.Test.YtfbfapobmhfenaaFindA
namespace Go.Proofs.Ytfbfapobmhfenaa
open Go.ChangeShapes Go.WideShapes Go.ChangeAt Go.RowKit Go.Shelf
set_option maxRecDepth 100000

/-- The drawers with the pads that meet p alone, without the empty ones. -/
def thinned (p : Pad → Bool) (css : List (List Pad)) : List (List Pad) := (css.map (·.filter p)).filter full?
noncomputable def thinO (p : Pad → Bool) (css : List (List Pad)) : Option (List (List Pad)) := if cabB css = true then some (thinned p css) else none
theorem thinO_yes {p : Pad → Bool} {css : List (List Pad)} (h : cabB css = true) : thinO p css = some (thinned p css) := by unfold thinO; rw [if_pos h]
theorem thinO_no {p : Pad → Bool} {css : List (List Pad)} (h : cabB css = false) : thinO p css = none := by unfold thinO; rw [h]; rfl
theorem thin_keep {p : Pad → Bool} {ls ls' : List Leaf} {css : List (List Pad)} (hM : ls.map (·.ps) = css) (h : ls'.map (·.ps) = (ls.map (·.ps.filter p)).filter (fun ps => !(ps.length == 0))) : ls'.map (·.ps) = thinned p css := by
  rw [h, ← hM]; unfold thinned; rw [List.map_map]; rfl
theorem thin_lens {p : Pad → Bool} {css : List (List Pad)} {ls' : List Leaf} (hc : cabOK css) (h : ls'.map (·.ps) = thinned p css) : ls'.length ≤ 6 ∧ ∀ l ∈ ls', 1 ≤ l.ps.length ∧ l.ps.length ≤ 1048576 := by
  constructor
  · have h1 := congrArg List.length h
    rw [List.length_map] at h1
    have h2 := List.length_filter_le full? (css.map (·.filter p))
    rw [List.length_map] at h2
    have := hc.1
    unfold thinned at h1; omega
  · intro l hl
    have h1 : l.ps ∈ thinned p css := by rw [← h]; exact List.mem_map_of_mem hl
    obtain ⟨h2, h3⟩ := List.mem_filter.1 h1
    obtain ⟨c, hcm, e⟩ := List.mem_map.1 h2
    have h4 := (hc.2.1 c hcm).2
    have h5 : l.ps.length ≤ c.length := by rw [← e]; exact List.length_filter_le _ _
    exact ⟨full_iff.1 h3, by omega⟩

def fromDay (d : Int) (x : Pad) : Bool := decide (d ≤ x.day)
theorem clearPred (a : Int) (B b4 : Nat) (w : World) (h4 : Blk w b4 3 #[.int .i64 a]) (l4 : b4 < B) :
    PredB 61 #[.pointer (some ⟨b4, 0, none⟩)] (fromDay a) B w := by
  intro W x hb _
  have h4W : Blk W b4 3 #[.int .i64 a] := (hb.block b4 l4).trans h4
  have c4 : (W.alloc (.cells #[.int .i64 x.day, .string x.case] 49)).cell? ⟨b4, 0, none⟩ = some (.int .i64 a) := Lib.cell?_alloc_some _ (h4W.cell 0)
  clear hb h4W h4
  unfold padV
  show Calls Try.prog 61 #[.agg #[.int .i64 x.day, .string x.case], .pointer (some ⟨b4, 0, none⟩)] W _
  go_enter Try.func61, Try.ntmps61
  go_wp2
  go_ret
  exact ⟨ret_bool rfl, (Below.refl _ _).alloc (Nat.le_refl _) _⟩

theorem implCabinetClear (A : Option Addr) (n c : Nat) (ds : List Drawer) (x : Int) (w : World) (hsz : cabSz ds ≤ 1048576) (h : DrawersIn w w.heap.size A n c ds) :
    Calls Try.prog 23 #[.slice A n c, .int .i64 x] w fun e w' => FileAns w' w.heap.size (thinO (fromDay x) (ds.map (·.ps))) e ∧ Below w.heap.size w w' := by
  have hal : Below w.heap.size w (w.alloc (.cells #[.int .i64 x] 3)) := (Below.refl _ _).alloc (Nat.le_refl _) _
  have HT := Lib.hid (treeOf A n c ds _ (h.keep hal))
  have hln : ds.length ≤ 1048576 := by have := cabSz_len ds; omega
  have HLn := Lib.hid hln
  clear h hln
  have H4 : Hid (Blk (w.alloc (.cells #[.int .i64 x] 3)) w.heap.size 3 #[.int .i64 x]) := Lib.hid (Blk.new _ _ _)
  have eg : ∀ args w, (callFunc 61 args).run Try.prog w = .ok (.enter 61 args) w := enters_of Try.func61 (by kernel_rfl) rfl
  have EG := Lib.hid eg; clear eg
  go_enter Try.func23, Try.ntmps23
  go_wp2_with fail
  refine HT.out.mono ?_
  rintro e w1 ⟨hT, hb1⟩
  have b1 := below_next hal hb1
  rcases hT with ⟨hn, rfl⟩ | ⟨hy, t, v, ls, rfl, hT, hM⟩
  · have HN : Hid (thinO (fromDay x) (ds.map (·.ps)) = none) := Lib.hid (thinO_no hn)
    clear hn
    go_wp2
    go_returns
    exact ⟨.no HN.out rfl (CabOwn.nil _ _), b1⟩
  · have HN := Lib.hid (thinO_yes (p := fromDay x) hy)
    have HC := Lib.hid (cabB_iff.1 hy)
    have hlp : (leafPads ls).length ≤ 1048576 := by rw [leaf_all hM]; exact flat_len_le hsz
    have hll : ls.length ≤ 1048576 := by
      have := congrArg List.length hM
      rw [List.length_map, List.length_map] at this
      have := HLn.out; omega
    have hB : (w.alloc (.cells #[.int .i64 x] 3)).heap.size ≤ w1.heap.size := hb1.size
    have hPr := clearPred x (w.alloc (.cells #[.int .i64 x] 3)).heap.size w.heap.size w1 (H4.out.below hb1) (by simp)
    have HK := Lib.hid (keep 61 _ (fromDay x) EG.out _ t v ls w1 hB hll hlp hPr hT)
    have HM := Lib.hid hM
    clear hPr hT hM hy hlp hll
    go_wp2_with fail
    refine HK.out.mono ?_
    rintro e w2 ⟨rfl, hb2, v', ls', hT2, hM2⟩
    have b2 : Below w.heap.size w w2 := b1.trans (hb2.mono (by simp))
    have HMk := Lib.hid (thin_keep HM.out hM2)
    obtain ⟨hl2, hl3⟩ := thin_lens HC.out HMk.out
    have HP := Lib.hid (treeCab t v' ls' _ w2 (by omega) hl3 hT2)
    have hz2 := b2.size
    clear hT2 hM2 hl2 hl3 hb2
    go_wp2_with fail
    refine HP.out.mono ?_
    rintro e w3 ⟨⟨A3, c3, d3, rfl, hO3, hM3⟩, hb3⟩
    have b3 := below_next b2 hb3
    have HO := Lib.hid (hO3.mono hz2)
    have HM3 : Hid (thinO (fromDay x) (ds.map (·.ps)) = some (d3.map (·.ps))) := Lib.hid (by rw [HN.out, hM3, HMk.out])
    clear hO3 hM3
    go_wp2
    go_returns
    exact ⟨.yes HM3.out rfl HO.out, b3⟩
end Go.Proofs.Ytfbfapobmhfenaa
