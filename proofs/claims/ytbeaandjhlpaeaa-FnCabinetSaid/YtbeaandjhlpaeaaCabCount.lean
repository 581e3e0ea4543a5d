/-
  CabinetCount and CabinetPads of both packages. Conditions: the drawers hold no more than a law lets by.
-/
import Derived.Test.YtbeaandjhlpaeaaTreePads
import Derived.Test.YtbeaandjhlpaeaaCopyCab
namespace Go.Proofs.Ytbeaandjhlpaeaa
open Go.ChangeShapes Go.WideShapes Go.ChangeAt Go.RowKit
set_option maxRecDepth 100000

noncomputable def cntI (css : List (List Pad)) : Int := if cabB css = true then (css.flatten.length : Int) else -1
theorem cntI_yes {css : List (List Pad)} (h : cabB css = true) : cntI css = css.flatten.length := by unfold cntI; rw [if_pos h]
theorem cntI_no {css : List (List Pad)} (h : cabB css = false) : cntI css = -1 := by unfold cntI; rw [h]; rfl
theorem ret_i {a b : Int} (h : a = b) : Ending.returned (.int .i64 a) = .returned (.int .i64 b) := by rw [h]
theorem flat_len_le {ds : List Drawer} (hsz : cabSz ds ≤ 1048576) : (allPads ds).length ≤ 1048576 := by have := allPads_len ds; omega
theorem leaf_all {ls : List Leaf} {ds : List Drawer} (h : ls.map (·.ps) = ds.map (·.ps)) : leafPads ls = allPads ds := by
  rw [leafPads_flat, h, allPads_flat]

theorem specCabinetCount (A : Option Addr) (n c : Nat) (ds : List Drawer) (w : World) (hsz : cabSz ds ≤ 1048576) (h : DrawersIn w w.heap.size A n c ds) :
    Calls Try.prog 27 #[.slice A n c] w fun e w' => e = .returned (.int .i64 (cntI (ds.map (·.ps)))) ∧ Below w.heap.size w w' := by
  have H := Lib.hid h; clear h
  have CV := Lib.hid (specCabinetValid A n c ds w hsz H.out)
  by_cases hv : cabB (ds.map (·.ps)) = true
  · rw [hv] at CV
    have HN := Lib.hid (cntI_yes hv); clear hv
    go_enter Try.func27, Try.ntmps27
    go_wp2_with fail
    refine CV.out.mono ?_
    rintro e w1 ⟨rfl, b1⟩
    go_wp2_with fail
    refine (l8Pads A n c ds w1 hsz (H.out.keep b1)).mono ?_
    rintro e w2 ⟨A', c', rfl, _, hb2⟩
    have b2 := below_next b1 hb2
    go_wp2
    go_ret
    exact ⟨ret_i (by rw [HN.out, allPads_flat]), b2⟩
  · have hv' : cabB (ds.map (·.ps)) = false := by simpa using hv
    rw [hv'] at CV
    have HN := Lib.hid (cntI_no hv'); clear hv hv'
    go_enter Try.func27, Try.ntmps27
    go_wp2_with fail
    refine CV.out.mono ?_
    rintro e w1 ⟨rfl, b1⟩
    go_wp2
    go_ret
    exact ⟨ret_i HN.out.symm, b1⟩

theorem implCabinetCount (A : Option Addr) (n c : Nat) (ds : List Drawer) (w : World) (hsz : cabSz ds ≤ 1048576) (h : DrawersIn w w.heap.size A n c ds) :
    Calls Try.prog 28 #[.slice A n c] w fun e w' => e = .returned (.int .i64 (cntI (ds.map (·.ps)))) ∧ Below w.heap.size w w' := by
  have H := Lib.hid h; clear h
  go_enter Try.func28, Try.ntmps28
  go_wp2_with fail
  refine (treeOf A n c ds w H.out).mono ?_
  rintro e w1 ⟨hT, b1⟩
  rcases hT with ⟨hn, rfl⟩ | ⟨hy, t, v, ls, rfl, hT, hM⟩
  · have HN := Lib.hid (cntI_no hn); clear hn
    go_wp2
    go_ret
    exact ⟨ret_i HN.out.symm, b1⟩
  · have HN := Lib.hid (cntI_yes hy); clear hy
    have HA := Lib.hid (leaf_all hM); clear hM
    have HT := Lib.hid hT; clear hT
    go_wp2_with fail
    refine (treePads t v ls _ w1 (by rw [HA.out]; exact flat_len_le hsz) HT.out).mono ?_
    rintro e w2 ⟨A', c', rfl, _, hb2⟩
    have b2 := below_next b1 hb2
    go_wp2
    go_ret
    exact ⟨ret_i (by rw [HN.out, allPads_flat, HA.out]), b2⟩

/-- The pads of a cabinet; of another list none. -/
noncomputable def ansP (css : List (List Pad)) : List Pad := if cabB css = true then css.flatten else []
theorem ansP_yes {css : List (List Pad)} (h : cabB css = true) : ansP css = css.flatten := by unfold ansP; rw [if_pos h]
theorem ansP_no {css : List (List Pad)} (h : cabB css = false) : ansP css = [] := by unfold ansP; rw [h]; rfl

/-- What CabinetPads answers. -/
def PadsAns (w' : World) (B : Nat) (css : List (List Pad)) (e : Ending) : Prop :=
  ∃ A c, e = .returned (.tuple #[.slice A (ansP css).length c, .bool (cabB css)]) ∧ PadsOwn w' B (.slice A (ansP css).length c) (ansP css)
theorem PadsAns.no {w' : World} {B : Nat} {css : List (List Pad)} {e : Ending} (h : cabB css = false) {A : Option Addr} {c : Nat} (he : e = .returned (.tuple #[.slice A 0 c, .bool false])) (ho : PadsOwn w' B (.slice A 0 c) []) : PadsAns w' B css e := by
  refine ⟨A, c, ?_, ?_⟩
  · rw [ansP_no h, h]; exact he
  · rw [ansP_no h]; exact ho
theorem PadsAns.yes {w' : World} {B : Nat} {css : List (List Pad)} {e : Ending} (h : cabB css = true) {A : Option Addr} {c : Nat} (he : e = .returned (.tuple #[.slice A css.flatten.length c, .bool true])) (ho : PadsOwn w' B (.slice A css.flatten.length c) css.flatten) : PadsAns w' B css e := by
  refine ⟨A, c, ?_, ?_⟩
  · rw [ansP_yes h, h]; exact he
  · rw [ansP_yes h]; exact ho

theorem specCabinetPads (A : Option Addr) (n c : Nat) (ds : List Drawer) (w : World) (hsz : cabSz ds ≤ 1048576) (h : DrawersIn w w.heap.size A n c ds) :
    Calls Try.prog 32 #[.slice A n c] w fun e w' => PadsAns w' w.heap.size (ds.map (·.ps)) e ∧ Below w.heap.size w w' := by
  have H := Lib.hid h; clear h
  have CV := Lib.hid (specCabinetValid A n c ds w hsz H.out)
  by_cases hv : cabB (ds.map (·.ps)) = true
  · rw [hv] at CV
    have HN := Lib.hid hv; clear hv
    go_enter Try.func32, Try.ntmps32
    go_wp2_with fail
    refine CV.out.mono ?_
    rintro e w1 ⟨rfl, b1⟩
    go_wp2_with fail
    refine (l8Pads A n c ds w1 hsz (H.out.keep b1)).mono ?_
    rintro e w2 ⟨A', c', rfl, hO, hb2⟩
    have HO := Lib.hid hO; clear hO
    have b2 := below_next b1 hb2
    have hz := b1.size
    go_wp2
    go_returns
    rw [← allPads_flat] at HO
    exact ⟨.yes HN.out (A := A') (c := c') (by rw [allPads_flat]; rfl) (own_mono HO.out hz), b2⟩
  · have hv' : cabB (ds.map (·.ps)) = false := by simpa using hv
    rw [hv'] at CV
    have HN := Lib.hid hv'; clear hv hv'
    go_enter Try.func32, Try.ntmps32
    go_wp2_with fail
    refine CV.out.mono ?_
    rintro e w1 ⟨rfl, b1⟩
    go_wp2
    go_returns
    exact ⟨.no HN.out rfl (World.ownsRow_made w1 #[] 0 b1.size (by simp) (by simp)), b1.alloc b1.size _⟩

theorem implCabinetPads (A : Option Addr) (n c : Nat) (ds : List Drawer) (w : World) (hsz : cabSz ds ≤ 1048576) (h : DrawersIn w w.heap.size A n c ds) :
    Calls Try.prog 33 #[.slice A n c] w fun e w' => PadsAns w' w.heap.size (ds.map (·.ps)) e ∧ Below w.heap.size w w' := by
  have H := Lib.hid h; clear h
  go_enter Try.func33, Try.ntmps33
  go_wp2_with fail
  refine (treeOf A n c ds w H.out).mono ?_
  rintro e w1 ⟨hT, b1⟩
  rcases hT with ⟨hn, rfl⟩ | ⟨hy, t, v, ls, rfl, hT, hM⟩
  · have HN := Lib.hid hn; clear hn
    go_wp2
    go_returns
    exact ⟨.no HN.out rfl (World.ownsRow_nil _ _ _ _), b1⟩
  · have HN := Lib.hid hy; clear hy
    have HA := Lib.hid (leaf_all hM); clear hM
    have HT := Lib.hid hT; clear hT
    have hz := b1.size
    go_wp2_with fail
    refine (treePads t v ls _ w1 (by rw [HA.out]; exact flat_len_le hsz) HT.out).mono ?_
    rw [HA.out]
    rintro e w2 ⟨A', c', rfl, hO, hb2⟩
    have HO := Lib.hid hO; clear hO
    have b2 := below_next b1 hb2
    go_wp2
    go_returns
    rw [← allPads_flat] at HO
    exact ⟨.yes HN.out (A := A') (c := c') (by rw [allPads_flat]; rfl) (own_mono HO.out hz), b2⟩
end Go.Proofs.Ytbeaandjhlpaeaa
