/-
  The reference's l8Copy: drawers in new memory, without the empty ones. Conditions: no more than a law lets by.
-/
import Derived.Test.YtbeaandjhlpaeaaCabOwn
import Derived.Test.YtbeaandjhlpaeaaRowAns
import Derived.Test.YtbeaandjhlpaeaaFileLaw
import Derived.Test.YtbeaandjhlpaeaaCabCase
namespace Go.Proofs.Ytbeaandjhlpaeaa
open Go.ChangeShapes Go.WideShapes Go.ChangeAt Go.RowKit
set_option maxRecDepth 100000

/-- A list of drawers in memory of the call's own, as an answer. -/
def CabAns (w' : World) (B : Nat) (css : List (List Pad)) (e : Ending) : Prop :=
  ∃ A c ds, e = .returned (.slice A ds.length c) ∧ CabOwn w' B (.slice A ds.length c) ds ∧ ds.map (·.ps) = css
theorem CabAns.of {w' : World} {B : Nat} {css : List (List Pad)} {e : Ending} {v : Value} {ds : List Drawer} (he : e = .returned v) (ho : CabOwn w' B v ds) (hm : ds.map (·.ps) = css) : CabAns w' B css e := by
  obtain ⟨A, c, rfl, _⟩ := ho.form
  exact ⟨A, c, ds, he, ho, hm⟩
theorem newPush {wr w1 w2 : World} {B n c1 : Nat} {v v' : Value} {A1 : Option Addr} {ds : List Drawer} {ps : List Pad} (hB : B ≤ wr.heap.size) (h : CabOwn wr B v ds) (hb : Below wr.heap.size wr w1) (hO : w1.ownsRow wr.heap.size 26 2 (.slice A1 n c1) n (ps.flatMap padC)) (hn : ps.length = n) (hgd : ∀ p ∈ ps, p.good)
    (hg : (w1.alloc (.cells #[.slice A1 n c1] 49)).grownBy w2 v.ownBlock) (hown : w2.ownsRow B 49 1 v' (ds.length + 1) (ds.flatMap drawerC ++ [.slice A1 n c1])) :
    CabOwn w2 B v' (ds ++ [⟨A1, n, c1, ps⟩]) ∧ Below B wr w2 := by
  have ha : Below wr.heap.size wr (w1.alloc (.cells #[.slice A1 n c1] 49)) := hb.alloc hb.size _
  refine ⟨h.push ha hg (d := ⟨A1, n, c1, ps⟩) hown ⟨hn, ?_, hgd⟩ (fun b hv => own_base hO hv), (ha.mono hB).grown hg (Nat.le_trans hB ha.size) (fun k hk => own_base h.1 hk)⟩
  show PadsOwn _ B (.slice A1 n c1) ps
  unfold PadsOwn
  rw [hn]
  exact own_mono (hO.alloc _) hB
theorem cabRow1 {w : World} {u : Value} {t : TypeId} : Row (w.alloc (.cells #[u] t)) (w.heap.size + 1) (some ⟨w.heap.size, 0, none⟩) 1 1 [u] := rowNew1 w u t

theorem l8Copy (A : Option Addr) (n c : Nat) (ds : List Drawer) (w : World) (hn : n ≤ 1048576) (hdn : ∀ d ∈ ds, d.n ≤ 1048576) (h : DrawersIn w w.heap.size A n c ds) :
    Calls Try.prog 84 #[.slice A n c] w fun e w' => CabAns w' w.heap.size ((ds.map (·.ps)).filter full?) e ∧ Below w.heap.size w w' := by
  have hm := h.2.2.1; have hnc := h.2.1
  have HL := Lib.hid h.1
  unfold maxLen at hm
  have H := Lib.hid h; clear h
  have HDN := Lib.hid hdn; clear hdn
  obtain ⟨i0, hi, hz0, hz1, hz2⟩ := info_parts infoPad
  obtain ⟨i1, hj, hy0, hy1, hy2⟩ := info_parts infoSl
  go_enter Try.func84, Try.ntmps84
  go_wp2
  go_loopw [3, 4] (fun v i wr => ∃ (k : Nat) (ds' : List Drawer), k ≤ n ∧ i = .int .i64 k ∧ Hid (CabOwn wr w.heap.size v ds') ∧ Hid (ds'.map (·.ps) = ((ds.take k).map (·.ps)).filter full?) ∧ Below w.heap.size w wr) (fun _ i _ => n - (intOf i).toNat)
  case atStart => exact ⟨0, [], Nat.zero_le _, rfl, Lib.hid (CabOwn.made w), Lib.hid (by simp), (Below.refl _ _).alloc (Nat.le_refl _) _⟩
  case round =>
    obtain ⟨k, ds', hk, rfl, hO, hM, hb⟩ := hrel
    by_cases hlt : k < n
    · obtain ⟨b, off, eA, hbB, c0, hP⟩ := (H.out.below hb).at_ hlt
      have hkl : k < ds.length := by rw [HL.out]; exact hlt
      have hd1 := HDN.out _ (drAt_mem hkl)
      subst eA
      have HT : Hid ((ds.take (k + 1)).map (·.ps) = (ds.take k).map (·.ps) ++ [(drAt ds k).ps]) := Lib.hid (by rw [take_step (drAt_some hkl)]; simp)
      have hl' : ds'.length ≤ n := by
        have h1 := congrArg List.length hM.out
        rw [List.length_map] at h1
        have h2 := List.length_filter_le full? ((ds.take k).map (·.ps))
        rw [List.length_map, List.length_take] at h2
        omega
      have HPS := Lib.hid hP.1
      have HR := Lib.hid hP.2.2.2.1
      have HGd := Lib.hid hP.2.2.2.2
      have hcm2 := hP.2.2.1; have hnc2 := hP.2.1
      unfold maxLen at hcm2
      clear hP hkl
      generalize drAt ds k = d at *
      by_cases hd0 : 0 < d.n
      · have hz := hb.size
        have HM2 : Hid (((ds' ++ [(⟨none, d.n, 0, d.ps⟩ : Drawer)]).map (·.ps)) = ((ds.take (k + 1)).map (·.ps)).filter full?) := Lib.hid (by
          rw [HT.out, List.filter_append, ← hM.out, List.map_append]
          have : full? d.ps = true := full_iff.2 (by rw [HPS.out]; exact hd0)
          simp [this])
        have c0a : (wr.alloc (.cells #[] 26)).cell? ⟨b, off + k, none⟩ = some (.slice d.A d.n d.c) := Lib.cell?_alloc_some _ c0
        go_wp2_with (first
          | (at_builtin; refine wpList_append_any _ rfl (.tmp 19) (.tmp 23) _ rfl wr.heap.size 26 i0 _ 2 24 Try.underlying49 hi hz0 hz1 hz2 rfl (by omega) (.slice (some ⟨wr.heap.size, 0, none⟩) 0 0) 0 [] rfl (World.ownsRow_made wr _ 0 (Nat.le_refl _) (by simp) (by simp)) w.heap.size d.A d.n d.c (d.ps.flatMap padC) rfl (HR.out.below ((Below.refl _ _).alloc hz _)) padC_one (by unfold maxLen; omega) (by omega) (by simp) ?_; intro v1 w1 hown1 hg1 hat1; simp only [Nat.zero_add, List.nil_append] at hown1; obtain ⟨A1, c1, rfl, hc1, hm1⟩ := own_form hown1; have b1 : Below wr.heap.size wr w1 := ((Below.refl _ _).alloc (Nat.le_refl _) _).grown hg1 (by simp) (fun q hq => by injection hq with hq; rw [← hq]; exact Nat.le_refl _); have HO1 := Lib.hid hown1; have HC1 := Lib.hid (hO.out.keep b1); have z1 := b1.size; clear hown1 hg1 hat1)
          | (at_builtin; refine wpList_append_any _ rfl (.tmp 18) (.tmp 25) _ rfl w.heap.size 49 i1 _ 1 24 Try.underlying39 hj hy0 hy1 hy2 rfl (by omega) _ ds'.length (ds'.flatMap drawerC) rfl (HC1.out.1.alloc _) (w1.heap.size + 1) (some ⟨w1.heap.size, 0, none⟩) 1 1 [.slice A1 d.n c1] rfl cabRow1 (by simp [Value.oneCell']) (by unfold maxLen; omega) (by omega) (by simp; omega) ?_; intro v2 w2 hown2 hg2 hat2; obtain ⟨hcab, hbb⟩ := newPush hz hO.out b1 HO1.out HPS.out HGd.out hg2 hown2; have HC2 := Lib.hid hcab; have b2 := hb.trans hbb; clear hown2 hg2 hat2 hcab hbb))
        go_roundw
        case rel => exact ⟨k + 1, _, by omega, by go_num, HC2, Lib.hid (by rw [← HM2.out]; simp), b2⟩
        case measure => simp [intOf]; omega
      · have HM2 : Hid (ds'.map (·.ps) = ((ds.take (k + 1)).map (·.ps)).filter full?) := Lib.hid (by
          rw [HT.out, List.filter_append, ← hM.out]
          have : full? d.ps = false := by
            cases hx : full? d.ps with
            | false => rfl
            | true => have := full_iff.1 hx; rw [HPS.out] at this; omega
          simp [this])
        go_wp2
        go_roundw
        case rel => exact ⟨k + 1, ds', by omega, by go_num, hO, HM2, hb⟩
        case measure => simp [intOf]; omega
    · have hkn : ds.take k = ds := List.take_of_length_le (by have := HL.out; omega)
      rw [hkn] at hM
      clear hkn
      go_wp2
      go_ret
      exact ⟨.of rfl hO.out hM.out, hb⟩
end Go.Proofs.Ytbeaandjhlpaeaa
