/-
  The reference's CabinetTake. Conditions: the drawers hold no more than a law lets by.
-/
import Derived.Test.YtfbfapobmhfenaaTake
import Derived.Test.YtfbfapobmhfenaaFileA
import Derived.Test.YtfbfapobmhfenaaDrawA
import Derived.Deep.RegionHeld3
namespace Go.Proofs.Ytfbfapobmhfenaa
open Go.ChangeShapes Go.WideShapes Go.ChangeAt Go.RowKit Go.Shelf
set_option maxRecDepth 100000

theorem flat_set (d : Drawer) : ∀ (ds : List Drawer) (i : Nat), (ds.flatMap drawerC).set i d.v = (ds.set i d).flatMap drawerC
  | [], _ => by simp
  | a :: r, 0 => by simp [drawerC, Drawer.v]
  | a :: r, i + 1 => by
    simp only [List.flatMap_cons, List.set_cons_succ, ← flat_set d r i]
    simp [drawerC]
theorem DrawersIn.of_set {w w8 : World} {B B2 n c c8 i : Nat} {A A8 : Option Addr} {ds : List Drawer} {d : Drawer} (H : DrawersIn w w.heap.size A n c ds) (hb : Below w.heap.size w w8) (hO : w8.ownsRow B 35 1 (.slice A8 n c8) n ((ds.flatMap drawerC).set i d.v)) (hd : DrIn w8 B2 d) :
    DrawersIn w8 w8.heap.size A8 n c8 (ds.set i d) := by
  obtain ⟨A', c', e, h1, h2⟩ := own_form hO
  injection e with e1 e2 e3
  subst e1 e3
  rw [flat_set] at hO
  refine ⟨by rw [List.length_set]; exact H.1, h1, h2, Row.of_own hO, fun x hx => ?_⟩
  obtain ⟨j, hj⟩ := List.getElem?_of_mem hx
  by_cases hji : i = j
  · subst hji
    have hlt : i < ds.length := by
      have := (List.getElem?_eq_some_iff.1 hj).1
      rwa [List.length_set] at this
    rw [List.getElem?_set_self hlt] at hj
    injection hj with hj; subst hj
    exact hd.pads
  · rw [List.getElem?_set_ne hji] at hj
    exact ((H.2.2.2.2 x (List.mem_of_getElem? hj)).below hb).more hb.size
set_option maxHeartbeats 1600000 in
theorem specCabinetTake (A : Option Addr) (n c : Nat) (ds : List Drawer) (p : Pad) (w : World) (hsz : cabSz ds ≤ 1048576) (h : DrawersIn w w.heap.size A n c ds) :
    Calls Try.prog 33 #[.slice A n c, padVal p] w fun e w' => FileAns w' w.heap.size (takeO (ds.map (·.ps)) p) e ∧ Below w.heap.size w w' := by
  have hm := h.2.2.1; have hnc := h.2.1
  have HL : Hid (ds.length = n) := Lib.hid h.1
  unfold maxLen at hm
  have H := Lib.hid h; clear h
  have hal : Below w.heap.size w (w.alloc (.cells #[.int .i64 p.day, .string p.case] 49)) := (Below.refl _ _).alloc (Nat.le_refl _) _
  have HF := Lib.hid (specCabinetFind A n c ds p _ hsz (H.out.keep hal))
  unfold padVal at HF ⊢
  cases hq : findO (ds.map (·.ps)) p with
  | none =>
    have HN := Lib.hid (takeO_no hq)
    rw [hq] at HF; clear hq
    go_enter Try.func33, Try.ntmps33
    go_wp2_with fail
    refine HF.out.mono ?_
    rintro e w1 ⟨hA, hb1⟩
    unfold FindAns findV at hA
    subst hA
    have b1 := below_next hal hb1
    go_wp2
    go_returns
    exact ⟨.no HN.out rfl ((CabOwn.made w1).mono b1.size), b1.alloc b1.size _⟩
  | some x =>
    rcases x with ⟨i, k⟩
    have HN := Lib.hid (takeO_yes hq)
    have HTh := Lib.hid (take_thin hq)
    obtain ⟨hc, hf1, hf2, _⟩ := findO_some hq
    rw [hq] at HF; clear hq
    rw [List.length_map] at hf1
    rw [drw_dr hf1] at hf2 HTh
    have hlo := (hc.2.1 _ (List.mem_map_of_mem (drAt_mem hf1))).2
    have hn6 : n ≤ 6 := by have := hc.1; rw [List.length_map, HL.out] at this; exact this
    have hin : i < n := by rw [← HL.out]; exact hf1
    obtain ⟨b, off, eA, hbB, c0, hP⟩ := H.out.at_ hin
    have hP1 := hP.1
    rw [hP1] at hf2 hlo
    subst eA
    have HP := Lib.hid hP
    have hcm2 := hP.2.2.1; have hnc2 := hP.2.1
    unfold maxLen at hcm2
    have HCk := Lib.hid hc
    clear hc hf1 hP
    have HP1 := Lib.hid hP1; clear hP1
    obtain ⟨i0, hi, hz0, hz1, hz2⟩ := info_parts infoPad
    obtain ⟨i1, hj, hy0, hy1, hy2⟩ := info_parts infoSl
    have HG : Hid (∀ q ∈ (drAt ds i).ps.take k ++ (drAt ds i).ps.drop (k + 1), q.good) := Lib.hid (fun q hq => by
      rcases List.mem_append.1 hq with hq | hq
      · exact HP.out.2.2.2.2 q (List.mem_of_mem_take hq)
      · exact HP.out.2.2.2.2 q (List.mem_of_mem_drop hq))
    have HLn : Hid (((drAt ds i).ps.take k).length = k ∧ ((drAt ds i).ps.drop (k + 1)).length = (drAt ds i).n - (k + 1)) := Lib.hid (by
      rw [List.length_take, List.length_drop, HP1.out]; omega)
    generalize drAt ds i = d at *
    go_enter Try.func33, Try.ntmps33
    go_wp2_with fail
    refine HF.out.mono ?_
    rintro e w1 ⟨hA, hb1⟩
    unfold FindAns findV at hA
    subst hA
    have b1 := below_next hal hb1
    have z1 := b1.size
    clear hb1 HF hal
    go_wp2_with (at_builtin; refine wpList_append_any _ rfl (.tmp 20) (.tmp 21) _ rfl w1.heap.size 35 i1 _ 1 24 Try.underlying24 hj hy0 hy1 hy2 rfl (by omega) (.slice (some ⟨w1.heap.size, 0, none⟩) 0 0) 0 [] rfl (World.ownsRow_made w1 _ 0 (Nat.le_refl _) (by simp) (by simp)) w.heap.size (some ⟨b, off, none⟩) n c (ds.flatMap drawerC) rfl (H.out.2.2.2.1.below (b1.alloc z1 _)) drC_one (by unfold maxLen; omega) (by omega) (by simp) ?_; intro v2 w2 hown2 hg2 hat2; simp only [Nat.zero_add, List.nil_append] at hown2; have b12 : Below w1.heap.size w1 w2 := ((Below.refl _ _).alloc (Nat.le_refl _) _).grown hg2 (by simp) (fun q hq => by injection hq with hq; rw [← hq]; exact Nat.le_refl _); obtain ⟨gp, cp, ep, hgp, hgl⟩ := World.ownsRow.form hown2 (by omega); subst ep; have HO2 := Lib.hid hown2; have z2 := b12.size; clear hown2 hg2 hat2)
    have hi1 : (0 : Int) ≤ (i : Int) := by omega
    have hi2 : (i : Int) < (n : Int) := by omega
    have hk1 : (0 : Int) ≤ (k : Int) := by omega
    have hk2 : (k : Int) + 1 ≤ (d.n : Int) := by omega
    have hbw2 : Below w.heap.size w w2.drew := (b1.trans (b12.mono z1)).drew
    have hsl0 : ∀ W, (Instr.slice 35 (.slice d.A d.n d.c) none (some (.int .i64 (k : Int))) none).run Try.prog W = .ok (.slice d.A k d.c) W := fun W => run_uptoA elemPads sizePad d.A d.n d.c k (by omega) W
    have hsl1 : ∀ W, (Instr.slice 35 (.slice d.A d.n d.c) (some (.int .i64 ((k : Int) + 1))) none none).run Try.prog W = .ok (.slice (fromA d.A (k + 1) d.c 2) (d.n - (k + 1)) (d.c - (k + 1))) W := fun W => run_from elemPads sizePad d.A d.n d.c (k + 1) (by omega) W
    have HT1 : Hid (∀ W, Below w.heap.size w W → Row W w.heap.size d.A k 2 ((d.ps.take k).flatMap padC)) := Lib.hid (fun W hW => ((HP.out.below hW).upto (k := k) (by omega)).2.2.2.1)
    have HT2 : Hid (∀ W, Below w.heap.size w W → Row W w.heap.size (fromA d.A (k + 1) d.c 2) (d.n - (k + 1)) 2 ((d.ps.drop (k + 1)).flatMap padC)) := Lib.hid (fun W hW => ((HP.out.below hW).from_ (k := k + 1) (by omega)).2.2.2.1)
    have c0d : w2.drew.cell? ⟨b, off + i, none⟩ = some (.slice d.A d.n d.c) := (hbw2.cell (p := ⟨b, off + i, none⟩) hbB).trans c0
    have hfar : ∀ (W : World) (v : Value), (W.setCell ⟨gp, i, none⟩ v).cell? ⟨b, off + i, none⟩ = W.cell? ⟨b, off + i, none⟩ := fun W v => World.cell?_setCell_other W _ _ v (fun e => by
      have : gp = b := congrArg Addr.block e
      omega)
    have hw : IntKind.i64.wrap ((k : Int) + 1) = (k : Int) + 1 := IntWalk.i64_in _ (by omega)
    have HO2d : Hid (w2.drew.ownsRow w1.heap.size 35 1 (.slice (some ⟨gp, 0, none⟩) n cp) n (ds.flatMap drawerC)) := Lib.hid HO2.out
    have hgpz : gp < w2.drew.heap.size := hgl
    have c0a : (w2.alloc (.cells #[] 49)).drew.cell? ⟨b, off + i, none⟩ = some (.slice d.A d.n d.c) := Lib.cell?_alloc_some (W := w2) _ c0d
    clear c0
    go_wp2_with fail
    go_region_held3 (fun w' => w'.cell? ⟨b, off + i, none⟩ = some (.slice d.A d.n d.c)) (first | assumption | go_keep)
      (first
        | ((refine step_append_any _ (by rfl) (.tmp 25) (.tmp 31) _ (by rfl) w2.drew.heap.size 49 i0 _ 2 24 Try.underlying35 hi hz0 hz1 hz2 rfl (by omega) (.slice (some ⟨w2.drew.heap.size, 0, none⟩) 0 0) 0 [] (by rfl) (World.ownsRow_made w2.drew _ 0 (Nat.le_refl _) (by simp) (by simp)) w.heap.size d.A k d.c ((d.ps.take k).flatMap padC) (by rfl) (HT1.out _ (hbw2.alloc hbw2.size _)) padC_one (by unfold maxLen; omega) (by omega) (by simp) ?_; intro v3 w3 hown3 hg3 hat3; simp only [Nat.zero_add, List.nil_append] at hown3; have b23 : Below w2.drew.heap.size w2.drew w3 := ((Below.refl _ _).alloc (Nat.le_refl _) _).grown hg3 (by simp) (fun q hq => by injection hq with hq; rw [← hq]; exact Nat.le_refl _); have HO3 := Lib.hid hown3; have z3 := b23.size; have c03 := kcell b23 c0d; clear hown3 hg3 hat3))
        | ((refine step_append_any _ (by rfl) (.tmp 32) (.tmp 39) _ (by rfl) w2.drew.heap.size 49 i0 _ 2 24 Try.underlying35 hi hz0 hz1 hz2 rfl (by omega) v3 k ((d.ps.take k).flatMap padC) (by rfl) HO3.out w.heap.size (fromA d.A (k + 1) d.c 2) (d.n - (k + 1)) (d.c - (k + 1)) ((d.ps.drop (k + 1)).flatMap padC) (by rfl) (HT2.out _ (hbw2.trans (b23.mono hbw2.size))) padC_one (by unfold maxLen; omega) (by omega) z3 ?_; intro v4 w4 hown4 hg4 hat4; have b24 := b23.grown hg4 z3 (fun q hq => own_base HO3.out hq); obtain ⟨A4, c4, rfl, hc4, hm4⟩ := own_form hown4; have HO4 := Lib.hid hown4; have z4 := b24.size; have c04 := kcell b24 c0d; have HOp := Lib.hid (own_congr HO2d.out (fun z hz => b24.block z (own_lt HO2d.out hz))); have q0 := HOp.out.cellAt i (by omega); have q1 := HOp.out.frozenAt i; rw [List.getElem?_eq_getElem (by rw [flat_len drawerC_len, HL.out]; omega)] at q0; clear hown4 hg4 hat4)))
    clear hsl0 hsl1 hw hfar c0a c0d c03 c04 HT1 HT2
    have hb4 : Below w.heap.size w w4 := hbw2.trans (b24.mono hbw2.size)
    have hdv : (Value.slice A4 (k + (d.n - (k + 1))) c4) = (⟨A4, k + (d.n - (k + 1)), c4, d.ps.take k ++ d.ps.drop (k + 1)⟩ : Drawer).v := rfl
    have hst := (HOp.out.stored i (⟨A4, k + (d.n - (k + 1)), c4, d.ps.take k ++ d.ps.drop (k + 1)⟩ : Drawer).v).1
    have hb5 : Below w.heap.size w (w4.setCell ⟨gp, i, none⟩ (.slice A4 (k + (d.n - (k + 1))) c4)) := hb4.setCell (by show w.heap.size ≤ gp; omega) _
    have hdr : DrIn (w4.setCell ⟨gp, i, none⟩ (.slice A4 (k + (d.n - (k + 1))) c4)) w2.drew.heap.size ⟨A4, k + (d.n - (k + 1)), c4, d.ps.take k ++ d.ps.drop (k + 1)⟩ := by
      refine ⟨by rw [List.length_append, HLn.out.1, HLn.out.2], ?_, HG.out⟩
      have h4 : PadsOwn w4 w2.drew.heap.size (.slice A4 (k + (d.n - (k + 1))) c4) (d.ps.take k ++ d.ps.drop (k + 1)) := by
        unfold PadsOwn
        rw [List.length_append, HLn.out.1, HLn.out.2, List.flatMap_append]
        exact HO4.out
      exact own_congr h4 (fun z hz => Below.heap_setCell w4 _ _ z (fun e => by
        obtain ⟨cur2, q2⟩ := own_obj h4 hz
        obtain ⟨cur3, q3⟩ := own_obj HOp.out (b := gp) rfl
        rw [show z = gp from e] at q2
        rw [q2] at q3; injection q3 with q3; injection q3 with _ q3; exact absurd q3 (by decide)))
    have hds := DrawersIn.of_set H.out hb5 hst hdr
    have hsm : ∀ z ∈ ds.set i ⟨A4, k + (d.n - (k + 1)), c4, d.ps.take k ++ d.ps.drop (k + 1)⟩, z.n ≤ 1048576 := fun z hz => by
      rcases List.mem_or_eq_of_mem_set hz with hz | rfl
      · have h1 := HCk.out.2.1 z.ps (List.mem_map_of_mem hz)
        have h2 := (H.out.2.2.2.2 z hz).1
        unfold lenOK at h1; omega
      · show k + (d.n - (k + 1)) ≤ _; omega
    have HCp := Lib.hid (l8Copy (some ⟨gp, 0, none⟩) n cp _ _ (by omega) hsm hds)
    have HRes : Hid ((((ds.set i ⟨A4, k + (d.n - (k + 1)), c4, d.ps.take k ++ d.ps.drop (k + 1)⟩).map (·.ps)).filter full?) = thinned (notP p) (ds.map (·.ps))) := Lib.hid (by
      rw [← HTh.out, List.map_set])
    have hz5 := hb5.size
    clear hst hdr hds hsm hdv hb4
    go_wp2_with fail
    refine HCp.out.mono ?_
    rintro e w6 ⟨⟨A6, c6, d6, rfl, hO6, hM6⟩, hb6⟩
    have b6 := below_next hb5 hb6
    have HO6 := Lib.hid (hO6.mono hz5)
    have HM6 : Hid (takeO (ds.map (·.ps)) p = some (d6.map (·.ps))) := Lib.hid (by rw [HN.out, hM6, HRes.out])
    clear hO6 hM6 hb6
    go_wp2
    go_returns
    exact ⟨.yes HM6.out rfl HO6.out, b6⟩
end Go.Proofs.Ytfbfapobmhfenaa
