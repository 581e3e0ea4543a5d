/-
  The reference's CabinetClear. Conditions: the drawers hold no more than a law lets by.
-/
import Derived.Test.YtfbfapobmhfenaaClear
namespace Go.Proofs.Ytfbfapobmhfenaa
open Go.ChangeShapes Go.WideShapes Go.ChangeAt Go.RowKit Go.Shelf
set_option maxRecDepth 100000

theorem CabAns.nil {w : World} {B : Nat} {e : Ending} (h : CabAns w B [] e) : ∃ A c, e = .returned (.slice A 0 c) ∧ CabOwn w B (.slice A 0 c) [] := by
  obtain ⟨A, c, ds, h1, h2, h3⟩ := h
  have : ds = [] := List.map_eq_nil_iff.1 h3
  subst this
  exact ⟨A, c, h1, h2⟩
set_option maxHeartbeats 1600000 in
theorem specCabinetClear (A : Option Addr) (n c : Nat) (ds : List Drawer) (x : Int) (w : World) (hsz : cabSz ds ≤ 1048576) (h : DrawersIn w w.heap.size A n c ds) :
    Calls Try.prog 22 #[.slice A n c, .int .i64 x] w fun e w' => FileAns w' w.heap.size (thinO (fromDay x) (ds.map (·.ps))) e ∧ Below w.heap.size w w' := by
  have hm := h.2.2.1; have hnc := h.2.1
  have HL : Hid (ds.length = n) := Lib.hid h.1
  unfold maxLen at hm
  have H := Lib.hid h; clear h
  have HV : Hid (∀ W, Below w.heap.size w W → Calls Try.prog 58 #[.slice A n c] W fun e w' => e = .returned (.bool (cabB (ds.map (·.ps)))) ∧ Below W.heap.size W w') := Lib.hid (fun W hW => specCabinetValid A n c ds W hsz ((H.out.below hW).more hW.size))
  obtain ⟨i0, hi, hz0, hz1, hz2⟩ := info_parts infoPad
  obtain ⟨i1, hj, hy0, hy1, hy2⟩ := info_parts infoSl
  have hal : Below w.heap.size w (w.alloc (.cells #[] 35)) := (Below.refl _ _).alloc (Nat.le_refl _) _
  cases hv : cabB (ds.map (·.ps)) with
  | false =>
    have HN := Lib.hid (thinO_no (p := fromDay x) hv)
    rw [hv] at HV; clear hv
    have HC0 := Lib.hid (CabOwn.made w)
    go_enter Try.func22, Try.ntmps22
    go_wp2
    go_loopw [6, 7] (fun v i wr => i = .int .i64 0 ∧ v = .slice (some ⟨w.heap.size, 0, none⟩) 0 0 ∧ Hid (CabOwn wr w.heap.size (.slice (some ⟨w.heap.size, 0, none⟩) 0 0) []) ∧ Below w.heap.size w wr) (fun _ _ _ => 0)
    case atStart => exact ⟨rfl, rfl, HC0, hal⟩
    case round =>
      obtain ⟨rfl, rfl, hO, hb⟩ := hrel
      have tail : ∀ w1, CabOwn w1 w.heap.size (.slice (some ⟨w.heap.size, 0, none⟩) 0 0) [] → Below w.heap.size w w1 → Calls Try.prog 59 #[.slice (some ⟨w.heap.size, 0, none⟩) 0 0] w1 fun e w' => (∃ A c, e = .returned (.slice A 0 c) ∧ CabOwn w' w.heap.size (.slice A 0 c) []) ∧ Below w.heap.size w w' := fun w1 hO1 hb1 =>
        (l8Copy _ 0 0 [] w1 (by omega) (by simp) (hO1.reads rfl)).mono fun e w' ⟨ha, hb'⟩ => ⟨by
          obtain ⟨A, c, he, hc⟩ := CabAns.nil (by simpa using ha)
          exact ⟨A, c, he, hc.mono hb1.size⟩, hb1.trans (hb'.mono hb1.size)⟩
      have HT := Lib.hid tail; clear tail
      by_cases hlt : 0 < n
      · have hV := Lib.hid (HV.out _ hb)
        go_wp2_with fail
        refine hV.out.mono ?_
        rintro e w1 ⟨rfl, hb1⟩
        have b1 := hb.trans (hb1.mono hb.size)
        have HO1 := Lib.hid (hO.out.keep hb1)
        clear hb1
        go_wp2_with fail
        refine (HT.out w1 HO1.out b1).mono ?_
        rintro e w2 ⟨⟨A2, c2, rfl, hO2⟩, b2⟩
        have HO2 := Lib.hid hO2
        have hV2 := Lib.hid (HV.out _ b2)
        clear hO2
        go_wp2_with fail
        refine hV2.out.mono ?_
        rintro e w3 ⟨rfl, hb3⟩
        have b3 := b2.trans (hb3.mono b2.size)
        have HO3 := Lib.hid (HO2.out.keep hb3)
        go_wp2
        go_returns
        exact ⟨.no HN.out rfl HO3.out, b3⟩
      · obtain rfl : n = 0 := by omega
        go_wp2_with fail
        refine (HT.out wr hO.out hb).mono ?_
        rintro e w2 ⟨⟨A2, c2, rfl, hO2⟩, b2⟩
        have HO2 := Lib.hid hO2
        have hV2 := Lib.hid (HV.out _ b2)
        clear hO2
        go_wp2_with fail
        refine hV2.out.mono ?_
        rintro e w3 ⟨rfl, hb3⟩
        have b3 := b2.trans (hb3.mono b2.size)
        have HO3 := Lib.hid (HO2.out.keep hb3)
        go_wp2
        go_returns
        exact ⟨.no HN.out rfl HO3.out, b3⟩
  | true =>
    have HN := Lib.hid (thinO_yes (p := fromDay x) hv)
    have HC := Lib.hid (cabB_iff.1 hv)
    rw [hv] at HV; clear hv
    have hn6 : n ≤ 6 := by have := HC.out.1; rw [List.length_map, HL.out] at this; exact this
    have HC0 := Lib.hid (CabOwn.made w)
    go_enter Try.func22, Try.ntmps22
    go_wp2
    go_loopw [6, 7] (fun v i wr => ∃ (k : Nat) (ds' : List Drawer), k ≤ n ∧ i = .int .i64 k ∧ ds'.length = k ∧ Hid (CabOwn wr w.heap.size v ds') ∧ Hid (ds'.map (·.ps) = ((ds.take k).map (·.ps)).map (·.filter (fromDay x))) ∧ Below w.heap.size w wr) (fun _ i _ => n - (intOf i).toNat)
    case atStart => exact ⟨0, [], Nat.zero_le _, rfl, rfl, HC0, Lib.hid (by simp), hal⟩
    case round =>
      obtain ⟨k, ds', hk, rfl, hdl, hO, hM, hb⟩ := hrel
      have HDL := Lib.hid hdl
      have hz := hb.size
      by_cases hlt : k < n
      · have hV := Lib.hid (HV.out _ hb)
        go_wp2_with fail
        refine hV.out.mono ?_
        rintro e w1 ⟨rfl, hb1⟩
        have b1 := hb.trans (hb1.mono hb.size)
        have HO1 := Lib.hid (hO.out.keep hb1)
        have hkl : k < ds.length := by rw [HL.out]; exact hlt
        obtain ⟨b, off, eA, hbB, c0w, hP⟩ := H.out.at_ hlt
        have hlo := (HC.out.2.1 _ (List.mem_map_of_mem (drAt_mem hkl))).2
        rw [hP.1] at hlo
        have HT : Hid (((ds.take (k + 1)).map (·.ps)).map (·.filter (fromDay x)) = ((ds.take k).map (·.ps)).map (·.filter (fromDay x)) ++ [(drAt ds k).ps.filter (fromDay x)]) := Lib.hid (by rw [take_step (drAt_some hkl)]; simp)
        have HPS := Lib.hid hP.1
        have HGd := Lib.hid hP.2.2.2.2
        have HP := Lib.hid hP
        have hcm2 := hP.2.2.1; have hnc2 := hP.2.1
        unfold maxLen at hcm2
        have c01 : (w1.alloc (.cells #[] 49)).cell? ⟨b, off + k, none⟩ = some (.slice (drAt ds k).A (drAt ds k).n (drAt ds k).c) := Lib.cell?_alloc_some _ ((b1.cell (p := ⟨b, off + k, none⟩) hbB).trans c0w)
        subst eA
        clear hb1 hV hP hkl hO hb hz hdl
        generalize drAt ds k = d at *
        have hzw := b1.size
        have hdl' : ds'.length ≤ n := by have := HDL.out; omega
        go_wp2
        go_loopw [8, 9] (fun v i wr => ∃ j : Nat, j ≤ d.n ∧ i = .int .i64 j ∧ Hid (PadsOwn wr w1.heap.size v ((d.ps.take j).filter (fromDay x))) ∧ Below w1.heap.size w1 wr) (fun _ i _ => d.n - (intOf i).toNat)
        case atStart => exact ⟨0, Nat.zero_le _, rfl, Lib.hid (by simpa using (show PadsOwn _ _ _ [] from World.ownsRow_made w1 #[] 0 (Nat.le_refl _) (by simp) (by simp))), (Below.refl _ _).alloc (Nat.le_refl _) _⟩
        case round =>
          obtain ⟨j, hjn, rfl, hPo, hbr⟩ := hrel
          have br : Below w.heap.size w wr := b1.trans (hbr.mono hzw)
          have hzr := hbr.size
          have c0r : wr.cell? ⟨b, off + k, none⟩ = some (.slice d.A d.n d.c) := (br.cell (p := ⟨b, off + k, none⟩) hbB).trans c0w
          by_cases hlj : j < d.n
          · obtain ⟨b2, off2, eA2, hbB2, x0, x1, hg⟩ := (HP.out.below br).at_ hlj
            have hjl : j < d.ps.length := by rw [HPS.out]; exact hlj
            rw [eA2] at c0r
            have hln : ((d.ps.take j).filter (fromDay x)).length ≤ 4 := Nat.le_trans (List.length_filter_le _ _) (by rw [List.length_take]; omega)
            cases he : fromDay x (padAt d.ps j) with
            | true =>
              have HS : Hid ((d.ps.take (j + 1)).filter (fromDay x) = (d.ps.take j).filter (fromDay x) ++ [padAt d.ps j]) := Lib.hid (by rw [take_step (padAt_some hjl), List.filter_append]; simp [he])
              have hge : x ≤ (padAt d.ps j).day := of_decide_eq_true he
              clear he hjl eA2 hg
              generalize padAt d.ps j = q at *
              generalize (d.ps.take j).filter (fromDay x) = D at *
              go_wp2_with (at_builtin; refine wpList_append_any _ rfl (.tmp 41) (.tmp 49) _ rfl w1.heap.size 49 i0 _ 2 24 Try.underlying35 hi hz0 hz1 hz2 rfl (by omega) _ D.length (D.flatMap padC) rfl (hPo.out.alloc _) (wr.heap.size + 1) (some ⟨wr.heap.size, 0, none⟩) 1 1 [.int .i64 q.day, .string q.case] rfl (rowNewPad _ _ _ _) (by simp [Value.oneCell']) (by unfold maxLen; omega) (by omega) (by simp; omega) ?_; intro v2 w2 hown2 hg2 hat2)
              have HP2 : Hid (PadsOwn w2 w1.heap.size v2 ((d.ps.take (j + 1)).filter (fromDay x))) := Lib.hid (by rw [HS.out]; unfold PadsOwn; rw [List.length_append, List.flatMap_append]; exact hown2)
              have b2' := (hbr.alloc hzr (.cells #[.int .i64 q.day, .string q.case] 49)).grown hg2 (by simp; omega) (fun z hz => own_base hPo.out hz)
              clear hown2 hg2 hat2
              go_wp2
              go_roundw
              case rel => exact ⟨j + 1, by omega, by go_num, HP2, b2'⟩
              case measure => simp [intOf]; omega
            | false =>
              have HP2 : Hid (PadsOwn wr w1.heap.size _ ((d.ps.take (j + 1)).filter (fromDay x))) := Lib.hid (by rw [take_step (padAt_some hjl), List.filter_append]; simpa [he] using hPo.out)
              have hge : (padAt d.ps j).day < x := by have := of_decide_eq_false he; omega
              clear he hjl eA2 hg
              generalize padAt d.ps j = q at *
              go_wp2
              go_roundw
              case rel => exact ⟨j + 1, by omega, by go_num, HP2, hbr⟩
              case measure => simp [intOf]; omega
          · obtain rfl : j = d.n := by omega
            have hfull : d.ps.take d.n = d.ps := List.take_of_length_le (by rw [HPS.out]; exact Nat.le_refl _)
            rw [hfull] at hPo
            obtain ⟨Av, cv, ev, hcv, hmv⟩ := own_form hPo.out
            subst ev
            have HOr := Lib.hid (HO1.out.keep hbr)
            have HPo := Lib.hid hPo.out
            clear hfull hPo
            generalize hD : d.ps.filter (fromDay x) = D at *
            have HD := Lib.hid hD; clear hD
            go_wp2_with (at_builtin; refine wpList_append_any _ rfl (.tmp 51) (.tmp 53) _ rfl w.heap.size 35 i1 _ 1 24 Try.underlying24 hj hy0 hy1 hy2 rfl (by omega) _ ds'.length (ds'.flatMap drawerC) rfl (HOr.out.1.alloc _) (wr.heap.size + 1) (some ⟨wr.heap.size, 0, none⟩) 1 1 [.slice Av D.length cv] rfl cabRow1 (by simp [Value.oneCell']) (by unfold maxLen; omega) (by omega) (by simp; omega) ?_; intro v3 w3 hown3 hg3 hat3)
            have hpush := newPush hzw HO1.out hbr (by have h := HPo.out; unfold PadsOwn at h; exact h) rfl (fun p hp => by
              have hp2 : p ∈ d.ps.filter (fromDay x) := by rw [HD.out]; exact hp
              exact HGd.out p (List.mem_filter.1 hp2).1) hg3 hown3
            have HC3 := Lib.hid hpush.1
            have b3 := b1.trans hpush.2
            have HM3 : Hid ((ds' ++ [(⟨Av, D.length, cv, D⟩ : Drawer)]).map (·.ps) = ((ds.take (k + 1)).map (·.ps)).map (·.filter (fromDay x))) := Lib.hid (by rw [HT.out, ← hM.out, List.map_append]; rfl)
            clear hpush hown3 hg3 hat3
            go_wp2
            go_roundw
            case rel => exact ⟨k + 1, _, by omega, by go_num, by rw [List.length_append, HDL.out]; rfl, HC3, HM3, b3⟩
            case measure => simp [intOf]; omega
      · obtain rfl : k = n := by omega
        clear hdl
        have hdl' : ds'.length ≤ k := by have := HDL.out; omega
        have hkn : ds.take k = ds := List.take_of_length_le (by have := HL.out; omega)
        rw [hkn] at hM
        obtain ⟨Av, cv, ev, hcv, hmv⟩ := hO.out.form
        subst ev
        have hdn : ∀ d ∈ ds', d.n ≤ 1048576 := fun d hd => by
          have h1 := (hO.out.2.1 d hd).1
          have h2 : d.ps ∈ ((ds.map (·.ps)).map (·.filter (fromDay x))) := by rw [← hM.out]; exact List.mem_map_of_mem hd
          obtain ⟨c1, hc1, e1⟩ := List.mem_map.1 h2
          have h3 := (HC.out.2.1 c1 hc1).2
          have h4 : d.ps.length ≤ c1.length := by rw [← e1]; exact List.length_filter_le _ _
          omega
        have HCp := Lib.hid (l8Copy Av ds'.length cv ds' wr (by omega) hdn (hO.out.reads rfl))
        have HM := Lib.hid hM.out
        clear hkn hM hdn
        go_wp2_with fail
        refine HCp.out.mono ?_
        rintro e w2 ⟨⟨A2, c2, d2, rfl, hO2, hM2⟩, hb2⟩
        have b2 := hb.trans (hb2.mono hz)
        have HO2 := Lib.hid (hO2.mono hz)
        have hV2 := Lib.hid (HV.out _ b2)
        have HF : Hid (thinO (fromDay x) (ds.map (·.ps)) = some (d2.map (·.ps))) := Lib.hid (by rw [HN.out, hM2, HM.out]; rfl)
        clear hO2 hM2
        go_wp2_with fail
        refine hV2.out.mono ?_
        rintro e w3 ⟨rfl, hb3⟩
        have b3 := b2.trans (hb3.mono b2.size)
        have HO3 := Lib.hid (HO2.out.keep hb3)
        go_wp2
        go_returns
        exact ⟨.yes HF.out rfl HO3.out, b3⟩
end Go.Proofs.Ytfbfapobmhfenaa
