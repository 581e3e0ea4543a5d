/-
  The text of a cabinet, of the reference. Conditions: the drawers hold no more than a law lets by.
-/
import Derived.Test.YtlphefpgnfogfaaDoorTextLaw
import Derived.Test.YtlphefpgnfogfaaDoorCabA
import Derived.Test.YtlphefpgnfogfaaDoorDecN
import Derived.Test.YtlphefpgnfogfaaDoorTreeB
namespace Go.Proofs.YtlphefpgnfogfaaDoor
open Go.ChangeShapes Go.WideShapes Go.ChangeAt Go.RowKit
set_option maxRecDepth 100000
set_option linter.unusedSimpArgs false

theorem ret_bytes2 {a b : List UInt8} (h : a = b) : Ending.returned (.string (mkStr a)) = .returned (.string (mkStr b)) := by rw [h]
theorem cabTxt_step2 {css : List (List Pad)} {k : Nat} {ps : List Pad} (h : css[k]? = some ps) : cabTxt (css.take (k + 1)) = cabTxt (css.take k) ++ drawT ps ++ [10] := by
  rw [take_step h, cabTxt_app]; unfold cabTxt; simp
theorem cabTxt_bd2 {css : List (List Pad)} (h : cabOK css) (k : Nat) : (cabTxt (css.take k)).length ≤ 822 := by
  have h1 := cabTxt_len (css := css.take k) (fun ps hps => cab_all h ps (List.mem_of_mem_take hps))
  have h2 := h.1
  rw [List.length_take] at h1
  have : min k css.length ≤ 6 := by omega
  omega
theorem dec_len20' (d : Int) (h0 : 0 ≤ d) (h1 : d ≤ 9999) : (Lib.decDigits d.toNat).length ≤ 20 := by
  rw [Lib.decDigits_length]
  exact Lib.nDigits_le20 _ (by omega)
theorem l6DecDay (d : Int) (w : World) (h0 : 0 ≤ d) (h1 : d ≤ 9999) : Calls Tryd.prog 15 #[.int .i64 d] w fun e w' => e = .returned (.string (mkStr (Lib.decDigits d.toNat))) ∧ Below w.heap.size w w' := by
  obtain ⟨n, rfl⟩ := Int.eq_ofNat_of_zero_le h0
  exact l6DecNat n w (by omega)
set_option maxHeartbeats 3200000 in
theorem specCabinetText (A : Option Addr) (n c : Nat) (ds : List Drawer) (w : World) (hsz : cabSz ds ≤ 1048576) (h : DrawersIn w w.heap.size A n c ds) :
    Calls Tryd.prog 6 #[.slice A n c] w fun e w' => e = .returned (.string (mkStr (cabText (ds.map (·.ps))))) ∧ Below w.heap.size w w' := by
  have hm := h.2.2.1; have hnc := h.2.1
  unfold maxLen at hm
  have HL := Lib.hid h.1
  have H := Lib.hid h; clear h
  have HV : Hid (∀ W, Below w.heap.size w W → Calls Tryd.prog 14 #[.slice A n c] W fun e w' => e = .returned (.bool (cabB (ds.map (·.ps)))) ∧ Below W.heap.size W w') := Lib.hid (fun W hW => specCabinetValid A n c ds W hsz (H.out.keep hW))
  cases hv : cabB (ds.map (·.ps)) with
  | false =>
    have HR := Lib.hid (cabText_no hv)
    rw [hv] at HV
    clear hv
    go_enter Tryd.func6, Tryd.ntmps6
    go_wp2_with fail
    refine wp_loop_rounds 1 ?_
    rw [rounds_succ]
    by_cases h0 : 0 < n
    · go_wp2_with fail
      refine (HV.out w (Below.refl _ _)).mono ?_
      rintro e w1 ⟨rfl, b1⟩
      go_wp2
      go_returns
      exact ⟨ret_bytes2 (a := []) HR.out.symm, b1⟩
    · obtain rfl : n = 0 := by omega
      go_wp2
      go_returns
      exact ⟨ret_bytes2 (a := []) HR.out.symm, Below.refl _ _⟩
  | true =>
    have HR := Lib.hid (cabText_yes hv)
    have HOk := Lib.hid (cabB_iff.1 hv)
    have h6 : n ≤ 6 := by have := HOk.out.1; rw [List.length_map] at this; have := HL.out; omega
    rw [hv] at HV
    clear hv
    go_enter Tryd.func6, Tryd.ntmps6
    go_wp2
    go_loopw [3, 4] (fun v i wr => ∃ k : Nat, k ≤ n ∧ i = .int .i64 k ∧ v = .string (mkStr (cabTxt ((ds.map (·.ps)).take k))) ∧ Below w.heap.size w wr) (fun _ i _ => n - (intOf i).toNat)
    case atStart => exact ⟨0, Nat.zero_le _, rfl, rfl, Below.refl _ _⟩
    case round =>
      obtain ⟨k, hk, rfl, rfl, hb⟩ := hrel
      by_cases hlt : k < n
      · have hkl : k < ds.length := by have := HL.out; omega
        have hcs : (ds.map (·.ps))[k]? = some (drAt ds k).ps := by rw [List.getElem?_map, drAt_some hkl]; rfl
        have hall := cab_all HOk.out (drAt ds k).ps (List.mem_of_getElem? hcs)
        have HSt := Lib.hid (cabTxt_step2 hcs)
        have hbd := cabTxt_bd2 HOk.out k
        have HAl := Lib.hid hall
        have h4 := hall.2
        have HDr : Hid (∀ W, Below w.heap.size w W → ∃ b off, A = some ⟨b, off, none⟩ ∧ b < w.heap.size ∧ W.cell? ⟨b, off + k, none⟩ = some (.slice (drAt ds k).A (drAt ds k).n (drAt ds k).c) ∧ PadsIn W W.heap.size (drAt ds k).A (drAt ds k).n (drAt ds k).c (drAt ds k).ps) := Lib.hid (fun W hW => by
          obtain ⟨b, off, eA, hbB, c0, hP⟩ := H.out.at_ hlt
          obtain ⟨b', off', eA', _, c0', hP'⟩ := (H.out.keep hW).at_ hlt
          rw [eA] at eA'
          injection eA' with e1; injection e1 with e1 e2 _; subst e1 e2
          exact ⟨b, off, eA, hbB, c0', hP'⟩)
        have hdn : (drAt ds k).ps.length = (drAt ds k).n := by obtain ⟨_, _, _, _, _, hP⟩ := H.out.at_ hlt; exact hP.1
        have hT10 : ∀ W', (Op.stringOp .add (mkStr (cabTxt ((ds.map (·.ps)).take k) ++ drawT (drAt ds k).ps)) { data := #[10] }).run Tryd.prog W' = .ok (.string (mkStr (cabTxt ((ds.map (·.ps)).take (k + 1))))) W' := fun W' => by
          rw [HSt.out]
          exact run_add _ [10] (by have := drawT_len hall.1; rw [List.length_append, List.length_singleton]; omega) W'
        have HDn := Lib.hid hdn
        obtain ⟨b, off, eA, hbB, c0, _⟩ := HDr.out w (Below.refl _ _)
        have HT10 := Lib.hid hT10
        clear hkl hcs hall hT10 hdn c0
        subst eA
        have HVk := Lib.hid (HV.out wr hb)
        generalize hX : cabTxt ((ds.map (·.ps)).take k) = X at *
        clear hX
        go_wp2_with fail
        refine HVk.out.mono ?_
        rintro e w1 ⟨rfl, hb1⟩
        have b1 := hb.trans (hb1.mono hb.size)
        clear hb1 HVk
        go_wp2
        go_loopw [3, 5] (fun v j wr2 => ∃ q : Nat, q ≤ (drAt ds k).n ∧ j = .int .i64 q ∧ v = .string (mkStr (X ++ drawK (drAt ds k).ps q)) ∧ Below w.heap.size w wr2) (fun _ j _ => (drAt ds k).n - (intOf j).toNat)
        case atStart => exact ⟨0, Nat.zero_le _, rfl, by rw [drawK_zero, List.append_nil], b1⟩
        case round =>
          obtain ⟨q, hq, rfl, rfl, hb2⟩ := hrel
          obtain ⟨b', off', eA', _, c0, hP⟩ := HDr.out _ hb2
          injection eA' with e1; injection e1 with e1 e2 _; subst e1 e2
          have hdm := hP.2.2.1; have hdc := hP.2.1
          unfold maxLen at hdm
          by_cases hlq : q < (drAt ds k).n
          · have hql : q < (drAt ds k).ps.length := by rw [HDn.out]; exact hlq
            obtain ⟨b2, off2, eA2, _, d0, d1, _⟩ := hP.at_ hlq
            have hpo := HAl.out.1 _ (padAt_mem hql)
            obtain ⟨hd0, hd1, hcl⟩ := ok_case hpo
            have HDe := Lib.hid (fun W => l6DecDay (padAt (drAt ds k).ps q).day W hd0 hd1)
            have hdl := dec_len20' (padAt (drAt ds k).ps q).day hd0 hd1
            have hkl2 := drawK_len HAl.out.1 q
            have h44 : (drAt ds k).ps.length ≤ 4 := h4
            by_cases hq0 : q = 0
            · subst hq0
              have HN : Hid (X ++ drawK (drAt ds k).ps 0 ++ Lib.decDigits (padAt (drAt ds k).ps 0).day.toNat ++ [58] ++ (padAt (drAt ds k).ps 0).case.data.toList = X ++ drawK (drAt ds k).ps (0 + 1)) := Lib.hid (by
                rw [drawK_zero, drawK_first hql]; unfold dayT; simp [List.append_assoc])
              simp only [Nat.zero_mul, Nat.add_zero] at d0 d1
              have hadd1 : ∀ W', (Op.stringOp .add (mkStr (X ++ drawK (drAt ds k).ps 0)) (mkStr (Lib.decDigits (padAt (drAt ds k).ps 0).day.toNat))).run Tryd.prog W' = .ok (.string (mkStr (X ++ drawK (drAt ds k).ps 0 ++ Lib.decDigits (padAt (drAt ds k).ps 0).day.toNat))) W' := fun W' => run_add _ _ (by simp only [List.length_append, List.length_singleton]; omega) W'
              have hadd2 : ∀ W', (Op.stringOp .add (mkStr (X ++ drawK (drAt ds k).ps 0 ++ Lib.decDigits (padAt (drAt ds k).ps 0).day.toNat)) { data := #[58] }).run Tryd.prog W' = .ok (.string (mkStr (X ++ drawK (drAt ds k).ps 0 ++ Lib.decDigits (padAt (drAt ds k).ps 0).day.toNat ++ [58]))) W' := fun W' => run_add _ [58] (by simp only [List.length_append, List.length_singleton]; omega) W'
              have hadd3 : ∀ W', (Op.stringOp .add (mkStr (X ++ drawK (drAt ds k).ps 0 ++ Lib.decDigits (padAt (drAt ds k).ps 0).day.toNat ++ [58])) (padAt (drAt ds k).ps 0).case).run Tryd.prog W' = .ok (.string (mkStr (X ++ drawK (drAt ds k).ps (0 + 1)))) W' := fun W' => by
                have h := run_add (P := Tryd.prog) (X ++ drawK (drAt ds k).ps 0 ++ Lib.decDigits (padAt (drAt ds k).ps 0).day.toNat ++ [58]) (padAt (drAt ds k).ps 0).case.data.toList (by simp only [List.length_append, List.length_singleton]; omega) W'
                rw [mkStr_self, HN.out] at h
                exact h
              have hi1 : (0 : Int) ≤ (k : Int) := by omega
              have hi2 : (k : Int) < (n : Int) := by omega
              have hi4 : (0 : Int) < ((drAt ds k).n : Int) := by omega
              rw [eA2] at c0
              have r0 := qcell c0; have r1 := qcell d0; have r2 := qcell d1
              clear hP hpo hcl hdl hkl2 h44 hql HN eA2
              generalize hs4 : mkStr (X ++ drawK (drAt ds k).ps (0 + 1)) = s4 at *
              have HS4 := Lib.hid hs4
              clear hs4
              generalize mkStr (X ++ drawK (drAt ds k).ps 0 ++ Lib.decDigits (padAt (drAt ds k).ps 0).day.toNat ++ [58]) = s3 at *
              generalize mkStr (X ++ drawK (drAt ds k).ps 0 ++ Lib.decDigits (padAt (drAt ds k).ps 0).day.toNat) = s2 at *
              generalize mkStr (Lib.decDigits (padAt (drAt ds k).ps 0).day.toNat) = sd at *
              generalize mkStr (X ++ drawK (drAt ds k).ps 0) = s1 at *
              generalize padAt (drAt ds k).ps 0 = p at *
              go_wp2_with fail
              refine region_qb (by kernel_rfl) (by kernel_rfl) ?_
              repeat (first | go_big_quiet_step ((go_at_call 15; exact quietB (HDe.out _))) | quiet_step ((go_at_call 15; exact quietB (HDe.out _))))
              refine wpQuiet_nil ?_
              intro w3 hb3
              have b3 := hb2.trans (hb3.mono hb2.size)
              clear r0 r1 r2 c0 d0 d1 hb3
              go_wp2
              go_roundw
              case rel => exact ⟨0 + 1, by omega, by go_num, by rw [HS4.out], b3⟩
              case measure => simp [intOf]; omega
            · have hqp : 0 < q := by omega
              have hadd0 : ∀ W', (Op.stringOp .add (mkStr (X ++ drawK (drAt ds k).ps q)) { data := #[32] }).run Tryd.prog W' = .ok (.string (mkStr (X ++ drawK (drAt ds k).ps q ++ [32]))) W' := fun W' => run_add _ [32] (by rw [List.length_append, List.length_singleton]; omega) W'
              have HN : Hid (X ++ drawK (drAt ds k).ps q ++ [32] ++ Lib.decDigits (padAt (drAt ds k).ps q).day.toNat ++ [58] ++ (padAt (drAt ds k).ps q).case.data.toList = X ++ drawK (drAt ds k).ps (q + 1)) := Lib.hid (by
                rw [drawK_step hql hqp]; unfold dayT; simp [List.append_assoc])
              have hadd1 : ∀ W', (Op.stringOp .add (mkStr (X ++ drawK (drAt ds k).ps q ++ [32])) (mkStr (Lib.decDigits (padAt (drAt ds k).ps q).day.toNat))).run Tryd.prog W' = .ok (.string (mkStr (X ++ drawK (drAt ds k).ps q ++ [32] ++ Lib.decDigits (padAt (drAt ds k).ps q).day.toNat))) W' := fun W' => run_add _ _ (by simp only [List.length_append, List.length_singleton]; omega) W'
              have hadd2 : ∀ W', (Op.stringOp .add (mkStr (X ++ drawK (drAt ds k).ps q ++ [32] ++ Lib.decDigits (padAt (drAt ds k).ps q).day.toNat)) { data := #[58] }).run Tryd.prog W' = .ok (.string (mkStr (X ++ drawK (drAt ds k).ps q ++ [32] ++ Lib.decDigits (padAt (drAt ds k).ps q).day.toNat ++ [58]))) W' := fun W' => run_add _ [58] (by simp only [List.length_append, List.length_singleton]; omega) W'
              have hadd3 : ∀ W', (Op.stringOp .add (mkStr (X ++ drawK (drAt ds k).ps q ++ [32] ++ Lib.decDigits (padAt (drAt ds k).ps q).day.toNat ++ [58])) (padAt (drAt ds k).ps q).case).run Tryd.prog W' = .ok (.string (mkStr (X ++ drawK (drAt ds k).ps (q + 1)))) W' := fun W' => by
                have h := run_add (P := Tryd.prog) (X ++ drawK (drAt ds k).ps q ++ [32] ++ Lib.decDigits (padAt (drAt ds k).ps q).day.toNat ++ [58]) (padAt (drAt ds k).ps q).case.data.toList (by simp only [List.length_append, List.length_singleton]; omega) W'
                rw [mkStr_self, HN.out] at h
                exact h
              have hi1 : (0 : Int) ≤ (k : Int) := by omega
              have hi2 : (k : Int) < (n : Int) := by omega
              have hi3 : (0 : Int) ≤ (q : Int) := by omega
              have hi4 : (q : Int) < ((drAt ds k).n : Int) := by omega
              rw [eA2] at c0
              have r0 := qcell c0; have r1 := qcell d0; have r2 := qcell d1
              clear hP hpo hcl hdl hkl2 h44 hql HN eA2
              generalize hs4 : mkStr (X ++ drawK (drAt ds k).ps (q + 1)) = s4 at *
              have HS4 := Lib.hid hs4
              clear hs4
              generalize mkStr (X ++ drawK (drAt ds k).ps q ++ [32] ++ Lib.decDigits (padAt (drAt ds k).ps q).day.toNat ++ [58]) = s3 at *
              generalize mkStr (X ++ drawK (drAt ds k).ps q ++ [32] ++ Lib.decDigits (padAt (drAt ds k).ps q).day.toNat) = s2 at *
              generalize mkStr (Lib.decDigits (padAt (drAt ds k).ps q).day.toNat) = sd at *
              generalize mkStr (X ++ drawK (drAt ds k).ps q ++ [32]) = s1 at *
              generalize mkStr (X ++ drawK (drAt ds k).ps q) = s0 at *
              generalize padAt (drAt ds k).ps q = p at *
              go_wp2_with fail
              refine region_qb (by kernel_rfl) (by kernel_rfl) ?_
              repeat (first | go_big_quiet_step ((go_at_call 15; exact quietB (HDe.out _))) | quiet_step ((go_at_call 15; exact quietB (HDe.out _))))
              refine wpQuiet_nil ?_
              intro w3 hb3
              have b3 := hb2.trans (hb3.mono hb2.size)
              clear r0 r1 r2 c0 d0 d1 hb3
              go_wp2
              go_roundw
              case rel => exact ⟨q + 1, by omega, by go_num, by rw [HS4.out], b3⟩
              case measure => simp [intOf]; omega
          · have hqe : drawK (drAt ds k).ps q = drawT (drAt ds k).ps := drawK_all (by rw [HDn.out]; omega)
            rw [hqe]
            have hT10 := HT10.out
            clear hP hqe
            generalize mkStr (X ++ drawT (drAt ds k).ps) = t1 at *
            generalize hT2 : mkStr (cabTxt ((ds.map (·.ps)).take (k + 1))) = t2 at *
            have HT2 := Lib.hid hT2
            clear hT2
            go_wp2
            go_roundw
            case rel => exact ⟨k + 1, by omega, by go_num, by rw [HT2.out], hb2⟩
            case measure => simp [intOf]; omega
      · have e2 : (ds.map (·.ps)).take k = ds.map (·.ps) := List.take_of_length_le (by rw [List.length_map, HL.out]; omega)
        rw [e2]
        go_wp2
        go_returns
        exact ⟨ret_bytes2 HR.out.symm, hb⟩
end Go.Proofs.YtlphefpgnfogfaaDoor
