/-
  The reference's CabinetValid says whether a list is a cabinet. Conditions: the drawers hold no more than a law lets by.
-/
import Derived.Test.YtbeaandjhlpaeaaCab4
import Derived.Test.YtbeaandjhlpaeaaCabDef
import Derived.BigQuiet
namespace Go.Proofs.Ytbeaandjhlpaeaa
open Go.ChangeShapes Go.WideShapes Go.ChangeAt Go.RowKit
set_option maxRecDepth 100000

theorem allPads_flat (ds : List Drawer) : (ds.map (·.ps)).flatten = allPads ds := by unfold allPads; rw [List.flatMap_def]
theorem allPads_good {w : World} {B n c : Nat} {A : Option Addr} {ds : List Drawer} (h : DrawersIn w B A n c ds) : ∀ p ∈ allPads ds, p.good := by
  intro p hp
  obtain ⟨d, hd, hp⟩ := List.mem_flatMap.1 hp
  exact (h.2.2.2.2 d hd).2.2.2.2 p hp

theorem specCabinetValid (A : Option Addr) (n c : Nat) (ds : List Drawer) (w : World) (hsz : cabSz ds ≤ 1048576) (h : DrawersIn w w.heap.size A n c ds) :
    Calls Try.prog 23 #[.slice A n c] w fun e w' => e = .returned (.bool (cabB (ds.map (·.ps)))) ∧ Below w.heap.size w w' := by
  have hm := h.2.2.1; have hnc := h.2.1
  have HL : Hid (ds.length = n) := Lib.hid h.1
  unfold maxLen at hm
  have H := Lib.hid h; clear h
  go_enter Try.func23, Try.ntmps23
  go_wp2
  go_loopw [3] (fun i wr => ∃ (k : Nat), k ≤ n ∧ i = .int .i64 k ∧ Hid (∀ d ∈ ds.take k, lenOK d.ps) ∧ Below w.heap.size w wr) (fun i _ => n - (intOf i).toNat)
  case atStart => exact ⟨0, Nat.zero_le _, rfl, Lib.hid (by simp), Below.refl _ _⟩
  case round =>
    obtain ⟨k, hk, rfl, hO, hb⟩ := hrel
    by_cases hlt : k < n
    · obtain ⟨b, off, eA, hbB, c0, hP⟩ := (H.out.below hb).at_ hlt
      have hkl : k < ds.length := by have := HL.out; omega
      have hs := drAt_some hkl
      subst eA
      have hdl := hP.1
      by_cases hok : 1 ≤ (drAt ds k).n ∧ (drAt ds k).n ≤ 4
      · have HO1 : Hid (∀ d ∈ ds.take (k + 1), lenOK d.ps) := Lib.hid (by
          rw [take_step hs]
          intro d hd
          rcases List.mem_append.1 hd with h | h
          · exact hO.out d h
          · simp at h; subst h; unfold lenOK; omega)
        obtain ⟨hok1, hok2⟩ := hok
        have hD := Lib.hid (decide_eq_true (show (1 : Int) ≤ ((drAt ds k).n : Int) ∧ ((drAt ds k).n : Int) ≤ 4 by omega))
        clear hkl hP hs hdl
        generalize drAt ds k = d at *
        go_wp2_with fail
        refine (l6In_any _ _ _ _).mono ?_; rintro e w' ⟨rfl, rfl⟩; rw [hD.out]
        go_wp2
        go_roundw
        case rel => exact ⟨k + 1, by omega, by go_num, HO1, hb⟩
        case measure => simp [intOf]; omega
      · have HNo : Hid (cabB (ds.map (·.ps)) = false) := Lib.hid (cabB_no (fun h => by
          have := h.2.1 (drAt ds k).ps (List.mem_map_of_mem (drAt_mem hkl))
          unfold lenOK at this; omega))
        have hD := Lib.hid (decide_eq_false (show ¬ ((1 : Int) ≤ ((drAt ds k).n : Int) ∧ ((drAt ds k).n : Int) ≤ 4) by omega))
        clear hkl hP hs hdl hok
        generalize drAt ds k = d at *
        go_wp2_with fail
        refine (l6In_any _ _ _ _).mono ?_; rintro e w' ⟨rfl, rfl⟩; rw [hD.out]
        go_wp2
        go_ret
        exact ⟨ret_bool HNo.out.symm, hb⟩
    · have hkn : ds.take k = ds := List.take_of_length_le (by have := HL.out; omega)
      rw [hkn] at hO
      clear hkn
      have hLt : (allPads ds).length ≤ 1048576 := by have := allPads_len ds; omega
      go_wp2_with fail
      refine (l8Pads A n c ds wr hsz ((H.out.below hb).more hb.size)).mono ?_
      rintro e w1 ⟨A', c', rfl, hown, hb1⟩
      have b1 := hb.trans (hb1.mono hb.size)
      have HQ := Lib.hid (hown.reads rfl (allPads_good H.out))
      generalize hap : allPads ds = ps at *
      have HAP := Lib.hid hap; clear hap hown hb1
      have hc' := HQ.out.2.2.1; have hpc' := HQ.out.2.1
      unfold maxLen at hc'
      go_wp2
      go_loopw [5] (fun i wq => ∃ (k : Nat), k ≤ ps.length ∧ i = .int .i64 k ∧ Hid (∀ j, j < k → goodAt ps j) ∧ Below w1.heap.size w1 wq) (fun i _ => ps.length - (intOf i).toNat)
      case atStart => exact ⟨0, Nat.zero_le _, rfl, Lib.hid (fun j hj => absurd hj (by omega)), Below.refl _ _⟩
      case round =>
        obtain ⟨q, hq, rfl, hG, hbq⟩ := hrel
        have b2 := b1.trans (hbq.mono b1.size)
        by_cases hlq : q < ps.length
        · obtain ⟨b, off, eA, hbB, c0, c1, hg⟩ := (HQ.out.below hbq).at_ hlq
          subst eA
          by_cases hv : okP (padAt ps q) = true
          · have cv : ∀ W, Calls Try.prog 16 #[.agg #[.int .i64 (padAt ps q).day, .string (padAt ps q).case]] W fun e w' => e = .returned (.bool true) ∧ Below W.heap.size W w' := fun W => by
              have := specPadValid (padAt ps q).day (padAt ps q).case W hg.2
              rwa [show padB (padAt ps q).day (padAt ps q).case.data.toList = true from hv] at this
            have CV := Lib.hid cv; clear cv
            rcases q with _ | j
            · simp only [Nat.zero_mul, Nat.add_zero] at c0 c1
              have HG1 : Hid (∀ j, j < 0 + 1 → goodAt ps j) := Lib.hid (fun j hj => by
                obtain rfl : j = 0 := by omega
                exact ⟨hv, fun h => absurd h (by omega)⟩)
              clear hv
              generalize padAt ps 0 = p at *
              have r0 := qcell c0; have r1 := qcell c1
              go_wp2_with fail
              refine region_qb (by kernel_rfl) (by kernel_rfl) ?_
              repeat (first | go_big_quiet_step ((go_at_call 16; exact quietB (CV.out _))) | quiet_step ((go_at_call 16; exact quietB (CV.out _))))
              refine wpQuiet_nil ?_
              intro w3 hb3
              have b3 := hbq.trans (hb3.mono hbq.size)
              clear r0 r1 c0 c1 hb3
              go_wp2
              go_roundw
              case rel => exact ⟨1, by omega, by go_num, HG1, b3⟩
              case measure => simp [intOf]; omega
            · obtain ⟨b', off', eA', hbB', c0', c1', hg'⟩ := (HQ.out.below hbq).at_ (show j < ps.length by omega)
              injection eA' with eA'; injection eA' with e1 e2; subst e1 e2
              by_cases ho : ordPad (padAt ps j) (padAt ps (j + 1)) < 0
              · have HG1 : Hid (∀ i, i < j + 1 + 1 → goodAt ps i) := Lib.hid (fun i hi => by
                  by_cases hij : i < j + 1
                  · exact hG.out i hij
                  · obtain rfl : i = j + 1 := by omega
                    exact ⟨hv, fun _ => ho⟩)
                have co : ∀ W, Calls Try.prog 52 #[.agg #[.int .i64 (padAt ps j).day, .string (padAt ps j).case], .agg #[.int .i64 (padAt ps (j + 1)).day, .string (padAt ps (j + 1)).case]] W fun e w' => e = .returned (.int .i64 (ordPad (padAt ps j) (padAt ps (j + 1)))) ∧ Below W.heap.size W w' := fun W => l8Order _ _ _ _ W
                have CO := Lib.hid co; clear co hv
                generalize ordPad (padAt ps j) (padAt ps (j + 1)) = o at *
                generalize padAt ps j = p at *
                generalize padAt ps (j + 1) = p' at *
                have r0 := qcell c0; have r1 := qcell c1; have r0' := qcell c0'; have r1' := qcell c1'
                go_wp2_with fail
                refine region_qb (by kernel_rfl) (by kernel_rfl) ?_
                repeat (first | go_big_quiet_step ((first | (go_at_call 16; exact quietB (CV.out _)) | (go_at_call 52; exact quietB (CO.out _)))) | quiet_step ((first | (go_at_call 16; exact quietB (CV.out _)) | (go_at_call 52; exact quietB (CO.out _)))))
                refine wpQuiet_nil ?_
                intro w3 hb3
                have b3 := hbq.trans (hb3.mono hbq.size)
                clear r0 r1 c0 c1 hb3 r0' r1' c0' c1'
                go_wp2
                go_roundw
                case rel => exact ⟨j + 1 + 1, by omega, by go_num, HG1, b3⟩
                case measure => simp [intOf]; omega
              · have HNo : Hid (cabB (ds.map (·.ps)) = false) := Lib.hid (cabB_no (fun h => by
                  have := (h.2.2 (j + 1) (by rw [allPads_flat, HAP.out]; exact hlq)).2 (by omega)
                  rw [allPads_flat, HAP.out] at this
                  exact ho this))
                have ho' : 0 ≤ ordPad (padAt ps j) (padAt ps (j + 1)) := by omega
                have co : ∀ W, Calls Try.prog 52 #[.agg #[.int .i64 (padAt ps j).day, .string (padAt ps j).case], .agg #[.int .i64 (padAt ps (j + 1)).day, .string (padAt ps (j + 1)).case]] W fun e w' => e = .returned (.int .i64 (ordPad (padAt ps j) (padAt ps (j + 1)))) ∧ Below W.heap.size W w' := fun W => l8Order _ _ _ _ W
                have CO := Lib.hid co; clear co hv ho
                generalize ordPad (padAt ps j) (padAt ps (j + 1)) = o at *
                generalize padAt ps j = p at *
                generalize padAt ps (j + 1) = p' at *
                have r0 := qcell c0; have r1 := qcell c1; have r0' := qcell c0'; have r1' := qcell c1'
                go_wp2_with fail
                refine region_qb (by kernel_rfl) (by kernel_rfl) ?_
                repeat (first | go_big_quiet_step ((first | (go_at_call 16; exact quietB (CV.out _)) | (go_at_call 52; exact quietB (CO.out _)))) | quiet_step ((first | (go_at_call 16; exact quietB (CV.out _)) | (go_at_call 52; exact quietB (CO.out _)))))
                refine wpQuiet_nil ?_
                intro w3 hb3
                have b3 := b2.trans (hb3.mono b2.size)
                clear r0 r1 c0 c1 hb3 r0' r1' c0' c1'
                go_wp2
                go_ret
                exact ⟨ret_bool HNo.out.symm, b3⟩
          · have HNo : Hid (cabB (ds.map (·.ps)) = false) := Lib.hid (cabB_no (fun h => by
              have := (h.2.2 q (by rw [allPads_flat, HAP.out]; exact hlq)).1
              rw [allPads_flat, HAP.out] at this
              exact hv this))
            have cv : ∀ W, Calls Try.prog 16 #[.agg #[.int .i64 (padAt ps q).day, .string (padAt ps q).case]] W fun e w' => e = .returned (.bool false) ∧ Below W.heap.size W w' := fun W => by
              have := specPadValid (padAt ps q).day (padAt ps q).case W hg.2
              rwa [show padB (padAt ps q).day (padAt ps q).case.data.toList = false by simpa [okP] using hv] at this
            have CV := Lib.hid cv; clear cv hv
            generalize padAt ps q = p at *
            have r0 := qcell c0; have r1 := qcell c1
            go_wp2_with fail
            refine region_qb (by kernel_rfl) (by kernel_rfl) ?_
            repeat (first | go_big_quiet_step ((go_at_call 16; exact quietB (CV.out _))) | quiet_step ((go_at_call 16; exact quietB (CV.out _))))
            refine wpQuiet_nil ?_
            intro w3 hb3
            have b3 := b2.trans (hb3.mono b2.size)
            clear r0 r1 c0 c1 hb3
            go_wp2
            go_ret
            exact ⟨ret_bool HNo.out.symm, b3⟩
        · have hF : Hid (cabB (ds.map (·.ps)) = decide ((n : Int) ≤ 6)) := Lib.hid (by
            rw [Bool.eq_iff_iff, cabB_iff, decide_eq_true_iff]
            constructor
            · intro h; have := h.1; rw [List.length_map, HL.out] at this; omega
            · intro h
              refine ⟨by rw [List.length_map, HL.out]; omega, fun x hx => ?_, ?_⟩
              · obtain ⟨d, hd, rfl⟩ := List.mem_map.1 hx
                exact hO.out d hd
              · rw [allPads_flat, HAP.out]
                exact fun i hi => hG.out i (by omega))
          go_wp2
          go_ret
          exact ⟨ret_bool hF.out.symm, b2⟩
end Go.Proofs.Ytbeaandjhlpaeaa
