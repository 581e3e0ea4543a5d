/-
  The reference's CabinetFind. Conditions: the drawers hold no more than a law lets by.
-/
import Derived.Test.YtbeaandjhlpaeaaFind2
namespace Go.Proofs.Ytbeaandjhlpaeaa
open Go.ChangeShapes Go.WideShapes Go.ChangeAt Go.RowKit Go.Shelf
set_option maxRecDepth 100000

theorem pad_same {p q : Pad} : (p.day == q.day && p.case.toList == q.case.toList) = true ↔ p = q := by
  rw [toL, toL]
  constructor
  · intro h
    rw [Bool.and_eq_true] at h
    exact pad_ext (by simpa using h.1) (by simpa using h.2)
  · rintro rfl; simp

theorem specCabinetFind (A : Option Addr) (n c : Nat) (ds : List Drawer) (p : Pad) (w : World) (hsz : cabSz ds ≤ 1048576) (h : DrawersIn w w.heap.size A n c ds) :
    Calls Try.prog 29 #[.slice A n c, padVal p] w fun e w' => FindAns (findO (ds.map (·.ps)) p) e ∧ Below w.heap.size w w' := by
  have hm := h.2.2.1; have hnc := h.2.1
  have HL : Hid (ds.length = n) := Lib.hid h.1
  unfold maxLen at hm
  have H := Lib.hid h; clear h
  have HV : Hid (∀ W, Below w.heap.size w W → Calls Try.prog 23 #[.slice A n c] W fun e w' => e = .returned (.bool (cabB (ds.map (·.ps)))) ∧ Below W.heap.size W w') := Lib.hid (fun W hW => specCabinetValid A n c ds W hsz ((H.out.below hW).more hW.size))
  unfold padVal
  cases hv : cabB (ds.map (·.ps)) with
  | false =>
    have HN : Hid (findO (ds.map (·.ps)) p = none) := Lib.hid (findO_bad (fun hc => by rw [cabB_yes hc] at hv; cases hv))
    rw [hv] at HV; clear hv
    go_enter Try.func29, Try.ntmps29
    go_wp2
    go_loopw [7] (fun i wr => i = .int .i64 0 ∧ Below w.heap.size w wr) (fun _ _ => 0)
    case atStart => exact ⟨rfl, (Below.refl _ _).alloc (Nat.le_refl _) _⟩
    case round =>
      obtain ⟨rfl, hb⟩ := hrel
      by_cases hlt : 0 < n
      · have hV := Lib.hid (HV.out _ hb)
        go_wp2_with fail
        refine hV.out.mono ?_
        rintro e w1 ⟨rfl, hb1⟩
        have b1 := hb.trans (hb1.mono hb.size)
        clear hb1
        go_wp2
        go_returns
        exact ⟨.no HN.out rfl, b1⟩
      · obtain rfl : n = 0 := by omega
        go_wp2
        go_returns
        exact ⟨.no HN.out rfl, hb⟩
  | true =>
    have hg0 : Try.prog.eqGuardType Try.prog.depth 26 = false := by kernel_rfl
    have HC := Lib.hid (cabB_iff.1 hv)
    rw [hv] at HV; clear hv
    go_enter Try.func29, Try.ntmps29
    go_wp2
    go_loopw [7] (fun i wr => ∃ k : Nat, k ≤ n ∧ i = .int .i64 k ∧ Hid (∀ i j, i < k → ¬ FoundAt (ds.map (·.ps)) p i j) ∧ Below w.heap.size w wr ∧ wr.cell? ⟨w.heap.size, 0, none⟩ = some (.int .i64 p.day) ∧ wr.cell? ⟨w.heap.size, 1, none⟩ = some (.string p.case)) (fun i _ => n - (intOf i).toNat)
    case atStart => exact ⟨0, Nat.zero_le _, rfl, Lib.hid (fun i j h => by omega), (Below.refl _ _).alloc (Nat.le_refl _) _, newcell w #[.int .i64 p.day, .string p.case] _ 0 _ rfl, newcell w #[.int .i64 p.day, .string p.case] _ 1 _ rfl⟩
    case round =>
      obtain ⟨k, hk, rfl, hF, hb, p0, p1⟩ := hrel
      by_cases hlt : k < n
      · have hV := Lib.hid (HV.out _ hb)
        have hkl : k < ds.length := by rw [HL.out]; exact hlt
        have hdw := Lib.hid (drw_dr (ds := ds) hkl)
        go_wp2_with fail
        refine hV.out.mono ?_
        rintro e w1 ⟨rfl, hb1⟩
        have b1 := hb.trans (hb1.mono hb.size)
        have q0 := kcell hb1 p0
        have q1 := kcell hb1 p1
        clear hb1 p0 p1 hV hb
        obtain ⟨b, off, eA, hbB, c0w, hP⟩ := H.out.at_ hlt
        have c0 : w1.cell? ⟨b, off + k, none⟩ = some (.slice (drAt ds k).A (drAt ds k).n (drAt ds k).c) := (b1.cell (p := ⟨b, off + k, none⟩) hbB).trans c0w
        subst eA
        have hdl := hP.1
        have hcm2 := hP.2.2.1; have hnc2 := hP.2.1
        unfold maxLen at hcm2
        have HP := Lib.hid hP; clear hP
        have HDL := Lib.hid hdl; clear hdl
        clear hkl
        generalize drAt ds k = d at *
        go_wp2
        go_loopw [8] (fun i wr => ∃ j : Nat, j ≤ d.n ∧ i = .int .i64 j ∧ Hid (∀ q, q < j → padAt d.ps q ≠ p) ∧ Below w.heap.size w wr ∧ wr.cell? ⟨w.heap.size, 0, none⟩ = some (.int .i64 p.day) ∧ wr.cell? ⟨w.heap.size, 1, none⟩ = some (.string p.case)) (fun i _ => d.n - (intOf i).toNat)
        case atStart => exact ⟨0, Nat.zero_le _, rfl, Lib.hid (fun q h => by omega), b1, q0, q1⟩
        case round =>
          obtain ⟨j, hj, rfl, hG, hb, p0, p1⟩ := hrel
          have c0r : wr.cell? ⟨b, off + k, none⟩ = some (.slice d.A d.n d.c) := (hb.cell (p := ⟨b, off + k, none⟩) hbB).trans c0w
          by_cases hlj : j < d.n
          · obtain ⟨b2, off2, eA2, hbB2, x0, x1, hg⟩ := (HP.out.below hb).at_ hlj
            have hE : ∀ W, (binOp .eql 26 (.agg #[.int .i64 (padAt d.ps j).day, .string (padAt d.ps j).case]) (.agg #[.int .i64 p.day, .string p.case])).run Try.prog W = .ok (.bool ((padAt d.ps j).day == p.day && (padAt d.ps j).case.toList == p.case.toList)) W := fun W => eqPadRun _ _ _ _ W
            cases he : ((padAt d.ps j).day == p.day && (padAt d.ps j).case.toList == p.case.toList) with
            | true =>
              have HY : Hid (findO (ds.map (·.ps)) p = some (k, j)) := Lib.hid (findO_yes HC.out ⟨by rw [List.length_map, HL.out]; exact hlt, by rw [hdw.out, HDL.out]; exact hlj, by rw [hdw.out]; exact pad_same.1 he⟩)
              rw [he] at hE
              clear he hg hG
              generalize padAt d.ps j = q at *
              rw [eA2] at c0r
              have r0 := qcell c0r; have r1 := qcell x0; have r2 := qcell x1; have r3 := qcell p0; have r4 := qcell p1
              clear eA2
              go_wp2_with fail
              refine region_qb (by kernel_rfl) (by kernel_rfl) ?_
              repeat (first | go_big_quiet_step (fail) | quiet_step (fail))
              refine wpQuiet_nil ?_
              intro w3 hb3
              have b3 := hb.trans (hb3.mono hb.size)
              clear r0 r1 r2 r3 r4 x0 x1 p0 p1 c0r hb3
              go_wp2
              go_returns
              exact ⟨.yes HY.out rfl, b3⟩
            | false =>
              have HG2 : Hid (∀ q, q < j + 1 → padAt d.ps q ≠ p) := Lib.hid (fun q hq => by
                by_cases e : q = j
                · subst e; exact fun h => by rw [pad_same.2 h] at he; cases he
                · exact hG.out q (by omega))
              rw [he] at hE
              clear he hg hG
              generalize padAt d.ps j = q at *
              rw [eA2] at c0r
              have r0 := qcell c0r; have r1 := qcell x0; have r2 := qcell x1; have r3 := qcell p0; have r4 := qcell p1
              clear eA2
              go_wp2_with fail
              refine region_qb (by kernel_rfl) (by kernel_rfl) ?_
              repeat (first | go_big_quiet_step (fail) | quiet_step (fail))
              refine wpQuiet_nil ?_
              intro w3 hb3
              have b3 := hb.trans (hb3.mono hb.size)
              have p0' := kcell hb3 p0; have p1' := kcell hb3 p1
              clear r0 r1 r2 r3 r4 x0 x1 p0 p1 c0r hb3
              go_wp2
              go_roundw
              case rel => exact ⟨j + 1, by omega, by go_num, HG2, b3, p0', p1'⟩
              case measure => simp [intOf]; omega
          · obtain rfl : j = d.n := by omega
            have HF2 : Hid (∀ i j, i < k + 1 → ¬ FoundAt (ds.map (·.ps)) p i j) := Lib.hid (fun i j hi hf => by
              by_cases e : i = k
              · subst e
                obtain ⟨_, f2, f3⟩ := hf
                rw [hdw.out] at f2 f3
                exact hG.out j (by rw [← HDL.out]; exact f2) f3
              · exact hF.out i j (by omega) hf)
            clear hG hF
            go_wp2
            go_roundw
            case rel => exact ⟨k + 1, by omega, by go_num, HF2, hb, p0, p1⟩
            case measure => simp [intOf]; omega
      · have HN : Hid (findO (ds.map (·.ps)) p = none) := Lib.hid (findO_no (fun i j hf => hF.out i j (by have := hf.1; rw [List.length_map, HL.out] at this; omega) hf))
        go_wp2
        go_returns
        exact ⟨.no HN.out rfl, hb⟩
end Go.Proofs.Ytbeaandjhlpaeaa
