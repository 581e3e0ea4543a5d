/-
  Validity of marks, of the program. Conditions: the lists lie in memory; the numbers are small; no text is absurdly long.
-/
import Derived.Test.YtlfhgmbmgbbnjaaMkValL
import Derived.Deep.DeepCutAuto
import Derived.Deep.Cut
import Derived.Deep.CutRange
namespace Go.Proofs.Ytlfhgmbmgbbnjaa
open Go.ChangeShapes Go.WideShapes Go.ChangeAt Go.RowKit
set_option maxRecDepth 100000
set_option linter.unusedSimpArgs false

set_option maxHeartbeats 3200000 in
theorem implMarksValid (A : Option Addr) (n c : Nat) (ws : List Wd) (A' : Option Addr) (n' c' : Nat) (xs : List Mr) (w : World) (hW : ∀ l ∈ ws, l.length ≤ maxLen) (hX : OkMs xs) (h : WdsIn w w.heap.size A n c ws) (h' : MrsIn w w.heap.size A' n' c' xs) :
    Calls Try.prog 37 #[.slice A n c, .slice A' n' c'] w fun e w' => e = .returned (.bool (marksB ws (xs.map Mr.dat))) ∧ Below w.heap.size w w' := by
  have HS := Lib.hid (implSpeechValid A n c ws w hW h)
  have HL := Lib.hid h.1; have HL' := Lib.hid h'.1
  have H' := Lib.hid h'
  have HX := Lib.hid hX
  clear h h' hW hX
  cases hA : spB ws with
  | false =>
    have HR : Hid (marksB ws (xs.map Mr.dat) = false) := Lib.hid (marks_sp hA)
    rw [hA] at HS
    clear hA
    go_enter Try.func37, Try.ntmps37
    go_wp2_with fail
    refine HS.out.mono ?_
    rintro e w1 ⟨rfl, rfl⟩
    go_wp2
    go_ret
    exact ⟨ret_bool HR.out.symm, Below.refl _ _⟩
  | true =>
  have h20 : n ≤ 20 := by have := (spB_iff.1 hA).2; rw [HL.out] at this; exact this
  by_cases hm : 20 < n'
  · have HR : Hid (marksB ws (xs.map Mr.dat) = false) := Lib.hid (marks_many (by rw [List.length_map, HL'.out]; exact hm))
    rw [hA] at HS
    clear hA
    go_enter Try.func37, Try.ntmps37
    go_wp2_with fail
    refine HS.out.mono ?_
    rintro e w1 ⟨rfl, rfl⟩
    go_wp2
    go_ret
    exact ⟨ret_bool HR.out.symm, Below.refl _ _⟩
  · have HE : Hid (∀ k, k < n' → ¬ gapG n (xs.map Mr.dat) k → marksB ws (xs.map Mr.dat) = false) := Lib.hid (fun k hk h => marks_no (k := k) (by rw [List.length_map, HL'.out]; exact hk) (by rw [HL.out]; exact h))
    have HY : Hid (GapK n (xs.map Mr.dat) n' → marksB ws (xs.map Mr.dat) = decide (lenI n ((xs.map Mr.dat).take n') ≤ 20)) := Lib.hid (fun h => by
      have e1 : (xs.map Mr.dat).length = n' := by rw [List.length_map, HL'.out]
      have := marks_end (ms := xs.map Mr.dat) hA (by rw [e1]; omega) (by rw [HL.out, e1]; exact h)
      rwa [e1, HL.out] at this)
    have HB : Hid (∀ k, k ≤ n' → (n : Int) - 1000 * (k : Int) ≤ lenI n ((xs.map Mr.dat).take k) ∧ lenI n ((xs.map Mr.dat).take k) ≤ (n : Int) + 1000 * (k : Int)) := Lib.hid (fun k hk => lenI_bound (fun m hm => by
      obtain ⟨x, hx, rfl⟩ := List.mem_map.1 hm
      have h1 := (HX.out x hx).1
      have h2 := (H'.out.2.2.2.2 x hx).1
      simp only [Mr.dat]
      exact ⟨h1.2.1, by rw [h2]; exact h1.2.2⟩) k (by rw [List.length_map, HL'.out]; exact hk))
    rw [hA] at HS
    clear hA
    have HL0 : Hid (lenI n ((xs.map Mr.dat).take 0) = (n : Int)) := Lib.hid rfl
    have HDat : Hid (∀ k, k < n' → mkAt (xs.map Mr.dat) k = (mrAt xs k).dat) := Lib.hid (fun k hk => mrAt_dat (by rw [HL'.out]; exact hk))
    have HLs : Hid (∀ k, k < n' → lenI n ((xs.map Mr.dat).take (k + 1)) = lenI n ((xs.map Mr.dat).take k) - ((mrAt xs k).cut : Int) + ((mrAt xs k).n : Int)) := Lib.hid (fun k hk => by
      rw [lenI_succ (by rw [List.length_map, HL'.out]; exact hk), HDat.out k hk]
      simp only [Mr.dat]
      rw [(H'.out.2.2.2.2 _ (mrAt_mem (xs := xs) (k := k) (by rw [HL'.out]; exact hk))).1])
    generalize marksB ws (xs.map Mr.dat) = T at *
    go_enter Try.func37, Try.ntmps37
    go_wp2_with fail
    refine HS.out.mono ?_
    rintro e w1 ⟨rfl, rfl⟩
    go_wp2
    go_loopw [5, 20] (fun s5 s6 wr => ∃ k : Nat, k ≤ n' ∧ s5 = .int .i64 (lenI n ((xs.map Mr.dat).take k)) ∧ s6 = .int .i64 k ∧ Hid (GapK n (xs.map Mr.dat) k) ∧ Below w.heap.size w wr) (fun _ i _ => n' - (intOf i).toNat)
    case atStart => exact ⟨0, Nat.zero_le _, by rw [HL0.out], rfl, Lib.hid (fun i hi => by omega), Below.refl _ _⟩
    case round =>
      obtain ⟨k, hk, rfl, rfl, HK, hb⟩ := hrel
      by_cases hlt : k < n'
      · have hx := (H'.out.keep hb).at_ hlt
        obtain ⟨b, off, rfl, hbB, c0, c1, c2, hxI⟩ := hx
        have hxs := (HX.out _ (mrAt_mem (xs := xs) (k := k) (by rw [HL'.out]; exact hlt)))
        have hba : Below wr.heap.size wr (wr.alloc (.cells #[.int .i64 ((mrAt xs k).at_ : Int), .int .i64 ((mrAt xs k).cut : Int), .slice (mrAt xs k).A (mrAt xs k).n (mrAt xs k).c] 37)) := boxM (mrAt xs k) wr
        have HM := Lib.hid (implSpeechValid (mrAt xs k).A (mrAt xs k).n (mrAt xs k).c (mrAt xs k).put _ hxs.2 (WdsIn.keep hxI hba))
        have HLp : Hid ((mrAt xs k).put.length = (mrAt xs k).n) := Lib.hid hxI.1
        have HAl := Lib.hid hba
        clear hxs hba
        have HD := HDat.out k hlt
        have HLk := HLs.out k hlt
        have HN := HE.out k hlt
        have hs := (HX.out _ (mrAt_mem (xs := xs) (k := k) (by rw [HL'.out]; exact hlt))).1
        obtain ⟨b1, b2⟩ := HB.out k (by omega)
        have sx1 := hs.1; have sx2 := hs.2.1; have sx3 := hs.2.2
        have HG : Hid ((0 < k → (mkAt (xs.map Mr.dat) (k - 1)).at_ + (mkAt (xs.map Mr.dat) (k - 1)).cut < (mrAt xs k).at_) → mkB n (mrAt xs k).dat = true → GapK n (xs.map Mr.dat) (k + 1)) := Lib.hid (fun h1 h2 => GapK.succ HK.out ⟨by rw [HD]; exact h2, fun h0 => by rw [HD]; exact h1 h0⟩)
        have hgo : Hid (lenI n ((xs.map Mr.dat).take (k + 1)) = lenI n ((xs.map Mr.dat).take k) - ((mrAt xs k).cut : Int) + ((mrAt xs k).n : Int)) := Lib.hid HLk
        have HNo1 : Hid (mkB n (mrAt xs k).dat = false → T = false) := Lib.hid (fun h => HN (gap_no1 (by rw [HD]; exact h)))
        have HNo2 : Hid (0 < k → (mrAt xs k).at_ ≤ (mkAt (xs.map Mr.dat) (k - 1)).at_ + (mkAt (xs.map Mr.dat) (k - 1)).cut → T = false) := Lib.hid (fun h0 h => HN (gap_no2 h0 (by rw [HD]; exact h)))
        clear HLk HN HD hs hxI
        have i1 : (0 : Int) ≤ (k : Int) := by omega
        have i2 : (k : Int) < (n' : Int) := by omega
        have i3 : (k : Int) ≤ 20 := by omega
        have hbx := Lib.hid (hb.trans (HAl.out.mono hb.size))
        by_cases h1 : (mrAt xs k).at_ ≤ n
        · by_cases h2 : (mrAt xs k).cut ≤ n - (mrAt xs k).at_
          · have t1 : ¬ (n : Int) < ((mrAt xs k).at_ : Int) := by omega
            have t2 : ¬ (n : Int) - ((mrAt xs k).at_ : Int) < ((mrAt xs k).cut : Int) := by omega
            have t3 : ¬ n < (mrAt xs k).at_ := by omega
            by_cases h4 : (mrAt xs k).cut = 0 ∧ (mrAt xs k).n = 0
            · have HF := Lib.hid (HNo1.out (mkB_no4 h4.1 (by rw [HLp.out]; exact h4.2)))
              clear HNo1 HNo2 HG hgo HM HLp
              obtain ⟨z1, z2⟩ := h4
              generalize mrAt xs k = x at *
              obtain ⟨xa, xc, xA, xn, xcp, xp⟩ := x
              simp only at z1 z2
              subst z1 z2
              dsimp only at *
              go_wp2
              go_ret
              exact ⟨ret_bool HF.out.symm, hbx.out⟩
            · have HGy := Lib.hid (fun h3 h => HG.out h (mkB_yes h1 h2 h3 (by rw [HLp.out]; exact h4)))
              have HFn := Lib.hid (fun h3 => HNo1.out (mkB_no3 h3))
              clear HNo1 HG HLp
              have p0 : ∀ W, Below (wr.alloc (.cells #[.int .i64 ((mrAt xs k).at_ : Int), .int .i64 ((mrAt xs k).cut : Int), .slice (mrAt xs k).A (mrAt xs k).n (mrAt xs k).c] 37)).heap.size (wr.alloc (.cells #[.int .i64 ((mrAt xs k).at_ : Int), .int .i64 ((mrAt xs k).cut : Int), .slice (mrAt xs k).A (mrAt xs k).n (mrAt xs k).c] 37)) W → W.cell? ⟨wr.heap.size, 0, none⟩ = some (.int .i64 ((mrAt xs k).at_ : Int)) ∧ W.cell? ⟨wr.heap.size, 1, none⟩ = some (.int .i64 ((mrAt xs k).cut : Int)) ∧ W.cell? ⟨wr.heap.size, 2, none⟩ = some (.slice (mrAt xs k).A (mrAt xs k).n (mrAt xs k).c) := fun W hW => ⟨kcell hW (newcell wr _ _ 0 _ rfl), kcell hW (newcell wr _ _ 1 _ rfl), kcell hW (newcell wr _ _ 2 _ rfl)⟩
              have HP := Lib.hid p0
              clear p0
              go_upto_region 9 with fail
              go_cut [64] (fun s64 wx => (wr.alloc (.cells #[.int .i64 ((mrAt xs k).at_ : Int), .int .i64 ((mrAt xs k).cut : Int), .slice (mrAt xs k).A (mrAt xs k).n (mrAt xs k).c] 37)) = wx ∧ Value.bool (!(spB (mrAt xs k).put)) = s64)
              case first =>
                by_cases hc0 : (mrAt xs k).cut = 0
                · have e1 : (((mrAt xs k).cut : Int) == 0) = true := by rw [hc0]; rfl
                  have e2 : (((mrAt xs k).n : Int) == 0) = false := beq_eq_false_iff_ne.2 (fun e => h4 ⟨hc0, by omega⟩)
                  clear hc0 h4 HP
                  go_wp2_with fail
                  refine HM.out.mono ?_
                  rintro e w1 ⟨rfl, rfl⟩
                  go_wp2
                  go_meet
                  exact ⟨rfl, rfl⟩
                · have e1 : (((mrAt xs k).cut : Int) == 0) = false := beq_eq_false_iff_ne.2 (fun e => hc0 (by omega))
                  clear hc0 h4 HP
                  go_wp2_with fail
                  refine HM.out.mono ?_
                  rintro e w1 ⟨rfl, rfl⟩
                  go_wp2
                  go_meet
                  exact ⟨rfl, rfl⟩
              case rest =>
                obtain ⟨hwx, rfl⟩ := hcut
                have HB0 : Hid (Below wr.heap.size wr wc) := Lib.hid (by rw [← hwx]; exact HAl.out)
                have HP1 : Hid (∀ W, Below wc.heap.size wc W → W.cell? ⟨wr.heap.size, 0, none⟩ = some (.int .i64 ((mrAt xs k).at_ : Int)) ∧ W.cell? ⟨wr.heap.size, 1, none⟩ = some (.int .i64 ((mrAt xs k).cut : Int)) ∧ W.cell? ⟨wr.heap.size, 2, none⟩ = some (.slice (mrAt xs k).A (mrAt xs k).n (mrAt xs k).c)) := Lib.hid (by rw [← hwx]; exact HP.out)
                clear hwx HP HM h4
                cases h3 : spB (mrAt xs k).put with
                | false =>
                  have HF := Lib.hid (HFn.out h3)
                  clear h3 HFn HGy HNo2 hgo
                  go_wp2
                  go_ret
                  exact ⟨ret_bool HF.out.symm, hb.trans (HB0.out.mono hb.size)⟩
                | true =>
                  have HG2 := Lib.hid (HGy.out h3)
                  clear h3 HFn HGy
                  obtain ⟨y0, y1, y2⟩ := HP1.out wc (Below.refl _ _)
                  have r0 := qcell y0; have r1 := qcell y1; have r2 := qcell y2
                  by_cases h0 : k = 0
                  · have HG3 := Lib.hid (HG2.out (fun h => by omega))
                    have z0 : decide (0 < k) = false := decide_eq_false (by omega)
                    clear HG2 HNo2 h0
                    go_wp2_with fail
                    refine region_qb (by kernel_rfl) (by kernel_rfl) ?_
                    repeat (first | go_big_quiet_step (fail) | quiet_step (fail))
                    refine wpQuiet_nil ?_
                    intro w5 hb5
                    obtain ⟨y0, y1, y2⟩ := HP1.out w5 hb5
                    go_wp2
                    go_roundw
                    case rel => exact ⟨k + 1, by omega, by rw [hgo.out]; exact congrArg (Value.int .i64) (by omega), by go_num, HG3, hb.trans ((below_next HB0.out hb5).mono hb.size)⟩
                    case measure => simp [intOf] <;> omega
                  · have h1 : 0 < k := by omega
                    obtain ⟨b', off', e', _, p0, p1, p2, _⟩ := (H'.out.keep (hb.trans (HB0.out.mono hb.size))).at_ (show k - 1 < n' by omega)
                    obtain ⟨rfl, rfl⟩ : b' = b ∧ off' = off := by injection e' with e'; injection e' with e1 e2; exact ⟨e1.symm, e2.symm⟩
                    have HP := HDat.out (k - 1) (by omega)
                    have hsp := (HX.out _ (mrAt_mem (xs := xs) (k := k - 1) (by rw [HL'.out]; omega))).1
                    have sp1 := hsp.1; have sp2 := hsp.2.1
                    have HEn := Lib.hid (fun W => markEnd (mrAt xs (k - 1)) W hsp)
                    rw [HP] at HG2 HNo2
                    have ek : (k : Int) - 1 = ((k - 1 : Nat) : Int) := by omega
                    have ekw : IntKind.i64.wrap ((k : Int) - 1) = ((k - 1 : Nat) : Int) := by rw [ek]; exact IntWalk.i64_in _ (by omega)
                    have q0 := qcell p0; have q1 := qcell p1; have q2 := qcell p2
                    have z1 : decide ((0 : Int) < (k : Int)) = true := decide_eq_true (by omega)
                    have j2 : ((k - 1 : Nat) : Int) < (n' : Int) := by omega
                    have j1 : (0 : Int) ≤ ((k - 1 : Nat) : Int) := by omega
                    clear HP hsp e' h0
                    by_cases h2 : (mrAt xs (k - 1)).at_ + (mrAt xs (k - 1)).cut < (mrAt xs k).at_
                    · have HG3 := Lib.hid (HG2.out (fun _ => h2))
                      have z3 : decide (((mrAt xs k).at_ : Int) ≤ ((mrAt xs (k - 1)).at_ : Int) + ((mrAt xs (k - 1)).cut : Int)) = false := decide_eq_false (by omega)
                      clear HG2 HNo2
                      generalize mrAt xs (k - 1) = y at *
                      generalize k - 1 = j at *
                      go_wp2_with fail
                      refine region_qb (by kernel_rfl) (by kernel_rfl) ?_
                      repeat (first | go_big_quiet_step ((go_at_call 44; exact quietB (HEn.out _))) | quiet_step ((go_at_call 44; exact quietB (HEn.out _))))
                      refine wpQuiet_nil ?_
                      intro w5 hb5
                      obtain ⟨y0, y1, y2⟩ := HP1.out w5 hb5
                      go_wp2
                      go_roundw
                      case rel => exact ⟨k + 1, by omega, by rw [hgo.out]; exact congrArg (Value.int .i64) (by omega), by go_num, HG3, hb.trans ((below_next HB0.out hb5).mono hb.size)⟩
                      case measure => simp [intOf] <;> omega
                    · have HF := Lib.hid (HNo2.out h1 (by simp only [Mr.dat]; omega))
                      have z3 : decide (((mrAt xs k).at_ : Int) ≤ ((mrAt xs (k - 1)).at_ : Int) + ((mrAt xs (k - 1)).cut : Int)) = true := decide_eq_true (by omega)
                      clear HG2 HNo2 hgo h2
                      generalize mrAt xs (k - 1) = y at *
                      generalize k - 1 = j at *
                      go_wp2_with fail
                      refine region_qb (by kernel_rfl) (by kernel_rfl) ?_
                      repeat (first | go_big_quiet_step ((go_at_call 44; exact quietB (HEn.out _))) | quiet_step ((go_at_call 44; exact quietB (HEn.out _))))
                      refine wpQuiet_nil ?_
                      intro w5 hb5
                      go_wp2
                      go_ret
                      exact ⟨ret_bool HF.out.symm, hb.trans ((below_next HB0.out hb5).mono hb.size)⟩
          · have HF := Lib.hid (HNo1.out (mkB_no2 h2 h1))
            have t1 : ¬ (n : Int) < ((mrAt xs k).at_ : Int) := by omega
            have t2 : (n : Int) - ((mrAt xs k).at_ : Int) < ((mrAt xs k).cut : Int) := by omega
            clear HNo1 HNo2 HG hgo HM HLp
            generalize mrAt xs k = x at *
            go_wp2
            go_ret
            exact ⟨ret_bool HF.out.symm, hbx.out⟩
        · have HF := Lib.hid (HNo1.out (mkB_no1 h1))
          have t1 : (n : Int) < ((mrAt xs k).at_ : Int) := by omega
          clear HNo1 HNo2 HG hgo HM HLp
          generalize mrAt xs k = x at *
          go_wp2
          go_ret
          exact ⟨ret_bool HF.out.symm, hbx.out⟩
      · obtain rfl : k = n' := by omega
        have HF := Lib.hid (HY.out HK.out)
        obtain ⟨b1, b2⟩ := HB.out k (Nat.le_refl _)
        go_wp2
        go_ret
        exact ⟨ret_bool HF.out.symm, hb⟩
end Go.Proofs.Ytlfhgmbmgbbnjaa
