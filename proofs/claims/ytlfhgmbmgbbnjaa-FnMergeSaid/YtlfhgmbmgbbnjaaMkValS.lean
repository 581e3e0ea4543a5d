/-
  Validity of marks, of the reference. Conditions: the lists lie in memory; the numbers are small; no text is absurdly long.
-/
import Derived.Test.YtlfhgmbmgbbnjaaMkValL
namespace Go.Proofs.Ytlfhgmbmgbbnjaa
open Go.ChangeShapes Go.WideShapes Go.ChangeAt Go.RowKit
set_option maxRecDepth 100000
set_option linter.unusedSimpArgs false

theorem l6In_yes (n b : Nat) (w : World) (h : n ≤ b) : Calls Try.prog 58 #[.int .i64 (n : Int), .int .i64 0, .int .i64 (b : Int)] w fun e w' => e = .returned (.bool true) ∧ w = w' :=
  (l6In_any _ _ _ _).mono fun e w' ⟨he, hw⟩ => ⟨by rw [he]; exact ret_bool (decide_eq_true (by omega)), hw⟩
theorem l6In_no (n b : Nat) (w : World) (h : ¬ n ≤ b) : Calls Try.prog 58 #[.int .i64 (n : Int), .int .i64 0, .int .i64 (b : Int)] w fun e w' => e = .returned (.bool false) ∧ w = w' :=
  (l6In_any _ _ _ _).mono fun e w' ⟨he, hw⟩ => ⟨by rw [he]; exact ret_bool (decide_eq_false (by omega)), hw⟩
set_option maxHeartbeats 800000 in
theorem specL7Mark (n : Nat) (x : Mr) (w : World) (hn : n ≤ 20) (hs : SmM x) (hW : ∀ l ∈ x.put, l.length ≤ maxLen) (hx : MrIn w w.heap.size x) :
    Calls Try.prog 50 #[.int .i64 (n : Int), .agg #[.int .i64 (x.at_ : Int), .int .i64 (x.cut : Int), .slice x.A x.n x.c]] w fun e w' => e = .returned (.bool (mkB n x.dat)) ∧ Below w.heap.size w w' := by
  have hb := boxM x w
  have HS := Lib.hid (specSpeechValid x.A x.n x.c x.put _ hW (WdsIn.keep hx hb))
  have HL : Hid (x.put.length = x.n) := Lib.hid hx.1
  have s1 := hs.1; have s2 := hs.2.1; have s3 := hs.2.2
  clear hx hW hs
  by_cases h1 : x.at_ ≤ n
  · have HI1 := Lib.hid (fun W => l6In_yes x.at_ n W h1)
    have k1 : (x.at_ : Int) ≤ (n : Int) := by omega
    have es : (n : Int) - (x.at_ : Int) = ((n - x.at_ : Nat) : Int) := by omega
    have Hes := Lib.hid es
    by_cases h2 : x.cut ≤ n - x.at_
    · have HI2 := Lib.hid (fun W => l6In_yes x.cut (n - x.at_) W h2)
      rw [← es] at HI2
      cases h3 : spB x.put with
      | false =>
        have HR : Hid (mkB n x.dat = false) := Lib.hid (mkB_no3 h3)
        rw [h3] at HS
        clear h3 es
        go_enter Try.func50, Try.ntmps50
        go_wp2_with fail
        refine (HI1.out _).mono ?_
        rintro e w1 ⟨rfl, rfl⟩
        go_wp2_with fail
        refine (HI2.out _).mono ?_
        rintro e w1 ⟨rfl, rfl⟩
        go_wp2_with fail
        refine HS.out.mono ?_
        rintro e w1 ⟨rfl, rfl⟩
        go_wp2
        go_returns
        exact ⟨ret_bool HR.out.symm, hb⟩
      | true =>
        rw [h3] at HS
        by_cases h4 : x.cut = 0 ∧ x.put.length = 0
        · have HR : Hid (mkB n x.dat = false) := Lib.hid (mkB_no4 h4.1 h4.2)
          have e4 : ¬ (0 : Int) < (x.cut : Int) + (x.n : Int) := by have := HL.out; omega
          clear h3 h4 es
          go_enter Try.func50, Try.ntmps50
          go_wp2_with fail
          refine (HI1.out _).mono ?_
          rintro e w1 ⟨rfl, rfl⟩
          go_wp2_with fail
          refine (HI2.out _).mono ?_
          rintro e w1 ⟨rfl, rfl⟩
          go_wp2_with fail
          refine HS.out.mono ?_
          rintro e w1 ⟨rfl, rfl⟩
          go_wp2
          go_returns
          exact ⟨ret_bool (by rw [HR.out]; exact decide_eq_false (by omega)), hb⟩
        · have HR : Hid (mkB n x.dat = true) := Lib.hid (mkB_yes h1 h2 h3 h4)
          have e4 : (0 : Int) < (x.cut : Int) + (x.n : Int) := by have := HL.out; omega
          clear h3 h4 es
          go_enter Try.func50, Try.ntmps50
          go_wp2_with fail
          refine (HI1.out _).mono ?_
          rintro e w1 ⟨rfl, rfl⟩
          go_wp2_with fail
          refine (HI2.out _).mono ?_
          rintro e w1 ⟨rfl, rfl⟩
          go_wp2_with fail
          refine HS.out.mono ?_
          rintro e w1 ⟨rfl, rfl⟩
          go_wp2
          go_returns
          exact ⟨ret_bool HR.out.symm, hb⟩
    · have HI2 := Lib.hid (fun W => l6In_no x.cut (n - x.at_) W h2)
      rw [← es] at HI2
      have HR : Hid (mkB n x.dat = false) := Lib.hid (mkB_no2 h2 h1)
      clear es h2 HS
      go_enter Try.func50, Try.ntmps50
      go_wp2_with fail
      refine (HI1.out _).mono ?_
      rintro e w1 ⟨rfl, rfl⟩
      go_wp2_with fail
      refine (HI2.out _).mono ?_
      rintro e w1 ⟨rfl, rfl⟩
      go_wp2
      go_returns
      exact ⟨ret_bool HR.out.symm, hb⟩
  · have HI1 := Lib.hid (fun W => l6In_no x.at_ n W h1)
    have HR : Hid (mkB n x.dat = false) := Lib.hid (mkB_no1 h1)
    clear h1 HS
    go_enter Try.func50, Try.ntmps50
    go_wp2_with fail
    refine (HI1.out _).mono ?_
    rintro e w1 ⟨rfl, rfl⟩
    go_wp2
    go_returns
    exact ⟨ret_bool HR.out.symm, hb⟩
set_option maxHeartbeats 1600000 in
theorem specMarksValid (A : Option Addr) (n c : Nat) (ws : List Wd) (A' : Option Addr) (n' c' : Nat) (xs : List Mr) (w : World) (hW : ∀ l ∈ ws, l.length ≤ maxLen) (hX : OkMs xs) (h : WdsIn w w.heap.size A n c ws) (h' : MrsIn w w.heap.size A' n' c' xs) :
    Calls Try.prog 33 #[.slice A n c, .slice A' n' c'] w fun e w' => e = .returned (.bool (marksB ws (xs.map Mr.dat))) ∧ Below w.heap.size w w' := by
  have HS := Lib.hid (specSpeechValid A n c ws w hW h)
  have HL := Lib.hid h.1; have HL' := Lib.hid h'.1
  have H' := Lib.hid h'
  have HX := Lib.hid hX
  clear h h' hW hX
  cases hA : spB ws with
  | false =>
    have HR : Hid (marksB ws (xs.map Mr.dat) = false) := Lib.hid (marks_sp hA)
    rw [hA] at HS
    clear hA
    go_enter Try.func33, Try.ntmps33
    go_wp2_with fail
    refine HS.out.mono ?_
    rintro e w1 ⟨rfl, rfl⟩
    go_wp2
    go_ret
    exact ⟨ret_bool HR.out.symm, Below.refl _ _⟩
  | true =>
  have h20 : n ≤ 20 := by have := (spB_iff.1 hA).2; rw [HL.out] at this; exact this
  by_cases hm : 20 < n'
  · have HR : Hid (marksB ws (xs.map Mr.dat) = false) := Lib.hid (marks_many (by rw [List.length_map, HL'.out]; exact hm))
    rw [hA] at HS
    clear hA
    go_enter Try.func33, Try.ntmps33
    go_wp2_with fail
    refine HS.out.mono ?_
    rintro e w1 ⟨rfl, rfl⟩
    go_wp2
    go_ret
    exact ⟨ret_bool HR.out.symm, Below.refl _ _⟩
  · have HE : Hid (∀ k, k < n' → ¬ gapG n (xs.map Mr.dat) k → marksB ws (xs.map Mr.dat) = false) := Lib.hid (fun k hk h => marks_no (k := k) (by rw [List.length_map, HL'.out]; exact hk) (by rw [HL.out]; exact h))
    have HY : Hid (GapK n (xs.map Mr.dat) n' → marksB ws (xs.map Mr.dat) = decide (lenI n ((xs.map Mr.dat).take n') ≤ 20)) := Lib.hid (fun h => by
      have e1 : (xs.map Mr.dat).length = n' := by rw [List.length_map, HL'.out]
      have := marks_end (ms := xs.map Mr.dat) hA (by rw [e1]; omega) (by rw [HL.out, e1]; exact h)
      rwa [e1, HL.out] at this)
    have HB : Hid (∀ k, k ≤ n' → (n : Int) - 1000 * (k : Int) ≤ lenI n ((xs.map Mr.dat).take k) ∧ lenI n ((xs.map Mr.dat).take k) ≤ (n : Int) + 1000 * (k : Int)) := Lib.hid (fun k hk => lenI_bound (fun m hm => by
      obtain ⟨x, hx, rfl⟩ := List.mem_map.1 hm
      have h1 := (HX.out x hx).1
      have h2 := (H'.out.2.2.2.2 x hx).1
      simp only [Mr.dat]
      exact ⟨h1.2.1, by rw [h2]; exact h1.2.2⟩) k (by rw [List.length_map, HL'.out]; exact hk))
    rw [hA] at HS
    clear hA
    have HL0 : Hid (lenI n ((xs.map Mr.dat).take 0) = (n : Int)) := Lib.hid rfl
    have HDat : Hid (∀ k, k < n' → mkAt (xs.map Mr.dat) k = (mrAt xs k).dat) := Lib.hid (fun k hk => mrAt_dat (by rw [HL'.out]; exact hk))
    have HLs : Hid (∀ k, k < n' → lenI n ((xs.map Mr.dat).take (k + 1)) = lenI n ((xs.map Mr.dat).take k) - ((mrAt xs k).cut : Int) + ((mrAt xs k).n : Int)) := Lib.hid (fun k hk => by
      rw [lenI_succ (by rw [List.length_map, HL'.out]; exact hk), HDat.out k hk]
      simp only [Mr.dat]
      rw [(H'.out.2.2.2.2 _ (mrAt_mem (xs := xs) (k := k) (by rw [HL'.out]; exact hk))).1])
    generalize marksB ws (xs.map Mr.dat) = T at *
    go_enter Try.func33, Try.ntmps33
    go_wp2_with fail
    refine HS.out.mono ?_
    rintro e w1 ⟨rfl, rfl⟩
    go_wp2
    go_loopw [5, 6] (fun s5 s6 wr => ∃ k : Nat, k ≤ n' ∧ s5 = .int .i64 (lenI n ((xs.map Mr.dat).take k)) ∧ s6 = .int .i64 k ∧ Hid (GapK n (xs.map Mr.dat) k) ∧ Below w.heap.size w wr) (fun _ i _ => n' - (intOf i).toNat)
    case atStart => exact ⟨0, Nat.zero_le _, by rw [HL0.out], rfl, Lib.hid (fun i hi => by omega), Below.refl _ _⟩
    case round =>
      obtain ⟨k, hk, rfl, rfl, HK, hb⟩ := hrel
      by_cases hlt : k < n'
      · have hx := (H'.out.keep hb).at_ hlt
        obtain ⟨b, off, rfl, hbB, c0, c1, c2, hxI⟩ := hx
        have HM : Hid (∀ W, Below wr.heap.size wr W → Calls Try.prog 50 #[.int .i64 (n : Int), .agg #[.int .i64 ((mrAt xs k).at_ : Int), .int .i64 ((mrAt xs k).cut : Int), .slice (mrAt xs k).A (mrAt xs k).n (mrAt xs k).c]] W fun e w' => e = .returned (.bool (mkB n (mrAt xs k).dat)) ∧ Below W.heap.size W w') := Lib.hid (fun W hW => specL7Mark n (mrAt xs k) W h20 (HX.out _ (mrAt_mem (by rw [HL'.out]; exact hlt))).1 (HX.out _ (mrAt_mem (by rw [HL'.out]; exact hlt))).2 (MrIn.keep hxI hW))
        have HD := HDat.out k hlt
        have HLk := HLs.out k hlt
        have HN := HE.out k hlt
        have hs := (HX.out _ (mrAt_mem (xs := xs) (k := k) (by rw [HL'.out]; exact hlt))).1
        obtain ⟨b1, b2⟩ := HB.out k (by omega)
        have sx1 := hs.1; have sx2 := hs.2.1; have sx3 := hs.2.2
        have HG : Hid ((0 < k → (mkAt (xs.map Mr.dat) (k - 1)).at_ + (mkAt (xs.map Mr.dat) (k - 1)).cut < (mrAt xs k).at_) → mkB n (mrAt xs k).dat = true → GapK n (xs.map Mr.dat) (k + 1)) := Lib.hid (fun h1 h2 => GapK.succ HK.out ⟨by rw [HD]; exact h2, fun h0 => by rw [HD]; exact h1 h0⟩)
        have hgo : Hid (lenI n ((xs.map Mr.dat).take (k + 1)) = lenI n ((xs.map Mr.dat).take k) - ((mrAt xs k).cut : Int) + ((mrAt xs k).n : Int)) := Lib.hid HLk
        have HNo1 : Hid (mkB n (mrAt xs k).dat = false → T = false) := Lib.hid (fun h => HN (gap_no1 (by rw [HD]; exact h)))
        have HNo2 : Hid (0 < k → (mrAt xs k).at_ ≤ (mkAt (xs.map Mr.dat) (k - 1)).at_ + (mkAt (xs.map Mr.dat) (k - 1)).cut → T = false) := Lib.hid (fun h0 h => HN (gap_no2 h0 (by rw [HD]; exact h)))
        clear HLk HN HD hs hxI
        have d0 := qcell c0; have d1 := qcell c1; have d2 := qcell c2
        have i1 : (0 : Int) ≤ (k : Int) := by omega
        have i2 : (k : Int) < (n' : Int) := by omega
        have i3 : (k : Int) ≤ 20 := by omega
        cases hv : mkB n (mrAt xs k).dat with
        | false =>
          have HF := Lib.hid (HNo1.out hv)
          rw [hv] at HM
          clear hv HNo1 HNo2 HG hgo
          generalize mrAt xs k = x at *
          go_wp2_with fail
          refine region_qb (by kernel_rfl) (by kernel_rfl) ?_
          repeat (first | go_big_quiet_step ((go_at_call 50; exact quietB (HM.out _ (below_regrown _ _ _)))) | quiet_step ((go_at_call 50; exact quietB (HM.out _ (below_regrown _ _ _)))))
          refine wpQuiet_nil ?_
          intro w5 hb5
          go_wp2
          go_ret
          exact ⟨ret_bool HF.out.symm, hb.trans (hb5.mono hb.size)⟩
        | true =>
          rw [hv] at HM
          have HG2 := Lib.hid (fun h => HG.out h hv)
          clear hv HNo1 HG
          by_cases h0 : k = 0
          · have HG3 := Lib.hid (HG2.out (fun h => by omega))
            have z0 : decide (0 < k) = false := decide_eq_false (by omega)
            clear HG2 HNo2 h0
            generalize mrAt xs k = x at *
            go_wp2_with fail
            refine region_qb (by kernel_rfl) (by kernel_rfl) ?_
            repeat (first | go_big_quiet_step ((go_at_call 50; exact quietB (HM.out _ (below_regrown _ _ _)))) | quiet_step ((go_at_call 50; exact quietB (HM.out _ (below_regrown _ _ _)))))
            refine wpQuiet_nil ?_
            intro w5 hb5
            clear HM
            have f1 := qcell (kcell hb5 c1); have f2 := qcell (kcell hb5 c2)
            go_wp2_with fail
            refine region_qb (by kernel_rfl) (by kernel_rfl) ?_
            repeat (first | go_big_quiet_step (fail) | quiet_step (fail))
            refine wpQuiet_nil ?_
            intro w6 hb6
            go_wp2
            go_roundw
            case rel => exact ⟨k + 1, by omega, by rw [hgo.out], by go_num, HG3, hb.trans ((below_next hb5 hb6).mono hb.size)⟩
            case measure => simp [intOf] <;> omega
          · have h1 : 0 < k := by omega
            obtain ⟨b', off', e', _, p0, p1, p2, _⟩ := (H'.out.keep hb).at_ (show k - 1 < n' by omega)
            obtain ⟨rfl, rfl⟩ : b' = b ∧ off' = off := by injection e' with e'; injection e' with e1 e2; exact ⟨e1.symm, e2.symm⟩
            have HP := HDat.out (k - 1) (by omega)
            have hsp := (HX.out _ (mrAt_mem (xs := xs) (k := k - 1) (by rw [HL'.out]; omega))).1
            have sp1 := hsp.1; have sp2 := hsp.2.1
            rw [HP] at HG2 HNo2
            have ek : (k : Int) - 1 = ((k - 1 : Nat) : Int) := by omega
            have ekw : IntKind.i64.wrap ((k : Int) - 1) = ((k - 1 : Nat) : Int) := by rw [ek]; exact IntWalk.i64_in _ (by omega)
            have q0 := qcell p0; have q1 := qcell p1
            have z1 : decide ((0 : Int) < (k : Int)) = true := decide_eq_true (by omega)
            have j2 : ((k - 1 : Nat) : Int) < (n' : Int) := by omega
            have j1 : (0 : Int) ≤ ((k - 1 : Nat) : Int) := by omega
            clear HP hsp e' h0
            by_cases h2 : (mrAt xs (k - 1)).at_ + (mrAt xs (k - 1)).cut < (mrAt xs k).at_
            · have HG3 := Lib.hid (HG2.out (fun _ => h2))
              have z3 : decide (((mrAt xs k).at_ : Int) ≤ ((mrAt xs (k - 1)).at_ : Int) + ((mrAt xs (k - 1)).cut : Int)) = false := decide_eq_false (by omega)
              clear HG2 HNo2
              generalize mrAt xs k = x at *
              generalize mrAt xs (k - 1) = y at *
              generalize k - 1 = j at *
              go_wp2_with fail
              refine region_qb (by kernel_rfl) (by kernel_rfl) ?_
              repeat (first | go_big_quiet_step ((go_at_call 50; exact quietB (HM.out _ (below_regrown _ _ _)))) | quiet_step ((go_at_call 50; exact quietB (HM.out _ (below_regrown _ _ _)))))
              refine wpQuiet_nil ?_
              intro w5 hb5
              clear HM
              have f1 := qcell (kcell hb5 c1); have f2 := qcell (kcell hb5 c2)
              go_wp2_with fail
              refine region_qb (by kernel_rfl) (by kernel_rfl) ?_
              repeat (first | go_big_quiet_step (fail) | quiet_step (fail))
              refine wpQuiet_nil ?_
              intro w6 hb6
              go_wp2
              go_roundw
              case rel => exact ⟨k + 1, by omega, by rw [hgo.out], by go_num, HG3, hb.trans ((below_next hb5 hb6).mono hb.size)⟩
              case measure => simp [intOf] <;> omega
            · have HF := Lib.hid (HNo2.out h1 (by simp only [Mr.dat]; omega))
              have z3 : decide (((mrAt xs k).at_ : Int) ≤ ((mrAt xs (k - 1)).at_ : Int) + ((mrAt xs (k - 1)).cut : Int)) = true := decide_eq_true (by omega)
              clear HG2 HNo2 hgo h2
              generalize mrAt xs k = x at *
              generalize mrAt xs (k - 1) = y at *
              generalize k - 1 = j at *
              go_wp2_with fail
              refine region_qb (by kernel_rfl) (by kernel_rfl) ?_
              repeat (first | go_big_quiet_step ((go_at_call 50; exact quietB (HM.out _ (below_regrown _ _ _)))) | quiet_step ((go_at_call 50; exact quietB (HM.out _ (below_regrown _ _ _)))))
              refine wpQuiet_nil ?_
              intro w5 hb5
              go_wp2
              go_ret
              exact ⟨ret_bool HF.out.symm, hb.trans (hb5.mono hb.size)⟩
      · obtain rfl : k = n' := by omega
        have HF := Lib.hid (HY.out HK.out)
        obtain ⟨b1, b2⟩ := HB.out k (Nat.le_refl _)
        go_wp2
        go_ret
        exact ⟨ret_bool HF.out.symm, hb⟩
end Go.Proofs.Ytlfhgmbmgbbnjaa
