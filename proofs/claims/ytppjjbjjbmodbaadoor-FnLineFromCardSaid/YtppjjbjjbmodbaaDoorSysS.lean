/-
  Systems, of the reference: validity. Conditions: the list lies in memory.
-/
import Derived.Test.YtppjjbjjbmodbaaDoorWordS2
import Derived.Laws.StructEq
namespace Go.Proofs.YtppjjbjjbmodbaaDoor
open Go.ChangeShapes Go.WideShapes Go.ChangeAt Go.RowKit
set_option maxRecDepth 100000
set_option linter.unusedSimpArgs false

theorem okL_one {l : List UInt8} (h : l.length = 1) : okL l = (wordB l && !isVow (at8 l 0)) := by
  unfold okL
  rw [decide_eq_true h, Bool.true_and]
  congr 1
  rw [Bool.eq_iff_iff, wordB_iff]
  exact ⟨fun h2 => ⟨by omega, fun i hi => by rw [show i = 0 from by omega]; exact h2⟩, fun h2 => h2.2 0 (by omega)⟩
theorem okL_not {l : List UInt8} (h : l.length ≠ 1) : okL l = false := by unfold okL; rw [decide_eq_false h]; rfl
/-- The first k signs are good; none of the first j is like the k'th. -/
def sysK (xs : List Sg) (k : Nat) : Prop := ∀ i, i < k → sysGood xs i
theorem sysK_succ {xs : List Sg} {k : Nat} (h : sysK xs k) (h2 : sysGood xs k) : sysK xs (k + 1) := fun i hi => by
  rcases Nat.lt_succ_iff_lt_or_eq.1 hi with h3 | rfl
  · exact h i h3
  · exact h2
def sysJ (xs : List Sg) (k j : Nat) : Prop := ∀ i, i < j → (sgAt xs i).l ≠ (sgAt xs k).l ∧ (sgAt xs i).st ≠ (sgAt xs k).st
theorem sysJ_succ {xs : List Sg} {k j : Nat} (h : sysJ xs k j) (h2 : (sgAt xs j).l ≠ (sgAt xs k).l ∧ (sgAt xs j).st ≠ (sgAt xs k).st) : sysJ xs k (j + 1) := fun i hi => by
  rcases Nat.lt_succ_iff_lt_or_eq.1 hi with h3 | rfl
  · exact h i h3
  · exact h2

theorem eqlStrokeRun (d z d' z' : Int) (w : World) :
    (binOp .eql 88 (.agg #[.int .i64 d, .int .i64 z]) (.agg #[.int .i64 d', .int .i64 z'])).run Tryd.prog w = .ok (.bool (decide ((⟨d, z⟩ : Stroke) = ⟨d', z'⟩))) w := by
  have u3 := Tryd.underlying3
  have a3 := Tryd.isAgg3
  have z3 := Tryd.sizeOf3
  have hS : Tryd.prog.underlying 88 = some (.struct (Tryd.prog.fieldsOf 88)) := by kernel_rfl
  have hp : Tryd.prog.stoodInHeld 88 = false := by kernel_rfl
  rw [run_eql_struct, show (10000 : Nat) = 9999 + 1 from rfl, run_equalIn_agg w 9999 88 _ _ hS hp]
  simp only [Program.fieldsOf, Tryd.underlying88]
  go_simp
  by_cases h1 : d = d' <;> by_cases h2 : z = z' <;> simp [h1, h2]

set_option maxHeartbeats 1600000 in
theorem specSystemValid (A : Option Addr) (n c : Nat) (xs : List Sg) (w : World) (h : SgsIn w w.heap.size A n c xs) :
    Calls Tryd.prog 76 #[.slice A n c] w fun e w' => e = .returned (.bool (sysB xs)) ∧ Below w.heap.size w w' := by
  have hm := h.2.2.1; have hnc := h.2.1
  unfold maxLen at hm
  have HL := Lib.hid h.1
  have H := Lib.hid h
  have hg0 : Tryd.prog.eqGuardType Tryd.prog.depth 88 = false := by kernel_rfl
  have HN : Hid (∀ k, k < n → ¬ sysGood xs k → sysB xs = false) := Lib.hid (fun k hk hn => sysB_no (by rw [HL.out]; exact hk) hn)
  have HY : Hid (sysK xs n → sysB xs = decide ((n : Int) ≤ 21)) := Lib.hid (fun h => by
    rw [sysB_all (fun i hi => h i (by rw [HL.out] at hi; exact hi)), HL.out]
    exact decide_eq_decide.2 (by omega))
  clear h
  go_enter Tryd.func76, Tryd.ntmps76
  go_wp2
  go_loopw [3] (fun i wr => ∃ k : Nat, k ≤ n ∧ i = .int .i64 k ∧ Hid (sysK xs k) ∧ Below w.heap.size w wr) (fun i _ => n - (intOf i).toNat)
  case atStart => exact ⟨0, Nat.zero_le _, rfl, Lib.hid (fun i hi => by omega), Below.refl _ _⟩
  case round =>
    obtain ⟨k, hk, rfl, HK, hb⟩ := hrel
    by_cases hlt : k < n
    · obtain ⟨b, off, rfl, hbB, c0, c1, c2, hg⟩ := (H.out.keep hb).at_ hlt
      have HNk := Lib.hid (HN.out k hlt)
      have HO : Hid (okSg (sgAt xs k) = false → sysB xs = false) := Lib.hid (fun h => HNk.out (fun h2 => by rw [h2.1] at h; cases h))
      have hz := hb.size
      obtain ⟨x, hx⟩ : ∃ x, x = sgAt xs k := ⟨_, rfl⟩
      rw [← hx] at c0 c1 c2 hg HO
      have HX := Lib.hid hx; clear hx
      obtain ⟨l, ⟨d, z⟩⟩ := x
      dsimp only at c0 c1 c2 hg
      have i1 : (0 : Int) ≤ (k : Int) := by omega
      have i2 : (k : Int) < (n : Int) := by omega
      have K := Blk.new wr 96 #[.string (mkStr l), .int .i64 d, .int .i64 z]
      have k0 := K.cell 0; have k1 := K.cell 1; have k2 := K.cell 2
      have hb2 : Below w.heap.size w (wr.alloc (.cells #[.string (mkStr l), .int .i64 d, .int .i64 z] 96)) := hb.alloc hz _
      have HSv := Lib.hid (fun W => specStrokeValid d z W)
      by_cases hl : l.length = 1
      · have HOL : Hid (okSg ⟨l, ⟨d, z⟩⟩ = (wordB l && !isVow (at8 l 0) && okS ⟨d, z⟩)) := Lib.hid (by unfold okSg; rw [okL_one hl])
        obtain ⟨s, hs⟩ : ∃ s, s = mkStr l := ⟨_, rfl⟩
        have hs1 : s.size = 1 := by rw [hs, mkStr_size]; exact hl
        have e1 : (s.size : Int) = 1 := by omega
        have h01 : 0 < s.size := by omega
        have HWv : Hid (∀ W, Calls Tryd.prog 60 #[.string s] W fun e w' => e = .returned (.bool (wordB l)) ∧ W = w') := Lib.hid (fun W => by have := specWordValid s W (by unfold maxLen; omega); rw [hs, mkStr_data] at this; rw [hs]; exact this)
        have HVw : Hid (∀ W, Calls Tryd.prog 89 #[.int .u8 (s[0].toNat : Int)] W fun e w' => e = .returned (.bool (isVow (at8 l 0))) ∧ W = w') := Lib.hid (fun W => by
          have := l2Vowel s[0] W
          have e2 : s[0] = at8 l 0 := by rw [at8_str h01, hs, mkStr_data]
          rw [e2] at this ⊢
          exact this)
        rw [← hs] at c0 k0 K hb2
        have HS := Lib.hid hs
        clear hs
        cases hw : wordB l with
        | false =>
          have HF := Lib.hid (HO.out (by rw [HOL.out, hw]; rfl))
          go_wp2_with fail
          refine (HWv.out _).mono ?_
          rintro e w1 ⟨rfl, rfl⟩
          rw [hw]
          go_wp2
          go_ret
          exact ⟨ret_bool (by rw [HF.out]), hb2⟩
        | true =>
          go_wp2_with fail
          refine (HWv.out _).mono ?_
          rintro e w1 ⟨rfl, rfl⟩
          rw [hw]
          go_wp2_with fail
          refine (HVw.out _).mono ?_
          rintro e w1 ⟨rfl, rfl⟩
          cases hv : isVow (at8 l 0) with
          | true =>
            have HF := Lib.hid (HO.out (by rw [HOL.out, hv, Bool.not_true, Bool.and_false]; rfl))
            go_wp2
            go_ret
            exact ⟨ret_bool (by rw [HF.out]), hb2⟩
          | false =>
            go_wp2_with fail
            refine (HSv.out _).mono ?_
            rintro e w1 ⟨rfl, hb1⟩
            have hb3 := below_next hb2 hb1
            have k0' := (K.below hb1).cell 0; have k1' := (K.below hb1).cell 1; have k2' := (K.below hb1).cell 2
            cases ho : okS ⟨d, z⟩ with
            | false =>
              have HF := Lib.hid (HO.out (by rw [HOL.out, ho, Bool.and_false]))
              go_wp2
              go_ret
              exact ⟨ret_bool (by rw [HF.out]), hb3⟩
            | true =>
              have HOk : Hid (okSg (sgAt xs k) = true) := Lib.hid (by rw [← HX.out, HOL.out, hw, hv, ho]; rfl)
              have HK1 := Lib.hid (K.below hb1)
              go_wp2
              go_loopw [5] (fun i wr2 => ∃ j : Nat, j ≤ k ∧ i = .int .i64 j ∧ Hid (sysJ xs k j) ∧ Below w1.heap.size w1 wr2) (fun i _ => k - (intOf i).toNat)
              case atStart => exact ⟨0, Nat.zero_le _, rfl, Lib.hid (fun i hi => by omega), Below.refl _ _⟩
              case round =>
                obtain ⟨j, hj, rfl, HJ, hb4⟩ := hrel
                by_cases hlj : j < k
                · obtain ⟨b', off', eA, hbB', a0, a1, a2, hg'⟩ := (H.out.keep (hb3.trans (hb4.mono hb3.size))).at_ (k := j) (by omega)
                  injection eA with eA
                  injection eA with eA1 eA2
                  subst eA1 eA2
                  have K4 := HK1.out.below hb4
                  have m0 := K4.cell 0; have m1 := K4.cell 1; have m2 := K4.cell 2
                  have j1 : (0 : Int) ≤ (j : Int) := by omega
                  have j2 : (j : Int) < (n : Int) := by omega
                  have r0 := qcell a0; have r1 := qcell a1; have r2 := qcell a2
                  have q0 := qcell m0; have q1 := qcell m1; have q2 := qcell m2
                  have HSl : Hid (l = (sgAt xs k).l ∧ (⟨d, z⟩ : Stroke) = (sgAt xs k).st) := Lib.hid (by rw [← HX.out]; exact ⟨rfl, rfl⟩)
                  have HFj : Hid (((sgAt xs j).l = l ∨ (sgAt xs j).st = ⟨d, z⟩) → sysB xs = false) := Lib.hid (fun h => HN.out k hlt (fun h2 => by
                    have h3 := h2.2 j hlj
                    rw [← HSl.out.1, ← HSl.out.2] at h3
                    exact h.elim h3.1 h3.2))
                  have HJ2 : Hid ((sgAt xs j).l ≠ l → (sgAt xs j).st ≠ ⟨d, z⟩ → sysJ xs k (j + 1)) := Lib.hid (fun h1 h2 => sysJ_succ HJ.out (by rw [← HSl.out.1, ← HSl.out.2]; exact ⟨h1, h2⟩))
                  generalize sgAt xs j = y at *
                  obtain ⟨lj, ⟨dj, zj⟩⟩ := y
                  dsimp only at r0 r1 r2 HFj HJ2
                  have hq : ((mkStr lj).toList == s.toList) = decide (lj = l) := by
                    rw [HS.out, Lib.toList_data, Lib.toList_data, mkStr_data, mkStr_data]
                    by_cases h : lj = l
                    · rw [h, decide_eq_true rfl]; exact beq_self_eq_true _
                    · rw [decide_eq_false h]; exact beq_eq_false_iff_ne.2 h
                  by_cases hel : lj = l
                  · rw [decide_eq_true hel] at hq
                    have HF := Lib.hid (HFj.out (.inl hel))
                    clear hel
                    go_wp2_with fail
                    refine region_qb (by kernel_rfl) (by kernel_rfl) ?_
                    repeat (first | go_big_quiet_step (fail) | quiet_step (fail))
                    refine wpQuiet_nil ?_
                    intro w5 hb5; have b5 := below_next hb4 hb5
                    have b6 := below_next hb3 b5
                    go_wp2
                    go_ret
                    exact ⟨ret_bool (by rw [HF.out]), b6⟩
                  · rw [decide_eq_false hel] at hq
                    by_cases hes : (⟨dj, zj⟩ : Stroke) = ⟨d, z⟩
                    · have hE : ∀ W, (binOp .eql 88 (.agg #[.int .i64 dj, .int .i64 zj]) (.agg #[.int .i64 d, .int .i64 z])).run Tryd.prog W = .ok (.bool true) W := fun W => by rw [eqlStrokeRun, decide_eq_true hes]
                      have HF := Lib.hid (HFj.out (.inr hes))
                      clear hes
                      go_wp2_with fail
                      refine region_qb (by kernel_rfl) (by kernel_rfl) ?_
                      repeat (first | go_big_quiet_step (fail) | quiet_step (fail))
                      refine wpQuiet_nil ?_
                      intro w5 hb5; have b5 := below_next hb4 hb5
                      have b6 := below_next hb3 b5
                      go_wp2
                      go_ret
                      exact ⟨ret_bool (by rw [HF.out]), b6⟩
                    have hE : ∀ W, (binOp .eql 88 (.agg #[.int .i64 dj, .int .i64 zj]) (.agg #[.int .i64 d, .int .i64 z])).run Tryd.prog W = .ok (.bool false) W := fun W => by rw [eqlStrokeRun, decide_eq_false hes]
                    have hes := Lib.hid hes
                    go_wp2_with fail
                    refine region_qb (by kernel_rfl) (by kernel_rfl) ?_
                    repeat (first | go_big_quiet_step (fail) | quiet_step (fail))
                    refine wpQuiet_nil ?_
                    intro w5 hb5; have b5 := below_next hb4 hb5
                    clear hb5 hb4
                    go_wp2
                    go_roundw
                    case rel => exact ⟨j + 1, by omega, by go_num, Lib.hid (HJ2.out hel hes.out), b5⟩
                    case measure => simp [intOf]; omega
                · obtain rfl : j = k := by omega
                  have b5 := below_next hb3 hb4
                  go_wp2
                  go_roundw
                  case rel => exact ⟨j + 1, by omega, by go_num, Lib.hid (sysK_succ HK.out ⟨HOk.out, HJ.out⟩), b5⟩
                  case measure => simp [intOf]; omega
      · have e1 : (((mkStr l).size : Int) != 1) = true := by rw [mkStr_size]; simp; omega
        have HF := Lib.hid (HO.out (by unfold okSg; rw [okL_not hl]; rfl))
        go_wp2
        go_ret
        exact ⟨ret_bool (by rw [HF.out]), hb2⟩
    · obtain rfl : k = n := by omega
      have HF := Lib.hid (HY.out HK.out)
      go_wp2
      go_ret
      exact ⟨ret_bool (by rw [HF.out]), hb⟩
end Go.Proofs.YtppjjbjjbmodbaaDoor
