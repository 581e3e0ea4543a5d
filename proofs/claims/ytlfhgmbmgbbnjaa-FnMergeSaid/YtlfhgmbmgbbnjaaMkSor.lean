/-
  slices.SortStableFunc at no more than twenty marks: insertion sort. Conditions: the row is the call's own; the numbers are small.
-/
import Derived.Test.YtlfhgmbmgbbnjaaMkSrt
import Derived.Deep.DeepCutAuto
import Derived.Deep.Cut
import Derived.Deep.CutRange
import Derived.RegionTactic
import Derived.BigRegion
namespace Go.Proofs.Ytlfhgmbmgbbnjaa
open Go.ChangeShapes Go.WideShapes Go.ChangeAt Go.RowKit Go.Shelf
set_option maxRecDepth 100000
set_option linter.unusedSimpArgs false
set_option linter.unusedVariables false

theorem MrOwn.cells {w : World} {B n c g j : Nat} {D : List Mr} (h : MrOwn w B (.slice (some ⟨g, 0, none⟩) n c) D) (hn : D.length = n) (hj : j < n) :
    (w.cell? ⟨g, j * 3, none⟩ = some (.int .i64 ((mrAt D j).at_ : Int)) ∧ w.frozen? ⟨g, j * 3, none⟩ = false) ∧ (w.cell? ⟨g, j * 3 + 1, none⟩ = some (.int .i64 ((mrAt D j).cut : Int)) ∧ w.frozen? ⟨g, j * 3 + 1, none⟩ = false) ∧ (w.cell? ⟨g, j * 3 + 2, none⟩ = some (.slice (mrAt D j).A (mrAt D j).n (mrAt D j).c) ∧ w.frozen? ⟨g, j * 3 + 2, none⟩ = false) := by
  have hs := mrAt_some (xs := D) (k := j) (by omega)
  refine ⟨own_cell h.1 rfl ?_, own_cell h.1 rfl ?_, own_cell h.1 rfl ?_⟩
  · have := flat_at mkC_len D j _ 0 (.int .i64 ((mrAt D j).at_ : Int)) hs rfl
    simpa using this
  · exact flat_at mkC_len D j _ 1 (.int .i64 ((mrAt D j).cut : Int)) hs rfl
  · exact flat_at mkC_len D j _ 2 (.slice (mrAt D j).A (mrAt D j).n (mrAt D j).c) hs rfl
/-- The row and its order so far. -/
def SrtRow (w wr : World) (B n c g : Nat) (D D' : List Mr) : Prop := D'.Perm D ∧ MrOwn wr B (.slice (some ⟨g, 0, none⟩) n c) D' ∧ w.grownBy wr (some g)
set_option maxHeartbeats 3200000 in
theorem insSort (g c B : Nat) (D : List Mr) (w : World) (hO : MrOwn w B (.slice (some ⟨g, 0, none⟩) D.length c) D) (hs : ∀ x ∈ D, SmM x) (hl : D.length ≤ 20) :
    Calls Try.prog 59 #[.slice (some ⟨g, 0, none⟩) D.length c, .int .i64 0, .int .i64 (D.length : Int), .func (.func 43) #[] #[]] w fun e w' => e = .returned (.tuple #[]) ∧ ∃ D', Outr D' D'.length ∧ SrtRow w w' B D.length c g D D' := by
  have HS : Hid (∀ D' : List Mr, D'.Perm D → D'.length = D.length ∧ ∀ k, k < D.length → SmM (mrAt D' k)) := Lib.hid (fun D' hp => ⟨hp.length_eq, fun k hk => hs _ (hp.mem_iff.1 (mrAt_mem (by rw [hp.length_eq]; exact hk)))⟩)
  have H0 : Hid (SrtRow w w B D.length c g D D) := Lib.hid ⟨List.Perm.refl _, hO, World.grownBy.refl _ _⟩
  clear hO hs
  obtain ⟨n, hn⟩ : ∃ n, n = D.length := ⟨_, rfl⟩
  rw [← hn] at hl H0 HS ⊢
  have HN := Lib.hid hn
  clear hn
  have eg : ∀ args w, (callFunc 43 args).run Try.prog w = .ok (.enter 43 args) w := enters_of Try.func43 (by kernel_rfl) rfl
  go_enter Try.func59, Try.ntmps59
  go_wp2
  go_loopw [8] (fun s8 wr => ∃ (i : Nat) (D' : List Mr), 1 ≤ i ∧ i ≤ 21 ∧ s8 = .int .i64 i ∧ Hid (Outr D' i) ∧ Hid (SrtRow w wr B n c g D D')) (fun s8 _ => 21 - (intOf s8).toNat)
  case atStart => exact ⟨1, D, Nat.le_refl _, by omega, by go_num, Lib.hid (fun p q h1 h2 => by omega), H0⟩
  case round =>
    obtain ⟨i, D1, hi1, hi21, rfl, HO, HR⟩ := hrel
    have i1 : (0 : Int) ≤ (i : Int) := by omega
    by_cases hlt : i < n
    · have i2 : (i : Int) < (n : Int) := by omega
      have i3 : (i : Int) ≤ 20 := by omega
      have HI0 := Lib.hid (Inn.start HO.out)
      clear HO
      obtain ⟨wo, rfl⟩ : ∃ wo : World, wo = wr := ⟨_, rfl⟩
      go_wp2
      go_loopw [9] (fun s9 wr => ∃ (j : Nat) (D' : List Mr), j ≤ i ∧ s9 = .int .i64 j ∧ Hid (Inn D' i j) ∧ Hid (SrtRow w wr B n c g D D')) (fun s9 _ => (intOf s9).toNat)
      case atStart => exact ⟨i, D1, Nat.le_refl _, rfl, HI0, HR⟩
      case round =>
        obtain ⟨j, D2, hji, rfl, HI, HR2⟩ := hrel
        have j0 : (0 : Int) ≤ (j : Int) := by omega
        have j3 : (j : Int) ≤ 20 := by omega
        go_upto_region 4 with fail
        go_cut [34] (fun c34 wx => Below wr.heap.size wr wx ∧ Value.bool (decide (0 < j ∧ (mrAt D2 j).at_ < (mrAt D2 (j - 1)).at_)) = c34)
        case first =>
          have HR3 := HR2.out.2.1
          obtain ⟨hl2, hs2⟩ := HS.out D2 HR2.out.1
          by_cases h0 : 0 < j
          · obtain ⟨⟨c0, _⟩, ⟨c1, _⟩, ⟨c2, _⟩⟩ := HR3.cells hl2 (show j < n by omega)
            obtain ⟨⟨d0, _⟩, ⟨d1, _⟩, ⟨d2, _⟩⟩ := HR3.cells hl2 (show j - 1 < n by omega)
            have sx := hs2 j (by omega); have sy := hs2 (j - 1) (by omega)
            have HC := Lib.hid (fun W => orderMk (mrAt D2 j) (mrAt D2 (j - 1)) W sx sy)
            have s1 := sx.1; have s2 := sy.1
            have HF : Hid (decide (0 < j ∧ (mrAt D2 j).at_ < (mrAt D2 (j - 1)).at_) = decide (((mrAt D2 j).at_ : Int) - ((mrAt D2 (j - 1)).at_ : Int) < 0)) := Lib.hid (decide_eq_decide.2 ⟨fun h => by have := h.2; omega, fun h => ⟨h0, by omega⟩⟩)
            have z0 : decide (0 < j) = true := decide_eq_true h0
            have ek : (j : Int) - 1 = ((j - 1 : Nat) : Int) := by omega
            have ekw : IntKind.i64.wrap ((j : Int) - 1) = ((j - 1 : Nat) : Int) := by rw [ek]; exact IntWalk.i64_in _ (by omega)
            have q0 := qcell c0; have q1 := qcell c1; have q2 := qcell c2; have r0 := qcell d0; have r1 := qcell d1; have r2 := qcell d2
            have j5 : (j : Int) < (n : Int) := by omega
            have j6 : ((j - 1 : Nat) : Int) < (n : Int) := by omega
            have j7 : (0 : Int) ≤ ((j - 1 : Nat) : Int) := by omega
            clear sx sy hs2 HR3 HI HR HR2 HI0 HS
            generalize mrAt D2 j = x at *
            generalize mrAt D2 (j - 1) = y at *
            generalize j - 1 = k at *
            refine region_qb (by kernel_rfl) (by kernel_rfl) ?_
            repeat (first | go_big_quiet_step ((go_at_fn 43; exact quietB (HC.out _))) | quiet_step ((go_at_fn 43; exact quietB (HC.out _))))
            refine wpQuiet_nil ?_
            intro w7 hb7
            go_wp2
            go_meet
            exact ⟨hb7, congrArg Value.bool HF.out⟩
          · have z0 : decide (0 < j) = false := decide_eq_false h0
            have HF : Hid (decide (0 < j ∧ (mrAt D2 j).at_ < (mrAt D2 (j - 1)).at_) = false) := Lib.hid (decide_eq_false (fun h => h0 h.1))
            clear hs2 HR3 HI HR HR2 HI0 HS h0
            refine region_qb (by kernel_rfl) (by kernel_rfl) ?_
            repeat (first | go_big_quiet_step (fail) | quiet_step (fail))
            refine wpQuiet_nil ?_
            intro w7 hb7
            go_wp2
            go_meet
            exact ⟨hb7, congrArg Value.bool HF.out⟩
        case rest =>
          obtain ⟨hb5, rfl⟩ := hcut
          have HR5 : Hid (SrtRow w wc B n c g D D2) := Lib.hid ⟨HR2.out.1, HR2.out.2.1.keep hb5, grown_below HR2.out.2.2 hb5⟩
          generalize wc = w5 at *
          clear HR2 hb5
          by_cases hc : 0 < j ∧ (mrAt D2 j).at_ < (mrAt D2 (j - 1)).at_
          · rw [decide_eq_true hc]
            obtain ⟨h0, hlt2⟩ := hc
            obtain ⟨hl2, hs2⟩ := HS.out D2 HR5.out.1
            obtain ⟨k, rfl⟩ : ∃ k, j = k + 1 := ⟨j - 1, by omega⟩
            rw [Nat.add_sub_cancel] at hlt2
            obtain ⟨⟨c0, f0⟩, ⟨c1, f1⟩, ⟨c2, f2⟩⟩ := HR5.out.2.1.cells hl2 (show k + 1 < n by omega)
            obtain ⟨⟨d0, g0⟩, ⟨d1, g1⟩, ⟨d2, g2⟩⟩ := HR5.out.2.1.cells hl2 (show k < n by omega)
            have HI3 := Lib.hid (HI.out.step (by omega) hji hlt2)
            have ek : ((k + 1 : Nat) : Int) - 1 = (k : Int) := by omega
            go_wp2_with fail

            go_region
            all_goals
              have HS6 : Hid (SrtRow w ((((((w5.setCell ⟨g, (k + 1) * 3, none⟩ (.int .i64 ((mrAt D2 k).at_ : Int))).setCell ⟨g, (k + 1) * 3 + 1, none⟩ (.int .i64 ((mrAt D2 k).cut : Int))).setCell ⟨g, (k + 1) * 3 + 2, none⟩ (.slice (mrAt D2 k).A (mrAt D2 k).n (mrAt D2 k).c)).setCell ⟨g, k * 3, none⟩ (.int .i64 ((mrAt D2 (k + 1)).at_ : Int))).setCell ⟨g, k * 3 + 1, none⟩ (.int .i64 ((mrAt D2 (k + 1)).cut : Int))).setCell ⟨g, k * 3 + 2, none⟩ (.slice (mrAt D2 (k + 1)).A (mrAt D2 (k + 1)).n (mrAt D2 (k + 1)).c)).drew B n c g D (swp D2 k)) := Lib.hid (by
                have hO := HR5.out.2.1
                rw [← hl2] at hO
                have hsw := hO.swapped (w' := put3 (put3 w5 g (k + 1) (mrAt D2 k)) g k (mrAt D2 (k + 1))) (by omega) (.inl rfl)
                rw [hl2] at hsw
                exact ⟨(swp_perm (by omega)).trans HR5.out.1, hsw.1.keep (Below.refl _ _).drew, grown_below (only_next HR5.out.2.2 hsw.2) (Below.refl _ _).drew⟩)
              generalize ((((((w5.setCell ⟨g, (k + 1) * 3, none⟩ (.int .i64 ((mrAt D2 k).at_ : Int))).setCell ⟨g, (k + 1) * 3 + 1, none⟩ (.int .i64 ((mrAt D2 k).cut : Int))).setCell ⟨g, (k + 1) * 3 + 2, none⟩ (.slice (mrAt D2 k).A (mrAt D2 k).n (mrAt D2 k).c)).setCell ⟨g, k * 3, none⟩ (.int .i64 ((mrAt D2 (k + 1)).at_ : Int))).setCell ⟨g, k * 3 + 1, none⟩ (.int .i64 ((mrAt D2 (k + 1)).cut : Int))).setCell ⟨g, k * 3 + 2, none⟩ (.slice (mrAt D2 (k + 1)).A (mrAt D2 (k + 1)).n (mrAt D2 (k + 1)).c)).drew = w6 at *
              clear c0 f0 c1 f1 c2 f2 d0 g0 d1 g1 d2 g2 HI HR5 hs2 hl2 hlt2
              have k0 : (0 : Int) ≤ (k : Int) := by omega
              have k3 : (k : Int) + 1 ≤ 20 := by omega
              go_wp2
              go_roundw
              case rel => exact ⟨k, swp D2 k, by omega, by go_num, HI3, HS6⟩
              case measure => simp [intOf] <;> omega
          · rw [decide_eq_false hc]
            have HO2 := Lib.hid (HI.out.stop hji (by
              rcases Nat.eq_zero_or_pos j with h | h
              · exact .inl h
              · exact .inr (fun h2 => hc ⟨h, h2⟩)))
            clear HI hc
            go_wp2
            go_roundw
            case rel => exact ⟨i + 1, D2, by omega, by omega, by go_num, HO2, HR5⟩
            case measure => simp [intOf]; omega
    · go_wp2
      go_returns
      obtain ⟨hl2, _⟩ := HS.out D1 HR.out.1
      exact ⟨rfl, D1, fun p q h1 h2 => HO.out p q h1 (by omega), HR.out⟩
theorem insSort0 (v f : Value) (a : Int) (h0 : 0 ≤ a) (h1 : a ≤ 100) (w : World) :
    Calls Try.prog 59 #[v, .int .i64 a, .int .i64 a, f] w fun e w' => e = .returned (.tuple #[]) ∧ Below w.heap.size w w' := by
  have e1 : ¬ a + 1 < a := by omega
  go_enter Try.func59, Try.ntmps59
  go_wp2
  go_loopw [8] (fun s8 wr => s8 = .int .i64 (a + 1) ∧ Below w.heap.size w wr) (fun _ _ => 0)
  case atStart => exact ⟨rfl, Below.refl _ _⟩
  case round =>
    obtain ⟨rfl, hb⟩ := hrel
    go_wp2
    go_returns
    exact ⟨rfl, hb⟩
set_option maxHeartbeats 800000 in
theorem stableSort (g c B : Nat) (D : List Mr) (w : World) (hO : MrOwn w B (.slice (some ⟨g, 0, none⟩) D.length c) D) (hs : ∀ x ∈ D, SmM x) (hl : D.length ≤ 20) :
    Calls Try.prog 56 #[.slice (some ⟨g, 0, none⟩) D.length c, .int .i64 (D.length : Int), .func (.func 43) #[] #[]] w fun e w' => e = .returned (.tuple #[]) ∧ ∃ D', Outr D' D'.length ∧ SrtRow w w' B D.length c g D D' := by
  obtain ⟨n, hn⟩ : ∃ n, n = D.length := ⟨_, rfl⟩
  have HI := Lib.hid (insSort g c B D w hO hs hl)
  rw [← hn] at HI hl hO ⊢
  have H0 : Hid (SrtRow w w B n c g D D) := Lib.hid ⟨List.Perm.refl _, hO, World.grownBy.refl _ _⟩
  have HN := Lib.hid hn
  clear hO hs hn
  by_cases h20 : n = 20
  · have HN2 := Lib.hid h20
    have HZ := Lib.hid (fun W => insSort0 (.slice (some ⟨g, 0, none⟩) n c) (.func (.func 43) #[] #[]) 20 (by omega) (by omega) W)
    rw [h20] at HI H0 HZ ⊢
    rw [show ((20 : Nat) : Int) = 20 from rfl] at HI ⊢
    clear h20 hl HN HN2
    go_enter Try.func56, Try.ntmps56
    go_wp2
    go_loopw [7, 8] (fun s7 s8 wr => (s7 = .int .i64 0 ∧ s8 = .int .i64 20 ∧ w = wr) ∨ (s7 = .int .i64 20 ∧ s8 = .int .i64 40 ∧ Hid (∃ D', Outr D' D'.length ∧ SrtRow w wr B 20 c g D D'))) (fun _ s8 _ => 40 - (intOf s8).toNat)
    case atStart => exact .inl ⟨rfl, rfl, rfl⟩
    case round =>
      rcases hrel with ⟨rfl, rfl, rfl⟩ | ⟨rfl, rfl, HR⟩
      · go_wp2_with fail
        refine HI.out.mono ?_
        rintro e w1 ⟨rfl, hR⟩
        have HR := Lib.hid hR
        clear hR
        go_wp2
        go_roundw
        case rel => exact .inr ⟨rfl, rfl, HR⟩
        case measure => simp [intOf] <;> omega
      · go_wp2_with fail
        refine (HZ.out _).mono ?_
        rintro e w1 ⟨rfl, hb1⟩
        obtain ⟨D', hD, hp, ho, hg⟩ := HR.out
        have HR1 : Hid (∃ D', Outr D' D'.length ∧ SrtRow w w1 B 20 c g D D') := Lib.hid ⟨D', hD, hp, ho.keep hb1, grown_below hg hb1⟩
        clear HR HI H0 HZ hD hp ho hg hb1
        go_wp2
        go_loopw [6] (fun s6 wr => s6 = .int .i64 20 ∧ w1 = wr) (fun _ _ => 0)
        case atStart => exact ⟨rfl, rfl⟩
        case round =>
          obtain ⟨rfl, rfl⟩ := hrel
          go_wp2
          go_returns
          exact ⟨rfl, HR1.out⟩
  · have hlt : n < 20 := by omega
    have hlt2 : (n : Int) < 20 := by omega
    clear h20 hl HN
    go_enter Try.func56, Try.ntmps56
    go_wp2
    go_loopw [7, 8] (fun s7 s8 wr => s7 = .int .i64 0 ∧ s8 = .int .i64 20 ∧ w = wr) (fun _ s8 _ => 40 - (intOf s8).toNat)
    case atStart => exact ⟨rfl, rfl, rfl⟩
    case round =>
      obtain ⟨rfl, rfl, rfl⟩ := hrel
      go_wp2_with fail
      refine HI.out.mono ?_
      rintro e w1 ⟨rfl, hR⟩
      have HR := Lib.hid hR
      clear hR HI H0
      go_wp2
      go_loopw [6] (fun s6 wr => s6 = .int .i64 20 ∧ w1 = wr) (fun _ _ => 0)
      case atStart => exact ⟨rfl, rfl⟩
      case round =>
        obtain ⟨rfl, rfl⟩ := hrel
        go_wp2
        go_returns
        exact ⟨rfl, HR.out⟩
theorem sortStable (g c B : Nat) (D : List Mr) (w : World) (hO : MrOwn w B (.slice (some ⟨g, 0, none⟩) D.length c) D) (hs : ∀ x ∈ D, SmM x) (hl : D.length ≤ 20) :
    Calls Try.prog 42 #[.slice (some ⟨g, 0, none⟩) D.length c, .func (.func 43) #[] #[]] w fun e w' => e = .returned (.tuple #[]) ∧ ∃ D', Outr D' D'.length ∧ SrtRow w w' B D.length c g D D' := by
  have HI := Lib.hid (stableSort g c B D w hO hs hl)
  have h2 : c ≤ maxLen := by
    obtain ⟨_, _, e, h1, h2⟩ := ownG_form hO.1
    injection e with _ _ e3
    omega
  unfold maxLen at h2
  obtain ⟨n, hn⟩ : ∃ n, n = D.length := ⟨_, rfl⟩
  rw [← hn] at HI ⊢
  clear hO hs hn hl
  go_enter Try.func42, Try.ntmps42
  go_wp2_with fail
  refine HI.out.mono ?_
  rintro e w1 ⟨rfl, hR⟩
  have HR := Lib.hid hR
  clear hR HI
  go_wp2
  go_returns
  exact ⟨rfl, HR.out⟩
end Go.Proofs.Ytlfhgmbmgbbnjaa
