/-
  The law FnPads returns true for every input, and what was in memory before the call reads as before: the frame round its walk.
  Conditions: none.
-/
import Derived.Test.YtfbfapobmhfenaaFileLaw3
import Derived.Test.YtfbfapobmhfenaaDrawFile
import Derived.Test.YtfbfapobmhfenaaTreeB
import Derived.Test.YtfbfapobmhfenaaMarkLaw
import Derived.Test.YtfbfapobmhfenaaFindA
import Derived.Test.YtfbfapobmhfenaaPosLaw
namespace Go.Proofs.Ytfbfapobmhfenaa.fnPads
open Go.ChangeShapes Go.WideShapes Go.ChangeAt Go.RowKit
set_option linter.unusedVariables false

set_option maxRecDepth 100000 in
set_option maxHeartbeats 1600000 in
theorem walk (A : Option Addr) (n c : Nat) (bs : List Int) (W : World) (hb : BytesIn W W.heap.size A n c bs) :
    Calls Try.prog 10 #[.slice A n c] W fun e w' => e = .returned (.bool true) ∧ Below W.heap.size W w' := by
  have hm := hb.2.2.1
  have hnc := hb.2.1
  unfold maxLen at hm
  by_cases hn : 1048576 < n
  · clear hb
    go_enter Try.func10, Try.ntmps10
    go_wp2
    go_returns
    exact ⟨rfl, by go_grown⟩
  have HD := Lib.hid (drawCabinetPads A n c bs W hb)
  clear hb
  go_enter Try.func10, Try.ntmps10
  go_wp2_with fail
  refine HD.out.mono ?_
  rintro e w1 ⟨Ac, cc, ds, rfl, hD, hsz, b1⟩
  have hcm := hD.2.2.1; have hcc := hD.2.1
  unfold maxLen at hcm
  have HK : Hid (∀ w, Below w1.heap.size w1 w → DrawersIn w w.heap.size Ac ds.length cc ds) := Lib.hid (fun w h => hD.keep h)
  clear hD HD
  have hdl : ds.length ≤ 4096 := by have := cabSz_len ds; omega
  generalize hdn : ds.length = N at *
  have HN := Lib.hid hdn; clear hdn
  have HI := Lib.hid (implCabinetPads Ac N cc ds w1 (by omega) (HK.out w1 (Below.refl _ _)))
  have HS : Hid (∀ W, Below w1.heap.size w1 W → Calls Try.prog 46 #[.slice Ac N cc] W fun e w' => PadsAns w' W.heap.size (ds.map (·.ps)) e ∧ Below W.heap.size W w') := Lib.hid (fun W hW => specCabinetPads Ac N cc ds W (by omega) (HK.out W hW))
  unfold PadsAns at HI HS
  have hgood : ∀ q ∈ ansP (ds.map (·.ps)), q.good := fun q hq => by
    cases hc : cabB (ds.map (·.ps)) with
    | false => rw [ansP_no hc] at hq; cases hq
    | true =>
      rw [ansP_yes hc, allPads_flat] at hq
      exact allPads_good (HK.out w1 (Below.refl _ _)) q hq
  have HG := Lib.hid hgood; clear hgood
  have HC : Hid (cabB (ds.map (·.ps)) = true → cabOK (ds.map (·.ps)) ∧ ansP (ds.map (·.ps)) = (ds.map (·.ps)).flatten) := Lib.hid (fun h => ⟨cabB_iff.1 h, ansP_yes h⟩)
  generalize hT : ansP (ds.map (·.ps)) = T at *
  clear hT
  generalize hTn : T.length = Tn at *
  have HTn := Lib.hid hTn; clear hTn
  cases hcb : cabB (ds.map (·.ps)) with
  | false =>
    rw [hcb] at HI HS
    clear hcb HC
    go_wp2_with fail
    refine HI.out.mono ?_
    rintro e w2 ⟨⟨A2, c2, rfl, hO2⟩, hb2⟩
    have b2 := below_next b1 hb2
    have HT2 := Lib.hid (hO2.reads HTn.out HG.out)
    have HS2 := Lib.hid (HS.out w2 hb2)
    clear hO2 hb2 HI HS
    go_wp2_with fail
    refine HS2.out.mono ?_
    rintro e w3 ⟨⟨A3, c3, rfl, hO3⟩, hb3⟩
    have b3 := below_next b2 hb3
    have HT3 := Lib.hid (HT2.out.keep hb3)
    have HU3 := Lib.hid (hO3.reads HTn.out HG.out)
    clear hO3 hb3 HS2 HT2
    go_wp2_with fail
    refine (samePads A2 A3 Tn c2 c3 T w3 HT3.out HU3.out).mono ?_
    rintro e w4 ⟨rfl, hb4⟩
    have b4 := below_next b3 hb4
    have HT4 := Lib.hid (HT3.out.keep hb4)
    have HU4 := Lib.hid (HU3.out.keep hb4)
    clear hb4 HT3 HU3
    go_wp2_with fail
    refine (samePads A2 A3 Tn c2 c3 T w4 HT4.out HU4.out).mono ?_
    rintro e w5 ⟨rfl, hb5⟩
    have b5 := below_next b4 hb5
    go_wp2
    go_returns
    exact ⟨rfl, b5⟩
  | true =>
    obtain ⟨hc, hTe⟩ := HC.out hcb
    rw [hcb] at HI HS
    have hne : ∀ ps ∈ ds.map (·.ps), 1 ≤ ps.length := fun ps h => (hc.2.1 ps h).1
    have hTl : (ds.map (·.ps)).flatten.length = Tn := by rw [← hTe]; exact HTn.out
    have hT24 := filter_small hc
    rw [hTl] at hT24
    have hcnt := cntI_yes hcb
    rw [hTl] at hcnt
    have HFd : Hid (∀ q W, q < Tn → Below w1.heap.size w1 W → Calls Try.prog 37 #[.slice Ac N cc, .agg #[.int .i64 (padAt T q).day, .string (padAt T q).case]] W fun e w' => e = .returned (.tuple #[.int .i64 ((posN (ds.map (·.ps)) q).1 : Int), .int .i64 ((posN (ds.map (·.ps)) q).2 : Int), .bool true]) ∧ Below W.heap.size W w') := Lib.hid (fun q W hq hW => by
      have h1 := implCabinetFind Ac N cc ds (padAt T q) W (HK.out W hW)
      have h2 := findO_yes hc (pos_found (css := ds.map (·.ps)) (q := q) (by omega))
      rw [← hTe] at h2
      rw [h2] at h1
      exact h1)
    have HSt : Hid (∀ q x y, q < Tn → Ahead (ds.map (·.ps)) q x y → (x < ((posN (ds.map (·.ps)) q).1 : Int) ∧ (posN (ds.map (·.ps)) q).2 = 0) ∨ (x = ((posN (ds.map (·.ps)) q).1 : Int) ∧ y + 1 = ((posN (ds.map (·.ps)) q).2 : Int))) := Lib.hid (fun q x y hq h => h.step hne (by omega))
    have HLe : Hid (∀ q, q < Tn → (posN (ds.map (·.ps)) q).1 < 6 ∧ (posN (ds.map (·.ps)) q).2 < 4) := Lib.hid (fun q hq => pos_le hc (by omega))
    have HCt : Hid (∀ W, Below w1.heap.size w1 W → Calls Try.prog 30 #[.slice Ac N cc] W fun e w' => e = .returned (.int .i64 (Tn : Int)) ∧ Below W.heap.size W w') := Lib.hid (fun W hW => by
      have h1 := implCabinetCount Ac N cc ds W (by omega) (HK.out W hW)
      rwa [hcnt] at h1)
    have hYok : cabOK ((ofO [] T).getD []) := by
      cases h : ofO [] T with
      | none => exact cab_nil
      | some y => exact ofO_ok cab_nil h
    have hYb := cabB_yes hYok
    have hso : sortedOK T := by rw [hTe]; exact hc.2.2
    have HYT : Hid (∀ y, ofO [] T = some y → y.flatten = T) := Lib.hid (fun y h => of_sorted hso h)
    have HPo : Hid (∀ A c s W, s.map (·.ps) = (ofO [] T).getD [] → DrawersIn W W.heap.size A s.length c s → Calls Try.prog 26 #[.slice A s.length c] W fun e w' => (∃ A c, e = .returned (.tuple #[.slice A ((ofO [] T).getD []).flatten.length c, .bool true]) ∧ PadsIn w' w'.heap.size A ((ofO [] T).getD []).flatten.length c ((ofO [] T).getD []).flatten) ∧ Below W.heap.size W w') := Lib.hid (fun A c s W hs hD => by
      have hsz := cab_small (ds := s) (by rw [hs]; exact hYok)
      have h1 := implCabinetPads A s.length c s W (by omega) hD
      unfold PadsAns at h1
      rw [hs, hYb, ansP_yes hYb] at h1
      refine h1.mono ?_
      rintro e w' ⟨⟨A', c', rfl, hO⟩, hb⟩
      refine ⟨⟨A', c', rfl, hO.reads rfl fun q hq => ?_⟩, hb⟩
      have h2 := allPads_good hD q
      rw [← allPads_flat, hs] at h2
      exact h2 hq)
    clear hcb HC hc hTe hne hTl hcnt hYok hYb hso
    generalize ds.map (·.ps) = css at *
    go_wp2_with fail
    refine HI.out.mono ?_
    rintro e w2 ⟨⟨A2, c2, rfl, hO2⟩, hb2⟩
    have b2 := below_next b1 hb2
    have k2 := hb2
    have HT2 := Lib.hid (hO2.reads HTn.out HG.out)
    have hc2 := HT2.out.2.1
    have hcm2 := HT2.out.2.2.1
    unfold maxLen at hcm2
    have HS2 := Lib.hid (HS.out w2 hb2)
    clear hO2 hb2 HI HS
    go_wp2_with fail
    refine HS2.out.mono ?_
    rintro e w3 ⟨⟨A3, c3, rfl, hO3⟩, hb3⟩
    have b3 := below_next b2 hb3
    have k3 := below_next k2 hb3
    have HT3 := Lib.hid (HT2.out.keep hb3)
    have HU3 := Lib.hid (hO3.reads HTn.out HG.out)
    clear hO3 hb3 HS2 HT2
    go_wp2_with fail
    refine (samePads A2 A3 Tn c2 c3 T w3 HT3.out HU3.out).mono ?_
    rintro e w4 ⟨rfl, hb4⟩
    have b4 := below_next b3 hb4
    have k4 := below_next k3 hb4
    have HT4 := Lib.hid (HT3.out.keep hb4)
    clear hb4 HT3 HU3 b1 b2 b3 k2 k3
    go_wp2
    go_loopw [8, 9, 10] (fun D K i wr => ∃ (q : Nat) (x y : Int), q ≤ Tn ∧ i = .int .i64 q ∧ D = .int .i64 x ∧ K = .int .i64 y ∧ -1 ≤ x ∧ x ≤ 5 ∧ 0 ≤ y ∧ y ≤ 3 ∧ Hid (Ahead css q x y) ∧ Below w4.heap.size w4 wr) (fun _ _ i _ => Tn - (intOf i).toNat)
    case atStart => exact ⟨0, -1, 0, Nat.zero_le _, rfl, rfl, rfl, by omega, by omega, by omega, by omega, Lib.hid (Ahead.start css), Below.refl _ _⟩
    case round =>
      obtain ⟨q, x, y, hq, rfl, rfl, rfl, hx0, hx1, hy0, hy1, HA, hbr⟩ := hrel
      by_cases hlt : q < Tn
      · obtain ⟨b, off, eA, hbB, q0, q1, hg⟩ := (HT4.out.keep hbr).at_ hlt
        have HF := Lib.hid (HFd.out q wr hlt (below_next k4 hbr))
        have hst := HSt.out q x y hlt HA.out
        obtain ⟨hl1, hl2⟩ := HLe.out q hlt
        have HNx := Lib.hid (Ahead.next css q)
        subst eA
        clear hg HA
        generalize padAt T q = p at *
        generalize (posN css q).1 = d at *
        generalize (posN css q).2 = k at *
        go_wp2_with fail
        refine HF.out.mono ?_
        rintro e w5 ⟨rfl, hb5⟩
        have b5 := below_next hbr hb5
        clear hb5 HF q0 q1
        rcases hst with ⟨h1, h2⟩ | ⟨h1, h2⟩
        · have f1 : ((d : Int) == x) = false := beq_eq_false_iff_ne.2 (by omega)
          have f2 : ((k : Int) != 0) = false := bne_eq_false_iff_eq.2 (by omega)
          have f3 : ¬ (d : Int) < x := by omega
          clear h2
          go_wp2
          go_roundw
          case rel => exact ⟨q + 1, d, k, by omega, by go_num, rfl, rfl, by omega, by omega, by omega, by omega, HNx, b5⟩
          case measure => simp [intOf]; omega
        · have f1 : ((d : Int) == x) = true := beq_iff_eq.2 (by omega)
          have f2 : ((k : Int) != y + 1) = false := bne_eq_false_iff_eq.2 (by omega)
          have f3 : ¬ (d : Int) < x := by omega
          have f4 : ¬ x < (d : Int) := by omega
          clear h1 h2
          go_wp2
          go_roundw
          case rel => exact ⟨q + 1, d, k, by omega, by go_num, rfl, rfl, by omega, by omega, by omega, by omega, HNx, b5⟩
          case measure => simp [intOf]; omega
      · have b5 := below_next b4 hbr
        have k5 := below_next k4 hbr
        have HT5 := Lib.hid (HT4.out.keep hbr)
        have HOf := Lib.hid (implCabinetOf A2 Tn c2 T wr HT5.out)
        clear HA HT4 hbr
        generalize hfo : ofO [] T = FO at *
        clear hfo
        generalize hty : (FO.getD []).flatten = TY at *
        have HTY := Lib.hid hty; clear hty
        generalize hyn : TY.length = yn at *
        have HYN := Lib.hid hyn; clear hyn
        go_wp2_with fail
        refine HOf.out.mono ?_
        rintro e w6 ⟨hA, hb6⟩
        obtain ⟨A6, c6, s6, rfl, hO6, hM6⟩ := hA.form
        have b6 := below_next b5 hb6
        have k6 := below_next k5 hb6
        have HT6 := Lib.hid (HT5.out.keep hb6)
        have HP6 := Lib.hid (HPo.out A6 c6 s6 w6 hM6 (hO6.reads rfl))
        clear hA hO6 hM6 hb6 HPo HT5 HOf
        generalize s6.length = m6 at *
        go_wp2_with fail
        refine HP6.out.mono ?_
        rintro e w7 ⟨⟨A7, c7, rfl, hP7⟩, hb7⟩
        have b7 := below_next b6 hb7
        have k7 := below_next k6 hb7
        have HT7 := Lib.hid (HT6.out.keep hb7)
        have HP7 := Lib.hid hP7
        clear hb7 HP6 hP7 HT6
        have hee : ((Tn : Int) == (Tn : Int)) = true := by simp
        cases FO with
        | none =>
          simp only [Option.isSome_none]
          go_wp2_with fail
          refine (HCt.out w7 k7).mono ?_
          rintro e w8 ⟨rfl, hb8⟩
          have b8 := below_next b7 hb8
          go_wp2
          go_returns
          exact ⟨rfl, b8⟩
        | some y2 =>
          have e1 : TY = T := by rw [← HTY.out]; exact HYT.out y2 rfl
          have e2 : yn = Tn := by rw [← HYN.out, ← HTn.out, e1]
          have HSp : Hid (∀ W, Below w7.heap.size w7 W → Calls Try.prog 27 #[.slice A7 yn c7, .slice A2 Tn c2] W fun e w' => e = .returned (.bool true) ∧ Below W.heap.size W w') := Lib.hid (fun W hW => by
            have h1 := HP7.out.keep hW
            have h2 := HT7.out.keep hW
            rw [e1] at h1
            subst e2
            exact samePads A7 A2 yn c7 c2 T W h1 h2)
          clear e1 e2
          simp only [Option.isSome_some]
          go_wp2_with fail
          refine (HCt.out w7 k7).mono ?_
          rintro e w8 ⟨rfl, hb8⟩
          have b8 := below_next b7 hb8
          go_wp2_with fail
          refine (HSp.out w8 hb8).mono ?_
          rintro e w9 ⟨rfl, hb9⟩
          have b9 := below_next b8 hb9
          go_wp2
          go_returns
          exact ⟨rfl, b9⟩

set_option maxRecDepth 100000 in
theorem lifted (os : Os) (started : os.Started) (H : Type) (enc : TypeId × Value → H) :
    ReturnsInHanded {} Try.checked os 10 .any (Rows.fnPadsSpec.pre6 enc Try.prog Try.f10 Rows.fnPadsRow.domain false) (Rows.fnPadsSpec.post enc Try.prog Try.f10 false true false false) := by
  refine returnsInHanded_of_change (C := Try.checked) own started (by kernel_rfl) Try.func10
    (ChangeSpec.witness6 (enc := enc) (C := Try.checked) false ⟨#[], #[.slice none 0 0], []⟩ 8 (by kernel_rfl) (by kernel_rfl) (by kernel_rfl) (by kernel_rfl)) ?_
  intro W base args ds gs before hval0 hW hcnd _
  have hval : ∀ (j : Nat) t v, Try.f10.params[j]? = some t → args[j]? = some v → Value.okWide Try.prog W .any base t v := hval0
  have hW' := hW
  obtain ⟨p, q, hA0, hV, rfl, hfz, hnd⟩ := hW
  have hA : DataW.TrodAll enc Try.prog W 0 (fun _ => true) true Try.f10.params.toList args.toList ds p := hA0
  rw [Try.params10] at hA hval
  obtain ⟨v0, vs0, d0, ds0, p0, q0, hargs, rfl, rfl, h0, r0⟩ := trodAll_cons hA
  obtain ⟨rfl, rfl, rfl⟩ := trodAll_nil r0
  obtain rfl : args = #[v0] := by cases args; simp_all
  obtain ⟨rfl, rfl⟩ := trodVars_none hV
  have k0 := h0
  have lt0 : ∀ x ∈ p0, x.block < W.heap.size := by obtain ⟨m, hm⟩ := k0; exact DataW.trod_lt m _ _ _ hm
  obtain ⟨A_0, n_0, c_0, bs_0, rfl, R_0⟩ := openBytes (hval 0 33 v0 rfl rfl) h0
  clear hA0 hval0
  refine (walk A_0 n_0 c_0 bs_0 W R_0).mono fun e W' ⟨he, bel⟩ => ?_
  subst he
  exact ⟨_, rfl, _, _, _, [], _, [], hW', trodAll_mk1 (shut_bool Try.underlying4 _), (trodAll_cons_mk (Below.trod laidOut (by kernel_rfl) (of_decide_eq_true (by kernel_rfl)) k0 bel lt0) trodAll_mk0), rfl, bel.frame _, fun h => by cases h⟩

theorem over : Rows.fnPadsRow.holds Try.pinned (OpenSpec.ofChange Rows.fnPadsSpec) :=
  OpenClaim.holds_of_wide 10 Try.f10 rfl rfl rfl rfl rfl rfl rfl ⟨rfl, rfl, rfl, rfl, rfl⟩ rfl rfl rfl rfl rfl (by kernel_rfl) Try.func10 (by kernel_rfl)
    (of_decide_eq_true (by kernel_rfl)) (by unfold Func.isWrapper; first | (rw [if_pos (by decide +kernel)]; kernel_rfl) | (rw [if_neg (by decide +kernel)]; exact ⟨rfl, rfl⟩))
    (fun os started H enc _ => lifted os started H enc)

theorem proved : Rows.FnPadsSaid := over
end Go.Proofs.Ytfbfapobmhfenaa.fnPads
