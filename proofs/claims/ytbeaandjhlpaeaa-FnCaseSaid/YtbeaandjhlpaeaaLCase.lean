/-
  The law FnCase returns true for every input, and what was in memory before the call reads as before: the frame round its walk.
  Conditions: none.
-/
import Derived.Test.YtbeaandjhlpaeaaDrawCase
import Derived.Test.YtbeaandjhlpaeaaCaseLaw
import Derived.Test.YtbeaandjhlpaeaaSameI
namespace Go.Proofs.Ytbeaandjhlpaeaa.fnCase
open Go.ChangeShapes Go.WideShapes Go.ChangeAt Go.RowKit
set_option linter.unusedVariables false

theorem cntG {w : World} {B n c : Nat} {A : Option Addr} {ds : List Drawer} (h : DrawersIn w B A n c ds) : ∀ p ∈ ansP (ds.map (·.ps)), p.good := by
  by_cases hc : cabB (ds.map (·.ps)) = true
  · rw [ansP_yes hc, allPads_flat]; exact allPads_good h
  · rw [ansP_no (by simpa using hc)]; simp
theorem cntL {ds : List Drawer} (hsz : cabSz ds ≤ 4096) : (ansP (ds.map (·.ps))).length ≤ 4096 := by
  by_cases h : cabB (ds.map (·.ps)) = true
  · rw [ansP_yes h, allPads_flat]; have := allPads_len ds; omega
  · rw [ansP_no (by simpa using h)]; simp
set_option maxRecDepth 100000 in
set_option maxHeartbeats 1600000 in
theorem walk (A : Option Addr) (n c : Nat) (bs : List Int) (W : World) (hb : BytesIn W W.heap.size A n c bs) :
    Calls Try.prog 14 #[.slice A n c] W fun e w' => e = .returned (.bool true) ∧ Below W.heap.size W w' := by
  have hm := hb.2.2.1
  have hnc := hb.2.1
  unfold maxLen at hm
  by_cases hn : 1048576 < n
  · clear hb
    go_enter Try.func14, Try.ntmps14
    go_wp2
    go_returns
    exact ⟨rfl, by go_grown⟩
  have HD := Lib.hid (drawCabinetCase A n c bs W hb)
  clear hb
  go_enter Try.func14, Try.ntmps14
  go_wp2_with fail
  refine HD.out.mono ?_
  rintro e w1 ⟨Ac, cc, ds, s, rfl, hD, hsz, hs4, b1⟩
  have hcm := hD.2.2.1; have hcc := hD.2.1
  unfold maxLen at hcm
  have HK : Hid (∀ w, Below w1.heap.size w1 w → DrawersIn w w.heap.size Ac ds.length cc ds) := Lib.hid (fun w h => hD.keep h)
  have HGd := Lib.hid (cntG hD)
  have HLn := Lib.hid (cntL hsz)
  clear hD HD
  generalize hdn : ds.length = N at *
  clear hdn
  go_wp2_with fail
  refine (implCabinetCase Ac N cc ds s w1 (by omega) (HK.out _ (Below.refl _ _))).mono ?_
  rintro e w2 ⟨⟨A2, c2, rfl, hO2⟩, hb2⟩
  have b2 := below_next b1 hb2
  have k2 := hb2
  have HO2 := Lib.hid hO2
  clear hO2 hb2
  go_wp2_with fail
  refine (specCabinetCase Ac N cc ds s w2 (by omega) (HK.out _ k2)).mono ?_
  rintro e w3 ⟨⟨A3, c3, rfl, hO3⟩, hb3⟩
  have b3 := below_next b2 hb3
  have k3 := below_next k2 hb3
  have HP2 := Lib.hid ((HO2.out.reads rfl).keep hb3)
  have HP3 := Lib.hid (hO3.reads rfl)
  have hq2 := HP2.out.2.2.1; have hq2' := HP2.out.2.1
  unfold maxLen at hq2
  have hfl : (caseDays s (ansP (ds.map (·.ps)))).length ≤ 4096 := Nat.le_trans (caseDays_len _ _) HLn.out
  have HCab : Hid (0 < (caseDays s (ansP (ds.map (·.ps)))).length → cabOK (ds.map (·.ps))) := Lib.hid case_cab
  clear hO3 hb3 HO2
  generalize hF : caseDays s (ansP (ds.map (·.ps))) = F at *
  have HF := Lib.hid hF; clear hF
  generalize hM : F.length = M at *
  have HM := Lib.hid hM; clear hM
  go_wp2_with fail
  refine (sameInts A2 A3 M c2 c3 F w3 HP2.out HP3.out).mono ?_
  rintro e w4 ⟨rfl, hb4⟩
  have b4 := below_next b3 hb4
  have k4 := below_next k3 hb4
  have HP4 := Lib.hid (HP2.out.keep hb4)
  have HP4' := Lib.hid (HP3.out.keep hb4)
  clear hb4 HP2 HP3
  by_cases hM0 : M = 0
  · subst hM0
    go_wp2_with fail
    refine (sameInts A2 A3 0 c2 c3 F w4 HP4.out HP4'.out).mono ?_
    rintro e w5 ⟨rfl, hb5⟩
    have b5 := below_next b4 hb5
    go_wp2
    go_returns
    exact ⟨rfl, b5⟩
  have hMz : ((M : Int) == 0) = false := beq_eq_false_iff_ne.2 (by omega)
  have hMp : 0 < M := by omega
  have HC := Lib.hid (HCab.out hMp)
  clear hM0 HCab HP4'
  have hcb := cabB_yes HC.out
  have hap := ansP_yes hcb
  go_wp2_with fail
  refine (implCabinetPads Ac N cc ds w4 (by omega) (HK.out _ k4)).mono ?_
  rintro e w5 ⟨⟨A5, c5, rfl, hO5⟩, hb5⟩
  rw [hcb]
  have b5 := below_next b4 hb5
  have k5 := below_next k4 hb5
  have HP5 := Lib.hid (HP4.out.keep hb5)
  have HQ5 := Lib.hid (hO5.reads rfl HGd.out)
  have hq5 := HQ5.out.2.2.1; have hq5' := HQ5.out.2.1
  unfold maxLen at hq5
  have hpl := HLn.out
  have HAsc := Lib.hid (caseDays_asc (s := s) HC.out.2.2)
  have HMem : Hid (∀ x ∈ F, ∃ i k, findO (ds.map (·.ps)) ⟨x, s⟩ = some (i, k)) := Lib.hid (fun x hx => by
    rw [← HF.out, hap] at hx
    exact mem_findO HC.out (caseDays_mem hx))
  rw [← hap, HF.out] at HAsc
  have HCt : Hid ((caseDays s (ansP (ds.map (·.ps)))).length = M) := Lib.hid (by rw [HF.out, HM.out])
  clear hO5 hb5 HP4 hcb hap k3 k2 HF
  generalize ansP (ds.map (·.ps)) = P at *
  generalize hpn : P.length = K at *
  have HPN := Lib.hid hpn; clear hpn
  go_wp2
  go_loop [9, 10] (fun a i => ∃ k m : Nat, k ≤ K ∧ m ≤ k ∧ i = .int .i64 k ∧ a = .int .i64 m ∧ Hid (m = (caseDays s (P.take k)).length)) (fun _ i => K - (intOf i).toNat)
  case atStart => exact ⟨0, 0, Nat.zero_le _, Nat.le_refl _, rfl, rfl, Lib.hid (by simp [caseDays])⟩
  case round =>
    obtain ⟨k, m, hk, hmk, rfl, rfl, hm⟩ := hrel
    by_cases hlt : k < K
    · obtain ⟨b, off, eA, hbB, q0, q1, hg⟩ := HQ5.out.at_ hlt
      have hkl : k < P.length := by rw [HPN.out]; exact hlt
      cases he : ((padAt P k).case.toList == s.toList) with
      | true =>
        have HM2 : Hid (m + 1 = (caseDays s (P.take (k + 1))).length) := Lib.hid (by rw [caseDays_yes hkl he, List.length_append, ← hm.out]; rfl)
        clear hg hkl hm
        subst eA
        generalize padAt P k = p at *
        go_wp2
        go_round
        case rel => exact ⟨k + 1, m + 1, by omega, by omega, by go_num, by go_num, HM2⟩
        case measure => simp [intOf]; omega
      | false =>
        have HM2 : Hid (m = (caseDays s (P.take (k + 1))).length) := Lib.hid (by rw [caseDays_no hkl he, ← hm.out])
        clear hg hkl hm
        subst eA
        generalize padAt P k = p at *
        go_wp2
        go_round
        case rel => exact ⟨k + 1, m, by omega, by omega, by go_num, rfl, HM2⟩
        case measure => simp [intOf]; omega
    · have hmM : m = M := by
        have h1 := hm.out
        rw [List.take_of_length_le (by rw [HPN.out]; omega), HCt.out] at h1; exact h1
      subst hmM
      clear hm HCt
      go_wp2
      go_loopw [11] (fun i wr => ∃ j : Nat, j ≤ m ∧ i = .int .i64 j ∧ Below w5.heap.size w5 wr) (fun i _ => m - (intOf i).toNat)
      case atStart => exact ⟨0, Nat.zero_le _, rfl, Below.refl _ _⟩
      case round =>
        obtain ⟨j, hj, rfl, hbr⟩ := hrel
        have br := below_next b5 hbr
        by_cases hlj : j < m
        · obtain ⟨b, off, eA, hbB, q0⟩ := (HP5.out.keep hbr).at_ hlj
          obtain ⟨fi, fk, hf⟩ := HMem.out (intAt F j) (intAt_mem (by rw [HM.out]; exact hlj))
          have hF := implCabinetFind Ac N cc ds ⟨intAt F j, s⟩ wr (HK.out _ (below_next k5 hbr))
          rw [hf] at hF
          unfold padVal at hF
          have HFd := Lib.hid hF; clear hF hf
          have hsub : 0 < j → ∃ y, wr.cell? ⟨b, off + (j - 1), none⟩ = some (.int .i64 y) ∧ y < intAt F j := fun h0 => by
            obtain ⟨b', off', eA', _, q0'⟩ := (HP5.out.keep hbr).at_ (k := j - 1) (by omega)
            rw [eA] at eA'; injection eA' with eA'; injection eA' with e1 e2; subst e1 e2
            exact ⟨_, q0', intAt_asc HAsc.out h0 (by rw [HM.out]; exact hlj)⟩
          have HSub := Lib.hid hsub; clear hsub
          subst eA
          generalize intAt F j = x at *
          go_wp2_with fail
          refine HFd.out.mono ?_
          rintro e w7 ⟨hA, hb7⟩
          unfold FindAns findV at hA
          subst hA
          have b7 := below_next br hb7
          have k7 := below_next hbr hb7
          have q7 := kcell hb7 q0
          by_cases h0 : 0 < j
          · obtain ⟨y, hy, hyx⟩ := HSub.out h0
            have y7 := kcell hb7 hy
            have hw : IntKind.i64.wrap ((j : Int) - 1) = (j : Int) - 1 := IntWalk.i64_in _ (by omega)
            have hj1 : (0 : Int) ≤ (j : Int) - 1 := by omega
            have hj2 : (j : Int) - 1 < m := by omega
            have hj3 : ((j : Int) - 1).toNat = j - 1 := by omega
            have hd0 : decide ((0 : Int) < j) = true := decide_eq_true (by omega)
            have hd1 : decide (0 < j) = true := decide_eq_true h0
            have hd2 : decide (x ≤ y) = false := decide_eq_false (by omega)
            have r0 := qcell q7; have r1 := qcell y7
            clear hy hb7 q0 q7 y7
            go_wp2_with fail
            refine region_qb (by kernel_rfl) (by kernel_rfl) ?_
            repeat (first | go_big_quiet_step (fail) | quiet_step (fail))
            refine wpQuiet_nil ?_
            intro w8 hb8
            have b8 := below_next b7 hb8
            have k8 := below_next k7 hb8
            clear r0 r1 hw hb8
            go_wp2
            go_roundw
            case rel => exact ⟨j + 1, by omega, by go_num, k8⟩
            case measure => simp [intOf]; omega
          · obtain rfl : j = 0 := by omega
            have r0 := qcell q7
            clear hb7 q0 q7
            go_wp2_with fail
            refine region_qb (by kernel_rfl) (by kernel_rfl) ?_
            repeat (first | go_big_quiet_step (fail) | quiet_step (fail))
            refine wpQuiet_nil ?_
            intro w8 hb8
            have b8 := below_next b7 hb8
            have k8 := below_next k7 hb8
            clear r0 hb8
            go_wp2
            go_roundw
            case rel => exact ⟨1, by omega, rfl, k8⟩
            case measure => simp [intOf]; omega
        · go_wp2
          go_returns
          exact ⟨rfl, br⟩


set_option maxRecDepth 100000 in
theorem lifted (os : Os) (started : os.Started) (H : Type) (enc : TypeId × Value → H) :
    ReturnsInHanded {} Try.checked os 14 .any (Rows.fnCaseSpec.pre6 enc Try.prog Try.f14 Rows.fnCaseRow.domain false) (Rows.fnCaseSpec.post enc Try.prog Try.f14 false true false false) := by
  refine returnsInHanded_of_change (C := Try.checked) own started (by kernel_rfl) Try.func14
    (ChangeSpec.witness6 (enc := enc) (C := Try.checked) false ⟨#[], #[.slice none 0 0], []⟩ 8 (by kernel_rfl) (by kernel_rfl) (by kernel_rfl) (by kernel_rfl)) ?_
  intro W base args ds gs before hval0 hW hcnd _
  have hval : ∀ (j : Nat) t v, Try.f14.params[j]? = some t → args[j]? = some v → Value.okWide Try.prog W .any base t v := hval0
  have hW' := hW
  obtain ⟨p, q, hA0, hV, rfl, hfz, hnd⟩ := hW
  have hA : DataW.TrodAll enc Try.prog W 0 (fun _ => true) true Try.f14.params.toList args.toList ds p := hA0
  rw [Try.params14] at hA hval
  obtain ⟨v0, vs0, d0, ds0, p0, q0, hargs, rfl, rfl, h0, r0⟩ := trodAll_cons hA
  obtain ⟨rfl, rfl, rfl⟩ := trodAll_nil r0
  obtain rfl : args = #[v0] := by cases args; simp_all
  obtain ⟨rfl, rfl⟩ := trodVars_none hV
  have k0 := h0
  have lt0 : ∀ x ∈ p0, x.block < W.heap.size := by obtain ⟨m, hm⟩ := k0; exact DataW.trod_lt m _ _ _ hm
  obtain ⟨A_0, n_0, c_0, bs_0, rfl, R_0⟩ := openBytes (hval 0 32 v0 rfl rfl) h0
  clear hA0 hval0
  refine (walk A_0 n_0 c_0 bs_0 W R_0).mono fun e W' ⟨he, bel⟩ => ?_
  subst he
  exact ⟨_, rfl, _, _, _, [], _, [], hW', trodAll_mk1 (shut_bool Try.underlying4 _), (trodAll_cons_mk (Below.trod laidOut (by kernel_rfl) (of_decide_eq_true (by kernel_rfl)) k0 bel lt0) trodAll_mk0), rfl, bel.frame _, fun h => by cases h⟩

theorem over : Rows.fnCaseRow.holds Try.pinned (OpenSpec.ofChange Rows.fnCaseSpec) :=
  OpenClaim.holds_of_wide 14 Try.f14 rfl rfl rfl rfl rfl rfl rfl ⟨rfl, rfl, rfl, rfl, rfl⟩ rfl rfl rfl rfl rfl (by kernel_rfl) Try.func14 (by kernel_rfl)
    (of_decide_eq_true (by kernel_rfl)) (by unfold Func.isWrapper; first | (rw [if_pos (by decide +kernel)]; kernel_rfl) | (rw [if_neg (by decide +kernel)]; exact ⟨rfl, rfl⟩))
    (fun os started H enc _ => lifted os started H enc)

theorem proved : Rows.FnCaseSaid := over
end Go.Proofs.Ytbeaandjhlpaeaa.fnCase
