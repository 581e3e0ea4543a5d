/-
  The law FnClear returns true for every input, and what was in memory before the call reads as before: the frame round its walk.
  Conditions: none.
-/
import Derived.Test.YtfbfapobmhfenaaDrawClear
import Derived.Test.YtfbfapobmhfenaaClearLaw
import Derived.Test.YtfbfapobmhfenaaClearS
import Derived.Test.YtfbfapobmhfenaaMarkLaw
import Derived.Test.YtfbfapobmhfenaaSameC
namespace Go.Proofs.Ytfbfapobmhfenaa.fnClear
open Go.ChangeShapes Go.WideShapes Go.ChangeAt Go.RowKit
set_option linter.unusedVariables false

set_option maxRecDepth 100000 in
set_option maxHeartbeats 1600000 in
theorem walk (A : Option Addr) (n c : Nat) (bs : List Int) (W : World) (hb : BytesIn W W.heap.size A n c bs) :
    Calls Try.prog 6 #[.slice A n c] W fun e w' => e = .returned (.bool true) ∧ Below W.heap.size W w' := by
  have hm := hb.2.2.1
  have hnc := hb.2.1
  unfold maxLen at hm
  by_cases hn : 1048576 < n
  · clear hb
    go_enter Try.func6, Try.ntmps6
    go_wp2
    go_returns
    exact ⟨rfl, by go_grown⟩
  have HD := Lib.hid (drawCabinetClear A n c bs W hb)
  clear hb
  go_enter Try.func6, Try.ntmps6
  go_wp2_with fail
  refine HD.out.mono ?_
  rintro e w1 ⟨Ac, cc, ds, x, rfl, hD, hsz, hx1, hx2, b1⟩
  have hcm := hD.2.2.1; have hcc := hD.2.1
  unfold maxLen at hcm
  have HK : Hid (∀ w, Below w1.heap.size w1 w → DrawersIn w w.heap.size Ac ds.length cc ds) := Lib.hid (fun w h => hD.keep h)
  clear hD HD
  generalize hdn : ds.length = N at *
  clear hdn
  go_wp2_with fail
  refine (implCabinetClear Ac N cc ds x w1 (by omega) (HK.out _ (Below.refl _ _))).mono ?_
  rintro e w2 ⟨hA, hb2⟩
  obtain ⟨A2, c2, s2, rfl, hO2, hM2⟩ := hA.form
  have b2 := below_next b1 hb2
  have k2 := hb2
  have HO2 := Lib.hid hO2; have HM2 := Lib.hid hM2
  clear hO2 hM2 hA hb2
  go_wp2_with fail
  refine (specCabinetClear Ac N cc ds x w2 (by omega) (HK.out _ k2)).mono ?_
  rintro e w3 ⟨hA, hb3⟩
  obtain ⟨A3, c3, s3, rfl, hO3, hM3⟩ := hA.form
  have b3 := below_next b2 hb3
  have k3 := below_next k2 hb3
  have HO3 := Lib.hid hO3; have HM3 := Lib.hid hM3
  have HD2 := Lib.hid ((HO2.out.keep hb3).reads rfl)
  have hl3 : s3.length = s2.length := by rw [← List.length_map (f := (·.ps)), hM3, ← HM2.out, List.length_map]
  have HD3 := Lib.hid (hO3.reads rfl)
  rw [hl3] at HD3 ⊢
  have HSm : Hid (s2.map (·.ps) = s3.map (·.ps)) := Lib.hid (by rw [HM2.out, HM3.out])
  have hq2 := HD2.out.2.2.1; have hq2' := HD2.out.2.1
  unfold maxLen at hq2
  clear hO3 hM3 hA hb3 hl3 HO2 HO3
  generalize hM : s2.length = M at *
  clear hM
  cases hv : cabB (ds.map (·.ps)) with
  | false =>
    have hnone : thinO (fromDay x) (ds.map (·.ps)) = none := thinO_no hv
    rw [hnone]
    clear hv hnone
    simp only [Option.isSome_none]
    go_wp2_with fail
    refine (sameCabinet A2 A3 M c2 c3 s2 s3 w3 HSm.out HD2.out HD3.out).mono ?_
    rintro e w4 ⟨rfl, hb4⟩
    have b4 := below_next b3 hb4
    have HD2' := Lib.hid (HD2.out.keep hb4)
    have HD3' := Lib.hid (HD3.out.keep hb4)
    clear hb4
    go_wp2_with fail
    refine (sameCabinet A2 A3 M c2 c3 s2 s3 w4 HSm.out HD2'.out HD3'.out).mono ?_
    rintro e w5 ⟨rfl, hb5⟩
    have b5 := below_next b4 hb5
    go_wp2
    go_returns
    exact ⟨rfl, b5⟩
  | true =>
    have HC := Lib.hid (cabB_iff.1 hv)
    have hsome := thinO_yes (p := fromDay x) hv
    rw [hsome] at HM2 ⊢
    have HTh : Hid (s2.map (·.ps) = thinned (fromDay x) (ds.map (·.ps))) := Lib.hid HM2.out
    have HV := Lib.hid hv
    clear hv hsome HM2 HM3
    simp only [Option.isSome_some]
    go_wp2_with fail
    refine (sameCabinet A2 A3 M c2 c3 s2 s3 w3 HSm.out HD2.out HD3.out).mono ?_
    rintro e w4 ⟨rfl, hb4⟩
    have b4 := below_next b3 hb4
    have k4 := below_next k3 hb4
    have HD4 := Lib.hid (HD2.out.keep hb4)
    clear hb4 HD2 HD3 HSm
    have HCo : Hid (cabOK (s2.map (·.ps))) := Lib.hid (by rw [HTh.out]; exact thinned_ok HC.out)
    have hs2 := cab_small HCo.out
    -- cleared once more
    go_wp2_with fail
    refine (implCabinetClear A2 M c2 s2 x w4 (by omega) HD4.out).mono ?_
    rintro e w5 ⟨hA, hb5⟩
    have hto : thinO (fromDay x) (s2.map (·.ps)) = some (s2.map (·.ps)) := by
      rw [thinO_yes (cabB_yes HCo.out)]; rw [HTh.out, thinned_twice]
    rw [hto] at hA
    obtain ⟨A5, c5, s5, rfl, hO5, hM5⟩ := hA.form
    have b5 := below_next b4 hb5
    have k5 := below_next k4 hb5
    have HD5 := Lib.hid (HD4.out.keep hb5)
    have hM5' : s5.map (·.ps) = s2.map (·.ps) := hM5
    have HX5 := Lib.hid (hO5.reads rfl)
    have hl5 : s5.length = M := by rw [← List.length_map (f := (·.ps)), hM5', List.length_map]; exact HD5.out.1
    rw [hl5] at HX5 ⊢
    have HM5 := Lib.hid hM5'
    clear hO5 hM5 hM5' hA hb5 hl5 hto HD4
    simp only [Option.isSome_some]
    -- all pads of the answer
    have hcbo := cabB_yes HCo.out
    have hapo : ansP (s2.map (·.ps)) = (ds.map (·.ps)).flatten.filter (fromDay x) := by rw [ansP_yes hcbo, HTh.out, thinned_flat]
    have hap : ansP (ds.map (·.ps)) = (ds.map (·.ps)).flatten := ansP_yes HV.out
    have HOk := Lib.hid (cab_okP HC.out)
    have hfl := filter_small HC.out
    have hcnt : cntI (ds.map (·.ps)) = ((ds.map (·.ps)).flatten.length : Int) := cntI_yes HV.out
    have hgood : ∀ q ∈ (ds.map (·.ps)).flatten, q.good := fun q hq => by
      rw [allPads_flat] at hq
      exact allPads_good (HK.out w1 (Below.refl _ _)) q hq
    have hn1 : ((ds.map (·.ps)).flatten.filter (fromDay x)).length ≤ 24 := Nat.le_trans (List.length_filter_le _ _) hfl
    have hn2 : ((ds.map (·.ps)).flatten.filter (inDays 0 (x - 1))).length ≤ 24 := Nat.le_trans (List.length_filter_le _ _) hfl
    have hel := early_late (d := x) HOk.out
    have HB1 : Hid (∀ W, Below w1.heap.size w1 W → Calls Try.prog 29 #[.slice Ac N cc, .int .i64 0, .int .i64 (x - 1)] W fun e w' => RowAns w' W.heap.size ((ds.map (·.ps)).flatten.filter (inDays 0 (x - 1))) e ∧ Below W.heap.size W w') := Lib.hid (fun W hW => by
      have h1 := implCabinetBetween Ac N cc ds 0 (x - 1) W (by omega) (HK.out W hW)
      rwa [hap] at h1)
    have HB2 : Hid (∀ W, Below w1.heap.size w1 W → Calls Try.prog 29 #[.slice Ac N cc, .int .i64 (max 0 x), .int .i64 9999] W fun e w' => RowAns w' W.heap.size ((ds.map (·.ps)).flatten.filter (fromDay x)) e ∧ Below W.heap.size W w') := Lib.hid (fun W hW => by
      have h1 := implCabinetBetween Ac N cc ds (max 0 x) 9999 W (by omega) (HK.out W hW)
      rwa [hap, late_eq rfl HOk.out] at h1)
    have HCt : Hid (∀ W, Below w1.heap.size w1 W → Calls Try.prog 30 #[.slice Ac N cc] W fun e w' => e = .returned (.int .i64 ((ds.map (·.ps)).flatten.length : Int)) ∧ Below W.heap.size W w') := Lib.hid (fun W hW => by
      have h1 := implCabinetCount Ac N cc ds W (by omega) (HK.out W hW)
      rwa [hcnt] at h1)
    have HPo : Hid (∀ W, DrawersIn W W.heap.size A2 M c2 s2 → Calls Try.prog 26 #[.slice A2 M c2] W fun e w' => (∃ A c, e = .returned (.tuple #[.slice A ((ds.map (·.ps)).flatten.filter (fromDay x)).length c, .bool true]) ∧ PadsOwn w' W.heap.size (.slice A ((ds.map (·.ps)).flatten.filter (fromDay x)).length c) ((ds.map (·.ps)).flatten.filter (fromDay x))) ∧ Below W.heap.size W w') := Lib.hid (fun W hD => by
      have h1 := implCabinetPads A2 M c2 s2 W (by omega) hD
      unfold PadsAns at h1
      rwa [hcbo, hapo] at h1)
    have HgL : Hid (∀ q ∈ (ds.map (·.ps)).flatten.filter (fromDay x), q.good) := Lib.hid (fun q hq => hgood q (List.mem_filter.1 hq).1)
    clear hcbo hapo hap hcnt hgood hfl HOk
    generalize (ds.map (·.ps)).flatten.filter (fromDay x) = L at *
    generalize (ds.map (·.ps)).flatten.filter (inDays 0 (x - 1)) = E at *
    generalize (ds.map (·.ps)).flatten.length = T at *
    generalize hLn : L.length = Ln at *
    have HLn := Lib.hid hLn; clear hLn
    generalize hEn : E.length = En at *
    have HEn := Lib.hid hEn; clear hEn
    have hadd : (En : Int) + (Ln : Int) = (T : Int) := by omega
    have hsum : ((T : Int) == T) = true := by simp
    clear hel
    go_wp2_with fail
    refine (HPo.out w5 HD5.out).mono ?_
    rintro e w6 ⟨⟨A6, c6, rfl, hO6⟩, hb6⟩
    have b6 := below_next b5 hb6
    have k6 := below_next k5 hb6
    have HD6 := Lib.hid (HD5.out.keep hb6)
    have HX6 := Lib.hid (HX5.out.keep hb6)
    have HP6 := Lib.hid (hO6.reads HLn.out HgL.out)
    clear hO6 hb6 HD5 HX5 HPo
    -- early and late pads
    go_wp2_with fail
    refine (HB1.out w6 k6).mono ?_
    rintro e w7 ⟨⟨A7, c7, rfl, _⟩, hb7⟩
    rw [HEn.out]
    have b7 := below_next b6 hb7
    have k7 := below_next k6 hb7
    have HD7 := Lib.hid (HD6.out.keep hb7)
    have HX7 := Lib.hid (HX6.out.keep hb7)
    have HP7 := Lib.hid (HP6.out.keep hb7)
    clear hb7 HD6 HX6 HP6 HB1
    go_wp2_with fail
    refine (HB2.out w7 k7).mono ?_
    rintro e w8 ⟨⟨A8, c8, rfl, hO8⟩, hb8⟩
    have b8 := below_next b7 hb8
    have k8 := below_next k7 hb8
    have HD8 := Lib.hid (HD7.out.keep hb8)
    have HX8 := Lib.hid (HX7.out.keep hb8)
    have HP8 := Lib.hid (HP7.out.keep hb8)
    rw [HLn.out] at hO8 ⊢
    have HQ8 := Lib.hid (hO8.reads HLn.out HgL.out)
    clear hO8 hb8 HD7 HX7 HP7 HB2
    -- the last test
    go_wp2_with fail
    refine (sameCabinet A5 A2 M c5 c2 s5 s2 w8 HM5.out HX8.out HD8.out).mono ?_
    rintro e w9 ⟨rfl, hb9⟩
    have b9 := below_next b8 hb9
    have k9 := below_next k8 hb9
    have HD9 := Lib.hid (HD8.out.keep hb9)
    have HP9 := Lib.hid (HP8.out.keep hb9)
    have HQ9 := Lib.hid (HQ8.out.keep hb9)
    clear hb9 HX8 HD8 HP8 HQ8
    go_wp2_with fail
    refine (samePads A6 A8 Ln c6 c8 L w9 HP9.out HQ9.out).mono ?_
    rintro e w10 ⟨rfl, hb10⟩
    have b10 := below_next b9 hb10
    have k10 := below_next k9 hb10
    have HD10 := Lib.hid (HD9.out.keep hb10)
    clear hb10 HP9 HQ9 HD9
    go_wp2_with fail
    refine (HCt.out _ k10).mono ?_
    rintro e w11 ⟨rfl, hb11⟩
    have b11 := below_next b10 hb11
    have HD11 := Lib.hid (HD10.out.keep hb11)
    have HIV := Lib.hid (implCabinetValid A2 M c2 s2 w11 HD11.out)
    rw [cabB_yes HCo.out] at HIV
    clear hb11
    go_wp2_with fail
    refine HIV.out.mono ?_
    rintro e w12 ⟨rfl, hb12⟩
    have b12 := below_next b11 hb12
    go_wp2
    go_returns
    exact ⟨rfl, b12⟩


set_option maxRecDepth 100000 in
theorem lifted (os : Os) (started : os.Started) (H : Type) (enc : TypeId × Value → H) :
    ReturnsInHanded {} Try.checked os 6 .any (Rows.fnClearSpec.pre6 enc Try.prog Try.f6 Rows.fnClearRow.domain false) (Rows.fnClearSpec.post enc Try.prog Try.f6 false true false false) := by
  refine returnsInHanded_of_change (C := Try.checked) own started (by kernel_rfl) Try.func6
    (ChangeSpec.witness6 (enc := enc) (C := Try.checked) false ⟨#[], #[.slice none 0 0], []⟩ 8 (by kernel_rfl) (by kernel_rfl) (by kernel_rfl) (by kernel_rfl)) ?_
  intro W base args ds gs before hval0 hW hcnd _
  have hval : ∀ (j : Nat) t v, Try.f6.params[j]? = some t → args[j]? = some v → Value.okWide Try.prog W .any base t v := hval0
  have hW' := hW
  obtain ⟨p, q, hA0, hV, rfl, hfz, hnd⟩ := hW
  have hA : DataW.TrodAll enc Try.prog W 0 (fun _ => true) true Try.f6.params.toList args.toList ds p := hA0
  rw [Try.params6] at hA hval
  obtain ⟨v0, vs0, d0, ds0, p0, q0, hargs, rfl, rfl, h0, r0⟩ := trodAll_cons hA
  obtain ⟨rfl, rfl, rfl⟩ := trodAll_nil r0
  obtain rfl : args = #[v0] := by cases args; simp_all
  obtain ⟨rfl, rfl⟩ := trodVars_none hV
  have k0 := h0
  have lt0 : ∀ x ∈ p0, x.block < W.heap.size := by obtain ⟨m, hm⟩ := k0; exact DataW.trod_lt m _ _ _ hm
  obtain ⟨A_0, n_0, c_0, bs_0, rfl, R_0⟩ := openBytes (hval 0 33 v0 rfl rfl) h0
  clear hA0 hval0
  refine (walk A_0 n_0 c_0 bs_0 W R_0).mono fun e W' ⟨he, bel⟩ => ?_
  subst he
  exact ⟨_, rfl, _, _, _, [], _, [], hW', trodAll_mk1 (shut_bool Try.underlying4 _), (trodAll_cons_mk (Below.trod laidOut (by kernel_rfl) (of_decide_eq_true (by kernel_rfl)) k0 bel lt0) trodAll_mk0), rfl, bel.frame _, fun h => by cases h⟩

theorem over : Rows.fnClearRow.holds Try.pinned (OpenSpec.ofChange Rows.fnClearSpec) :=
  OpenClaim.holds_of_wide 6 Try.f6 rfl rfl rfl rfl rfl rfl rfl ⟨rfl, rfl, rfl, rfl, rfl⟩ rfl rfl rfl rfl rfl (by kernel_rfl) Try.func6 (by kernel_rfl)
    (of_decide_eq_true (by kernel_rfl)) (by unfold Func.isWrapper; first | (rw [if_pos (by decide +kernel)]; kernel_rfl) | (rw [if_neg (by decide +kernel)]; exact ⟨rfl, rfl⟩))
    (fun os started H enc _ => lifted os started H enc)

theorem proved : Rows.FnClearSaid := over
end Go.Proofs.Ytfbfapobmhfenaa.fnClear
