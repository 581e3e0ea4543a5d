/-
  The law FnFile returns true for every input, and what was in memory before the call reads as before: the frame round its walk.
  Conditions: none.
-/
import Derived.Test.YtfbfapobmhfenaaFileLaw3
import Derived.Test.YtfbfapobmhfenaaDrawFile
import Derived.Test.YtfbfapobmhfenaaSameC
import Derived.Test.YtfbfapobmhfenaaTreeB
import Derived.Test.YtfbfapobmhfenaaTake
import Derived.Test.YtfbfapobmhfenaaMarkLaw
namespace Go.Proofs.Ytfbfapobmhfenaa.fnFile
open Go.ChangeShapes Go.WideShapes Go.ChangeAt Go.RowKit
set_option linter.unusedVariables false

set_option maxRecDepth 100000 in
set_option maxHeartbeats 1600000 in
theorem walk (A : Option Addr) (n c : Nat) (bs : List Int) (W : World) (hb : BytesIn W W.heap.size A n c bs) :
    Calls Try.prog 14 #[.slice A n c] W fun e w' => e = .returned (.bool true) ∧ Below W.heap.size W w' := by
  have hm := hb.2.2.1
  have hnc := hb.2.1
  unfold maxLen at hm
  by_cases hn : 1048576 < n
  · clear hb
    go_enter Try.func14, Try.ntmps14
    go_wp2
    go_returns
    exact ⟨rfl, by go_grown⟩
  have HD := Lib.hid (drawCabinetFile A n c bs W hb)
  clear hb
  go_enter Try.func14, Try.ntmps14
  go_wp2_with fail
  refine HD.out.mono ?_
  rintro e w1 ⟨Ac, cc, ds, p, rfl, hD, hsz, hpg, b1⟩
  have hcm := hD.2.2.1; have hcc := hD.2.1
  unfold maxLen at hcm
  have HPg := Lib.hid hpg
  have HK : Hid (∀ w, Below w1.heap.size w1 w → DrawersIn w w.heap.size Ac ds.length cc ds) := Lib.hid (fun w h => hD.keep h)
  clear hD HD hpg
  have hdl : ds.length ≤ 4096 := by have := cabSz_len ds; omega
  generalize hdn : ds.length = N at *
  have HN := Lib.hid hdn; clear hdn
  have hal : Below w1.heap.size w1 (w1.alloc (.cells #[.int .i64 p.day, .string p.case] 49)) := (Below.refl _ _).alloc (Nat.le_refl _) _
  have PK : Hid (∀ W, Below (w1.heap.size + 1) (w1.alloc (.cells #[.int .i64 p.day, .string p.case] 49)) W → W.cell? ⟨w1.heap.size, 0, none⟩ = some (.int .i64 p.day) ∧ W.cell? ⟨w1.heap.size, 1, none⟩ = some (.string p.case)) := Lib.hid (fun W hW => by
    have hW' : Below (w1.alloc (.cells #[.int .i64 p.day, .string p.case] 49)).heap.size (w1.alloc (.cells #[.int .i64 p.day, .string p.case] 49)) W := by simpa using hW
    exact ⟨kcell hW' (newcell w1 _ _ 0 _ rfl), kcell hW' (newcell w1 _ _ 1 _ rfl)⟩)
  have b0 : Below W.heap.size W (w1.alloc (.cells #[.int .i64 p.day, .string p.case] 49)) := b1.trans (hal.mono b1.size)
  unfold padVal
  go_wp2_with fail
  have HI := Lib.hid (implCabinetFile Ac N cc ds p _ (by omega) HPg.out (HK.out _ hal))
  unfold padVal at HI
  refine HI.out.mono ?_
  rintro e w2 ⟨hA, hb2⟩
  obtain ⟨A2, c2, s2, rfl, hO2, hM2⟩ := hA.form
  have b2 := below_next b0 hb2
  have k2 := below_next hal hb2
  have q2 : Below (w1.heap.size + 1) (w1.alloc (.cells #[.int .i64 p.day, .string p.case] 49)) w2 := by simpa using hb2
  have HO2 := Lib.hid hO2; have HM2 := Lib.hid hM2
  have z2 := q2.size
  simp only [World.size_alloc] at z2
  clear hO2 hM2 hA hb2 HI
  obtain ⟨c0, c1⟩ := PK.out w2 q2
  have HS := Lib.hid (specCabinetFile Ac N cc ds p w2 (by omega) HPg.out (HK.out _ k2))
  unfold padVal at HS
  go_wp2_with fail
  refine HS.out.mono ?_
  rintro e w3 ⟨hA, hb3⟩
  obtain ⟨A3, c3, s3, rfl, hO3, hM3⟩ := hA.form
  have b3 := below_next b2 hb3
  have k3 := below_next k2 hb3
  have q3 := q2.trans (hb3.mono z2)
  have z3 := Nat.le_trans z2 hb3.size
  have HO3 := Lib.hid hO3; have HM3 := Lib.hid hM3
  have HD2 := Lib.hid ((HO2.out.keep hb3).reads rfl)
  have hl3 : s3.length = s2.length := by rw [← List.length_map (f := (·.ps)), hM3, ← HM2.out, List.length_map]
  have HD3 := Lib.hid (hO3.reads rfl)
  rw [hl3] at HD3 ⊢
  have HSm : Hid (s2.map (·.ps) = s3.map (·.ps)) := Lib.hid (by rw [HM2.out, HM3.out])
  have hq2 := HD2.out.2.2.1; have hq2' := HD2.out.2.1
  unfold maxLen at hq2
  clear hO3 hM3 hA hb3 hl3 HO2 HO3 HS c0 c1
  have HMl : Hid (s2.length = ((fileO (ds.map (·.ps)) p).getD []).length) := Lib.hid (by rw [← HM2.out, List.length_map])
  generalize hM : s2.length = M at *
  clear hM
  cases hf : fileO (ds.map (·.ps)) p with
  | none =>
    clear hf HM2 HM3 HMl
    simp only [Option.isSome_none]
    go_wp2_with fail
    refine (sameCabinet A2 A3 M c2 c3 s2 s3 w3 HSm.out HD2.out HD3.out).mono ?_
    rintro e w4 ⟨rfl, hb4⟩
    have b4 := below_next b3 hb4
    have HD2' := Lib.hid (HD2.out.keep hb4)
    have HD3' := Lib.hid (HD3.out.keep hb4)
    clear hb4
    go_wp2_with fail
    refine (sameCabinet A2 A3 M c2 c3 s2 s3 w4 HSm.out HD2'.out HD3'.out).mono ?_
    rintro e w5 ⟨rfl, hb5⟩
    have b5 := below_next b4 hb5
    go_wp2
    go_returns
    exact ⟨rfl, b5⟩
  | some css' =>
    rw [hf] at HM2 HMl
    obtain ⟨hc, _, _, hco, hpm, hlen⟩ := file_cases hf
    obtain ⟨ht1, ht2, ht3⟩ := file_take hf
    have HAg := Lib.hid (file_again hf)
    have HTh : Hid (s2.map (·.ps) = css') := Lib.hid HM2.out
    have hs2 := cab_small (ds := s2) (by rw [HTh.out]; exact hco)
    rw [List.length_map, HN.out] at hlen
    have hMl : css'.length = M := HMl.out.symm
    rw [hMl] at hlen
    have HTk : Hid (∀ W, DrawersIn W W.heap.size A2 M c2 s2 → Calls Try.prog 35 #[.slice A2 M c2, .agg #[.int .i64 p.day, .string p.case]] W fun e w' => (∃ A c s, e = .returned (.tuple #[.slice A s.length c, .bool true]) ∧ s.map (·.ps) = thinned (notP p) css' ∧ DrawersIn w' w'.heap.size A s.length c s) ∧ Below W.heap.size W w') := Lib.hid (fun W hD => by
      have h1 := implCabinetTake A2 M c2 s2 p W (by omega) hD
      rw [HTh.out, ht1] at h1
      refine h1.mono ?_
      rintro e w' ⟨hA, hb⟩
      obtain ⟨A, c, s, rfl, hO, hM⟩ := hA.form
      exact ⟨⟨A, c, s, rfl, hM, hO.reads rfl⟩, hb⟩)
    have HF2 : Hid (∀ W, DrawersIn W W.heap.size A2 M c2 s2 → Calls Try.prog 48 #[.slice A2 M c2, .agg #[.int .i64 p.day, .string p.case]] W fun e w' => (∃ A c, e = .returned (.tuple #[.slice A 0 c, .bool false])) ∧ Below W.heap.size W w') := Lib.hid (fun W hD => by
      have h1 := implCabinetFile A2 M c2 s2 p W (by omega) HPg.out hD
      rw [HTh.out, HAg.out] at h1
      refine h1.mono ?_
      rintro e w' ⟨hA, hb⟩
      obtain ⟨A, c, s, rfl, _, hM⟩ := hA.form
      rw [show s = [] from List.map_eq_nil_iff.1 hM]
      exact ⟨⟨A, c, rfl⟩, hb⟩)
    have hcb := cabB_yes hc
    have hcbo := cabB_yes hco
    have hcbt := cabB_yes ht2
    have hap : ansP (ds.map (·.ps)) = (ds.map (·.ps)).flatten := ansP_yes hcb
    have hapt : ansP (thinned (notP p) css') = (ds.map (·.ps)).flatten := (ansP_yes hcbt).trans ht3
    have hfl := filter_small hc
    have hgood : ∀ q ∈ (ds.map (·.ps)).flatten, q.good := fun q hq => by
      rw [allPads_flat] at hq
      exact allPads_good (HK.out w1 (Below.refl _ _)) q hq
    have hct : cntI (ds.map (·.ps)) = ((ds.map (·.ps)).flatten.length : Int) := cntI_yes hcb
    have hco2 : cntI (s2.map (·.ps)) = ((ds.map (·.ps)).flatten.length : Int) + 1 := by
      rw [HTh.out, cntI_yes hcbo, hpm.length_eq, List.length_cons]; rfl
    have HPi : Hid (∀ W, Below w1.heap.size w1 W → Calls Try.prog 26 #[.slice Ac N cc] W fun e w' => (∃ A c, e = .returned (.tuple #[.slice A ((ds.map (·.ps)).flatten).length c, .bool true]) ∧ PadsOwn w' W.heap.size (.slice A ((ds.map (·.ps)).flatten).length c) ((ds.map (·.ps)).flatten)) ∧ Below W.heap.size W w') := Lib.hid (fun W hW => by
      have h1 := implCabinetPads Ac N cc ds W (by omega) (HK.out W hW)
      unfold PadsAns at h1
      rwa [hcb, hap] at h1)
    have HPo : Hid (∀ A c s W, s.map (·.ps) = thinned (notP p) css' → DrawersIn W W.heap.size A s.length c s → Calls Try.prog 26 #[.slice A s.length c] W fun e w' => (∃ A c, e = .returned (.tuple #[.slice A ((ds.map (·.ps)).flatten).length c, .bool true]) ∧ PadsOwn w' W.heap.size (.slice A ((ds.map (·.ps)).flatten).length c) ((ds.map (·.ps)).flatten)) ∧ Below W.heap.size W w') := Lib.hid (fun A c s W hs hD => by
      have hsz := cab_small (ds := s) (by rw [hs]; exact ht2)
      have h1 := implCabinetPads A s.length c s W (by omega) hD
      unfold PadsAns at h1
      rwa [hs, hcbt, hapt] at h1)
    have HV : Hid (∀ W, DrawersIn W W.heap.size A2 M c2 s2 → Calls Try.prog 31 #[.slice A2 M c2] W fun e w' => e = .returned (.bool true) ∧ Below W.heap.size W w') := Lib.hid (fun W hD => by
      have h1 := implCabinetValid A2 M c2 s2 W hD
      rwa [HTh.out, hcbo] at h1)
    have HCi : Hid (∀ W, Below w1.heap.size w1 W → Calls Try.prog 30 #[.slice Ac N cc] W fun e w' => e = .returned (.int .i64 ((ds.map (·.ps)).flatten.length : Int)) ∧ Below W.heap.size W w') := Lib.hid (fun W hW => by
      have h1 := implCabinetCount Ac N cc ds W (by omega) (HK.out W hW)
      rwa [hct] at h1)
    have HCo : Hid (∀ W, DrawersIn W W.heap.size A2 M c2 s2 → Calls Try.prog 30 #[.slice A2 M c2] W fun e w' => e = .returned (.int .i64 (((ds.map (·.ps)).flatten.length : Int) + 1)) ∧ Below W.heap.size W w') := Lib.hid (fun W hD => by
      have h1 := implCabinetCount A2 M c2 s2 W (by omega) hD
      rwa [hco2] at h1)
    have HgT : Hid (∀ q ∈ (ds.map (·.ps)).flatten, q.good) := Lib.hid hgood
    have hM6 : M ≤ 6 := by have := hco.1; omega
    have HLn : Hid (M = N ∨ M = N + 1) := Lib.hid hlen
    have hN6 : N ≤ 6 := by have := hc.1; rw [List.length_map, HN.out] at this; exact this
    clear hcbo hap hapt hcb hcbt hgood hf HM2 HM3 HMl hlen hMl hc hco hpm ht1 ht2 ht3 hct hco2 HAg hs2
    generalize (ds.map (·.ps)).flatten = T at *
    generalize thinned (notP p) css' = X at *
    generalize hTn : T.length = Tn at *
    have HTn := Lib.hid hTn; clear hTn
    simp only [Option.isSome_some]
    go_wp2_with fail
    refine (sameCabinet A2 A3 M c2 c3 s2 s3 w3 HSm.out HD2.out HD3.out).mono ?_
    rintro e w4 ⟨rfl, hb4⟩
    have b4 := below_next b3 hb4
    have k4 := below_next k3 hb4
    have q4 := q3.trans (hb4.mono z3)
    have z4 := Nat.le_trans z3 hb4.size
    have HD4 := Lib.hid (HD2.out.keep hb4)
    clear hb4 HD2 HD3 HSm
    obtain ⟨p0, p1⟩ := PK.out w4 q4
    go_wp2_with fail
    refine (HF2.out w4 HD4.out).mono ?_
    rintro e w5 ⟨⟨A5, c5, rfl⟩, hb5⟩
    have b5 := below_next b4 hb5
    have k5 := below_next k4 hb5
    have q5 := q4.trans (hb5.mono z4)
    have z5 := Nat.le_trans z4 hb5.size
    have HD5 := Lib.hid (HD4.out.keep hb5)
    clear hb5 HD4 HF2 p0 p1
    obtain ⟨p0, p1⟩ := PK.out w5 q5
    go_wp2_with fail
    refine (HTk.out w5 HD5.out).mono ?_
    rintro e w6 ⟨⟨A6, c6, s6, rfl, hs6, hD6⟩, hb6⟩
    have b6 := below_next b5 hb6
    have k6 := below_next k5 hb6
    have HD6 := Lib.hid (HD5.out.keep hb6)
    have HQ := Lib.hid (HPo.out A6 c6 s6 w6 hs6 hD6)
    clear hb6 HD5 HTk p0 p1 hs6 hD6 HPo
    generalize s6.length = m6 at *
    go_wp2_with fail
    refine HQ.out.mono ?_
    rintro e w7 ⟨⟨A7, c7, rfl, hO7⟩, hb7⟩
    have b7 := below_next b6 hb7
    have k7 := below_next k6 hb7
    have HD7 := Lib.hid (HD6.out.keep hb7)
    have HT7 := Lib.hid (hO7.reads HTn.out HgT.out)
    clear hb7 HD6 hO7 HQ
    go_wp2_with fail
    refine (HPi.out w7 k7).mono ?_
    rintro e w8 ⟨⟨A8, c8, rfl, hO8⟩, hb8⟩
    have b8 := below_next b7 hb8
    have k8 := below_next k7 hb8
    have HD8 := Lib.hid (HD7.out.keep hb8)
    have HT8 := Lib.hid (HT7.out.keep hb8)
    have HU8 := Lib.hid (hO8.reads HTn.out HgT.out)
    clear hb8 HD7 hO8 HPi HT7
    go_wp2_with fail
    refine (samePads A7 A8 Tn c7 c8 T w8 HT8.out HU8.out).mono ?_
    rintro e w9 ⟨rfl, hb9⟩
    have b9 := below_next b8 hb9
    have k9 := below_next k8 hb9
    have HD9 := Lib.hid (HD8.out.keep hb9)
    clear hb9 HD8 HT8 HU8
    go_wp2_with fail
    refine (HV.out w9 HD9.out).mono ?_
    rintro e w10 ⟨rfl, hb10⟩
    have b10 := below_next b9 hb10
    have k10 := below_next k9 hb10
    have HD10 := Lib.hid (HD9.out.keep hb10)
    clear hb10 HD9
    have hwr : IntKind.i64.wrap ((Tn : Int) + 1) = (Tn : Int) + 1 := IntWalk.i64_in _ (by omega)
    have hee : ((Tn : Int) + 1 == (Tn : Int) + 1) = true := by simp
    rcases HLn.out with hl | hl
    · subst hl
      go_wp2_with fail
      refine (HCo.out w10 HD10.out).mono ?_
      rintro e w11 ⟨rfl, hb11⟩
      have b11 := below_next b10 hb11
      have k11 := below_next k10 hb11
      go_wp2_with fail
      refine (HCi.out w11 k11).mono ?_
      rintro e w12 ⟨rfl, hb12⟩
      have b12 := below_next b11 hb12
      go_wp2
      go_returns
      exact ⟨rfl, b12⟩
    · subst hl
      go_wp2_with fail
      refine (HCo.out w10 HD10.out).mono ?_
      rintro e w11 ⟨rfl, hb11⟩
      have b11 := below_next b10 hb11
      have k11 := below_next k10 hb11
      go_wp2_with fail
      refine (HCi.out w11 k11).mono ?_
      rintro e w12 ⟨rfl, hb12⟩
      have b12 := below_next b11 hb12
      go_wp2
      go_returns
      exact ⟨rfl, b12⟩

set_option maxRecDepth 100000 in
theorem lifted (os : Os) (started : os.Started) (H : Type) (enc : TypeId × Value → H) :
    ReturnsInHanded {} Try.checked os 14 .any (Rows.fnFileSpec.pre6 enc Try.prog Try.f14 Rows.fnFileRow.domain false) (Rows.fnFileSpec.post enc Try.prog Try.f14 false true false false) := by
  refine returnsInHanded_of_change (C := Try.checked) own started (by kernel_rfl) Try.func14
    (ChangeSpec.witness6 (enc := enc) (C := Try.checked) false ⟨#[], #[.slice none 0 0], []⟩ 8 (by kernel_rfl) (by kernel_rfl) (by kernel_rfl) (by kernel_rfl)) ?_
  intro W base args ds gs before hval0 hW hcnd _
  have hval : ∀ (j : Nat) t v, Try.f14.params[j]? = some t → args[j]? = some v → Value.okWide Try.prog W .any base t v := hval0
  have hW' := hW
  obtain ⟨p, q, hA0, hV, rfl, hfz, hnd⟩ := hW
  have hA : DataW.TrodAll enc Try.prog W 0 (fun _ => true) true Try.f14.params.toList args.toList ds p := hA0
  rw [Try.params14] at hA hval
  obtain ⟨v0, vs0, d0, ds0, p0, q0, hargs, rfl, rfl, h0, r0⟩ := trodAll_cons hA
  obtain ⟨rfl, rfl, rfl⟩ := trodAll_nil r0
  obtain rfl : args = #[v0] := by cases args; simp_all
  obtain ⟨rfl, rfl⟩ := trodVars_none hV
  have k0 := h0
  have lt0 : ∀ x ∈ p0, x.block < W.heap.size := by obtain ⟨m, hm⟩ := k0; exact DataW.trod_lt m _ _ _ hm
  obtain ⟨A_0, n_0, c_0, bs_0, rfl, R_0⟩ := openBytes (hval 0 33 v0 rfl rfl) h0
  clear hA0 hval0
  refine (walk A_0 n_0 c_0 bs_0 W R_0).mono fun e W' ⟨he, bel⟩ => ?_
  subst he
  exact ⟨_, rfl, _, _, _, [], _, [], hW', trodAll_mk1 (shut_bool Try.underlying4 _), (trodAll_cons_mk (Below.trod laidOut (by kernel_rfl) (of_decide_eq_true (by kernel_rfl)) k0 bel lt0) trodAll_mk0), rfl, bel.frame _, fun h => by cases h⟩

theorem over : Rows.fnFileRow.holds Try.pinned (OpenSpec.ofChange Rows.fnFileSpec) :=
  OpenClaim.holds_of_wide 14 Try.f14 rfl rfl rfl rfl rfl rfl rfl ⟨rfl, rfl, rfl, rfl, rfl⟩ rfl rfl rfl rfl rfl (by kernel_rfl) Try.func14 (by kernel_rfl)
    (of_decide_eq_true (by kernel_rfl)) (by unfold Func.isWrapper; first | (rw [if_pos (by decide +kernel)]; kernel_rfl) | (rw [if_neg (by decide +kernel)]; exact ⟨rfl, rfl⟩))
    (fun os started H enc _ => lifted os started H enc)

theorem proved : Rows.FnFileSaid := over
end Go.Proofs.Ytfbfapobmhfenaa.fnFile
