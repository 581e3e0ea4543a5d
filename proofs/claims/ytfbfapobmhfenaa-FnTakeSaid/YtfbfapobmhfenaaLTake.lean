/-
  The law FnTake returns true for every input, and what was in memory before the call reads as before: the frame round its walk.
  Conditions: none.
-/
import Derived.Test.YtfbfapobmhfenaaTakeDraw
import Derived.Test.YtfbfapobmhfenaaTakeS
import Derived.Test.YtfbfapobmhfenaaMarkLaw
import Derived.Test.YtfbfapobmhfenaaSameC
namespace Go.Proofs.Ytfbfapobmhfenaa.fnTake
open Go.ChangeShapes Go.WideShapes Go.ChangeAt Go.RowKit
set_option linter.unusedVariables false

set_option maxRecDepth 100000 in
set_option maxHeartbeats 1600000 in
theorem walk (A : Option Addr) (n c : Nat) (bs : List Int) (W : World) (hb : BytesIn W W.heap.size A n c bs) :
    Calls Try.prog 8 #[.slice A n c] W fun e w' => e = .returned (.bool true) ∧ Below W.heap.size W w' := by
  have hm := hb.2.2.1
  have hnc := hb.2.1
  unfold maxLen at hm
  by_cases hn : 1048576 < n
  · clear hb
    go_enter Try.func8, Try.ntmps8
    go_wp2
    go_returns
    exact ⟨rfl, by go_grown⟩
  have HD := Lib.hid (drawCabinetTake A n c bs W hb)
  clear hb
  go_enter Try.func8, Try.ntmps8
  go_wp2_with fail
  refine HD.out.mono ?_
  rintro e w1 ⟨Ac, cc, ds, p, rfl, hD, hsz, hpg, b1⟩
  have hcm := hD.2.2.1; have hcc := hD.2.1
  unfold maxLen at hcm
  have HPg := Lib.hid hpg
  have HK : Hid (∀ w, Below w1.heap.size w1 w → DrawersIn w w.heap.size Ac ds.length cc ds) := Lib.hid (fun w h => hD.keep h)
  clear hD HD hpg
  have hdl : ds.length ≤ 4096 := by have := cabSz_len ds; omega
  generalize hdn : ds.length = N at *
  have HN := Lib.hid hdn; clear hdn
  have hal : Below w1.heap.size w1 (w1.alloc (.cells #[.int .i64 p.day, .string p.case] 49)) := (Below.refl _ _).alloc (Nat.le_refl _) _
  have PK : Hid (∀ W, Below (w1.heap.size + 1) (w1.alloc (.cells #[.int .i64 p.day, .string p.case] 49)) W → W.cell? ⟨w1.heap.size, 0, none⟩ = some (.int .i64 p.day) ∧ W.cell? ⟨w1.heap.size, 1, none⟩ = some (.string p.case)) := Lib.hid (fun W hW => by
    have hW' : Below (w1.alloc (.cells #[.int .i64 p.day, .string p.case] 49)).heap.size (w1.alloc (.cells #[.int .i64 p.day, .string p.case] 49)) W := by simpa using hW
    exact ⟨kcell hW' (newcell w1 _ _ 0 _ rfl), kcell hW' (newcell w1 _ _ 1 _ rfl)⟩)
  have b0 : Below W.heap.size W (w1.alloc (.cells #[.int .i64 p.day, .string p.case] 49)) := b1.trans (hal.mono b1.size)
  unfold padVal
  go_wp2_with fail
  have HI := Lib.hid (implCabinetTake Ac N cc ds p _ (by omega) (HK.out _ hal))
  unfold padVal at HI
  refine HI.out.mono ?_
  rintro e w2 ⟨hA, hb2⟩
  obtain ⟨A2, c2, s2, rfl, hO2, hM2⟩ := hA.form
  have b2 := below_next b0 hb2
  have k2 := below_next hal hb2
  have q2 : Below (w1.heap.size + 1) (w1.alloc (.cells #[.int .i64 p.day, .string p.case] 49)) w2 := by simpa using hb2
  have HO2 := Lib.hid hO2; have HM2 := Lib.hid hM2
  have z2 := q2.size
  simp only [World.size_alloc] at z2
  clear hO2 hM2 hA hb2 HI
  obtain ⟨c0, c1⟩ := PK.out w2 q2
  have HS := Lib.hid (specCabinetTake Ac N cc ds p w2 (by omega) (HK.out _ k2))
  unfold padVal at HS
  go_wp2_with fail
  refine HS.out.mono ?_
  rintro e w3 ⟨hA, hb3⟩
  obtain ⟨A3, c3, s3, rfl, hO3, hM3⟩ := hA.form
  have b3 := below_next b2 hb3
  have k3 := below_next k2 hb3
  have q3 := q2.trans (hb3.mono z2)
  have z3 := Nat.le_trans z2 hb3.size
  have HO3 := Lib.hid hO3; have HM3 := Lib.hid hM3
  have HD2 := Lib.hid ((HO2.out.keep hb3).reads rfl)
  have hl3 : s3.length = s2.length := by rw [← List.length_map (f := (·.ps)), hM3, ← HM2.out, List.length_map]
  have HD3 := Lib.hid (hO3.reads rfl)
  rw [hl3] at HD3 ⊢
  have HSm : Hid (s2.map (·.ps) = s3.map (·.ps)) := Lib.hid (by rw [HM2.out, HM3.out])
  have hq2 := HD2.out.2.2.1; have hq2' := HD2.out.2.1
  unfold maxLen at hq2
  clear hO3 hM3 hA hb3 hl3 HO2 HO3 HS c0 c1
  have HMl : Hid (s2.length = ((takeO (ds.map (·.ps)) p).getD []).length) := Lib.hid (by rw [← HM2.out, List.length_map])
  generalize hM : s2.length = M at *
  clear hM
  cases hf : findO (ds.map (·.ps)) p with
  | none =>
    have hnone := takeO_no hf
    rw [hnone]
    clear hf hnone HM2 HM3 HMl
    simp only [Option.isSome_none]
    go_wp2_with fail
    refine (sameCabinet A2 A3 M c2 c3 s2 s3 w3 HSm.out HD2.out HD3.out).mono ?_
    rintro e w4 ⟨rfl, hb4⟩
    have b4 := below_next b3 hb4
    have HD2' := Lib.hid (HD2.out.keep hb4)
    have HD3' := Lib.hid (HD3.out.keep hb4)
    clear hb4
    go_wp2_with fail
    refine (sameCabinet A2 A3 M c2 c3 s2 s3 w4 HSm.out HD2'.out HD3'.out).mono ?_
    rintro e w5 ⟨rfl, hb5⟩
    have b5 := below_next b4 hb5
    go_wp2
    go_returns
    exact ⟨rfl, b5⟩
  | some x =>
    rcases x with ⟨i, k⟩
    have hsome := takeO_yes hf
    rw [hsome] at HM2 HMl ⊢
    have HTh : Hid (s2.map (·.ps) = thinned (notP p) (ds.map (·.ps))) := Lib.hid HM2.out
    obtain ⟨hc, hf1, hf2, _⟩ := findO_some hf
    rw [List.length_map, HN.out] at hf1
    have hlen := take_len hf
    rw [drw_dr (by rw [HN.out]; exact hf1), List.length_map, HN.out, show (thinned (notP p) (ds.map (·.ps))).length = M from HMl.out.symm] at hlen
    have HCo : Hid (cabOK (s2.map (·.ps))) := Lib.hid (by rw [HTh.out]; exact thinned_ok hc)
    have hs2 := cab_small HCo.out
    have hgone : findO (s2.map (·.ps)) p = none := by rw [HTh.out]; exact take_gone _ _
    have HGn := Lib.hid (takeO_no hgone)
    have hin : i < N := hf1
    have HF : Hid (∀ W, Below w1.heap.size w1 W → Calls Try.prog 37 #[.slice Ac N cc, .agg #[.int .i64 p.day, .string p.case]] W fun e w' => e = .returned (.tuple #[.int .i64 i, .int .i64 k, .bool true]) ∧ Below W.heap.size W w') := Lib.hid (fun W hW => by
      have h1 := implCabinetFind Ac N cc ds p W (HK.out W hW)
      rw [hf] at h1; exact h1)
    have HT : Hid (∀ W, DrawersIn W W.heap.size A2 M c2 s2 → Calls Try.prog 35 #[.slice A2 M c2, .agg #[.int .i64 p.day, .string p.case]] W fun e w' => (∃ A c, e = .returned (.tuple #[.slice A 0 c, .bool false])) ∧ Below W.heap.size W w') := Lib.hid (fun W hD => by
      have h1 := implCabinetTake A2 M c2 s2 p W (by omega) hD
      rw [HGn.out] at h1
      refine h1.mono ?_
      rintro e w' ⟨hA, hb⟩
      obtain ⟨A, c, s, rfl, _, hM⟩ := hA.form
      rw [show s = [] from List.map_eq_nil_iff.1 hM]
      exact ⟨⟨A, c, rfl⟩, hb⟩)
    have hcb := cabB_yes hc
    have hcbo := cabB_yes HCo.out
    have hapo : ansP (s2.map (·.ps)) = (ds.map (·.ps)).flatten.filter (notP p) := by rw [ansP_yes hcbo, HTh.out, thinned_flat]
    have hap : ansP (ds.map (·.ps)) = (ds.map (·.ps)).flatten := ansP_yes hcb
    have hfl := filter_small hc
    have hgood : ∀ q ∈ (ds.map (·.ps)).flatten, q.good := fun q hq => by
      rw [allPads_flat] at hq
      exact allPads_good (HK.out w1 (Below.refl _ _)) q hq
    have HPi : Hid (∀ W, Below w1.heap.size w1 W → Calls Try.prog 26 #[.slice Ac N cc] W fun e w' => (∃ A c, e = .returned (.tuple #[.slice A ((ds.map (·.ps)).flatten).length c, .bool true]) ∧ PadsOwn w' W.heap.size (.slice A ((ds.map (·.ps)).flatten).length c) ((ds.map (·.ps)).flatten)) ∧ Below W.heap.size W w') := Lib.hid (fun W hW => by
      have h1 := implCabinetPads Ac N cc ds W (by omega) (HK.out W hW)
      unfold PadsAns at h1
      rwa [hcb, hap] at h1)
    have HPo : Hid (∀ W, DrawersIn W W.heap.size A2 M c2 s2 → Calls Try.prog 26 #[.slice A2 M c2] W fun e w' => (∃ A c, e = .returned (.tuple #[.slice A ((ds.map (·.ps)).flatten.filter (notP p)).length c, .bool true]) ∧ PadsOwn w' W.heap.size (.slice A ((ds.map (·.ps)).flatten.filter (notP p)).length c) ((ds.map (·.ps)).flatten.filter (notP p))) ∧ Below W.heap.size W w') := Lib.hid (fun W hD => by
      have h1 := implCabinetPads A2 M c2 s2 W (by omega) hD
      unfold PadsAns at h1
      rwa [hcbo, hapo] at h1)
    have HgT : Hid (∀ q ∈ (ds.map (·.ps)).flatten, q.good) := Lib.hid hgood
    have HgL : Hid (∀ q ∈ (ds.map (·.ps)).flatten.filter (notP p), q.good) := Lib.hid (fun q hq => hgood q (List.mem_filter.1 hq).1)
    have HDi : Hid (∀ W, Below w1.heap.size w1 W → ∃ b off, Ac = some ⟨b, off, none⟩ ∧ b < w1.heap.size ∧ W.cell? ⟨b, off + i, none⟩ = some (.slice (drAt ds i).A (drAt ds i).ps.length (drAt ds i).c)) := Lib.hid (fun W hW => by
      obtain ⟨b, off, e, hb, hcl, hP⟩ := ((HK.out w1 (Below.refl _ _)).below hW).at_ hin
      rw [hP.1]
      exact ⟨b, off, e, hb, hcl⟩)
    have hdc := (((HK.out w1 (Below.refl _ _)).at_ hin).choose_spec.choose_spec.2.2.2)
    have hd1 := hdc.2.1; have hd2 := hdc.2.2.1
    rw [← hdc.1] at hd1
    unfold maxLen at hd2
    clear hdc
    have hn1 : ((ds.map (·.ps)).flatten.filter (notP p)).length ≤ 24 := Nat.le_trans (List.length_filter_le _ _) hfl
    have HWo : Hid (∀ A n c W, PadsIn W W.heap.size A n c (ds.map (·.ps)).flatten → n ≤ 24 → Calls Try.prog 38 #[.slice A n c, .agg #[.int .i64 p.day, .string p.case]] W fun e w' => RowAns w' W.heap.size ((ds.map (·.ps)).flatten.filter (notP p)) e ∧ Below W.heap.size W w') := Lib.hid (fun A n c W h hn => without A n c _ p W (by omega) h)
    clear hcbo hapo hap hcb hgood hf hsome HM2 HM3 HMl hgone HGn hf2 hf1 HTh HCo
    generalize (ds.map (·.ps)).flatten.filter (notP p) = L at *
    generalize (ds.map (·.ps)).flatten = T at *
    generalize drAt ds i = d at *
    generalize hdn : d.ps.length = Dn at *
    clear hdn
    generalize hLn : L.length = Ln at *
    have HLn := Lib.hid hLn; clear hLn
    generalize hTn : T.length = Tn at *
    have HTn := Lib.hid hTn; clear hTn
    simp only [Option.isSome_some]
    go_wp2_with fail
    refine (sameCabinet A2 A3 M c2 c3 s2 s3 w3 HSm.out HD2.out HD3.out).mono ?_
    rintro e w4 ⟨rfl, hb4⟩
    have b4 := below_next b3 hb4
    have k4 := below_next k3 hb4
    have q4 := q3.trans (hb4.mono z3)
    have z4 := Nat.le_trans z3 hb4.size
    have HD4 := Lib.hid (HD2.out.keep hb4)
    clear hb4 HD2 HD3 HSm
    obtain ⟨p0, p1⟩ := PK.out w4 q4
    go_wp2_with fail
    refine (HF.out w4 k4).mono ?_
    rintro e w5 ⟨rfl, hb5⟩
    have b5 := below_next b4 hb5
    have k5 := below_next k4 hb5
    have q5 := q4.trans (hb5.mono z4)
    have z5 := Nat.le_trans z4 hb5.size
    have HD5 := Lib.hid (HD4.out.keep hb5)
    clear hb5 HD4 HF p0 p1
    obtain ⟨p0, p1⟩ := PK.out w5 q5
    go_wp2_with fail
    refine (HT.out w5 HD5.out).mono ?_
    rintro e w6 ⟨⟨A6, c6, rfl⟩, hb6⟩
    have b6 := below_next b5 hb6
    have k6 := below_next k5 hb6
    have q6 := q5.trans (hb6.mono z5)
    have z6 := Nat.le_trans z5 hb6.size
    have HD6 := Lib.hid (HD5.out.keep hb6)
    clear hb6 HD5 HT p0 p1
    go_wp2_with fail
    refine (HPi.out w6 k6).mono ?_
    rintro e w7 ⟨⟨A7, c7, rfl, hO7⟩, hb7⟩
    have b7 := below_next b6 hb7
    have k7 := below_next k6 hb7
    have q7 := q6.trans (hb7.mono z6)
    have z7 := Nat.le_trans z6 hb7.size
    have HD7 := Lib.hid (HD6.out.keep hb7)
    have HT7 := Lib.hid (hO7.reads HTn.out HgT.out)
    clear hb7 HD6 HPi hO7
    go_wp2_with fail
    refine (HPo.out w7 HD7.out).mono ?_
    rintro e w8 ⟨⟨A8, c8, rfl, hO8⟩, hb8⟩
    have b8 := below_next b7 hb8
    have k8 := below_next k7 hb8
    have q8 := q7.trans (hb8.mono z7)
    have z8 := Nat.le_trans z7 hb8.size
    have HT8 := Lib.hid (HT7.out.keep hb8)
    have HL8 := Lib.hid (hO8.reads HLn.out HgL.out)
    clear hb8 HD7 HPo hO8 HT7
    obtain ⟨p0, p1⟩ := PK.out w8 q8
    go_wp2_with fail
    refine (HWo.out _ _ _ w8 HT8.out (by omega)).mono ?_
    rintro e w9 ⟨hA, hb9⟩
    obtain ⟨A9, c9, rfl, hO9⟩ := hA
    rw [HLn.out] at hO9 ⊢
    have b9 := below_next b8 hb9
    have k9 := below_next k8 hb9
    have HL9 := Lib.hid (HL8.out.keep hb9)
    have HN9 := Lib.hid (hO9.reads HLn.out HgL.out)
    clear hb9 HL8 hO9 p0 p1 HWo HT8
    go_wp2_with fail
    refine (samePads A8 A9 Ln c8 c9 L w9 HL9.out HN9.out).mono ?_
    rintro e w10 ⟨rfl, hb10⟩
    have b10 := below_next b9 hb10
    have k10 := below_next k9 hb10
    clear hb10 HL9 HN9
    obtain ⟨b, off, rfl, hbB, c0⟩ := HDi.out w10 k10
    have hwr : IntKind.i64.wrap ((N : Int) - 1) = (N : Int) - 1 := IntWalk.i64_in _ (by omega)
    have hi1 : (0 : Int) ≤ (i : Int) := by omega
    have hi2 : (i : Int) < (N : Int) := by omega
    clear HDi
    go_wp2_with fail
    go_returns
    exact ⟨rfl, b10⟩

set_option maxRecDepth 100000 in
theorem lifted (os : Os) (started : os.Started) (H : Type) (enc : TypeId × Value → H) :
    ReturnsInHanded {} Try.checked os 8 .any (Rows.fnTakeSpec.pre6 enc Try.prog Try.f8 Rows.fnTakeRow.domain false) (Rows.fnTakeSpec.post enc Try.prog Try.f8 false true false false) := by
  refine returnsInHanded_of_change (C := Try.checked) own started (by kernel_rfl) Try.func8
    (ChangeSpec.witness6 (enc := enc) (C := Try.checked) false ⟨#[], #[.slice none 0 0], []⟩ 8 (by kernel_rfl) (by kernel_rfl) (by kernel_rfl) (by kernel_rfl)) ?_
  intro W base args ds gs before hval0 hW hcnd _
  have hval : ∀ (j : Nat) t v, Try.f8.params[j]? = some t → args[j]? = some v → Value.okWide Try.prog W .any base t v := hval0
  have hW' := hW
  obtain ⟨p, q, hA0, hV, rfl, hfz, hnd⟩ := hW
  have hA : DataW.TrodAll enc Try.prog W 0 (fun _ => true) true Try.f8.params.toList args.toList ds p := hA0
  rw [Try.params8] at hA hval
  obtain ⟨v0, vs0, d0, ds0, p0, q0, hargs, rfl, rfl, h0, r0⟩ := trodAll_cons hA
  obtain ⟨rfl, rfl, rfl⟩ := trodAll_nil r0
  obtain rfl : args = #[v0] := by cases args; simp_all
  obtain ⟨rfl, rfl⟩ := trodVars_none hV
  have k0 := h0
  have lt0 : ∀ x ∈ p0, x.block < W.heap.size := by obtain ⟨m, hm⟩ := k0; exact DataW.trod_lt m _ _ _ hm
  obtain ⟨A_0, n_0, c_0, bs_0, rfl, R_0⟩ := openBytes (hval 0 33 v0 rfl rfl) h0
  clear hA0 hval0
  refine (walk A_0 n_0 c_0 bs_0 W R_0).mono fun e W' ⟨he, bel⟩ => ?_
  subst he
  exact ⟨_, rfl, _, _, _, [], _, [], hW', trodAll_mk1 (shut_bool Try.underlying4 _), (trodAll_cons_mk (Below.trod laidOut (by kernel_rfl) (of_decide_eq_true (by kernel_rfl)) k0 bel lt0) trodAll_mk0), rfl, bel.frame _, fun h => by cases h⟩

theorem over : Rows.fnTakeRow.holds Try.pinned (OpenSpec.ofChange Rows.fnTakeSpec) :=
  OpenClaim.holds_of_wide 8 Try.f8 rfl rfl rfl rfl rfl rfl rfl ⟨rfl, rfl, rfl, rfl, rfl⟩ rfl rfl rfl rfl rfl (by kernel_rfl) Try.func8 (by kernel_rfl)
    (of_decide_eq_true (by kernel_rfl)) (by unfold Func.isWrapper; first | (rw [if_pos (by decide +kernel)]; kernel_rfl) | (rw [if_neg (by decide +kernel)]; exact ⟨rfl, rfl⟩))
    (fun os started H enc _ => lifted os started H enc)

theorem proved : Rows.FnTakeSaid := over
end Go.Proofs.Ytfbfapobmhfenaa.fnTake
