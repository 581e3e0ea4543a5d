/-
  The law FnFind returns true for every input, and what was in memory before the call reads as before: the frame round its walk.
  Conditions: none.
-/
import Derived.Test.YtfbfapobmhfenaaFileLaw3
import Derived.Test.YtfbfapobmhfenaaDrawFile
import Derived.Test.YtfbfapobmhfenaaSameC
import Derived.Test.YtfbfapobmhfenaaTreeB
import Derived.Test.YtfbfapobmhfenaaTake
import Derived.Test.YtfbfapobmhfenaaMarkLaw
import Derived.Test.YtfbfapobmhfenaaFindA
namespace Go.Proofs.Ytfbfapobmhfenaa.fnFind
open Go.ChangeShapes Go.WideShapes Go.ChangeAt Go.RowKit
set_option linter.unusedVariables false

set_option maxRecDepth 100000 in
set_option maxHeartbeats 1600000 in
theorem walk (A : Option Addr) (n c : Nat) (bs : List Int) (W : World) (hb : BytesIn W W.heap.size A n c bs) :
    Calls Try.prog 13 #[.slice A n c] W fun e w' => e = .returned (.bool true) ∧ Below W.heap.size W w' := by
  have hm := hb.2.2.1
  have hnc := hb.2.1
  unfold maxLen at hm
  by_cases hn : 1048576 < n
  · clear hb
    go_enter Try.func13, Try.ntmps13
    go_wp2
    go_returns
    exact ⟨rfl, by go_grown⟩
  have HD := Lib.hid (drawCabinetFind A n c bs W hb)
  clear hb
  go_enter Try.func13, Try.ntmps13
  go_wp2_with fail
  refine HD.out.mono ?_
  rintro e w1 ⟨Ac, cc, ds, p, rfl, hD, hsz, hpg, b1⟩
  have hcm := hD.2.2.1; have hcc := hD.2.1
  unfold maxLen at hcm
  have HPg := Lib.hid hpg
  have HK : Hid (∀ w, Below w1.heap.size w1 w → DrawersIn w w.heap.size Ac ds.length cc ds) := Lib.hid (fun w h => hD.keep h)
  clear hD HD hpg
  have hdl : ds.length ≤ 4096 := by have := cabSz_len ds; omega
  generalize hdn : ds.length = N at *
  have HN := Lib.hid hdn; clear hdn
  have hal : Below w1.heap.size w1 (w1.alloc (.cells #[.int .i64 p.day, .string p.case] 49)) := (Below.refl _ _).alloc (Nat.le_refl _) _
  have PK : Hid (∀ W, Below (w1.heap.size + 1) (w1.alloc (.cells #[.int .i64 p.day, .string p.case] 49)) W → W.cell? ⟨w1.heap.size, 0, none⟩ = some (.int .i64 p.day) ∧ W.cell? ⟨w1.heap.size, 1, none⟩ = some (.string p.case)) := Lib.hid (fun W hW => by
    have hW' : Below (w1.alloc (.cells #[.int .i64 p.day, .string p.case] 49)).heap.size (w1.alloc (.cells #[.int .i64 p.day, .string p.case] 49)) W := by simpa using hW
    exact ⟨kcell hW' (newcell w1 _ _ 0 _ rfl), kcell hW' (newcell w1 _ _ 1 _ rfl)⟩)
  have b0 : Below W.heap.size W (w1.alloc (.cells #[.int .i64 p.day, .string p.case] 49)) := b1.trans (hal.mono b1.size)
  unfold padVal
  go_wp2_with fail
  have HI := Lib.hid (implCabinetFind Ac N cc ds p _ (HK.out _ hal))
  unfold padVal at HI
  refine HI.out.mono ?_
  rintro e w2 ⟨hA, hb2⟩
  have b2 := below_next b0 hb2
  have k2 := below_next hal hb2
  have q2 : Below (w1.heap.size + 1) (w1.alloc (.cells #[.int .i64 p.day, .string p.case] 49)) w2 := by simpa using hb2
  have z2 := q2.size
  simp only [World.size_alloc] at z2
  unfold FindAns at hA
  subst hA
  clear hb2 HI
  obtain ⟨c0, c1⟩ := PK.out w2 q2
  have HS := Lib.hid (specCabinetFind Ac N cc ds p w2 (by omega) (HK.out _ k2))
  unfold padVal FindAns at HS
  cases hf : findO (ds.map (·.ps)) p with
  | none =>
    rw [hf] at HS
    clear hf
    unfold findV at HS ⊢
    go_wp2_with fail
    refine HS.out.mono ?_
    rintro e w3 ⟨rfl, hb3⟩
    have b3 := below_next b2 hb3
    go_wp2
    go_returns
    exact ⟨rfl, b3⟩
  | some x =>
    have htk := takeO_yes hf
    have hgone := take_gone (ds.map (·.ps)) p
    obtain ⟨hr6, hry⟩ := refile hf
    have hpm := found_mem hf
    rcases x with ⟨i, k⟩
    obtain ⟨hc, hf1, hf2, hf3⟩ := findO_some hf
    have hok := cab_okP hc p hpm
    have hx := thinned_ok (p := notP p) hc
    rw [hf] at HS
    unfold findV at HS ⊢
    go_wp2_with fail
    refine HS.out.mono ?_
    rintro e w3 ⟨rfl, hb3⟩
    have b3 := below_next b2 hb3
    have k3 := below_next k2 hb3
    have q3 := q2.trans (hb3.mono z2)
    have z3 := Nat.le_trans z2 hb3.size
    clear HS c0 c1 hb3
    rw [List.length_map, HN.out] at hf1
    have hin : i < N := hf1
    have hdw := drw_dr (ds := ds) (i := i) (by rw [HN.out]; exact hf1)
    rw [hdw] at hf2 hf3
    have hcb := cabB_yes hc
    have hap : ansP (ds.map (·.ps)) = (ds.map (·.ps)).flatten := ansP_yes hcb
    have hfl := filter_small hc
    have hgood : ∀ q ∈ (ds.map (·.ps)).flatten, q.good := fun q hq => by
      rw [allPads_flat] at hq
      exact allPads_good (HK.out w1 (Below.refl _ _)) q hq
    have HT : Hid (∀ W, Below w1.heap.size w1 W → Calls Try.prog 35 #[.slice Ac N cc, .agg #[.int .i64 p.day, .string p.case]] W fun e w' => (∃ A c s, e = .returned (.tuple #[.slice A s.length c, .bool true]) ∧ s.map (·.ps) = thinned (notP p) (ds.map (·.ps)) ∧ DrawersIn w' w'.heap.size A s.length c s) ∧ Below W.heap.size W w') := Lib.hid (fun W hW => by
      have h1 := implCabinetTake Ac N cc ds p W (by omega) (HK.out W hW)
      rw [htk] at h1
      refine h1.mono ?_
      rintro e w' ⟨hA, hb⟩
      obtain ⟨A, c, s, rfl, hO, hM⟩ := hA.form
      exact ⟨⟨A, c, s, rfl, hM, hO.reads rfl⟩, hb⟩)
    have HF2 : Hid (∀ A c s W, s.map (·.ps) = thinned (notP p) (ds.map (·.ps)) → DrawersIn W W.heap.size A s.length c s → Calls Try.prog 37 #[.slice A s.length c, .agg #[.int .i64 p.day, .string p.case]] W fun e w' => e = .returned (.tuple #[.int .i64 0, .int .i64 0, .bool false]) ∧ Below W.heap.size W w') := Lib.hid (fun A c s W hs hD => by
      have h1 := implCabinetFind A s.length c s p W hD
      rw [hs, hgone] at h1
      exact h1)
    have HY : Hid (∀ A c s W, s.map (·.ps) = thinned (notP p) (ds.map (·.ps)) → DrawersIn W W.heap.size A s.length c s → Calls Try.prog 48 #[.slice A s.length c, .agg #[.int .i64 p.day, .string p.case]] W fun e w' => (∃ A c y, e = .returned (.tuple #[.slice A y.length c, .bool (fileO (thinned (notP p) (ds.map (·.ps))) p).isSome]) ∧ y.map (·.ps) = (fileO (thinned (notP p) (ds.map (·.ps))) p).getD [] ∧ DrawersIn w' w'.heap.size A y.length c y) ∧ Below W.heap.size W w') := Lib.hid (fun A c s W hs hD => by
      have hsz := cab_small (ds := s) (by rw [hs]; exact hx)
      have h1 := implCabinetFile A s.length c s p W (by omega) HPg.out hD
      rw [hs] at h1
      refine h1.mono ?_
      rintro e w' ⟨hA, hb⟩
      obtain ⟨A, c, s, rfl, hO, hM⟩ := hA.form
      exact ⟨⟨A, c, s, rfl, hM, hO.reads rfl⟩, hb⟩)
    have hYok : cabOK ((fileO (thinned (notP p) (ds.map (·.ps))) p).getD []) := by
      cases h : fileO (thinned (notP p) (ds.map (·.ps))) p with
      | none => exact cab_nil
      | some y => exact fileO_ok h
    have hYb := cabB_yes hYok
    have HPo : Hid (∀ A c s W, s.map (·.ps) = (fileO (thinned (notP p) (ds.map (·.ps))) p).getD [] → DrawersIn W W.heap.size A s.length c s → Calls Try.prog 26 #[.slice A s.length c] W fun e w' => (∃ A c, e = .returned (.tuple #[.slice A ((fileO (thinned (notP p) (ds.map (·.ps))) p).getD []).flatten.length c, .bool true]) ∧ PadsIn w' w'.heap.size A ((fileO (thinned (notP p) (ds.map (·.ps))) p).getD []).flatten.length c ((fileO (thinned (notP p) (ds.map (·.ps))) p).getD []).flatten) ∧ Below W.heap.size W w') := Lib.hid (fun A c s W hs hD => by
      have hsz := cab_small (ds := s) (by rw [hs]; exact hYok)
      have h1 := implCabinetPads A s.length c s W (by omega) hD
      unfold PadsAns at h1
      rw [hs, hYb, ansP_yes hYb] at h1
      refine h1.mono ?_
      rintro e w' ⟨⟨A', c', rfl, hO⟩, hb⟩
      refine ⟨⟨A', c', rfl, hO.reads rfl fun q hq => ?_⟩, hb⟩
      have h2 := allPads_good hD q
      rw [← allPads_flat, hs] at h2
      exact h2 hq)
    have HPi : Hid (∀ W, Below w1.heap.size w1 W → Calls Try.prog 26 #[.slice Ac N cc] W fun e w' => (∃ A c, e = .returned (.tuple #[.slice A ((ds.map (·.ps)).flatten).length c, .bool true]) ∧ PadsOwn w' W.heap.size (.slice A ((ds.map (·.ps)).flatten).length c) ((ds.map (·.ps)).flatten)) ∧ Below W.heap.size W w') := Lib.hid (fun W hW => by
      have h1 := implCabinetPads Ac N cc ds W (by omega) (HK.out W hW)
      unfold PadsAns at h1
      rwa [hcb, hap] at h1)
    have HgT : Hid (∀ q ∈ (ds.map (·.ps)).flatten, q.good) := Lib.hid hgood
    have HDi : Hid (∀ W, Below w1.heap.size w1 W → ∃ b off b2 off2, Ac = some ⟨b, off, none⟩ ∧ (drAt ds i).A = some ⟨b2, off2, none⟩ ∧ W.cell? ⟨b, off + i, none⟩ = some (.slice (drAt ds i).A (drAt ds i).n (drAt ds i).c) ∧ W.cell? ⟨b2, off2 + k * 2, none⟩ = some (.int .i64 p.day) ∧ W.cell? ⟨b2, off2 + k * 2 + 1, none⟩ = some (.string p.case)) := Lib.hid (fun W hW => by
      obtain ⟨b, off, e, hb, hcl, hP⟩ := ((HK.out w1 (Below.refl _ _)).below hW).at_ hin
      obtain ⟨b2, off2, e2, hb2, x0, x1, _⟩ := hP.at_ (k := k) (by rw [← hP.1]; exact hf2)
      rw [hf3] at x0 x1
      exact ⟨b, off, b2, off2, e, e2, hcl, x0, x1⟩)
    have hdc := (((HK.out w1 (Below.refl _ _)).at_ hin).choose_spec.choose_spec.2.2.2)
    have hd1 := hdc.2.1; have hd2 := hdc.2.2.1
    have hkn : k < (drAt ds i).n := by rw [← hdc.1]; exact hf2
    unfold maxLen at hd2
    clear hdc hf hf1 hf2 hf3 hdw hgood hap hcb hx hgone htk hok hYb hpm
    have HR6 := Lib.hid hr6
    have HRY := Lib.hid hry
    have hN6 : N ≤ 6 := by have := hc.1; rw [List.length_map, HN.out] at this; exact this
    have hlN : (ds.map (·.ps)).length = N := by rw [List.length_map]; exact HN.out
    rw [hlN] at HR6
    clear hr6 hry hc hlN
    have HYL : Hid (((fileO (thinned (notP p) (ds.map (·.ps))) p).getD []).flatten.length ≤ 24) := Lib.hid (filter_small hYok)
    clear hYok
    generalize drAt ds i = d at *
    generalize hfo : fileO (thinned (notP p) (ds.map (·.ps))) p = FO at *
    clear hfo
    generalize thinned (notP p) (ds.map (·.ps)) = X at *
    generalize hty : (FO.getD []).flatten = TY at *
    have HTY := Lib.hid hty; clear hty
    generalize hyn : TY.length = yn at *
    have HYN := Lib.hid hyn; clear hyn
    generalize (ds.map (·.ps)).flatten = T at *
    generalize hTn : T.length = Tn at *
    have HTn := Lib.hid hTn; clear hTn
    have hE : ∀ W, (binOp .eql 49 (.agg #[.int .i64 p.day, .string p.case]) (.agg #[.int .i64 p.day, .string p.case])).run Try.prog W = .ok (.bool true) W := fun W => by
      have := eqPadRun p.day p.case p.day p.case W
      rwa [show (p.day == p.day && p.case.toList == p.case.toList) = true by simp] at this
    have HE := Lib.hid hE; clear hE
    -- taken
    obtain ⟨p0, p1⟩ := PK.out w3 q3
    go_wp2_with fail
    refine (HT.out w3 k3).mono ?_
    rintro e w4 ⟨⟨A4, c4, s4, rfl, hs4, hD4⟩, hb4⟩
    have b4 := below_next b3 hb4
    have k4 := below_next k3 hb4
    have q4 := q3.trans (hb4.mono z3)
    have z4 := Nat.le_trans z3 hb4.size
    have HF4 := Lib.hid (HF2.out A4 c4 s4 w4 hs4 hD4)
    have HY4 : Hid (∀ W, Below w4.heap.size w4 W → _) := Lib.hid (fun W hW => HY.out A4 c4 s4 W hs4 (hD4.keep hW))
    clear hb4 HT p0 p1 hs4 hD4 HF2 HY
    generalize s4.length = m4 at *
    obtain ⟨p0, p1⟩ := PK.out w4 q4
    go_wp2_with fail
    refine HF4.out.mono ?_
    rintro e w5 ⟨rfl, hb5⟩
    have b5 := below_next b4 hb5
    have k5 := below_next k4 hb5
    have q5 := q4.trans (hb5.mono z4)
    have z5 := Nat.le_trans z4 hb5.size
    have HY5 := Lib.hid (HY4.out w5 hb5)
    clear hb5 HF4 HY4 p0 p1
    obtain ⟨p0, p1⟩ := PK.out w5 q5
    go_wp2_with fail
    refine HY5.out.mono ?_
    rintro e w6 ⟨⟨A6, c6, s6, rfl, hs6, hD6⟩, hb6⟩
    have b6 := below_next b5 hb6
    have k6 := below_next k5 hb6
    have q6 := q5.trans (hb6.mono z5)
    have z6 := Nat.le_trans z5 hb6.size
    have HP6 := Lib.hid (HPo.out A6 c6 s6 w6 hs6 hD6)
    clear hb6 HY5 p0 p1 hs6 hD6 HPo
    generalize s6.length = m6 at *
    go_wp2_with fail
    refine HP6.out.mono ?_
    rintro e w7 ⟨⟨A7, c7, rfl, hP7⟩, hb7⟩
    have b7 := below_next b6 hb7
    have k7 := below_next k6 hb7
    have q7 := q6.trans (hb7.mono z6)
    have z7 := Nat.le_trans z6 hb7.size
    have HP7 := Lib.hid hP7
    clear hb7 HP6 hP7
    go_wp2_with fail
    refine (HPi.out w7 k7).mono ?_
    rintro e w8 ⟨⟨A8, c8, rfl, hO8⟩, hb8⟩
    have b8 := below_next b7 hb8
    have k8 := below_next k7 hb8
    have q8 := q7.trans (hb8.mono z7)
    have HP8 := Lib.hid (HP7.out.keep hb8)
    have HT8 := Lib.hid (hO8.reads HTn.out HgT.out)
    clear hb8 HPi hO8 HP7
    obtain ⟨p0, p1⟩ := PK.out w8 q8
    obtain ⟨b, off, b2, off2, rfl, eA2, x0, x1, x2⟩ := HDi.out w8 k8
    rw [eA2] at x0
    clear HDi eA2
    have hE := HE.out
    have hg0 : Try.prog.eqGuardType Try.prog.depth 49 = false := by kernel_rfl
    have hi1 : (0 : Int) ≤ (i : Int) := by omega
    have hi2 : (i : Int) < (N : Int) := by omega
    have hk1 : (0 : Int) ≤ (k : Int) := by omega
    have hk2 : (k : Int) < (d.n : Int) := by omega
    have r0 := qcell p0; have r1 := qcell p1; have r2 := qcell x0; have r3 := qcell x1; have r4 := qcell x2
    cases FO with
    | none =>
      have hN : N = 6 := HR6.out rfl
      subst hN
      simp only [Option.isSome_none]
      go_wp2_with fail
      refine region_qb (by kernel_rfl) (by kernel_rfl) ?_
      repeat (first | go_big_quiet_step (fail) | quiet_step (fail))
      refine wpQuiet_nil ?_
      intro w9 hb9
      have b9 := below_next b8 hb9
      clear r0 r1 r2 r3 r4 x0 x1 x2 p0 p1 hb9
      go_wp2
      go_returns
      exact ⟨rfl, b9⟩
    | some y =>
      have HSp : Hid (∀ W, Below w8.heap.size w8 W → Calls Try.prog 27 #[.slice A7 yn c7, .slice A8 Tn c8] W fun e w' => e = .returned (.bool true) ∧ Below W.heap.size W w') := Lib.hid (fun W hW => by
        have h1 := HP8.out.keep hW
        have h2 := HT8.out.keep hW
        have e1 : TY = T := by rw [← HTY.out]; exact HRY.out y rfl
        have e2 : yn = Tn := by rw [← HYN.out, ← HTn.out, e1]
        rw [e1] at h1
        subst e2
        exact samePads A7 A8 yn c7 c8 T W h1 h2)
      simp only [Option.isSome_some]
      go_wp2_with fail
      refine region_qb (by kernel_rfl) (by kernel_rfl) ?_
      repeat (first | go_big_quiet_step ((go_at_call 27; exact quietB (HSp.out _ (below_regrown w8 _ _)))) | quiet_step ((go_at_call 27; exact quietB (HSp.out _ (below_regrown w8 _ _)))))
      refine wpQuiet_nil ?_
      intro w9 hb9
      have b9 := below_next b8 hb9
      clear r0 r1 r2 r3 r4 x0 x1 x2 p0 p1 hb9
      go_wp2
      go_returns
      exact ⟨rfl, b9⟩

set_option maxRecDepth 100000 in
theorem lifted (os : Os) (started : os.Started) (H : Type) (enc : TypeId × Value → H) :
    ReturnsInHanded {} Try.checked os 13 .any (Rows.fnFindSpec.pre6 enc Try.prog Try.f13 Rows.fnFindRow.domain false) (Rows.fnFindSpec.post enc Try.prog Try.f13 false true false false) := by
  refine returnsInHanded_of_change (C := Try.checked) own started (by kernel_rfl) Try.func13
    (ChangeSpec.witness6 (enc := enc) (C := Try.checked) false ⟨#[], #[.slice none 0 0], []⟩ 8 (by kernel_rfl) (by kernel_rfl) (by kernel_rfl) (by kernel_rfl)) ?_
  intro W base args ds gs before hval0 hW hcnd _
  have hval : ∀ (j : Nat) t v, Try.f13.params[j]? = some t → args[j]? = some v → Value.okWide Try.prog W .any base t v := hval0
  have hW' := hW
  obtain ⟨p, q, hA0, hV, rfl, hfz, hnd⟩ := hW
  have hA : DataW.TrodAll enc Try.prog W 0 (fun _ => true) true Try.f13.params.toList args.toList ds p := hA0
  rw [Try.params13] at hA hval
  obtain ⟨v0, vs0, d0, ds0, p0, q0, hargs, rfl, rfl, h0, r0⟩ := trodAll_cons hA
  obtain ⟨rfl, rfl, rfl⟩ := trodAll_nil r0
  obtain rfl : args = #[v0] := by cases args; simp_all
  obtain ⟨rfl, rfl⟩ := trodVars_none hV
  have k0 := h0
  have lt0 : ∀ x ∈ p0, x.block < W.heap.size := by obtain ⟨m, hm⟩ := k0; exact DataW.trod_lt m _ _ _ hm
  obtain ⟨A_0, n_0, c_0, bs_0, rfl, R_0⟩ := openBytes (hval 0 33 v0 rfl rfl) h0
  clear hA0 hval0
  refine (walk A_0 n_0 c_0 bs_0 W R_0).mono fun e W' ⟨he, bel⟩ => ?_
  subst he
  exact ⟨_, rfl, _, _, _, [], _, [], hW', trodAll_mk1 (shut_bool Try.underlying4 _), (trodAll_cons_mk (Below.trod laidOut (by kernel_rfl) (of_decide_eq_true (by kernel_rfl)) k0 bel lt0) trodAll_mk0), rfl, bel.frame _, fun h => by cases h⟩

theorem over : Rows.fnFindRow.holds Try.pinned (OpenSpec.ofChange Rows.fnFindSpec) :=
  OpenClaim.holds_of_wide 13 Try.f13 rfl rfl rfl rfl rfl rfl rfl ⟨rfl, rfl, rfl, rfl, rfl⟩ rfl rfl rfl rfl rfl (by kernel_rfl) Try.func13 (by kernel_rfl)
    (of_decide_eq_true (by kernel_rfl)) (by unfold Func.isWrapper; first | (rw [if_pos (by decide +kernel)]; kernel_rfl) | (rw [if_neg (by decide +kernel)]; exact ⟨rfl, rfl⟩))
    (fun os started H enc _ => lifted os started H enc)

theorem proved : Rows.FnFindSaid := over
end Go.Proofs.Ytfbfapobmhfenaa.fnFind
