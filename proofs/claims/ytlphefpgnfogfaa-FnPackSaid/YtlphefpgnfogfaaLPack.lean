/-
  The law FnPack returns true for every input, and what was in memory before the call reads as before: the frame round its walk.
  Conditions: none.
-/
import Derived.Test.YtlphefpgnfogfaaPackI
import Derived.Test.YtlphefpgnfogfaaPackS
import Derived.Test.YtlphefpgnfogfaaMarkLaw
import Derived.Test.YtlphefpgnfogfaaSameC
import Derived.Test.YtlphefpgnfogfaaDrawA
import Derived.Test.YtlphefpgnfogfaaTreeB
import Derived.Test.YtlphefpgnfogfaaFindA
namespace Go.Proofs.Ytlphefpgnfogfaa.fnPack
open Go.ChangeShapes Go.WideShapes Go.ChangeAt Go.RowKit
set_option linter.unusedVariables false

theorem drawCabinetPack (A : Option Addr) (n c : Nat) (bs : List Int) (w : World) (hb : BytesIn w w.heap.size A n c bs) :
    Calls Try.prog 12 #[.slice A n c] w (DrawnC w) := by
  have HD := Lib.hid (drawCab A n c bs w hb); clear hb
  go_enter Try.func12, Try.ntmps12
  go_wp2_with fail
  refine HD.out.mono ?_
  rintro e w1 ⟨rfl, _, hC⟩
  have HC := Lib.hid hC; clear hC
  go_wp2_with fail
  refine HC.out.mono ?_
  rintro e w2 ⟨⟨A2, c2, ds, rfl, hO, h2, _⟩, b2⟩
  have H1 := Lib.hid (hO.reads rfl); clear hO
  go_wp2
  go_ret
  exact ⟨A2, c2, ds, rfl, H1.out, h2, b2⟩
theorem full_at {css : List (List Pad)} {s : List Drawer} (h : s.map (·.ps) = packed css.flatten) {i : Nat} (hi : i + 1 < s.length) : (drAt s i).ps.length = 4 := by
  have hl : (packed css.flatten).length = s.length := by rw [← h, List.length_map]
  have h2 := packed_full (l := css.flatten) (i := i) (by omega)
  have h3 := drAt_some (ds := s) (k := i) (by omega)
  have h4 : (s.map (·.ps))[i]? = some (drAt s i).ps := by rw [List.getElem?_map, h3]; rfl
  rw [h, List.getElem?_eq_getElem (by omega)] at h4
  injection h4 with h4
  rw [← h4]; exact h2
set_option maxRecDepth 100000 in
set_option maxHeartbeats 3200000 in
theorem walk (A : Option Addr) (n c : Nat) (bs : List Int) (W : World) (hb : BytesIn W W.heap.size A n c bs) :
    Calls Try.prog 4 #[.slice A n c] W fun e w' => e = .returned (.bool true) ∧ Below W.heap.size W w' := by
  have hm := hb.2.2.1
  have hnc := hb.2.1
  unfold maxLen at hm
  by_cases hn : 1048576 < n
  · clear hb
    go_enter Try.func4, Try.ntmps4
    go_wp2
    go_returns
    exact ⟨rfl, by go_grown⟩
  have HD := Lib.hid (drawCabinetPack A n c bs W hb)
  clear hb
  go_enter Try.func4, Try.ntmps4
  go_wp2_with fail
  refine HD.out.mono ?_
  rintro e w1 ⟨Ac, cc, ds, rfl, hD, hsz, b1⟩
  have hcm := hD.2.2.1; have hcc := hD.2.1
  unfold maxLen at hcm
  have HK : Hid (∀ w, Below w1.heap.size w1 w → DrawersIn w w.heap.size Ac ds.length cc ds) := Lib.hid (fun w h => hD.keep h)
  clear hD HD
  generalize hdn : ds.length = N at *
  have HDn := Lib.hid hdn
  clear hdn
  go_wp2_with fail
  refine (implCabinetPack Ac N cc ds w1 (by omega) (HK.out _ (Below.refl _ _))).mono ?_
  rintro e w2 ⟨hA, hb2⟩
  obtain ⟨A2, c2, s2, rfl, hO2, hM2⟩ := hA.form
  have b2 := below_next b1 hb2
  have k2 := hb2
  have HO2 := Lib.hid hO2; have HM2 := Lib.hid hM2
  clear hO2 hM2 hA hb2
  go_wp2_with fail
  refine (specCabinetPack Ac N cc ds w2 (by omega) (HK.out _ k2)).mono ?_
  rintro e w3 ⟨hA, hb3⟩
  obtain ⟨A3, c3, s3, rfl, hO3, hM3⟩ := hA.form
  have b3 := below_next b2 hb3
  have k3 := below_next k2 hb3
  have HO3 := Lib.hid hO3; have HM3 := Lib.hid hM3
  have HD2 := Lib.hid ((HO2.out.keep hb3).reads rfl)
  have hl3 : s3.length = s2.length := by rw [← List.length_map (f := (·.ps)), hM3, ← HM2.out, List.length_map]
  have HD3 := Lib.hid (hO3.reads rfl)
  rw [hl3] at HD3 ⊢
  have HSm : Hid (s2.map (·.ps) = s3.map (·.ps)) := Lib.hid (by rw [HM2.out, HM3.out])
  have hq2 := HD2.out.2.2.1; have hq2' := HD2.out.2.1
  unfold maxLen at hq2
  clear hO3 hM3 hA hb3 hl3 HO2 HO3
  generalize hM : s2.length = M at *
  have HMl := Lib.hid hM
  clear hM
  cases hv : cabB (ds.map (·.ps)) with
  | false =>
    have hnone : packO (ds.map (·.ps)) = none := packO_no hv
    rw [hnone]
    clear hv hnone
    simp only [Option.isSome_none]
    go_wp2_with fail
    refine (sameCabinet A2 A3 M c2 c3 s2 s3 w3 HSm.out HD2.out HD3.out).mono ?_
    rintro e w4 ⟨rfl, hb4⟩
    have b4 := below_next b3 hb4
    have HD2' := Lib.hid (HD2.out.keep hb4)
    have HD3' := Lib.hid (HD3.out.keep hb4)
    clear hb4
    go_wp2_with fail
    refine (sameCabinet A2 A3 M c2 c3 s2 s3 w4 HSm.out HD2'.out HD3'.out).mono ?_
    rintro e w5 ⟨rfl, hb5⟩
    have b5 := below_next b4 hb5
    go_wp2
    go_returns
    exact ⟨rfl, b5⟩
  | true =>
    have HC := Lib.hid (cabB_iff.1 hv)
    have hsome := packO_yes hv
    rw [hsome] at HM2 ⊢
    have HTh : Hid (s2.map (·.ps) = packed (ds.map (·.ps)).flatten) := Lib.hid HM2.out
    have HV := Lib.hid hv
    clear hv hsome HM2 HM3
    simp only [Option.isSome_some]
    go_wp2_with fail
    refine (sameCabinet A2 A3 M c2 c3 s2 s3 w3 HSm.out HD2.out HD3.out).mono ?_
    rintro e w4 ⟨rfl, hb4⟩
    have b4 := below_next b3 hb4
    have k4 := below_next k3 hb4
    have HD4 := Lib.hid (HD2.out.keep hb4)
    clear hb4 HD2 HD3 HSm
    have HCo : Hid (cabOK (s2.map (·.ps))) := Lib.hid (by rw [HTh.out]; exact (packed_ok HC.out).1)
    have hs2 : cabSz s2 ≤ 1048576 := by have := cab_small HCo.out; omega
    -- packed once more
    go_wp2_with fail
    refine (implCabinetPack A2 M c2 s2 w4 hs2 HD4.out).mono ?_
    rintro e w5 ⟨hA, hb5⟩
    have hto : packO (s2.map (·.ps)) = some (s2.map (·.ps)) := by
      rw [packO_yes (cabB_yes HCo.out)]; rw [HTh.out, packed_flat]
    rw [hto] at hA
    obtain ⟨A5, c5, s5, rfl, hO5, hM5⟩ := hA.form
    have b5 := below_next b4 hb5
    have k5 := below_next k4 hb5
    have HD5 := Lib.hid (HD4.out.keep hb5)
    have hM5' : s5.map (·.ps) = s2.map (·.ps) := hM5
    have HX5 := Lib.hid (hO5.reads rfl)
    have hl5 : s5.length = M := by rw [← List.length_map (f := (·.ps)), hM5', List.length_map]; exact HD5.out.1
    rw [hl5] at HX5 ⊢
    have HM5 := Lib.hid hM5'
    clear hO5 hM5 hM5' hA hb5 hl5 hto HD4
    simp only [Option.isSome_some]
    -- all pads of both
    have hcbo := cabB_yes HCo.out
    have hapo : ansP (s2.map (·.ps)) = (ds.map (·.ps)).flatten := by rw [ansP_yes hcbo, HTh.out, packed_flat]
    have hap : ansP (ds.map (·.ps)) = (ds.map (·.ps)).flatten := ansP_yes HV.out
    have hgood : ∀ q ∈ (ds.map (·.ps)).flatten, q.good := fun q hq => by
      rw [allPads_flat] at hq
      exact allPads_good (HK.out w1 (Below.refl _ _)) q hq
    have hMl : M = ((ds.map (·.ps)).flatten.length + 3) / 4 := by
      rw [← packed_len, ← HTh.out, List.length_map]; exact HMl.out.symm
    have hMN : M ≤ N := by
      have h1 := (packed_ok HC.out).2
      rw [← HTh.out, List.length_map, List.length_map, HMl.out, HDn.out] at h1
      exact h1
    have h24 : (ds.map (·.ps)).flatten.length ≤ 24 := by have := flat_le HC.out.2.1; have := HC.out.1; omega
    have HP1 : Hid (∀ W, Below w1.heap.size w1 W → Calls Try.prog 14 #[.slice Ac N cc] W fun e w' => (∃ A c, e = .returned (.tuple #[.slice A (ds.map (·.ps)).flatten.length c, .bool true]) ∧ PadsOwn w' W.heap.size (.slice A (ds.map (·.ps)).flatten.length c) (ds.map (·.ps)).flatten) ∧ Below W.heap.size W w') := Lib.hid (fun W hW => by
      have h1 := implCabinetPads Ac N cc ds W (by omega) (HK.out W hW)
      unfold PadsAns at h1
      rwa [HV.out, hap] at h1)
    have HP2 : Hid (∀ W, DrawersIn W W.heap.size A2 M c2 s2 → Calls Try.prog 14 #[.slice A2 M c2] W fun e w' => (∃ A c, e = .returned (.tuple #[.slice A (ds.map (·.ps)).flatten.length c, .bool true]) ∧ PadsOwn w' W.heap.size (.slice A (ds.map (·.ps)).flatten.length c) (ds.map (·.ps)).flatten) ∧ Below W.heap.size W w') := Lib.hid (fun W hD => by
      have h1 := implCabinetPads A2 M c2 s2 W hs2 hD
      unfold PadsAns at h1
      rwa [hcbo, hapo] at h1)
    have HGd := Lib.hid hgood
    have HFu : Hid (∀ i, i + 1 < M → (drAt s2 i).ps.length = 4) := Lib.hid (fun i hi => full_at HTh.out (by rw [HMl.out]; exact hi))
    clear hcbo hapo hap hgood
    generalize (ds.map (·.ps)).flatten = L at *
    generalize hLn : L.length = Ln at *
    have HLn := Lib.hid hLn; clear hLn
    have hquo : ((Ln : Int) + 3) / 4 = (M : Int) := by omega
    have hM7 : M ≤ 7 := by omega
    have HQ := Lib.hid hquo
    have HMl2 := Lib.hid hMl
    clear hquo hMl
    go_wp2_with fail
    refine (HP1.out w5 k5).mono ?_
    rintro e w6 ⟨⟨A6, c6, rfl, hO6⟩, hb6⟩
    have b6 := below_next b5 hb6
    have HD6 := Lib.hid (HD5.out.keep hb6)
    have HX6 := Lib.hid (HX5.out.keep hb6)
    have HP6 := Lib.hid (hO6.reads HLn.out HGd.out)
    clear hO6 hb6 HD5 HX5 HP1
    go_wp2_with fail
    refine (HP2.out w6 HD6.out).mono ?_
    rintro e w7 ⟨⟨A7, c7, rfl, hO7⟩, hb7⟩
    have b7 := below_next b6 hb7
    have HD7 := Lib.hid (HD6.out.keep hb7)
    have HX7 := Lib.hid (HX6.out.keep hb7)
    have HP7 := Lib.hid (HP6.out.keep hb7)
    have HQ7 := Lib.hid (hO7.reads HLn.out HGd.out)
    clear hO7 hb7 HD6 HX6 HP6 HP2
    go_wp2
    go_loop [14] (fun i => ∃ k : Nat, k ≤ M ∧ i = .int .i64 k) (fun i => M - (intOf i).toNat)
    case atStart => exact ⟨0, Nat.zero_le _, rfl⟩
    case round =>
      obtain ⟨k, hk, rfl⟩ := hrel
      by_cases hlt : k + 1 < M
      · obtain ⟨b, off, eA, hbB, c0, hP⟩ := HD7.out.at_ (k := k) (by omega)
        have hps := HFu.out k hlt
        have hn4 : (drAt s2 k).n = 4 := by rw [← hP.1]; exact hps
        rw [hn4] at c0
        subst eA
        have hlI : (k : Int) + 1 < (M : Int) := by omega
        clear hP hps hn4
        go_wp2
        go_round
        case rel => exact ⟨k + 1, by omega, by go_num⟩
        case measure => simp [intOf]; omega
      · have hlI : (M : Int) ≤ (k : Int) + 1 := by omega
        go_wp2_with fail
        refine (samePads A6 A7 Ln c6 c7 L w7 HP7.out HQ7.out).mono ?_
        rintro e w8 ⟨rfl, hb8⟩
        have b8 := below_next b7 hb8
        have HX8 := Lib.hid (HX7.out.keep hb8)
        have HD8 := Lib.hid (HD7.out.keep hb8)
        clear hb8
        go_wp2_with fail
        refine (sameCabinet A5 A2 M c5 c2 s5 s2 w8 HM5.out HX8.out HD8.out).mono ?_
        rintro e w9 ⟨rfl, hb9⟩
        have b9 := below_next b8 hb9
        clear hb9
        have hmn : decide ((M : Nat) ≤ N) = true := decide_eq_true hMN
        go_wp2
        have hq := HQ.out
        go_returns
        exact ⟨ret_bool (beq_iff_eq.2 (by omega)), b9⟩

set_option maxRecDepth 100000 in
theorem lifted (os : Os) (started : os.Started) (H : Type) (enc : TypeId × Value → H) :
    ReturnsInHanded {} Try.checked os 4 .any (Rows.fnPackSpec.pre6 enc Try.prog Try.f4 Rows.fnPackRow.domain false) (Rows.fnPackSpec.post enc Try.prog Try.f4 false true false false) := by
  refine returnsInHanded_of_change (C := Try.checked) own started (by kernel_rfl) Try.func4
    (ChangeSpec.witness6 (enc := enc) (C := Try.checked) false ⟨#[], #[.slice none 0 0], []⟩ 8 (by kernel_rfl) (by kernel_rfl) (by kernel_rfl) (by kernel_rfl)) ?_
  intro W base args ds gs before hval0 hW hcnd _
  have hval : ∀ (j : Nat) t v, Try.f4.params[j]? = some t → args[j]? = some v → Value.okWide Try.prog W .any base t v := hval0
  have hW' := hW
  obtain ⟨p, q, hA0, hV, rfl, hfz, hnd⟩ := hW
  have hA : DataW.TrodAll enc Try.prog W 0 (fun _ => true) true Try.f4.params.toList args.toList ds p := hA0
  rw [Try.params4] at hA hval
  obtain ⟨v0, vs0, d0, ds0, p0, q0, hargs, rfl, rfl, h0, r0⟩ := trodAll_cons hA
  obtain ⟨rfl, rfl, rfl⟩ := trodAll_nil r0
  obtain rfl : args = #[v0] := by cases args; simp_all
  obtain ⟨rfl, rfl⟩ := trodVars_none hV
  have k0 := h0
  have lt0 : ∀ x ∈ p0, x.block < W.heap.size := by obtain ⟨m, hm⟩ := k0; exact DataW.trod_lt m _ _ _ hm
  obtain ⟨A_0, n_0, c_0, bs_0, rfl, R_0⟩ := openBytes (hval 0 31 v0 rfl rfl) h0
  clear hA0 hval0
  refine (walk A_0 n_0 c_0 bs_0 W R_0).mono fun e W' ⟨he, bel⟩ => ?_
  subst he
  exact ⟨_, rfl, _, _, _, [], _, [], hW', trodAll_mk1 (shut_bool Try.underlying4 _), (trodAll_cons_mk (Below.trod laidOut (by kernel_rfl) (of_decide_eq_true (by kernel_rfl)) k0 bel lt0) trodAll_mk0), rfl, bel.frame _, fun h => by cases h⟩

theorem over : Rows.fnPackRow.holds Try.pinned (OpenSpec.ofChange Rows.fnPackSpec) :=
  OpenClaim.holds_of_wide 4 Try.f4 rfl rfl rfl rfl rfl rfl rfl ⟨rfl, rfl, rfl, rfl, rfl⟩ rfl rfl rfl rfl rfl (by kernel_rfl) Try.func4 (by kernel_rfl)
    (of_decide_eq_true (by kernel_rfl)) (by unfold Func.isWrapper; first | (rw [if_pos (by decide +kernel)]; kernel_rfl) | (rw [if_neg (by decide +kernel)]; exact ⟨rfl, rfl⟩))
    (fun os started H enc _ => lifted os started H enc)

theorem proved : Rows.FnPackSaid := over
end Go.Proofs.Ytlphefpgnfogfaa.fnPack
