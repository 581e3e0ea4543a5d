/-
  The law FnBetween returns true for every input, and what was in memory before the call reads as before: the frame round its walk.
  Conditions: none.
-/
import Derived.Test.YtbeaandjhlpaeaaDrawBet
import Derived.Test.YtbeaandjhlpaeaaBetLaw
import Derived.Test.YtbeaandjhlpaeaaSame
namespace Go.Proofs.Ytbeaandjhlpaeaa.fnBetween
open Go.ChangeShapes Go.WideShapes Go.ChangeAt Go.RowKit
set_option linter.unusedVariables false

theorem betG {w : World} {B n c : Nat} {A : Option Addr} {ds : List Drawer} (h : DrawersIn w B A n c ds) : ∀ p ∈ ansP (ds.map (·.ps)), p.good := by
  by_cases hc : cabB (ds.map (·.ps)) = true
  · rw [ansP_yes hc, allPads_flat]; exact allPads_good h
  · rw [ansP_no (by simpa using hc)]; simp
theorem betL {ds : List Drawer} (hsz : cabSz ds ≤ 4096) : (ansP (ds.map (·.ps))).length ≤ 4096 := by
  by_cases h : cabB (ds.map (·.ps)) = true
  · rw [ansP_yes h, allPads_flat]; have := allPads_len ds; omega
  · rw [ansP_no (by simpa using h)]; simp
set_option maxRecDepth 100000 in
set_option maxHeartbeats 800000 in
theorem walk (A : Option Addr) (n c : Nat) (bs : List Int) (A' : Option Addr) (n' c' : Nat) (bs' : List Int) (W : World) (hb : BytesIn W W.heap.size A n c bs) (hb' : BytesIn W W.heap.size A' n' c' bs') :
    Calls Try.prog 13 #[.slice A n c, .slice A' n' c'] W fun e w' => e = .returned (.bool true) ∧ Below W.heap.size W w' := by
  have hm := hb.2.2.1
  have hnc := hb.2.1
  have hm' := hb'.2.2.1
  have hnc' := hb'.2.1
  unfold maxLen at hm hm'
  clear hb'
  by_cases hn : 1048576 < n
  · clear hb
    go_enter Try.func13, Try.ntmps13
    go_wp2
    go_returns
    exact ⟨rfl, by go_grown⟩
  by_cases hn' : 1048576 < n'
  · clear hb
    go_enter Try.func13, Try.ntmps13
    go_wp2
    go_returns
    exact ⟨rfl, by go_grown⟩
  obtain ⟨i0, hi, hz0, hz1, hz2⟩ := info_parts infoPad
  have HD := Lib.hid (drawCabinetBetween A n c bs W hb)
  clear hb
  go_enter Try.func13, Try.ntmps13
  go_wp2_with fail
  refine HD.out.mono ?_
  rintro e w1 ⟨Ac, cc, ds, x, y, rfl, hD, hsz, hx1, hx2, hy1, hy2, b1⟩
  have hcm := hD.2.2.1; have hcc := hD.2.1
  unfold maxLen at hcm
  have HK : Hid (∀ w, Below w1.heap.size w1 w → DrawersIn w w.heap.size Ac ds.length cc ds) := Lib.hid (fun w h => hD.keep h)
  have HGd := Lib.hid (betG hD)
  have HLn := Lib.hid (betL hsz)
  have HDy := Lib.hid (ans_days (css := ds.map (·.ps)))
  clear hD HD
  generalize hdn : ds.length = N at *
  clear hdn
  -- the program, the reference
  go_wp2_with fail
  refine (implCabinetBetween Ac N cc ds x y w1 (by omega) (HK.out _ (Below.refl _ _))).mono ?_
  rintro e w2 ⟨⟨A2, c2, rfl, hO2⟩, hb2⟩
  have b2 := below_next b1 hb2
  have k2 := hb2
  have HO2 := Lib.hid hO2
  clear hO2 hb2
  go_wp2_with fail
  refine (specCabinetBetween Ac N cc ds x y w2 (by omega) (HK.out _ k2)).mono ?_
  rintro e w3 ⟨⟨A3, c3, rfl, hO3⟩, hb3⟩
  have b3 := below_next b2 hb3
  have k3 := below_next k2 hb3
  generalize hep : ansP (ds.map (·.ps)) = P at *
  have HEP := Lib.hid hep; clear hep
  have hgf : ∀ a b : Int, ∀ p ∈ P.filter (inDays a b), p.good := fun a b p hp => HGd.out p (List.mem_filter.1 hp).1
  have HGF := Lib.hid hgf; clear hgf
  have HP2 := Lib.hid ((HO2.out.reads rfl (HGF.out x y)).keep hb3)
  have HP3 := Lib.hid (hO3.reads rfl (HGF.out x y))
  have hq2 := HP2.out.2.2.1; have hq2' := HP2.out.2.1
  unfold maxLen at hq2
  have hfl : (P.filter (inDays x y)).length ≤ 4096 := Nat.le_trans (List.length_filter_le _ _) HLn.out
  have HQ : Hid (0 < (P.filter (inDays x y)).length → 0 < y - x + 1) := Lib.hid (fun h => by
    obtain ⟨p, hp⟩ := List.exists_mem_of_length_pos h
    have := (List.mem_filter.1 hp).2
    unfold inDays at this
    simp only [Bool.and_eq_true, decide_eq_true_eq] at this; omega)
  have HIn : Hid (∀ p ∈ P.filter (inDays x y), x ≤ p.day ∧ p.day ≤ y) := Lib.hid (fun p hp => by
    have := (List.mem_filter.1 hp).2
    unfold inDays at this
    simpa using this)
  clear hO3 hb3 HO2
  generalize hF : P.filter (inDays x y) = F at *
  have HF := Lib.hid hF; clear hF
  generalize hM : F.length = M at *
  have HM := Lib.hid hM; clear hM
  go_wp2_with fail
  refine (samePads A2 A3 M c2 c3 F w3 HP2.out HP3.out).mono ?_
  rintro e w4 ⟨rfl, hb4⟩
  have b4 := below_next b3 hb4
  have k4 := below_next k3 hb4
  have HP4 := Lib.hid (HP2.out.keep hb4)
  have HP4' := Lib.hid (HP3.out.keep hb4)
  clear hb4 HP2 HP3
  by_cases hM0 : M = 0
  · subst hM0
    go_wp2_with fail
    refine (samePads A2 A3 0 c2 c3 F w4 HP4.out HP4'.out).mono ?_
    rintro e w5 ⟨rfl, hb5⟩
    have b5 := below_next b4 hb5
    go_wp2
    go_returns
    exact ⟨rfl, b5⟩
  have hMz : ((M : Int) == 0) = false := beq_eq_false_iff_ne.2 (by omega)
  have hMp : 0 < M := by omega
  have hyx := HQ.out hMp
  clear hM0 HQ
  obtain ⟨r, hr⟩ : ∃ r : Int, r = (n' : Int) % (y - x + 1) := ⟨_, rfl⟩
  have hr0 : 0 ≤ r := by rw [hr]; exact Int.emod_nonneg _ (by omega)
  have hr1 : r < y - x + 1 := by rw [hr]; exact Int.emod_lt_of_pos _ (by omega)
  have hrr : (n' : Int) % (y - x + 1) = r := hr.symm
  clear hr
  go_wp2_with fail
  refine (implCabinetBetween Ac N cc ds x (x + r) w4 (by omega) (HK.out _ k4)).mono ?_
  rintro e w5 ⟨⟨A5, c5, rfl, hO5⟩, hb5⟩
  have b5 := below_next b4 hb5
  have k5 := below_next k4 hb5
  have HP5 := Lib.hid (HP4.out.keep hb5)
  rw [HEP.out] at hO5
  have HO5 := Lib.hid hO5; clear hO5 hb5 HP4 HP4'
  rw [HEP.out]
  go_wp2_with fail
  refine (implCabinetBetween Ac N cc ds (x + r + 1) y w5 (by omega) (HK.out _ k5)).mono ?_
  rintro e w6 ⟨⟨A6, c6, rfl, hO6⟩, hb6⟩
  have b6 := below_next b5 hb6
  have HP6 := Lib.hid (HP5.out.keep hb6)
  have HO6 := Lib.hid (HO5.out.keep hb6)
  rw [HEP.out] at hO6
  have HR6 := Lib.hid hO6; clear hO6 hb6 HP5 HO5 k5 k4 k3 k2
  rw [HEP.out]
  have HS := Lib.hid (bet_split (x := x) (y := y) (d := x + r) (by omega) (by omega) HDy.out)
  rw [HF.out] at HS
  have hl1 : (P.filter (inDays x (x + r))).length ≤ 4096 := Nat.le_trans (List.length_filter_le _ _) HLn.out
  have hl2 : (P.filter (inDays (x + r + 1) y)).length ≤ 4096 := Nat.le_trans (List.length_filter_le _ _) HLn.out
  generalize P.filter (inDays x (x + r)) = F1 at *
  generalize P.filter (inDays (x + r + 1) y) = F2 at *
  have hz6 := b6.size
  have HG1 : Hid (∀ p ∈ F, p.good) := Lib.hid (fun p hp => HGF.out x y p (by rw [HF.out]; exact hp))
  go_wp2
  go_loop [13] (fun i => ∃ k : Nat, k ≤ M ∧ i = .int .i64 k) (fun i => M - (intOf i).toNat)
  case atStart => exact ⟨0, Nat.zero_le _, rfl⟩
  case round =>
    obtain ⟨k, hk, rfl⟩ := hrel
    by_cases hlt : k < M
    · obtain ⟨b, off, eA, hbB, q0, q1, hg⟩ := HP6.out.at_ hlt
      obtain ⟨d1, d2⟩ := HIn.out (padAt F k) (padAt_mem (by rw [HM.out]; exact hlt))
      clear hg
      subst eA
      generalize padAt F k = p at *
      go_wp2
      go_round
      case rel => exact ⟨k + 1, by omega, by go_num⟩
      case measure => simp [intOf]; omega
    · have HRa := Lib.hid (Row.of_own HO6.out)
      have HRb := Lib.hid (Row.of_own HR6.out)
      have hal : Below w6.heap.size w6 (w6.alloc (.cells #[] 26)) := (Below.refl _ _).alloc (Nat.le_refl _) _
      have HAL := Lib.hid hal; clear hal
      go_wp2_with (first
        | (at_builtin; refine wpList_append_any _ rfl (.tmp 88) (.tmp 89) _ rfl w6.heap.size 26 i0 _ 2 24 Try.underlying49 hi hz0 hz1 hz2 rfl (by omega) (.slice (some ⟨w6.heap.size, 0, none⟩) 0 0) 0 [] rfl (World.ownsRow_made w6 _ 0 (Nat.le_refl _) (by simp) (by simp)) w6.heap.size A5 F1.length c5 (F1.flatMap padC) rfl (HRa.out.below HAL.out) padC_one (by unfold maxLen; omega) (by omega) (by simp) ?_; intro v7 w7 hown7 hg7 hat7; simp only [Nat.zero_add, List.nil_append] at hown7; have b67 : Below w6.heap.size w6 w7 := HAL.out.grown hg7 (by simp) (fun q hq => by injection hq with hq; rw [← hq]; exact Nat.le_refl _); have HO7 := Lib.hid hown7; have z7 := b67.size; clear hown7 hg7 hat7)
        | (at_builtin; refine wpList_append_any _ rfl (.tmp 90) (.tmp 91) _ rfl w6.heap.size 26 i0 _ 2 24 Try.underlying49 hi hz0 hz1 hz2 rfl (by omega) v7 F1.length (F1.flatMap padC) rfl HO7.out w6.heap.size A6 F2.length c6 (F2.flatMap padC) rfl (HRb.out.below b67) padC_one (by unfold maxLen; omega) (by omega) z7 ?_; intro v8 w8 hown8 hg8 hat8; have b68 := b67.grown hg8 z7 (fun q hq => own_base HO7.out hq); obtain ⟨A8, c8, rfl, hc8, hm8⟩ := own_form hown8; have HO8 := Lib.hid hown8; clear hown8 hg8 hat8))
      have HP8 : Hid (PadsOwn w8 w6.heap.size (.slice A8 (F1.length + F2.length) c8) F) := Lib.hid (by
        have h8 := HO8.out
        rw [← List.flatMap_append, HS.out, ← List.length_append, HS.out] at h8
        unfold PadsOwn
        rw [← List.length_append, HS.out]; exact h8)
      have hMl : F1.length + F2.length = M := by rw [← List.length_append, HS.out, HM.out]
      rw [hMl] at HP8 ⊢
      have HP9 := Lib.hid (HP8.out.reads HM.out HG1.out)
      have HP6' := Lib.hid (HP6.out.keep b68)
      have b8 := below_next b6 b68
      clear hMl b67 b68
      go_wp2_with fail
      refine (samePads A8 A2 M c8 c2 F w8 HP9.out HP6'.out).mono ?_
      rintro e w9 ⟨rfl, hb9⟩
      have b9 := below_next b8 hb9
      go_wp2
      go_returns
      exact ⟨rfl, b9⟩


set_option maxRecDepth 100000 in
theorem lifted (os : Os) (started : os.Started) (H : Type) (enc : TypeId × Value → H) :
    ReturnsInHanded {} Try.checked os 13 .any (Rows.fnBetweenSpec.pre6 enc Try.prog Try.f13 Rows.fnBetweenRow.domain false) (Rows.fnBetweenSpec.post enc Try.prog Try.f13 false true false false) := by
  refine returnsInHanded_of_change (C := Try.checked) own started (by kernel_rfl) Try.func13
    (ChangeSpec.witness6 (enc := enc) (C := Try.checked) false ⟨#[], #[.slice none 0 0, .slice none 0 0], []⟩ 8 (by kernel_rfl) (by kernel_rfl) (by kernel_rfl) (by kernel_rfl)) ?_
  intro W base args ds gs before hval0 hW hcnd _
  have hval : ∀ (j : Nat) t v, Try.f13.params[j]? = some t → args[j]? = some v → Value.okWide Try.prog W .any base t v := hval0
  have hW' := hW
  obtain ⟨p, q, hA0, hV, rfl, hfz, hnd⟩ := hW
  have hA : DataW.TrodAll enc Try.prog W 0 (fun _ => true) true Try.f13.params.toList args.toList ds p := hA0
  rw [Try.params13] at hA hval
  obtain ⟨v0, vs0, d0, ds0, p0, q0, hargs, rfl, rfl, h0, r0⟩ := trodAll_cons hA
  obtain ⟨v1, vs1, d1, ds1, p1, q1, rfl, rfl, rfl, h1, r1⟩ := trodAll_cons r0
  obtain ⟨rfl, rfl, rfl⟩ := trodAll_nil r1
  obtain rfl : args = #[v0, v1] := by cases args; simp_all
  obtain ⟨rfl, rfl⟩ := trodVars_none hV
  have k0 := h0
  have lt0 : ∀ x ∈ p0, x.block < W.heap.size := by obtain ⟨m, hm⟩ := k0; exact DataW.trod_lt m _ _ _ hm
  obtain ⟨A_0, n_0, c_0, bs_0, rfl, R_0⟩ := openBytes (hval 0 32 v0 rfl rfl) h0
  have k1 := h1
  have lt1 : ∀ x ∈ p1, x.block < W.heap.size := by obtain ⟨m, hm⟩ := k1; exact DataW.trod_lt m _ _ _ hm
  obtain ⟨A_1, n_1, c_1, bs_1, rfl, R_1⟩ := openBytes (hval 1 32 v1 rfl rfl) h1
  clear hA0 hval0
  refine (walk A_0 n_0 c_0 bs_0 A_1 n_1 c_1 bs_1 W R_0 R_1).mono fun e W' ⟨he, bel⟩ => ?_
  subst he
  exact ⟨_, rfl, _, _, _, [], _, [], hW', trodAll_mk1 (shut_bool Try.underlying4 _), (trodAll_cons_mk (Below.trod laidOut (by kernel_rfl) (of_decide_eq_true (by kernel_rfl)) k0 bel lt0) (trodAll_cons_mk (Below.trod laidOut (by kernel_rfl) (of_decide_eq_true (by kernel_rfl)) k1 bel lt1) trodAll_mk0)), rfl, bel.frame _, fun h => by cases h⟩

theorem over : Rows.fnBetweenRow.holds Try.pinned (OpenSpec.ofChange Rows.fnBetweenSpec) :=
  OpenClaim.holds_of_wide 13 Try.f13 rfl rfl rfl rfl rfl rfl rfl ⟨rfl, rfl, rfl, rfl, rfl⟩ rfl rfl rfl rfl rfl (by kernel_rfl) Try.func13 (by kernel_rfl)
    (of_decide_eq_true (by kernel_rfl)) (by unfold Func.isWrapper; first | (rw [if_pos (by decide +kernel)]; kernel_rfl) | (rw [if_neg (by decide +kernel)]; exact ⟨rfl, rfl⟩))
    (fun os started H enc _ => lifted os started H enc)

theorem proved : Rows.FnBetweenSaid := over
end Go.Proofs.Ytbeaandjhlpaeaa.fnBetween
