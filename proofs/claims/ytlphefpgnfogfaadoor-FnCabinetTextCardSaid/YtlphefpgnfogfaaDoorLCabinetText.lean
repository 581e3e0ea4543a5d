/-
  The law FnCabinetText returns true for every input, and what was in memory before the call reads as before: the frame round its walk.
  Conditions: none.
-/
import Derived.Test.YtlphefpgnfogfaaDoorLaidTab
import Derived.Test.YtlphefpgnfogfaaDoorTextS
import Derived.Test.YtlphefpgnfogfaaDoorTreeB
import Derived.Test.YtlphefpgnfogfaaDoorCount
import Derived.Test.YtlphefpgnfogfaaDoorTextCnt
import Derived.Test.YtlphefpgnfogfaaDoorDrawA
import Derived.Test.YtlphefpgnfogfaaDoorTie
import Derived.Test.YtlphefpgnfogfaaDoorCards
import Derived.JoinedCond
import Derived.SevenTiedAt
namespace Go.Proofs.YtlphefpgnfogfaaDoor.fnCabinetText
open Go.ChangeShapes Go.WideShapes Go.ChangeAt Go.RowKit
set_option linter.unusedVariables false

theorem drawCabinetText (A : Option Addr) (n c : Nat) (bs : List Int) (w : World) (hb : BytesIn w w.heap.size A n c bs) :
    Calls Tryd.prog 10 #[.slice A n c] w (DrawnC w) := by
  have HD := Lib.hid (drawCab A n c bs w hb); clear hb
  go_enter Tryd.func10, Tryd.ntmps10
  go_wp2_with fail
  refine HD.out.mono ?_
  rintro e w1 ⟨rfl, _, hC⟩
  have HC := Lib.hid hC; clear hC
  go_wp2_with fail
  refine HC.out.mono ?_
  rintro e w2 ⟨⟨A2, c2, ds, rfl, hO, h2, _⟩, b2⟩
  have H1 := Lib.hid (hO.reads rfl); clear hO
  go_wp2
  go_ret
  exact ⟨A2, c2, ds, rfl, H1.out, h2, b2⟩
theorem cabText_empty {css : List (List Pad)} (h : cabB css = true) (h2 : cabText css ≠ []) : (cabText css).count 10 = css.length ∧ (cabText css).count 58 = css.flatten.length := by
  rw [cabText_yes h]
  exact cabTxt_cnt (fun ps hps => (cab_all (cabB_iff.1 h) ps hps).1)
set_option maxRecDepth 100000 in
set_option maxHeartbeats 3200000 in
theorem walk (A : Option Addr) (n c : Nat) (bs : List Int) (A2 : Option Addr) (n2 c2 : Nat) (bs2 : List Int) (W : World) (hb : BytesIn W W.heap.size A n c bs) (hb' : BytesIn W W.heap.size A2 n2 c2 bs2) (HLd : laidMet Tryd.prog laidL W) :
    Calls Tryd.prog 4 #[.slice A n c, .slice A2 n2 c2] W fun e w' => e = .returned (.bool true) ∧ Below W.heap.size W w' := by
  have hm := hb.2.2.1
  have hnc := hb.2.1
  have hm' := hb'.2.2.1
  have hnc' := hb'.2.1
  unfold maxLen at hm hm'
  have HTb := Lib.hid (tabOf HLd)
  clear hb' HLd
  by_cases hn : 1048576 < n
  · clear hb
    go_enter Tryd.func4, Tryd.ntmps4
    go_wp2
    go_returns
    exact ⟨rfl, by go_grown⟩
  by_cases hn' : 1048576 < n2
  · clear hb
    go_enter Tryd.func4, Tryd.ntmps4
    go_wp2
    go_returns
    exact ⟨rfl, by go_grown⟩
  have HD := Lib.hid (drawCabinetText A n c bs W hb)
  clear hb
  go_enter Tryd.func4, Tryd.ntmps4
  go_wp2_with fail
  refine HD.out.mono ?_
  rintro e w1 ⟨Ac, cc, ds, rfl, hD, hsz, b1⟩
  have hcm := hD.2.2.1; have hcc := hD.2.1
  unfold maxLen at hcm
  have HK : Hid (∀ w, Below w1.heap.size w1 w → DrawersIn w w.heap.size Ac ds.length cc ds) := Lib.hid (fun w h => hD.keep h)
  have HTw := Lib.hid (HTb.out.keep b1)
  clear hD HD HTb
  generalize hdn : ds.length = N at *
  have HDn := Lib.hid hdn
  clear hdn
  have HI := Lib.hid (implCabinetText Ac N cc ds w1 (HK.out _ (Below.refl _ _)) HTw.out)
  have HS : Hid (∀ w, Below w1.heap.size w1 w → Calls Tryd.prog 6 #[.slice Ac N cc] w fun e w' => e = .returned (.string (mkStr (cabText (ds.map (·.ps))))) ∧ Below w.heap.size w w') := Lib.hid (fun w h => specCabinetText Ac N cc ds w (by omega) (HK.out w h))
  by_cases hem0 : cabText (ds.map (·.ps)) = []
  · have hem : (mkStr (cabText (ds.map (·.ps)))).toList.isEmpty = true := by rw [Lib.toList_data, mkStr_data, hem0]; rfl
    clear hem0
    generalize mkStr (cabText (ds.map (·.ps))) = t at *
    have hne : (t.toList != t.toList) = false := by simp
    go_wp2_with fail
    refine HI.out.mono ?_
    rintro e w2 ⟨rfl, hb2⟩
    have b2 := below_next b1 hb2
    have HS2 := Lib.hid (HS.out w2 hb2)
    clear HS HI hb2
    go_wp2_with fail
    refine HS2.out.mono ?_
    rintro e w3 ⟨rfl, hb3⟩
    have b3 := below_next b2 hb3
    go_wp2
    go_returns
    exact ⟨rfl, b3⟩
  · have hv : cabB (ds.map (·.ps)) = true := by
      cases h : cabB (ds.map (·.ps)) with
      | true => rfl
      | false => exact absurd (cabText_no h) hem0
    obtain ⟨hc10, hc58⟩ := cabText_empty hv hem0
    have HV := Lib.hid hv
    have HO := Lib.hid (cabB_iff.1 hv)
    have hem : (mkStr (cabText (ds.map (·.ps)))).toList.isEmpty = false := by
      rw [Lib.toList_data, mkStr_data]
      cases h : cabText (ds.map (·.ps)) with
      | nil => exact absurd h hem0
      | cons _ _ => rfl
    have hkk : n2 % (N + 1) ≤ N := by have := Nat.mod_lt n2 (show 0 < N + 1 by omega); omega
    have hkI : (n2 : Int) % ((N : Int) + 1) = ((n2 % (N + 1) : Nat) : Int) := by push_cast; rfl
    have hN6 : N ≤ 6 := by have := HO.out.1; rw [List.length_map, HDn.out] at this; exact this
    generalize n2 % (N + 1) = q at *
    have HP := Lib.hid (cabOK_parts HO.out q)
    have e1 : (ds.take q).map (·.ps) = (ds.map (·.ps)).take q := by rw [List.map_take]
    have e2 : (ds.drop q).map (·.ps) = (ds.map (·.ps)).drop q := by rw [List.map_drop]
    have HT1 : Hid (∀ W, Below w1.heap.size w1 W → Calls Tryd.prog 8 #[.slice Ac q cc] W fun e w' => e = .returned (.string (mkStr (cabText ((ds.map (·.ps)).take q)))) ∧ Below W.heap.size W w') := Lib.hid (fun W hW => by
      have := implCabinetText Ac q cc (ds.take q) W ((HK.out W hW).upto (k := q) hkk) (HTw.out.keep hW)
      rwa [e1] at this)
    have HT2 : Hid (∀ W, Below w1.heap.size w1 W → Calls Tryd.prog 8 #[.slice (fromA Ac q cc 1) (N - q) (cc - q)] W fun e w' => e = .returned (.string (mkStr (cabText ((ds.map (·.ps)).drop q)))) ∧ Below W.heap.size W w') := Lib.hid (fun W hW => by
      have := implCabinetText (fromA Ac q cc 1) (N - q) (cc - q) (ds.drop q) W ((HK.out W hW).from_ (k := q) hkk) (HTw.out.keep hW)
      rwa [e2] at this)
    have HCt : Hid (∀ W, Below w1.heap.size w1 W → Calls Tryd.prog 12 #[.slice Ac N cc] W fun e w' => e = .returned (.int .i64 ((ds.map (·.ps)).flatten.length : Int)) ∧ Below W.heap.size W w') := Lib.hid (fun W hW => by
      have h1 := implCabinetCount Ac N cc ds W (by omega) (HK.out W hW)
      rwa [cntI_yes HV.out] at h1)
    have hsp : cabText ((ds.map (·.ps)).take q) ++ cabText ((ds.map (·.ps)).drop q) = cabText (ds.map (·.ps)) := by
      rw [cabText_yes (cabB_yes HP.out.1), cabText_yes (cabB_yes HP.out.2), cabText_yes HV.out, ← cabTxt_app, List.take_append_drop]
    have hbd : (cabText (ds.map (·.ps))).length ≤ 900 := by
      rw [cabText_yes HV.out]
      have h1 := cabTxt_len (css := ds.map (·.ps)) (fun ps hps => cab_all HO.out ps hps)
      have h2 := HO.out.1
      omega
    have hadd : ∀ W', (Op.stringOp .add (mkStr (cabText ((ds.map (·.ps)).take q))) (mkStr (cabText ((ds.map (·.ps)).drop q)))).run Tryd.prog W' = .ok (.string (mkStr (cabText (ds.map (·.ps))))) W' := fun W' => by
      have hl := congrArg List.length hsp
      rw [List.length_append] at hl
      have h := run_add (P := Tryd.prog) (cabText ((ds.map (·.ps)).take q)) (cabText ((ds.map (·.ps)).drop q)) (by omega) W'
      rwa [hsp] at h
    have K10 : Hid (∀ W, Calls Tryd.prog 11 #[.string (mkStr (cabText (ds.map (·.ps)))), .int .u8 10] W fun e w' => e = .returned (.int .i64 (N : Int)) ∧ Below W.heap.size W w') := Lib.hid (fun W => by
      have h := countOf (mkStr (cabText (ds.map (·.ps)))) 10 W (by rw [mkStr_size]; omega)
      rw [show (((10 : UInt8).toNat : Nat) : Int) = 10 from rfl] at h
      refine h.mono ?_
      rintro e w' ⟨he, rfl⟩
      exact ⟨by rw [he, mkStr_data, hc10, List.length_map, HDn.out], Below.refl _ _⟩)
    have K58 : Hid (∀ W, Calls Tryd.prog 11 #[.string (mkStr (cabText (ds.map (·.ps)))), .int .u8 58] W fun e w' => e = .returned (.int .i64 ((ds.map (·.ps)).flatten.length : Int)) ∧ Below W.heap.size W w') := Lib.hid (fun W => by
      have h := countOf (mkStr (cabText (ds.map (·.ps)))) 58 W (by rw [mkStr_size]; omega)
      rw [show (((58 : UInt8).toNat : Nat) : Int) = 58 from rfl] at h
      refine h.mono ?_
      rintro e w' ⟨he, rfl⟩
      exact ⟨by rw [he, mkStr_data, hc58], Below.refl _ _⟩)
    have hs1 : ∀ W', (Instr.slice 25 (.slice Ac N cc) none (some (.int .i64 (q : Int))) none).run Tryd.prog W' = .ok (.slice Ac q cc) W' := fun W' => run_uptoA elemCab sizeSl Ac N cc q (by omega) W'
    have hs2 : ∀ W', (Instr.slice 25 (.slice Ac N cc) (some (.int .i64 (q : Int))) none none).run Tryd.prog W' = .ok (.slice (fromA Ac q cc 1) (N - q) (cc - q)) W' := fun W' => run_from elemCab sizeSl Ac N cc q hkk W'
    clear hem0 hc10 hc58 hv e1 e2 hsp hbd
    generalize mkStr (cabText ((ds.map (·.ps)).take q)) = ta at *
    generalize mkStr (cabText ((ds.map (·.ps)).drop q)) = tb at *
    generalize mkStr (cabText (ds.map (·.ps))) = t at *
    generalize (ds.map (·.ps)).flatten.length = X at *
    generalize fromA Ac q cc 1 = AF at *
    have hne : (t.toList != t.toList) = false := by simp
    have htt : (t.toList == t.toList) = true := by simp
    have hNN : ((N : Int) == N) = true := by simp
    have hXX : ((X : Int) == X) = true := by simp
    go_wp2_with fail
    refine HI.out.mono ?_
    rintro e w2 ⟨rfl, hb2⟩
    have b2 := below_next b1 hb2
    have HS2 := Lib.hid (HS.out w2 hb2)
    have k2 := hb2
    clear HS HI hb2
    go_wp2_with fail
    refine HS2.out.mono ?_
    rintro e w3 ⟨rfl, hb3⟩
    have b3 := below_next b2 hb3
    have k3 := below_next k2 hb3
    clear hb3 HS2 k2
    have HA1 := Lib.hid (fun W (h : Below w3.heap.size w3 W) => HT1.out W (below_next k3 h))
    have HA2 := Lib.hid (fun W (h : Below w3.heap.size w3 W) => HT2.out W (below_next k3 h))
    have HA3 := Lib.hid (fun W (h : Below w3.heap.size w3 W) => HCt.out W (below_next k3 h))
    go_wp2_with fail
    refine region_qb (by kernel_rfl) (by kernel_rfl) ?_
    repeat (first | go_big_quiet_step ((first | (go_at_call_of 11 (Value.int IntKind.u8 10); exact quietB (K10.out _)) | (go_at_call_of 11 (Value.int IntKind.u8 58); exact quietB (K58.out _)) | (go_at_call 12; exact quietB (HA3.out _ (below_regrown w3 _ _))) | (go_at_call_of 8 (Value.slice Ac q cc); exact quietB (HA1.out _ (below_regrown w3 _ _))) | (go_at_call_of 8 (Value.slice AF (N - q) (cc - q)); exact quietB (HA2.out _ (below_regrown w3 _ _))))) | quiet_step ((first | (go_at_call_of 11 (Value.int IntKind.u8 10); exact quietB (K10.out _)) | (go_at_call_of 11 (Value.int IntKind.u8 58); exact quietB (K58.out _)) | (go_at_call 12; exact quietB (HA3.out _ (below_regrown w3 _ _))) | (go_at_call_of 8 (Value.slice Ac q cc); exact quietB (HA1.out _ (below_regrown w3 _ _))) | (go_at_call_of 8 (Value.slice AF (N - q) (cc - q)); exact quietB (HA2.out _ (below_regrown w3 _ _))))))
    refine wpQuiet_nil ?_
    intro w5 hb5
    have b5 := below_next b3 hb5
    clear hb5
    go_wp2
    go_returns
    exact ⟨rfl, b5⟩

set_option maxRecDepth 100000 in
theorem witness_row (os : Os) {H : Type} (enc : TypeId × Value → H) :
    (OpenSpec.ofChange Rows.fnCabinetTextSpec).preRow enc Tryd.prog Tryd.f4 Rows.fnCabinetTextRow.domain false Rows.fnCabinetTextRow.laid ((laidWorld os).forCall (fun _ _ => 0) ⟨#[], #[.slice none 0 0, .slice none 0 0], []⟩).memory #[.slice none 0 0, .slice none 0 0] := by
  have hw : (DataW.whole enc Tryd.prog ((laidWorld os).forCall (fun _ _ => 0) ⟨#[], #[.slice none 0 0, .slice none 0 0], []⟩).memory Tryd.f4.params.toList (OpenSpec.ofChange Rows.fnCabinetTextSpec).vars false #[.slice none 0 0, .slice none 0 0].toList 8).map (fun x => (x.1, x.2.1)) =
      some ([.nil, .nil], []) := by kernel_rfl
  obtain ⟨⟨x1, x2, x3⟩, hx, hx1⟩ := Option.map_eq_some_iff.1 hw
  simp only [Prod.mk.injEq] at hx1
  obtain ⟨rfl, rfl⟩ := hx1
  exact OpenSpec.preRow_of_cond 8 hx (by kernel_rfl) (fun k hk => by cases hk) (by kernel_rfl) (laid_met os _)
set_option maxRecDepth 100000 in
theorem lifted (os : Os) (started : os.Started) (H : Type) (enc : TypeId × Value → H) (F0 : Stop.Interp) :
    ReturnsInHanded {} Tryd.checked os 4 .any ((OpenSpec.ofChange Rows.fnCabinetTextSpec).preRow enc Tryd.prog Tryd.f4 Rows.fnCabinetTextRow.domain false Rows.fnCabinetTextRow.laid) (((OpenSpec.ofChange Rows.fnCabinetTextSpec).at F0).post enc Tryd.prog Tryd.f4 false true false false) := by
  refine returnsInHanded_of_row (C := Tryd.checked) (s := OpenSpec.ofChange Rows.fnCabinetTextSpec) own started (by kernel_rfl) Tryd.func4
    (witness_row_atRef (enc := enc) (C := Tryd.checked) false (laidWorld os) #[.slice none 0 0, .slice none 0 0] rfl (by kernel_rfl) (by kernel_rfl) (by kernel_rfl) (witness_row os enc)) ?_
  intro W base args ds gs before hval0 hW _ _ _ hL _ _
  have HLd : laidMet Tryd.prog laidL W := hL
  have hval : ∀ (j : Nat) t v, Tryd.f4.params[j]? = some t → args[j]? = some v → Value.okWide Tryd.prog W .any base t v := hval0
  have hW' := hW
  obtain ⟨p, q, hA0, hV, rfl, hfz, hnd⟩ := hW
  have hA : DataW.TrodAll enc Tryd.prog W 0 (fun _ => true) true Tryd.f4.params.toList args.toList ds p := hA0
  rw [Tryd.params4] at hA hval
  obtain ⟨v0, vs0, d0, ds0, p0, q0, hargs, rfl, rfl, h0, r0⟩ := trodAll_cons hA
  obtain ⟨v1, vs1, d1, ds1, p1, q1, rfl, rfl, rfl, h1, r1⟩ := trodAll_cons r0
  obtain ⟨rfl, rfl, rfl⟩ := trodAll_nil r1
  obtain rfl : args = #[v0, v1] := by cases args; simp_all
  obtain ⟨rfl, rfl⟩ := trodVars_none hV
  have k0 := h0
  have lt0 : ∀ x ∈ p0, x.block < W.heap.size := by obtain ⟨m, hm⟩ := k0; exact DataW.trod_lt m _ _ _ hm
  obtain ⟨A_0, n_0, c_0, bs_0, rfl, R_0⟩ := openBytes (hval 0 29 v0 rfl rfl) h0
  have k1 := h1
  have lt1 : ∀ x ∈ p1, x.block < W.heap.size := by obtain ⟨m, hm⟩ := k1; exact DataW.trod_lt m _ _ _ hm
  obtain ⟨A_1, n_1, c_1, bs_1, rfl, R_1⟩ := openBytes (hval 1 29 v1 rfl rfl) h1
  clear hA0 hval0
  refine (walk A_0 n_0 c_0 bs_0 A_1 n_1 c_1 bs_1 W R_0 R_1 HLd).mono fun e W' ⟨he, bel⟩ => ?_
  subst he
  exact ⟨_, rfl, _, _, _, [], _, [], hW', trodAll_mk1 (shut_bool Tryd.underlying4 _), (trodAll_cons_mk (Below.trod laidOut (by kernel_rfl) (of_decide_eq_true (by kernel_rfl)) k0 bel lt0) (trodAll_cons_mk (Below.trod laidOut (by kernel_rfl) (of_decide_eq_true (by kernel_rfl)) k1 bel lt1) trodAll_mk0)), rfl, bel.frame _, fun h => by cases h⟩

theorem over : Rows.fnCabinetTextRow.holds Tryd.pinned (OpenSpec.ofChange Rows.fnCabinetTextSpec) :=
  OpenClaim.holds_of_cond 4 Tryd.f4 rfl rfl rfl rfl rfl rfl rfl ⟨rfl, rfl, rfl, rfl, rfl⟩ rfl rfl rfl rfl rfl (by kernel_rfl) Tryd.func4 (by kernel_rfl)
    (of_decide_eq_true (by kernel_rfl)) (by unfold Func.isWrapper; first | (rw [if_pos (by decide +kernel)]; kernel_rfl) | (rw [if_neg (by decide +kernel)]; exact ⟨rfl, rfl⟩))
    (fun os started H enc _ F0 => by rw [OpenClaim.pre_eq_preRow]; exact lifted os started H enc F0)

theorem proved : Rows.FnCabinetTextCardSaid :=
  Claim7.holds_tied_plain_at .later [] Rows.fnCabinetTextCard.laidKinds true Rows.fnCabinetTextCard.stood.harness false
    over (fun _ h => by cases h) (by kernel_rfl) (fun _ h => by cases h) fnCabinetText_row_tie rfl ⟨rfl, rfl⟩ (by kernel_rfl) rfl
    (fun f fn hf hfn => by
      obtain rfl : f = 4 := Option.some.inj ((show Tryd.prog.funcNamed "loop.example/shorthand/laws.FnCabinetText" = some 4 by kernel_rfl).symm.trans hf) |>.symm
      obtain rfl : fn = Tryd.f4 := (Option.some.inj (Tryd.func4.symm.trans hfn)).symm
      exact ⟨by kernel_rfl, fun j t ht => by
        rw [Tryd.params4] at ht
        rcases j with _ | _ | j
        · obtain rfl : t = 29 := by simpa using ht.symm
          exact (show Tryd.prog.wantsStandIn 29 = false by kernel_rfl)
        · obtain rfl : t = 29 := by simpa using ht.symm
          exact (show Tryd.prog.wantsStandIn 29 = false by kernel_rfl)
        · simp at ht⟩)
    (by kernel_rfl)
end Go.Proofs.YtlphefpgnfogfaaDoor.fnCabinetText
