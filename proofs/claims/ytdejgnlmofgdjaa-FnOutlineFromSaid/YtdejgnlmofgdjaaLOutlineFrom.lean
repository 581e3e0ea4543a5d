/-
  The law FnOutlineFrom returns true for every input, and what was in memory before the call reads as before: the frame round its walk.
  Conditions: none.
-/
import Derived.Test.YtdejgnlmofgdjaaDrawO2
import Derived.Test.YtdejgnlmofgdjaaSameS
import Derived.Test.YtdejgnlmofgdjaaFrom
import Derived.Test.YtdejgnlmofgdjaaOutText
import Derived.Test.YtdejgnlmofgdjaaOutValid
namespace Go.Proofs.Ytdejgnlmofgdjaa.fnOutlineFrom
open Go.ChangeShapes Go.WideShapes Go.ChangeAt Go.RowKit
set_option linter.unusedVariables false

set_option maxRecDepth 100000 in
set_option maxHeartbeats 1600000 in
theorem walk (A : Option Addr) (n c : Nat) (bs : List Int) (W : World) (hb : BytesIn W W.heap.size A n c bs) :
    Calls Try.prog 7 #[.slice A n c] W fun e w' => e = .returned (.bool true) ∧ Below W.heap.size W w' := by
  have hm := hb.2.2.1
  have hnc := hb.2.1
  unfold maxLen at hm
  by_cases hn : 1048576 < n
  · clear hb
    go_enter Try.func7, Try.ntmps7
    go_wp2
    go_returns
    exact ⟨rfl, by go_grown⟩
  have HD := Lib.hid (drawOutlineFrom A n c bs W hb)
  clear hb
  go_enter Try.func7, Try.ntmps7
  go_wp2_with fail
  refine HD.out.mono ?_
  rintro e w1 ⟨⟨s, rfl, hs⟩, b1⟩
  have HI := Lib.hid (implOutlineFrom s w1 (by omega))
  have HSp := Lib.hid (fun w => specOutlineFrom s w (by omega))
  clear HD
  go_wp2_with fail
  refine HI.out.mono ?_
  rintro e w2 ⟨hA2, hb2⟩
  have b2 := below_next b1 hb2
  clear hb2 HI
  rcases hA2 with ⟨hno, A2, c2, rfl, hO2⟩ | ⟨A2, c2, ss, hss, rfl, hO2, hg2⟩
  · have HR2 := Lib.hid (hO2.reads (n := 0) rfl (by simp))
    have HNo := Lib.hid hno
    clear hO2 hno
    have HS2 := Lib.hid (HSp.out w2)
    go_wp2_with fail
    refine HS2.out.mono ?_
    rintro e w3 ⟨hA3, hb3⟩
    rw [HNo.out] at hA3
    rcases hA3 with ⟨_, A3, c3, rfl, hO3⟩ | ⟨_, _, _, h, _⟩
    rotate_left
    · cases h
    have b3 := below_next b2 hb3
    have HR3 := Lib.hid (hO3.reads (n := 0) rfl (by simp))
    have HSm : Hid (∀ w, Below w3.heap.size w3 w → Calls Try.prog 17 #[.slice A2 0 c2, .slice A3 0 c3] w fun e w' => e = .returned (.bool true) ∧ Below w.heap.size w w') := Lib.hid (fun w h => sameStrokes A2 A3 0 c2 c3 [] w ((HR2.out.keep hb3).keep h) (HR3.out.keep h))
    clear hO3 HS2 HSp
    go_wp2_with fail
    refine (HSm.out w3 (Below.refl _ _)).mono ?_
    rintro e w4 ⟨rfl, hb4⟩
    have b4 := below_next b3 hb4
    go_wp2_with fail
    refine (HSm.out w4 hb4).mono ?_
    rintro e w5 ⟨rfl, hb5⟩
    have b5 := below_next b4 hb5
    go_wp2
    go_returns
    exact ⟨rfl, b5⟩
  · have HR2 := Lib.hid (hO2.reads rfl hg2)
    have HY := Lib.hid hss
    obtain ⟨ho, ht⟩ := text_from hss
    have hn8 := outB_len ho
    have HO := Lib.hid ho; have HT := Lib.hid ht
    clear hO2 hg2 hss ho ht
    have HS2 := Lib.hid (HSp.out w2)
    have hs' : s.data.toList.length = s.size := by simp
    have hadd : ∀ W', (Op.stringOp .add s { data := #[48] }).run Try.prog W' = .ok (.string (mkStr (s.data.toList ++ [48]))) W' := fun W' => by
      have h := run_add (P := Try.prog) s.data.toList [48] (by rw [hs']; simp; omega) W'
      rwa [mkStr_self] at h
    have HN : Hid (∀ w, Calls Try.prog 16 #[.string (mkStr (s.data.toList ++ [48]))] w fun e w' => (∃ A c, e = .returned (.tuple #[.slice A 0 c, .bool false])) ∧ Below w.heap.size w w') := Lib.hid (fun w => by
      refine (implOutlineFrom _ w (by rw [mkStr_size, List.length_append, hs']; simp; omega)).mono ?_
      rintro e w' ⟨hA, hb⟩
      rw [mkStr_data, from_more HY.out] at hA
      rcases hA with ⟨_, A, c, rfl, _⟩ | ⟨_, _, _, h, _⟩
      · exact ⟨⟨A, c, rfl⟩, hb⟩
      · cases h)
    have HV : Hid (∀ w, Below w2.heap.size w2 w → Calls Try.prog 27 #[.slice A2 ss.length c2] w fun e w' => e = .returned (.bool true) ∧ Below w.heap.size w w') := Lib.hid (fun w h => by
      have h1 := implOutlineValid A2 ss.length c2 ss w (HR2.out.keep h)
      rwa [HO.out] at h1)
    have HX : Hid (∀ w, Below w2.heap.size w2 w → Calls Try.prog 22 #[.slice A2 ss.length c2] w fun e w' => e = .returned (.string s) ∧ Below w.heap.size w w') := Lib.hid (fun w h => by
      have h1 := implOutlineText A2 ss.length c2 ss w (HR2.out.keep h)
      rwa [outText_yes HO.out, HT.out, mkStr_self] at h1)
    generalize hNn : ss.length = N at *
    have HNn := Lib.hid hNn; clear hNn
    go_wp2_with fail
    refine HS2.out.mono ?_
    rintro e w3 ⟨hA3, hb3⟩
    rw [HY.out] at hA3
    rcases hA3 with ⟨h, _⟩ | ⟨A3, c3, ss', h, rfl, hO3, hg3⟩
    · cases h
    injection h with h
    subst h
    have b3 := below_next b2 hb3
    rw [HNn.out] at hO3 ⊢
    have HR3 := Lib.hid (StrOwn.reads (n := N) hO3 HNn.out hg3)
    have HSm : Hid (Calls Try.prog 17 #[.slice A2 N c2, .slice A3 N c3] w3 fun e w' => e = .returned (.bool true) ∧ Below w3.heap.size w3 w') := Lib.hid (sameStrokes A2 A3 N c2 c3 ss w3 (HR2.out.keep hb3) HR3.out)
    have k3 := hb3
    clear hO3 hg3 HS2 HSp hb3
    go_wp2_with fail
    refine HSm.out.mono ?_
    rintro e w4 ⟨rfl, hb4⟩
    have b4 := below_next b3 hb4
    have k4 := below_next k3 hb4
    clear hb4 HSm
    go_wp2_with fail
    refine (HN.out _).mono ?_
    rintro e w5 ⟨⟨A5, c5, rfl⟩, hb5⟩
    have b5 := below_next b4 hb5
    have k5 := below_next k4 hb5
    clear hb5
    go_wp2_with fail
    refine (HV.out _ k5).mono ?_
    rintro e w6 ⟨rfl, hb6⟩
    have b6 := below_next b5 hb6
    have k6 := below_next k5 hb6
    go_wp2_with fail
    refine (HX.out _ k6).mono ?_
    rintro e w7 ⟨rfl, hb7⟩
    have b7 := below_next b6 hb7
    go_wp2
    go_returns
    exact ⟨rfl, b7⟩

set_option maxRecDepth 100000 in
theorem lifted (os : Os) (started : os.Started) (H : Type) (enc : TypeId × Value → H) :
    ReturnsInHanded {} Try.checked os 7 .any (Rows.fnOutlineFromSpec.pre6 enc Try.prog Try.f7 Rows.fnOutlineFromRow.domain false) (Rows.fnOutlineFromSpec.post enc Try.prog Try.f7 false true false false) := by
  refine returnsInHanded_of_change (C := Try.checked) own started (by kernel_rfl) Try.func7
    (ChangeSpec.witness6 (enc := enc) (C := Try.checked) false ⟨#[], #[.slice none 0 0], []⟩ 8 (by kernel_rfl) (by kernel_rfl) (by kernel_rfl) (by kernel_rfl)) ?_
  intro W base args ds gs before hval0 hW hcnd _
  have hval : ∀ (j : Nat) t v, Try.f7.params[j]? = some t → args[j]? = some v → Value.okWide Try.prog W .any base t v := hval0
  have hW' := hW
  obtain ⟨p, q, hA0, hV, rfl, hfz, hnd⟩ := hW
  have hA : DataW.TrodAll enc Try.prog W 0 (fun _ => true) true Try.f7.params.toList args.toList ds p := hA0
  rw [Try.params7] at hA hval
  obtain ⟨v0, vs0, d0, ds0, p0, q0, hargs, rfl, rfl, h0, r0⟩ := trodAll_cons hA
  obtain ⟨rfl, rfl, rfl⟩ := trodAll_nil r0
  obtain rfl : args = #[v0] := by cases args; simp_all
  obtain ⟨rfl, rfl⟩ := trodVars_none hV
  have k0 := h0
  have lt0 : ∀ x ∈ p0, x.block < W.heap.size := by obtain ⟨m, hm⟩ := k0; exact DataW.trod_lt m _ _ _ hm
  obtain ⟨A_0, n_0, c_0, bs_0, rfl, R_0⟩ := openBytes (hval 0 28 v0 rfl rfl) h0
  clear hA0 hval0
  refine (walk A_0 n_0 c_0 bs_0 W R_0).mono fun e W' ⟨he, bel⟩ => ?_
  subst he
  exact ⟨_, rfl, _, _, _, [], _, [], hW', trodAll_mk1 (shut_bool Try.underlying4 _), (trodAll_cons_mk (Below.trod laidOut (by kernel_rfl) (of_decide_eq_true (by kernel_rfl)) k0 bel lt0) trodAll_mk0), rfl, bel.frame _, fun h => by cases h⟩

theorem over : Rows.fnOutlineFromRow.holds Try.pinned (OpenSpec.ofChange Rows.fnOutlineFromSpec) :=
  OpenClaim.holds_of_wide 7 Try.f7 rfl rfl rfl rfl rfl rfl rfl ⟨rfl, rfl, rfl, rfl, rfl⟩ rfl rfl rfl rfl rfl (by kernel_rfl) Try.func7 (by kernel_rfl)
    (of_decide_eq_true (by kernel_rfl)) (by unfold Func.isWrapper; first | (rw [if_pos (by decide +kernel)]; kernel_rfl) | (rw [if_neg (by decide +kernel)]; exact ⟨rfl, rfl⟩))
    (fun os started H enc _ => lifted os started H enc)

theorem proved : Rows.FnOutlineFromSaid := over
end Go.Proofs.Ytdejgnlmofgdjaa.fnOutlineFrom
