/-
  The law FnOutlineText returns true for every input, and what was in memory before the call reads as before: the frame round its walk.
  Conditions: none.
-/
import Derived.Test.YtdejgnlmofgdjaaDrawO2
import Derived.Test.YtdejgnlmofgdjaaSameS
import Derived.Test.YtdejgnlmofgdjaaFrom
import Derived.Test.YtdejgnlmofgdjaaOutText
import Derived.Test.YtdejgnlmofgdjaaSliceS
namespace Go.Proofs.Ytdejgnlmofgdjaa.fnOutlineText
open Go.ChangeShapes Go.WideShapes Go.ChangeAt Go.RowKit
set_option linter.unusedVariables false

theorem from_out {ss : List Stroke} (h : outB ss = true) : fromS (mkStr (outText ss)).data.toList = some ss := by
  rw [mkStr_data, outText_yes h]
  exact from_text h
set_option maxRecDepth 100000 in
set_option maxHeartbeats 3200000 in
theorem walk (A : Option Addr) (n c : Nat) (bs : List Int) (A2 : Option Addr) (n2 c2 : Nat) (bs2 : List Int) (W : World) (hb : BytesIn W W.heap.size A n c bs) (hb' : BytesIn W W.heap.size A2 n2 c2 bs2) :
    Calls Try.prog 6 #[.slice A n c, .slice A2 n2 c2] W fun e w' => e = .returned (.bool true) ∧ Below W.heap.size W w' := by
  have hm := hb.2.2.1
  have hnc := hb.2.1
  have hm' := hb'.2.2.1
  have hnc' := hb'.2.1
  unfold maxLen at hm hm'
  clear hb'
  by_cases hn : 1048576 < n
  · clear hb
    go_enter Try.func6, Try.ntmps6
    go_wp2
    go_returns
    exact ⟨rfl, by go_grown⟩
  by_cases hn' : 1048576 < n2
  · clear hb
    go_enter Try.func6, Try.ntmps6
    go_wp2
    go_returns
    exact ⟨rfl, by go_grown⟩
  have HD := Lib.hid (drawOutlineText A n c bs W hb)
  clear hb
  go_enter Try.func6, Try.ntmps6
  go_wp2_with fail
  refine HD.out.mono ?_
  rintro e w1 ⟨⟨A1, N, c1, ss, rfl, hN, hR1⟩, b1⟩
  have HR := Lib.hid (fun w (h : Below w1.heap.size w1 w) => hR1.keep h)
  have hl := hR1.1
  have hNc := hR1.2.1
  have hcm := hR1.2.2.1
  unfold maxLen at hcm
  have HI := Lib.hid (implOutlineText A1 N c1 ss w1 hR1)
  have HS : Hid (∀ w, Below w1.heap.size w1 w → Calls Try.prog 20 #[.slice A1 N c1] w fun e w' => e = .returned (.string (mkStr (outText ss))) ∧ Below w.heap.size w w') := Lib.hid (fun w h => specOutlineText A1 N c1 ss w (hR1.keep h))
  have h1row := hR1.2.2.2.1
  clear HD hR1
  by_cases hem0 : outText ss = []
  · have hem : (mkStr (outText ss)).toList.isEmpty = true := by rw [Lib.toList_data, mkStr_data, hem0]; rfl
    clear hem0 h1row HR
    generalize mkStr (outText ss) = t at *
    have hne : (t.toList != t.toList) = false := by simp
    go_wp2_with fail
    refine HI.out.mono ?_
    rintro e w2 ⟨rfl, hb2⟩
    have b2 := below_next b1 hb2
    have HS2 := Lib.hid (HS.out w2 hb2)
    clear HS HI hb2
    go_wp2_with fail
    refine HS2.out.mono ?_
    rintro e w3 ⟨rfl, hb3⟩
    have b3 := below_next b2 hb3
    go_wp2
    go_returns
    exact ⟨rfl, b3⟩
  · have ho : outB ss = true := by
      cases h : outB ss with
      | true => rfl
      | false => exact absurd (outText_no h) hem0
    have hNp : 0 < N := by
      rcases Nat.eq_zero_or_pos N with h | h
      · exfalso
        apply hem0
        rw [outText_yes ho, List.eq_nil_of_length_eq_zero (hl.trans h)]
        rfl
      · exact h
    obtain ⟨b, off, rfl, _⟩ := h1row.2 hNp
    have htl : (outText ss).length = 2 * N := by rw [outText_yes ho, textS_len, hl]
    have hem : (mkStr (outText ss)).toList.isEmpty = false := by
      rw [Lib.toList_data, mkStr_data]
      cases h : outText ss with
      | nil => exact absurd h hem0
      | cons _ _ => rfl
    have hts : (mkStr (outText ss)).size = 2 * N := by rw [mkStr_size, htl]
    have HF : Hid (∀ w, Calls Try.prog 16 #[.string (mkStr (outText ss))] w fun e w' => (∃ A c, e = .returned (.tuple #[.slice A N c, .bool true]) ∧ StrokesIn w' w'.heap.size A N c ss) ∧ Below w.heap.size w w') := Lib.hid (fun w => by
      refine (implOutlineFrom _ w (by rw [hts]; omega)).mono ?_
      rintro e w' ⟨hA, hb⟩
      rw [from_out ho] at hA
      rcases hA with ⟨h, _⟩ | ⟨A, c, ss', h, rfl, hO, hg⟩
      · cases h
      · injection h with h
        subst h
        rw [hl] at hO ⊢
        exact ⟨⟨A, c, rfl, StrOwn.reads (n := N) hO hl hg⟩, hb⟩)
    have hkk : n2 % (N + 1) ≤ N := by have := Nat.mod_lt n2 (show 0 < N + 1 by omega); omega
    have hkI : (n2 : Int) % ((N : Int) + 1) = ((n2 % (N + 1) : Nat) : Int) := by push_cast; rfl
    generalize n2 % (N + 1) = k at *
    have HTk : Hid (∀ w, Below w1.heap.size w1 w → Calls Try.prog 22 #[.slice (some ⟨b, off, none⟩) k c1] w fun e w' => e = .returned (.string (mkStr (outText (ss.take k)))) ∧ Below w.heap.size w w') := Lib.hid (fun w h => implOutlineText _ k c1 _ w ((HR.out w h).uptoS hkk))
    have HDr : Hid (∀ w, Below w1.heap.size w1 w → Calls Try.prog 22 #[.slice (fromB (some ⟨b, off, none⟩) k c1 2) (N - k) (c1 - k)] w fun e w' => e = .returned (.string (mkStr (outText (ss.drop k)))) ∧ Below w.heap.size w w') := Lib.hid (fun w h => implOutlineText _ (N - k) (c1 - k) _ w ((HR.out w h).fromS hkk))
    have hle : (outText (ss.take k)).length + (outText (ss.drop k)).length ≤ 24 := by
      have h1 := congrArg List.length (text_split ho k)
      rw [List.length_append, htl] at h1
      omega
    have hadd : ∀ W', (Op.stringOp .add (mkStr (outText (ss.take k))) (mkStr (outText (ss.drop k)))).run Try.prog W' = .ok (.string (mkStr (outText ss))) W' := fun W' => by
      have h := run_add (P := Try.prog) (outText (ss.take k)) (outText (ss.drop k)) (by omega) W'
      rwa [text_split ho k] at h
    have hs1 : ∀ W', (Instr.slice 30 (.slice (some ⟨b, off, none⟩) N c1) none (some (.int .i64 (k : Int))) none).run Try.prog W' = .ok (.slice (some ⟨b, off, none⟩) k c1) W' := fun W' => run_uptoS elemSt sizeSt b off N c1 k (by omega) W'
    have hs2 : ∀ W', (Instr.slice 30 (.slice (some ⟨b, off, none⟩) N c1) (some (.int .i64 (k : Int))) none none).run Try.prog W' = .ok (.slice (fromB (some ⟨b, off, none⟩) k c1 2) (N - k) (c1 - k)) W' := fun W' => run_fromS elemSt sizeSt (some ⟨b, off, none⟩) N c1 k hkk W'
    clear hem0 h1row ho htl hle hl
    generalize mkStr (outText (ss.take k)) = ta at *
    generalize mkStr (outText (ss.drop k)) = tb at *
    generalize mkStr (outText ss) = t at *
    generalize fromB (some ⟨b, off, none⟩) k c1 2 = AF at *
    have hne : (t.toList != t.toList) = false := by simp
    go_wp2_with fail
    refine HI.out.mono ?_
    rintro e w2 ⟨rfl, hb2⟩
    have b2 := below_next b1 hb2
    have HS2 := Lib.hid (HS.out w2 hb2)
    have k2 := hb2
    clear HS HI hb2
    go_wp2_with fail
    refine HS2.out.mono ?_
    rintro e w3 ⟨rfl, hb3⟩
    have b3 := below_next b2 hb3
    have k3 := below_next k2 hb3
    clear hb3 HS2
    go_wp2_with fail
    refine (HF.out w3).mono ?_
    rintro e w4 ⟨⟨A4, c4, rfl, hX⟩, hb4⟩
    have b4 := below_next b3 hb4
    have k4 := below_next k3 hb4
    have HSm : Hid (Calls Try.prog 17 #[.slice A4 N c4, .slice (some ⟨b, off, none⟩) N c1] w4.drew fun e w' => e = .returned (.bool true) ∧ Below w4.heap.size w4 w') := Lib.hid ((sameStrokes _ _ N c4 c1 ss w4.drew hX (HR.out w4.drew k4.drew)).mono fun e w' h => ⟨h.1, ((Below.refl _ w4).drew).trans h.2⟩)
    clear hb4 HF hX HR
    have hw : IntKind.i64.wrap (2 * (N : Int)) = 2 * (N : Int) := IntWalk.i64_in _ (by omega)
    have hb1 : ((t.size : Int) == 2 * (N : Int)) = true := beq_iff_eq.2 (by omega)
    clear hts
    go_wp2_with fail
    go_region_held3 (fun _ => True) (trivial) (first
      | (go_at_call 17; refine HSm.out.mono ?_; rintro e w5 ⟨rfl, hb5⟩; have b5 := below_next b4 hb5; have k5 := below_next k4 hb5)
      | (go_at_call_of 22 AF; refine (HDr.out w6 k6).mono ?_; rintro e w7 ⟨rfl, hb7⟩; have b7 := below_next b6 hb7)
      | (go_at_call 22; refine (HTk.out w5 k5).mono ?_; rintro e w6 ⟨rfl, hb6⟩; have b6 := below_next b5 hb6; have k6 := below_next k5 hb6))
    all_goals (
      go_wp2
      go_returns
      exact ⟨rfl, b7⟩)

set_option maxRecDepth 100000 in
theorem lifted (os : Os) (started : os.Started) (H : Type) (enc : TypeId × Value → H) :
    ReturnsInHanded {} Try.checked os 6 .any (Rows.fnOutlineTextSpec.pre6 enc Try.prog Try.f6 Rows.fnOutlineTextRow.domain false) (Rows.fnOutlineTextSpec.post enc Try.prog Try.f6 false true false false) := by
  refine returnsInHanded_of_change (C := Try.checked) own started (by kernel_rfl) Try.func6
    (ChangeSpec.witness6 (enc := enc) (C := Try.checked) false ⟨#[], #[.slice none 0 0, .slice none 0 0], []⟩ 8 (by kernel_rfl) (by kernel_rfl) (by kernel_rfl) (by kernel_rfl)) ?_
  intro W base args ds gs before hval0 hW hcnd _
  have hval : ∀ (j : Nat) t v, Try.f6.params[j]? = some t → args[j]? = some v → Value.okWide Try.prog W .any base t v := hval0
  have hW' := hW
  obtain ⟨p, q, hA0, hV, rfl, hfz, hnd⟩ := hW
  have hA : DataW.TrodAll enc Try.prog W 0 (fun _ => true) true Try.f6.params.toList args.toList ds p := hA0
  rw [Try.params6] at hA hval
  obtain ⟨v0, vs0, d0, ds0, p0, q0, hargs, rfl, rfl, h0, r0⟩ := trodAll_cons hA
  obtain ⟨v1, vs1, d1, ds1, p1, q1, rfl, rfl, rfl, h1, r1⟩ := trodAll_cons r0
  obtain ⟨rfl, rfl, rfl⟩ := trodAll_nil r1
  obtain rfl : args = #[v0, v1] := by cases args; simp_all
  obtain ⟨rfl, rfl⟩ := trodVars_none hV
  have k0 := h0
  have lt0 : ∀ x ∈ p0, x.block < W.heap.size := by obtain ⟨m, hm⟩ := k0; exact DataW.trod_lt m _ _ _ hm
  obtain ⟨A_0, n_0, c_0, bs_0, rfl, R_0⟩ := openBytes (hval 0 28 v0 rfl rfl) h0
  have k1 := h1
  have lt1 : ∀ x ∈ p1, x.block < W.heap.size := by obtain ⟨m, hm⟩ := k1; exact DataW.trod_lt m _ _ _ hm
  obtain ⟨A_1, n_1, c_1, bs_1, rfl, R_1⟩ := openBytes (hval 1 28 v1 rfl rfl) h1
  clear hA0 hval0
  refine (walk A_0 n_0 c_0 bs_0 A_1 n_1 c_1 bs_1 W R_0 R_1).mono fun e W' ⟨he, bel⟩ => ?_
  subst he
  exact ⟨_, rfl, _, _, _, [], _, [], hW', trodAll_mk1 (shut_bool Try.underlying4 _), (trodAll_cons_mk (Below.trod laidOut (by kernel_rfl) (of_decide_eq_true (by kernel_rfl)) k0 bel lt0) (trodAll_cons_mk (Below.trod laidOut (by kernel_rfl) (of_decide_eq_true (by kernel_rfl)) k1 bel lt1) trodAll_mk0)), rfl, bel.frame _, fun h => by cases h⟩

theorem over : Rows.fnOutlineTextRow.holds Try.pinned (OpenSpec.ofChange Rows.fnOutlineTextSpec) :=
  OpenClaim.holds_of_wide 6 Try.f6 rfl rfl rfl rfl rfl rfl rfl ⟨rfl, rfl, rfl, rfl, rfl⟩ rfl rfl rfl rfl rfl (by kernel_rfl) Try.func6 (by kernel_rfl)
    (of_decide_eq_true (by kernel_rfl)) (by unfold Func.isWrapper; first | (rw [if_pos (by decide +kernel)]; kernel_rfl) | (rw [if_neg (by decide +kernel)]; exact ⟨rfl, rfl⟩))
    (fun os started H enc _ => lifted os started H enc)

theorem proved : Rows.FnOutlineTextSaid := over
end Go.Proofs.Ytdejgnlmofgdjaa.fnOutlineText
