/-
  The law FnWrittenText returns true for every input, and what was in memory before the call reads as before: the frame round its walk.
  Conditions: none.
-/
import Derived.Test.YtdejgnlmofgdjaaDrawW2
import Derived.Test.YtdejgnlmofgdjaaSameW
import Derived.Test.YtdejgnlmofgdjaaWrFrom
namespace Go.Proofs.Ytdejgnlmofgdjaa.fnWrittenText
open Go.ChangeShapes Go.WideShapes Go.ChangeAt Go.RowKit
set_option linter.unusedVariables false

theorem wr_len {ss : List Stroke} {p : Int} : (wrText ss p).length ≤ 17 := by
  unfold wrText
  have := outText_len ss
  split
  · simp; omega
  · simp
set_option maxRecDepth 100000 in
set_option maxHeartbeats 3200000 in
theorem walk (A : Option Addr) (n c : Nat) (bs : List Int) (W : World) (hb : BytesIn W W.heap.size A n c bs) :
    Calls Try.prog 9 #[.slice A n c] W fun e w' => e = .returned (.bool true) ∧ Below W.heap.size W w' := by
  have hm := hb.2.2.1
  have hnc := hb.2.1
  unfold maxLen at hm
  by_cases hn : 1048576 < n
  · clear hb
    go_enter Try.func9, Try.ntmps9
    go_wp2
    go_returns
    exact ⟨rfl, by go_grown⟩
  have HD := Lib.hid (drawWrittenText A n c bs W hb)
  clear hb
  go_enter Try.func9, Try.ntmps9
  go_wp2_with fail
  refine HD.out.mono ?_
  rintro e w0 ⟨⟨A1, N, c1, ss, p, rfl, hN, hp0, hp1, hR0⟩, b0⟩
  clear HD
  have p0 := newcell w0 #[.slice A1 N c1, .int .i64 p] 50 0 _ rfl
  have p1 := newcell w0 #[.slice A1 N c1, .int .i64 p] 50 1 _ rfl
  have hal : Below w0.heap.size w0 (w0.alloc (.cells #[.slice A1 N c1, .int .i64 p] 50)) := (Below.refl _ _).alloc (Nat.le_refl _) _
  have b1 := below_next b0 hal
  have hR1 := hR0.keep hal
  have hsz : w0.heap.size < (w0.alloc (.cells #[.slice A1 N c1, .int .i64 p] 50)).heap.size := by simp
  clear hal b0 hR0
  have HI := Lib.hid (implWrittenText A1 N c1 ss p _ hR1)
  have HS : Hid (∀ w, Below (w0.alloc (.cells #[.slice A1 N c1, .int .i64 p] 50)).heap.size (w0.alloc (.cells #[.slice A1 N c1, .int .i64 p] 50)) w → Calls Try.prog 29 #[.agg #[.slice A1 N c1, .int .i64 p]] w fun e w' => e = .returned (.string (mkStr (wrText ss p))) ∧ Below w.heap.size w w') := Lib.hid (fun w h => specWrittenText A1 N c1 ss p w (hR1.keep h))
  have HR := Lib.hid (fun w (h : Below (w0.alloc (.cells #[.slice A1 N c1, .int .i64 p] 50)).heap.size (w0.alloc (.cells #[.slice A1 N c1, .int .i64 p] 50)) w) => hR1.keep h)
  have hl := Lib.hid hR1.1
  clear hR1
  by_cases hv : wrB ss p = true
  · have htx := wrText_yes hv
    have hfr := wr_text hv
    have hwl : (wrText ss p).length ≤ 17 := wr_len
    have HF : Hid (∀ w, Calls Try.prog 34 #[.string (mkStr (wrText ss p))] w fun e w' => (∃ A c, e = .returned (.tuple #[.agg #[.slice A N c, .int .i64 p], .bool true]) ∧ StrokesIn w' w'.heap.size A N c ss) ∧ Below w.heap.size w w') := Lib.hid (fun w => by
      refine (implWrittenFrom _ w (by omega)).mono ?_
      rintro e w' ⟨hA, hb⟩
      rw [hfr] at hA
      rcases hA with ⟨h, _⟩ | ⟨A, c, ss', p', h, rfl, hO, hg⟩
      · cases h
      · injection h with h
        injection h with h1 h2
        subst h1 h2
        have hl' := hl.out
        rw [hl'] at hO ⊢
        exact ⟨⟨A, c, rfl, StrOwn.reads (n := N) hO hl' hg⟩, hb⟩)
    have hem : (mkStr (wrText ss p)).toList.isEmpty = false := by rw [Lib.toList_data, mkStr_data, htx]; rfl
    have hz0 : 1 ≤ (mkStr (wrText ss p)).size := by rw [mkStr_size, htx]; simp
    have hx : (mkStr (wrText ss p)).extract 1 (mkStr (wrText ss p)).size = mkStr (outText ss) := by rw [htx]; exact tail_str _ _
    have HX : Hid (∀ w, Below (w0.alloc (.cells #[.slice A1 N c1, .int .i64 p] 50)).heap.size (w0.alloc (.cells #[.slice A1 N c1, .int .i64 p] 50)) w → Calls Try.prog 22 #[.slice A1 N c1] w fun e w' => e = .returned (.string (mkStr (outText ss))) ∧ Below w.heap.size w w') := Lib.hid (fun w h => implOutlineText A1 N c1 ss w (HR.out w h))
    have HSm := Lib.hid (fun (A4 : Option Addr) (c4 : Nat) w (h : StrokesIn w w.heap.size A4 N c4 ss) (h' : StrokesIn w w.heap.size A1 N c1 ss) => sameWritten A4 A1 N c4 c1 ss p w h h')
    clear hv htx hfr hwl
    generalize mkStr (wrText ss p) = t at *
    generalize mkStr (outText ss) = ot at *
    have hne : (t.toList != t.toList) = false := by simp
    go_wp2_with fail
    refine HI.out.mono ?_
    rintro e w2 ⟨rfl, hb2⟩
    have b2 := below_next b1 hb2
    have q0 := kcell hb2 p0; have q1 := kcell hb2 p1
    have HS2 := Lib.hid (HS.out w2 hb2)
    have k2 := hb2
    clear HS HI hb2 p0 p1
    go_wp2_with fail
    refine HS2.out.mono ?_
    rintro e w3 ⟨rfl, hb3⟩
    have b3 := below_next b2 hb3
    have k3 := below_next k2 hb3
    have r0 := kcell hb3 q0; have r1 := kcell hb3 q1
    clear hb3 HS2 q0 q1
    go_wp2_with fail
    refine (HF.out w3).mono ?_
    rintro e w4 ⟨⟨A4, c4, rfl, hX4⟩, hb4⟩
    have b4 := below_next b3 hb4
    have k4 := below_next k3 hb4
    have s0 := kcell hb4 r0; have s1 := kcell hb4 r1
    have p0 := newcell w4 #[.slice A4 N c4, .int .i64 p] 50 0 _ rfl
    have p1 := newcell w4 #[.slice A4 N c4, .int .i64 p] 50 1 _ rfl
    have hal : Below w4.heap.size w4 (w4.alloc (.cells #[.slice A4 N c4, .int .i64 p] 50)) := (Below.refl _ _).alloc (Nat.le_refl _) _
    have b5 := below_next b4 hal
    have k5 := below_next k4 hal
    have u0 := kcell hal s0; have u1 := kcell hal s1
    have HX4 := Lib.hid (fun w (h : Below (w4.alloc (.cells #[.slice A4 N c4, .int .i64 p] 50)).heap.size (w4.alloc (.cells #[.slice A4 N c4, .int .i64 p] 50)) w) => (hX4.keep hal).keep h)
    clear hb4 HF r0 r1 s0 s1 hX4
    go_wp2_with fail
    have g0 := qcell p0; have g1 := qcell p1; have g2 := qcell u0; have g3 := qcell u1
    have HSm2 : Hid (∀ w, Below (w4.alloc (.cells #[.slice A4 N c4, .int .i64 p] 50)).heap.size (w4.alloc (.cells #[.slice A4 N c4, .int .i64 p] 50)) w → Calls Try.prog 35 #[.agg #[.slice A4 N c4, .int .i64 p], .agg #[.slice A1 N c1, .int .i64 p]] w fun e w' => e = .returned (.bool true) ∧ Below w.heap.size w w') := Lib.hid (fun w h => HSm.out A4 c4 w (HX4.out w h) (HR.out w (below_next k5 h)))
    have HX2 : Hid (∀ w, Below (w4.alloc (.cells #[.slice A4 N c4, .int .i64 p] 50)).heap.size (w4.alloc (.cells #[.slice A4 N c4, .int .i64 p] 50)) w → Calls Try.prog 22 #[.slice A1 N c1] w fun e w' => e = .returned (.string ot) ∧ Below w.heap.size w w') := Lib.hid (fun w h => HX.out w (below_next k5 h))
    have hoo : (ot.toList == ot.toList) = true := by simp
    clear HX HSm HX4 HR k5 k4 k3 k2 b4 b3 b2 b1 hal u0 u1 p0 p1
    refine region_qb (by kernel_rfl) (by kernel_rfl) ?_
    repeat (first | go_big_quiet_step ((first | (go_at_call 35; exact quietB (HSm2.out _ (below_regrown _ _ _))) | (go_at_call 22; exact quietB (HX2.out _ (below_regrown _ _ _))))) | quiet_step ((first | (go_at_call 35; exact quietB (HSm2.out _ (below_regrown _ _ _))) | (go_at_call 22; exact quietB (HX2.out _ (below_regrown _ _ _))))))
    refine wpQuiet_nil ?_
    intro w6 hb6
    have b6 := below_next b5 hb6
    clear g0 g1 g2 g3 hb6
    go_wp2
    go_returns
    exact ⟨rfl, b6⟩
  · have htx := wrText_no (ss := ss) (p := p) (by simpa using hv)
    have hem : (mkStr (wrText ss p)).toList.isEmpty = true := by rw [Lib.toList_data, mkStr_data, htx]; rfl
    clear hv htx HR hl
    generalize mkStr (wrText ss p) = t at *
    have hne : (t.toList != t.toList) = false := by simp
    go_wp2_with fail
    refine HI.out.mono ?_
    rintro e w2 ⟨rfl, hb2⟩
    have b2 := below_next b1 hb2
    have q0 := kcell hb2 p0; have q1 := kcell hb2 p1
    have HS2 := Lib.hid (HS.out w2 hb2)
    clear HS HI hb2 p0 p1
    go_wp2_with fail
    refine HS2.out.mono ?_
    rintro e w3 ⟨rfl, hb3⟩
    have b3 := below_next b2 hb3
    clear q0 q1
    go_wp2
    go_returns
    exact ⟨rfl, b3⟩

set_option maxRecDepth 100000 in
theorem lifted (os : Os) (started : os.Started) (H : Type) (enc : TypeId × Value → H) :
    ReturnsInHanded {} Try.checked os 9 .any (Rows.fnWrittenTextSpec.pre6 enc Try.prog Try.f9 Rows.fnWrittenTextRow.domain false) (Rows.fnWrittenTextSpec.post enc Try.prog Try.f9 false true false false) := by
  refine returnsInHanded_of_change (C := Try.checked) own started (by kernel_rfl) Try.func9
    (ChangeSpec.witness6 (enc := enc) (C := Try.checked) false ⟨#[], #[.slice none 0 0], []⟩ 8 (by kernel_rfl) (by kernel_rfl) (by kernel_rfl) (by kernel_rfl)) ?_
  intro W base args ds gs before hval0 hW hcnd _
  have hval : ∀ (j : Nat) t v, Try.f9.params[j]? = some t → args[j]? = some v → Value.okWide Try.prog W .any base t v := hval0
  have hW' := hW
  obtain ⟨p, q, hA0, hV, rfl, hfz, hnd⟩ := hW
  have hA : DataW.TrodAll enc Try.prog W 0 (fun _ => true) true Try.f9.params.toList args.toList ds p := hA0
  rw [Try.params9] at hA hval
  obtain ⟨v0, vs0, d0, ds0, p0, q0, hargs, rfl, rfl, h0, r0⟩ := trodAll_cons hA
  obtain ⟨rfl, rfl, rfl⟩ := trodAll_nil r0
  obtain rfl : args = #[v0] := by cases args; simp_all
  obtain ⟨rfl, rfl⟩ := trodVars_none hV
  have k0 := h0
  have lt0 : ∀ x ∈ p0, x.block < W.heap.size := by obtain ⟨m, hm⟩ := k0; exact DataW.trod_lt m _ _ _ hm
  obtain ⟨A_0, n_0, c_0, bs_0, rfl, R_0⟩ := openBytes (hval 0 28 v0 rfl rfl) h0
  clear hA0 hval0
  refine (walk A_0 n_0 c_0 bs_0 W R_0).mono fun e W' ⟨he, bel⟩ => ?_
  subst he
  exact ⟨_, rfl, _, _, _, [], _, [], hW', trodAll_mk1 (shut_bool Try.underlying4 _), (trodAll_cons_mk (Below.trod laidOut (by kernel_rfl) (of_decide_eq_true (by kernel_rfl)) k0 bel lt0) trodAll_mk0), rfl, bel.frame _, fun h => by cases h⟩

theorem over : Rows.fnWrittenTextRow.holds Try.pinned (OpenSpec.ofChange Rows.fnWrittenTextSpec) :=
  OpenClaim.holds_of_wide 9 Try.f9 rfl rfl rfl rfl rfl rfl rfl ⟨rfl, rfl, rfl, rfl, rfl⟩ rfl rfl rfl rfl rfl (by kernel_rfl) Try.func9 (by kernel_rfl)
    (of_decide_eq_true (by kernel_rfl)) (by unfold Func.isWrapper; first | (rw [if_pos (by decide +kernel)]; kernel_rfl) | (rw [if_neg (by decide +kernel)]; exact ⟨rfl, rfl⟩))
    (fun os started H enc _ => lifted os started H enc)

theorem proved : Rows.FnWrittenTextSaid := over
end Go.Proofs.Ytdejgnlmofgdjaa.fnWrittenText
