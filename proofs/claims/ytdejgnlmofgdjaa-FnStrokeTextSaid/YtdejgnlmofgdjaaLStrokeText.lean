/-
  The law FnStrokeText returns true for every input, and what was in memory before the call reads as before: the frame round its walk.
  Conditions: none.
-/
import Derived.Test.YtdejgnlmofgdjaaDrawS2
import Derived.Test.YtdejgnlmofgdjaaSameS
import Derived.Test.YtdejgnlmofgdjaaFrom
import Derived.Test.YtdejgnlmofgdjaaSPrim
import Derived.Test.YtdejgnlmofgdjaaSLaw
namespace Go.Proofs.Ytdejgnlmofgdjaa.fnStrokeText
open Go.ChangeShapes Go.WideShapes Go.ChangeAt Go.RowKit
set_option linter.unusedVariables false

theorem size2 {s : Stroke} : (mkStr (sText s)).size = 2 := by rw [mkStr_size, sText_len]
theorem outB_one {s : Stroke} (h : okS s = true) : outB [s] = true := by simp [outB, linkB, h]
theorem from_one {s : Stroke} (h : okS s = true) : fromS (mkStr (sText s)).data.toList = some [s] := by
  rw [mkStr_data]
  have e : sText s = textS [s] := by simp [textS]
  rw [e]
  exact from_text (outB_one h)
theorem len_one {s : Stroke} (h : okS s = true) : lenO [s] = s.size := by
  unfold lenO
  rw [if_pos (outB_one h)]
  simp [lenS]
set_option maxRecDepth 100000 in
set_option maxHeartbeats 1600000 in
theorem walk (A : Option Addr) (n c : Nat) (bs : List Int) (W : World) (hb : BytesIn W W.heap.size A n c bs) :
    Calls Try.prog 4 #[.slice A n c] W fun e w' => e = .returned (.bool true) ∧ Below W.heap.size W w' := by
  have hm := hb.2.2.1
  have hnc := hb.2.1
  unfold maxLen at hm
  by_cases hn : 1048576 < n
  · clear hb
    go_enter Try.func4, Try.ntmps4
    go_wp2
    go_returns
    exact ⟨rfl, by go_grown⟩
  have HD := Lib.hid (drawStrokeText A n c bs W hb)
  clear hb
  go_enter Try.func4, Try.ntmps4
  go_wp2_with fail
  refine HD.out.mono ?_
  rintro e w1 ⟨⟨d, z, rfl, hs⟩, b1⟩
  have hgood := hs.good
  have b2 := b1.alloc b1.size (.cells #[.int .i64 d, .int .i64 z] 25)
  have p0 := newcell w1 #[.int .i64 d, .int .i64 z] 25 0 _ rfl
  have p1 := newcell w1 #[.int .i64 d, .int .i64 z] 25 1 _ rfl
  have HS := Lib.hid (fun w => specStrokeText ⟨d, z⟩ w)
  have HI := Lib.hid (fun w => implStrokeText ⟨d, z⟩ w)
  clear HD hs
  cases hok : okS ⟨d, z⟩ with
  | false =>
    rw [hok] at HS HI
    clear hok
    simp only [Bool.false_eq_true, if_false] at HS HI
    go_wp2_with fail
    refine (HI.out _).mono ?_
    rintro e w3 ⟨rfl, hb3⟩
    have b3 := below_next b2 hb3
    have q0 := kcell hb3 p0; have q1 := kcell hb3 p1
    clear hb3 p0 p1
    go_wp2_with fail
    refine (HS.out _).mono ?_
    rintro e w4 ⟨rfl, hb4⟩
    have b4 := below_next b3 hb4
    have hne : ((mkStr []).toList != (mkStr []).toList) = false := by simp
    have hem : (mkStr []).toList.isEmpty = true := by rw [Lib.toList_data, mkStr_data]; rfl
    go_wp2
    go_returns
    exact ⟨rfl, b4⟩
  | true =>
    rw [hok] at HS HI
    have HF : Hid (∀ w, Calls Try.prog 16 #[.string (mkStr (sText ⟨d, z⟩))] w fun e w' => (∃ A c, e = .returned (.tuple #[.slice A 1 c, .bool true]) ∧ StrokesIn w' w'.heap.size A 1 c [⟨d, z⟩]) ∧ Below w.heap.size w w') := Lib.hid (fun w => by
      refine (implOutlineFrom _ w (by rw [size2]; omega)).mono ?_
      rintro e w' ⟨hA, hb⟩
      rw [from_one hok] at hA
      rcases hA with ⟨h, _⟩ | ⟨A, c, ss, h, rfl, hO, hg⟩
      · cases h
      · injection h with h
        subst h
        exact ⟨⟨A, c, rfl, hO.reads rfl hg⟩, hb⟩)
    have HL : Hid (∀ A c w, StrokesIn w w.heap.size A 1 c [⟨d, z⟩] → Calls Try.prog 18 #[.slice A 1 c] w fun e w' => e = .returned (.int .i64 z) ∧ Below w.heap.size w w') := Lib.hid (fun A c w h => by
      have h1 := implOutlineLength A 1 c _ w h
      rwa [len_one hok] at h1)
    have hs2 : (mkStr (sText ⟨d, z⟩)).size = 2 := size2
    have hem : (mkStr (sText ⟨d, z⟩)).toList.isEmpty = false := by rw [Lib.toList_data, mkStr_data]; rfl
    clear hok
    simp only [if_true] at HS HI
    generalize mkStr (sText ⟨d, z⟩) = t at *
    have hne : (t.toList != t.toList) = false := by simp
    go_wp2_with fail
    refine (HI.out _).mono ?_
    rintro e w3 ⟨rfl, hb3⟩
    have b3 := below_next b2 hb3
    have q0 := kcell hb3 p0; have q1 := kcell hb3 p1
    clear hb3 p0 p1
    go_wp2_with fail
    refine (HS.out _).mono ?_
    rintro e w4 ⟨rfl, hb4⟩
    have b4 := below_next b3 hb4
    have p0 := kcell hb4 q0; have p1 := kcell hb4 q1
    clear hb4 q0 q1
    go_wp2_with fail
    refine (HF.out _).mono ?_
    rintro e w5 ⟨⟨A5, c5, rfl, hX⟩, hb5⟩
    have b5 := below_next b4 hb5
    have q0 := kcell hb5 p0; have q1 := kcell hb5 p1
    have HX := Lib.hid (fun w (h : Below w5.heap.size w5 w) => hX.keep h)
    clear hb5 p0 p1 HF HI HS hX
    have HSm : Hid (∀ W', Below w5.heap.size w5 W' → Calls Try.prog 17 #[.slice A5 1 c5, .slice (some ⟨W'.heap.size, 0, none⟩) 1 1] (W'.alloc (.cells #[.int .i64 d, .int .i64 z] 25)) fun e w' => e = .returned (.bool true) ∧ Below w5.heap.size w5 w') := Lib.hid (fun W' hW => by
      have h1 := hW.alloc hW.size (.cells #[.int .i64 d, .int .i64 z] 25)
      refine (sameStrokes _ _ 1 c5 1 [⟨d, z⟩] _ (HX.out _ h1) (StrokesIn.ofBlk (Blk.new W' _ _) rfl (by decide) (by intro s hs; simp at hs; subst hs; exact hgood))).mono ?_
      rintro e w' ⟨rfl, hb⟩
      exact ⟨rfl, h1.trans (hb.mono h1.size)⟩)
    have hz : (z == z) = true := by simp
    have hbd : Below w5.heap.size w5 w5.drew := (Below.refl _ _).drew
    obtain ⟨d0, d1⟩ : w5.drew.cell? ⟨w1.heap.size, 0, none⟩ = some (.int .i64 d) ∧ w5.drew.cell? ⟨w1.heap.size, 1, none⟩ = some (.int .i64 z) := ⟨q0, q1⟩
    have hlt1 : w1.heap.size < w5.drew.heap.size := World.block_lt_of_cell? _ _ q0
    go_wp2_with fail
    go_region_with (first
      | (go_at_call 17; refine (HSm.out w5.drew hbd).mono ?_; rintro e w6 ⟨rfl, hb6⟩; have e0 := kcell hb6 q0; have e1 := kcell hb6 q1; have b6 := below_next b5 hb6; have HT6 := HX.out w6 hb6)
      | (go_at_call 18; refine (HL.out A5 c5 w6 HT6).mono ?_; rintro e w7 ⟨rfl, hb7⟩; have f0 := kcell hb7 e0; have f1 := kcell hb7 e1; have b7 := below_next b6 hb7))
    all_goals (
      go_wp2
      go_returns
      exact ⟨rfl, b7⟩)

set_option maxRecDepth 100000 in
theorem lifted (os : Os) (started : os.Started) (H : Type) (enc : TypeId × Value → H) :
    ReturnsInHanded {} Try.checked os 4 .any (Rows.fnStrokeTextSpec.pre6 enc Try.prog Try.f4 Rows.fnStrokeTextRow.domain false) (Rows.fnStrokeTextSpec.post enc Try.prog Try.f4 false true false false) := by
  refine returnsInHanded_of_change (C := Try.checked) own started (by kernel_rfl) Try.func4
    (ChangeSpec.witness6 (enc := enc) (C := Try.checked) false ⟨#[], #[.slice none 0 0], []⟩ 8 (by kernel_rfl) (by kernel_rfl) (by kernel_rfl) (by kernel_rfl)) ?_
  intro W base args ds gs before hval0 hW hcnd _
  have hval : ∀ (j : Nat) t v, Try.f4.params[j]? = some t → args[j]? = some v → Value.okWide Try.prog W .any base t v := hval0
  have hW' := hW
  obtain ⟨p, q, hA0, hV, rfl, hfz, hnd⟩ := hW
  have hA : DataW.TrodAll enc Try.prog W 0 (fun _ => true) true Try.f4.params.toList args.toList ds p := hA0
  rw [Try.params4] at hA hval
  obtain ⟨v0, vs0, d0, ds0, p0, q0, hargs, rfl, rfl, h0, r0⟩ := trodAll_cons hA
  obtain ⟨rfl, rfl, rfl⟩ := trodAll_nil r0
  obtain rfl : args = #[v0] := by cases args; simp_all
  obtain ⟨rfl, rfl⟩ := trodVars_none hV
  have k0 := h0
  have lt0 : ∀ x ∈ p0, x.block < W.heap.size := by obtain ⟨m, hm⟩ := k0; exact DataW.trod_lt m _ _ _ hm
  obtain ⟨A_0, n_0, c_0, bs_0, rfl, R_0⟩ := openBytes (hval 0 28 v0 rfl rfl) h0
  clear hA0 hval0
  refine (walk A_0 n_0 c_0 bs_0 W R_0).mono fun e W' ⟨he, bel⟩ => ?_
  subst he
  exact ⟨_, rfl, _, _, _, [], _, [], hW', trodAll_mk1 (shut_bool Try.underlying4 _), (trodAll_cons_mk (Below.trod laidOut (by kernel_rfl) (of_decide_eq_true (by kernel_rfl)) k0 bel lt0) trodAll_mk0), rfl, bel.frame _, fun h => by cases h⟩

theorem over : Rows.fnStrokeTextRow.holds Try.pinned (OpenSpec.ofChange Rows.fnStrokeTextSpec) :=
  OpenClaim.holds_of_wide 4 Try.f4 rfl rfl rfl rfl rfl rfl rfl ⟨rfl, rfl, rfl, rfl, rfl⟩ rfl rfl rfl rfl rfl (by kernel_rfl) Try.func4 (by kernel_rfl)
    (of_decide_eq_true (by kernel_rfl)) (by unfold Func.isWrapper; first | (rw [if_pos (by decide +kernel)]; kernel_rfl) | (rw [if_neg (by decide +kernel)]; exact ⟨rfl, rfl⟩))
    (fun os started H enc _ => lifted os started H enc)

theorem proved : Rows.FnStrokeTextSaid := over
end Go.Proofs.Ytdejgnlmofgdjaa.fnStrokeText
