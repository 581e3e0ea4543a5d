/-
  The law FnLineText returns true for every input, and what was in memory before the call reads as before: the frame round its walk.
  Conditions: none.
-/
import Derived.Test.YtppjjbjjbmodbaaDoorLaidUtf
import Derived.Test.YtppjjbjjbmodbaaDoorDrawL2
import Derived.Test.YtppjjbjjbmodbaaDoorLineI
import Derived.Test.YtppjjbjjbmodbaaDoorLineLaw
import Derived.Test.YtppjjbjjbmodbaaDoorLineS
import Derived.Test.YtppjjbjjbmodbaaDoorTie
import Derived.Test.YtppjjbjjbmodbaaDoorCards
import Derived.JoinedCond
import Derived.SevenTiedAt
namespace Go.Proofs.YtppjjbjjbmodbaaDoor.fnLineText
open Go.ChangeShapes Go.WideShapes Go.ChangeAt Go.RowKit
set_option linter.unusedVariables false

/-- A line that was read. -/
def LineRead (N : Nat) (D : List Dat) (e : Ending) (w' : World) : Prop := ∃ A c ys, e = .returned (.tuple #[.slice A N c, .bool true]) ∧ WrsIn w' w'.heap.size A N c ys ∧ ys.map Wr.dat = D
theorem lineRead (l : List UInt8) (D : List Dat) (N : Nat) (w : World) (hs : l.length ≤ 4096) (hD : lineFrom l = some D) (hN : D.length = N) :
    Calls Tryd.prog 8 #[.string (mkStr l)] w fun e w' => LineRead N D e w' ∧ Below w.heap.size w w' := by
  refine (implLineFrom l w hs).mono ?_
  rintro e w' ⟨hA, hb⟩
  rw [hD] at hA
  rcases hA with ⟨h, _⟩ | ⟨A, c, ys, h, rfl, hR⟩
  · cases h
  · injection h with h
    have hl : ys.length = N := by rw [← hN, h, List.length_map]
    rw [hl] at hR ⊢
    exact ⟨⟨A, c, ys, rfl, hR, h.symm⟩, hb⟩
set_option maxRecDepth 100000 in
set_option maxHeartbeats 3200000 in
theorem walk (A : Option Addr) (n c : Nat) (bs : List Int) (W : World) (hb : BytesIn W W.heap.size A n c bs) (HLd : laidMet Tryd.prog laidL W) :
    Calls Tryd.prog 3 #[.slice A n c] W fun e w' => e = .returned (.bool true) ∧ Below W.heap.size W w' := by
  have hm := hb.2.2.1
  have hnc := hb.2.1
  unfold maxLen at hm
  clear HLd
  by_cases hn : 1048576 < n
  · clear hb
    go_enter Tryd.func3, Tryd.ntmps3
    go_wp2
    go_returns
    exact ⟨rfl, by go_grown⟩
  have HD := Lib.hid (drawLineText A n c bs W hb)
  clear hb
  go_enter Tryd.func3, Tryd.ntmps3
  go_wp2_with fail
  refine HD.out.mono ?_
  rintro e w1 ⟨⟨A1, N, c1, xs, rfl, hN, hR⟩, b1⟩
  have HI := Lib.hid (implLineText A1 N c1 xs w1 hR)
  have HS := Lib.hid (fun w (h : Below w1.heap.size w1 w) => specLineText A1 N c1 xs w (hR.keep h))
  have HR := Lib.hid (fun w (h : Below w1.heap.size w1 w) => hR.keep h)
  have hlen : (lineText (xs.map Wr.dat)).length ≤ 72 := by have := lineText_len (xs.map Wr.dat); rw [List.length_map, hR.1] at this; omega
  have HLaw : Hid (lineText (xs.map Wr.dat) ≠ [] → lineFrom (lineText (xs.map Wr.dat)) = some (xs.map Wr.dat) ∧ (lineText (xs.map Wr.dat)).count 32 = N - 1 ∧ 0 < N) := Lib.hid (fun h => by
    cases hb : lineB (xs.map Wr.dat) with
    | false => rw [lineText_no hb] at h; exact absurd rfl h
    | true =>
      rw [lineText_yes hb] at h ⊢
      have := line_text hb h
      rw [List.length_map, hR.1] at this
      exact this)
  have HDl : Hid ((xs.map Wr.dat).length = N) := Lib.hid (by rw [List.length_map, hR.1])
  clear hR HD
  generalize lineText (xs.map Wr.dat) = t at *
  by_cases h0 : t = []
  · subst h0
    have he : (mkStr []).toList.isEmpty = true := by rw [Lib.toList_data, mkStr_data]; rfl
    generalize mkStr [] = s at *
    have hne : (s.toList != s.toList) = false := by simp
    have heq : (s.toList == s.toList) = true := by simp
    clear HLaw
    go_wp2_with fail
    refine HI.out.mono ?_
    rintro e w2 ⟨rfl, hb2⟩
    have b2 := below_next b1 hb2
    have HS2 := Lib.hid (HS.out w2 hb2)
    clear HS HI hb2
    go_wp2_with fail
    refine HS2.out.mono ?_
    rintro e w3 ⟨rfl, hb3⟩
    have b3 := below_next b2 hb3
    go_wp2
    go_returns
    exact ⟨rfl, b3⟩
  · obtain ⟨h1, h2, h3⟩ := HLaw.out h0
    have he := mkStr_isEmpty h0
    have HF := Lib.hid (fun w => lineRead t _ N w (by omega) h1 HDl.out)
    have HC : Hid (∀ w, Calls Tryd.prog 10 #[.string (mkStr t)] w fun e w' => e = .returned (.int .i64 ((N : Int) - 1)) ∧ w = w') := Lib.hid (fun w => by
      have := spacesOf (mkStr t) w (by rw [mkStr_size]; omega)
      rw [mkStr_data, h2, Int.ofNat_sub h3] at this
      exact this)
    have HSm := Lib.hid (fun (A4 : Option Addr) (c4 : Nat) (ys : List Wr) w (h : WrsIn w w.heap.size A4 N c4 ys) (h' : WrsIn w w.heap.size A1 N c1 xs) he => sameLine A4 A1 N c4 c1 ys xs w h h' he)
    clear h1 h2 h0 HLaw
    generalize mkStr t = s at *
    have hne : (s.toList != s.toList) = false := by simp
    go_wp2_with fail
    refine HI.out.mono ?_
    rintro e w2 ⟨rfl, hb2⟩
    have b2 := below_next b1 hb2
    have HS2 := Lib.hid (HS.out w2 hb2)
    have k2 := hb2
    clear HS HI hb2
    go_wp2_with fail
    refine HS2.out.mono ?_
    rintro e w3 ⟨rfl, hb3⟩
    have b3 := below_next b2 hb3
    have k3 := below_next k2 hb3
    clear HS2 hb3
    go_wp2_with fail
    refine (HF.out _).mono ?_
    rintro e w4 ⟨⟨A4, c4, ys, rfl, hR4, hD4⟩, hb4⟩
    have b4 := below_next b3 hb4
    have HSm4 := Lib.hid (HSm.out A4 c4 ys w4 hR4 (HR.out w4 (below_next k3 hb4)) hD4)
    clear hR4 hD4 hb4 HF HSm HR k2 k3
    go_wp2_with fail
    refine HSm4.out.mono ?_
    rintro e w5 ⟨rfl, hb5⟩
    have b5 := below_next b4 hb5
    clear HSm4 hb5
    go_wp2_with fail
    refine (HC.out _).mono ?_
    rintro e w6 ⟨rfl, rfl⟩
    go_wp2
    go_returns
    exact ⟨rfl, b5⟩

set_option maxRecDepth 100000 in
theorem witness_row (os : Os) {H : Type} (enc : TypeId × Value → H) :
    (OpenSpec.ofChange Rows.fnLineTextSpec).preRow enc Tryd.prog Tryd.f3 Rows.fnLineTextRow.domain false Rows.fnLineTextRow.laid ((laidWorld os).forCall (fun _ _ => 0) ⟨#[], #[.slice none 0 0], []⟩).memory #[.slice none 0 0] := by
  have hw : (DataW.whole enc Tryd.prog ((laidWorld os).forCall (fun _ _ => 0) ⟨#[], #[.slice none 0 0], []⟩).memory Tryd.f3.params.toList (OpenSpec.ofChange Rows.fnLineTextSpec).vars false #[.slice none 0 0].toList 8).map (fun x => (x.1, x.2.1)) =
      some ([.nil], []) := by kernel_rfl
  obtain ⟨⟨x1, x2, x3⟩, hx, hx1⟩ := Option.map_eq_some_iff.1 hw
  simp only [Prod.mk.injEq] at hx1
  obtain ⟨rfl, rfl⟩ := hx1
  exact OpenSpec.preRow_of_cond 8 hx (by kernel_rfl) (fun k hk => by cases hk) (by kernel_rfl) (laid_met os _)
set_option maxRecDepth 100000 in
theorem lifted (os : Os) (started : os.Started) (H : Type) (enc : TypeId × Value → H) (F0 : Stop.Interp) :
    ReturnsInHanded {} Tryd.checked os 3 .any ((OpenSpec.ofChange Rows.fnLineTextSpec).preRow enc Tryd.prog Tryd.f3 Rows.fnLineTextRow.domain false Rows.fnLineTextRow.laid) (((OpenSpec.ofChange Rows.fnLineTextSpec).at F0).post enc Tryd.prog Tryd.f3 false true false false) := by
  refine returnsInHanded_of_row (C := Tryd.checked) (s := OpenSpec.ofChange Rows.fnLineTextSpec) own started (by kernel_rfl) Tryd.func3
    (witness_row_atRef (enc := enc) (C := Tryd.checked) false (laidWorld os) #[.slice none 0 0] rfl (by kernel_rfl) (by kernel_rfl) (by kernel_rfl) (witness_row os enc)) ?_
  intro W base args ds gs before hval0 hW _ _ _ hL _ _
  have HLd : laidMet Tryd.prog laidL W := hL
  have hval : ∀ (j : Nat) t v, Tryd.f3.params[j]? = some t → args[j]? = some v → Value.okWide Tryd.prog W .any base t v := hval0
  have hW' := hW
  obtain ⟨p, q, hA0, hV, rfl, hfz, hnd⟩ := hW
  have hA : DataW.TrodAll enc Tryd.prog W 0 (fun _ => true) true Tryd.f3.params.toList args.toList ds p := hA0
  rw [Tryd.params3] at hA hval
  obtain ⟨v0, vs0, d0, ds0, p0, q0, hargs, rfl, rfl, h0, r0⟩ := trodAll_cons hA
  obtain ⟨rfl, rfl, rfl⟩ := trodAll_nil r0
  obtain rfl : args = #[v0] := by cases args; simp_all
  obtain ⟨rfl, rfl⟩ := trodVars_none hV
  have k0 := h0
  have lt0 : ∀ x ∈ p0, x.block < W.heap.size := by obtain ⟨m, hm⟩ := k0; exact DataW.trod_lt m _ _ _ hm
  obtain ⟨A_0, n_0, c_0, bs_0, rfl, R_0⟩ := openBytes (hval 0 22 v0 rfl rfl) h0
  clear hA0 hval0
  refine (walk A_0 n_0 c_0 bs_0 W R_0 HLd).mono fun e W' ⟨he, bel⟩ => ?_
  subst he
  exact ⟨_, rfl, _, _, _, [], _, [], hW', trodAll_mk1 (shut_bool Tryd.underlying4 _), (trodAll_cons_mk (Below.trod laidOut (by kernel_rfl) (of_decide_eq_true (by kernel_rfl)) k0 bel lt0) trodAll_mk0), rfl, bel.frame _, fun h => by cases h⟩

theorem over : Rows.fnLineTextRow.holds Tryd.pinned (OpenSpec.ofChange Rows.fnLineTextSpec) :=
  OpenClaim.holds_of_cond 3 Tryd.f3 rfl rfl rfl rfl rfl rfl rfl ⟨rfl, rfl, rfl, rfl, rfl⟩ rfl rfl rfl rfl rfl (by kernel_rfl) Tryd.func3 (by kernel_rfl)
    (of_decide_eq_true (by kernel_rfl)) (by unfold Func.isWrapper; first | (rw [if_pos (by decide +kernel)]; kernel_rfl) | (rw [if_neg (by decide +kernel)]; exact ⟨rfl, rfl⟩))
    (fun os started H enc _ F0 => by rw [OpenClaim.pre_eq_preRow]; exact lifted os started H enc F0)

theorem proved : Rows.FnLineTextCardSaid :=
  Claim7.holds_tied_plain_at .later [] Rows.fnLineTextCard.laidKinds true Rows.fnLineTextCard.stood.harness false
    over (fun _ h => by cases h) (by kernel_rfl) (fun _ h => by cases h) fnLineText_row_tie rfl ⟨rfl, rfl⟩ (by kernel_rfl) rfl
    (fun f fn hf hfn => by
      obtain rfl : f = 3 := Option.some.inj ((show Tryd.prog.funcNamed "loop.example/shorthand/laws.FnLineText" = some 3 by kernel_rfl).symm.trans hf) |>.symm
      obtain rfl : fn = Tryd.f3 := (Option.some.inj (Tryd.func3.symm.trans hfn)).symm
      exact ⟨by kernel_rfl, fun j t ht => by
        rw [Tryd.params3] at ht
        have h3 : t = 22 := by
          rcases j with _ | j
          · simpa using ht.symm
          · simp at ht
        subst h3
        exact (show Tryd.prog.wantsStandIn 22 = false by kernel_rfl)⟩)
    (by kernel_rfl)
end Go.Proofs.YtppjjbjjbmodbaaDoor.fnLineText
