/-
  The law FnLineFrom returns true for every input, and what was in memory before the call reads as before: the frame round its walk.
  Conditions: none.
-/
import Derived.Test.YtppjjbjjbmodbaaDoorLaidUtf
import Derived.Test.YtppjjbjjbmodbaaDoorDrawL2
import Derived.Test.YtppjjbjjbmodbaaDoorLineI
import Derived.Test.YtppjjbjjbmodbaaDoorLineLaw
import Derived.Test.YtppjjbjjbmodbaaDoorLineS
import Derived.Test.YtppjjbjjbmodbaaDoorTie
import Derived.Test.YtppjjbjjbmodbaaDoorCards
import Derived.JoinedCond
import Derived.SevenTiedAt
namespace Go.Proofs.YtppjjbjjbmodbaaDoor.fnLineFrom
open Go.ChangeShapes Go.WideShapes Go.ChangeAt Go.RowKit
set_option linter.unusedVariables false

/-- A line that was read, or not. -/
def LineGot (o : Option (List Dat)) (N : Nat) (e : Ending) (w' : World) : Prop := ∃ A c ys, e = .returned (.tuple #[.slice A N c, .bool o.isSome]) ∧ WrsIn w' w'.heap.size A N c ys ∧ ys.map Wr.dat = o.getD []
theorem linGot {w' : World} {o : Option (List Dat)} {e : Ending} {N : Nat} (hN : (o.getD []).length = N) (h : LinAns w' o e) : LineGot o N e w' := by
  rcases h with ⟨rfl, A, c, rfl, hR⟩ | ⟨A, c, ys, rfl, rfl, hR⟩
  · subst hN
    exact ⟨A, c, [], rfl, hR, rfl⟩
  · have hl : ys.length = N := by rw [← hN]; simp
    rw [hl] at hR ⊢
    exact ⟨A, c, ys, rfl, hR, rfl⟩
set_option maxRecDepth 100000 in
set_option maxHeartbeats 3200000 in
theorem walk (A : Option Addr) (n c : Nat) (bs : List Int) (W : World) (hb : BytesIn W W.heap.size A n c bs) (HLd : laidMet Tryd.prog laidL W) :
    Calls Tryd.prog 4 #[.slice A n c] W fun e w' => e = .returned (.bool true) ∧ Below W.heap.size W w' := by
  have hm := hb.2.2.1
  have hnc := hb.2.1
  unfold maxLen at hm
  clear HLd
  by_cases hn : 1048576 < n
  · clear hb
    go_enter Tryd.func4, Tryd.ntmps4
    go_wp2
    go_returns
    exact ⟨rfl, by go_grown⟩
  have HD := Lib.hid (drawLineFrom A n c bs W hb)
  clear hb
  go_enter Tryd.func4, Tryd.ntmps4
  go_wp2_with fail
  refine HD.out.mono ?_
  rintro e w1 ⟨⟨l, rfl, hl⟩, b1⟩
  clear HD
  obtain ⟨N, hN⟩ : ∃ N, ((lineFrom l).getD []).length = N := ⟨_, rfl⟩
  have HI : Hid (∀ w, Calls Tryd.prog 8 #[.string (mkStr l)] w fun e w' => LineGot (lineFrom l) N e w' ∧ Below w.heap.size w w') := Lib.hid (fun w => (implLineFrom l w (by omega)).mono fun e w' h => ⟨linGot hN h.1, h.2⟩)
  have HS : Hid (∀ w, Calls Tryd.prog 12 #[.string (mkStr l)] w fun e w' => LineGot (lineFrom l) N e w' ∧ Below w.heap.size w w') := Lib.hid (fun w => (specLineFrom l w (by omega)).mono fun e w' h => ⟨linGot hN h.1, h.2⟩)
  have HSm := Lib.hid (fun (A4 A1 : Option Addr) (c4 c1 : Nat) (ys xs : List Wr) w (h : WrsIn w w.heap.size A4 N c4 ys) (h' : WrsIn w w.heap.size A1 N c1 xs) he => sameLine A4 A1 N c4 c1 ys xs w h h' he)
  cases hf : lineFrom l with
  | none =>
    rw [hf] at HI HS
    have hN0 := Lib.hid hN
    clear hf hN
    generalize mkStr l = t at *
    go_wp2_with fail
    refine (HI.out _).mono ?_
    rintro e w2 ⟨⟨A2, c2, ys2, rfl, hR2, hD2⟩, hb2⟩
    have b2 := below_next b1 hb2
    have HR2 := Lib.hid hR2; have HD2 := Lib.hid hD2
    clear hR2 hD2 hb2 HI
    go_wp2_with fail
    refine (HS.out _).mono ?_
    rintro e w3 ⟨⟨A3, c3, ys3, rfl, hR3, hD3⟩, hb3⟩
    have b3 := below_next b2 hb3
    have HR3 := Lib.hid hR3; have HR2b := Lib.hid (HR2.out.keep hb3)
    have HE : Hid (ys2.map Wr.dat = ys3.map Wr.dat) := Lib.hid (by rw [HD2.out, hD3])
    have HM3 := Lib.hid (HSm.out A2 A3 c2 c3 ys2 ys3 w3 HR2b.out HR3.out HE.out)
    clear hR3 hD3 hb3 HS HR2 HD2
    simp only [Option.isSome_none]
    go_wp2_with fail
    refine HM3.out.mono ?_
    rintro e w4 ⟨rfl, hb4⟩
    have b4 := below_next b3 hb4
    have HM4 := Lib.hid (HSm.out A2 A3 c2 c3 ys2 ys3 w4 (HR2b.out.keep hb4) (HR3.out.keep hb4) HE.out)
    clear hb4 HM3
    go_wp2_with fail
    refine HM4.out.mono ?_
    rintro e w5 ⟨rfl, hb5⟩
    have b5 := below_next b4 hb5
    clear hb5 HM4
    go_wp2
    go_returns
    exact ⟨rfl, b5⟩
  | some D =>
    rw [hf] at HI HS hN
    obtain ⟨hv, htx, hno⟩ := line_from hf
    have hadd : ∀ W, (Op.stringOp .add (mkStr l) { data := #[32] }).run Tryd.prog W = .ok (.string (mkStr (l ++ [32]))) W := fun W => run_add (P := Tryd.prog) l [32] (by simp; omega) W
    have HN : Hid (∀ w, Calls Tryd.prog 8 #[.string (mkStr (l ++ [32]))] w fun e w' => (∃ A c, e = .returned (.tuple #[.slice A 0 c, .bool false])) ∧ Below w.heap.size w w') := Lib.hid (fun w => by
      refine (implLineFrom (l ++ [32]) w (by simp; omega)).mono ?_
      rintro e w' ⟨hA, hb⟩
      rw [hno] at hA
      rcases hA with ⟨_, A, c, rfl, _⟩ | ⟨_, _, _, h, _⟩
      · exact ⟨⟨A, c, rfl⟩, hb⟩
      · cases h)
    have HV := Lib.hid (fun (A4 : Option Addr) (c4 : Nat) (ys : List Wr) w (h : WrsIn w w.heap.size A4 N c4 ys) (he : ys.map Wr.dat = D) => (show Calls Tryd.prog 13 #[.slice A4 N c4] w fun e w' => e = .returned (.bool true) ∧ Below w.heap.size w w' from by have h1 := implLineValid A4 N c4 ys w h; rwa [he, hv] at h1))
    have HT := Lib.hid (fun (A4 : Option Addr) (c4 : Nat) (ys : List Wr) w (h : WrsIn w w.heap.size A4 N c4 ys) (he : ys.map Wr.dat = D) => (show Calls Tryd.prog 6 #[.slice A4 N c4] w fun e w' => e = .returned (.string (mkStr l)) ∧ Below w.heap.size w w' from by have h1 := implLineText A4 N c4 ys w h; rwa [he, lineText_yes hv, htx] at h1))
    have hN0 := Lib.hid hN
    clear hf hv htx hno hN
    generalize mkStr (l ++ [32]) = t2 at *
    generalize mkStr l = t at *
    have heq : (t.toList == t.toList) = true := by simp
    go_wp2_with fail
    refine (HI.out _).mono ?_
    rintro e w2 ⟨⟨A2, c2, ys2, rfl, hR2, hD2⟩, hb2⟩
    have b2 := below_next b1 hb2
    have HR2 := Lib.hid hR2; have HD2 : Hid (ys2.map Wr.dat = D) := Lib.hid hD2
    clear hR2 hD2 hb2 HI
    go_wp2_with fail
    refine (HS.out _).mono ?_
    rintro e w3 ⟨⟨A3, c3, ys3, rfl, hR3, hD3⟩, hb3⟩
    have b3 := below_next b2 hb3
    have HR3 := Lib.hid hR3; have HR2b := Lib.hid (HR2.out.keep hb3)
    have HE : Hid (ys2.map Wr.dat = ys3.map Wr.dat) := Lib.hid (by rw [HD2.out]; exact hD3.symm)
    have HM3 := Lib.hid (HSm.out A2 A3 c2 c3 ys2 ys3 w3 HR2b.out HR3.out HE.out)
    clear hR3 hD3 hb3 HS HR2
    simp only [Option.isSome_some]
    go_wp2_with fail
    refine HM3.out.mono ?_
    rintro e w4 ⟨rfl, hb4⟩
    have b4 := below_next b3 hb4
    have HR4 := Lib.hid (HR2b.out.keep hb4)
    clear hb4 HM3 HR3 HR2b
    go_wp2_with fail
    refine (HN.out _).mono ?_
    rintro e w5 ⟨⟨A5, c5, rfl⟩, hb5⟩
    have b5 := below_next b4 hb5
    have HR5 := Lib.hid (HR4.out.keep hb5)
    have HV5 := Lib.hid (HV.out A2 c2 ys2 w5 HR5.out HD2.out)
    clear hb5 HR4 HN
    go_wp2_with fail
    refine HV5.out.mono ?_
    rintro e w6 ⟨rfl, hb6⟩
    have b6 := below_next b5 hb6
    have HT6 := Lib.hid (HT.out A2 c2 ys2 w6 (HR5.out.keep hb6) HD2.out)
    clear hb6 HV5 HV HT
    go_wp2_with fail
    refine HT6.out.mono ?_
    rintro e w7 ⟨rfl, hb7⟩
    have b7 := below_next b6 hb7
    clear hb7 HT6
    go_wp2
    go_returns
    exact ⟨rfl, b7⟩

set_option maxRecDepth 100000 in
theorem witness_row (os : Os) {H : Type} (enc : TypeId × Value → H) :
    (OpenSpec.ofChange Rows.fnLineFromSpec).preRow enc Tryd.prog Tryd.f4 Rows.fnLineFromRow.domain false Rows.fnLineFromRow.laid ((laidWorld os).forCall (fun _ _ => 0) ⟨#[], #[.slice none 0 0], []⟩).memory #[.slice none 0 0] := by
  have hw : (DataW.whole enc Tryd.prog ((laidWorld os).forCall (fun _ _ => 0) ⟨#[], #[.slice none 0 0], []⟩).memory Tryd.f4.params.toList (OpenSpec.ofChange Rows.fnLineFromSpec).vars false #[.slice none 0 0].toList 8).map (fun x => (x.1, x.2.1)) =
      some ([.nil], []) := by kernel_rfl
  obtain ⟨⟨x1, x2, x3⟩, hx, hx1⟩ := Option.map_eq_some_iff.1 hw
  simp only [Prod.mk.injEq] at hx1
  obtain ⟨rfl, rfl⟩ := hx1
  exact OpenSpec.preRow_of_cond 8 hx (by kernel_rfl) (fun k hk => by cases hk) (by kernel_rfl) (laid_met os _)
set_option maxRecDepth 100000 in
theorem lifted (os : Os) (started : os.Started) (H : Type) (enc : TypeId × Value → H) (F0 : Stop.Interp) :
    ReturnsInHanded {} Tryd.checked os 4 .any ((OpenSpec.ofChange Rows.fnLineFromSpec).preRow enc Tryd.prog Tryd.f4 Rows.fnLineFromRow.domain false Rows.fnLineFromRow.laid) (((OpenSpec.ofChange Rows.fnLineFromSpec).at F0).post enc Tryd.prog Tryd.f4 false true false false) := by
  refine returnsInHanded_of_row (C := Tryd.checked) (s := OpenSpec.ofChange Rows.fnLineFromSpec) own started (by kernel_rfl) Tryd.func4
    (witness_row_atRef (enc := enc) (C := Tryd.checked) false (laidWorld os) #[.slice none 0 0] rfl (by kernel_rfl) (by kernel_rfl) (by kernel_rfl) (witness_row os enc)) ?_
  intro W base args ds gs before hval0 hW _ _ _ hL _ _
  have HLd : laidMet Tryd.prog laidL W := hL
  have hval : ∀ (j : Nat) t v, Tryd.f4.params[j]? = some t → args[j]? = some v → Value.okWide Tryd.prog W .any base t v := hval0
  have hW' := hW
  obtain ⟨p, q, hA0, hV, rfl, hfz, hnd⟩ := hW
  have hA : DataW.TrodAll enc Tryd.prog W 0 (fun _ => true) true Tryd.f4.params.toList args.toList ds p := hA0
  rw [Tryd.params4] at hA hval
  obtain ⟨v0, vs0, d0, ds0, p0, q0, hargs, rfl, rfl, h0, r0⟩ := trodAll_cons hA
  obtain ⟨rfl, rfl, rfl⟩ := trodAll_nil r0
  obtain rfl : args = #[v0] := by cases args; simp_all
  obtain ⟨rfl, rfl⟩ := trodVars_none hV
  have k0 := h0
  have lt0 : ∀ x ∈ p0, x.block < W.heap.size := by obtain ⟨m, hm⟩ := k0; exact DataW.trod_lt m _ _ _ hm
  obtain ⟨A_0, n_0, c_0, bs_0, rfl, R_0⟩ := openBytes (hval 0 22 v0 rfl rfl) h0
  clear hA0 hval0
  refine (walk A_0 n_0 c_0 bs_0 W R_0 HLd).mono fun e W' ⟨he, bel⟩ => ?_
  subst he
  exact ⟨_, rfl, _, _, _, [], _, [], hW', trodAll_mk1 (shut_bool Tryd.underlying4 _), (trodAll_cons_mk (Below.trod laidOut (by kernel_rfl) (of_decide_eq_true (by kernel_rfl)) k0 bel lt0) trodAll_mk0), rfl, bel.frame _, fun h => by cases h⟩

theorem over : Rows.fnLineFromRow.holds Tryd.pinned (OpenSpec.ofChange Rows.fnLineFromSpec) :=
  OpenClaim.holds_of_cond 4 Tryd.f4 rfl rfl rfl rfl rfl rfl rfl ⟨rfl, rfl, rfl, rfl, rfl⟩ rfl rfl rfl rfl rfl (by kernel_rfl) Tryd.func4 (by kernel_rfl)
    (of_decide_eq_true (by kernel_rfl)) (by unfold Func.isWrapper; first | (rw [if_pos (by decide +kernel)]; kernel_rfl) | (rw [if_neg (by decide +kernel)]; exact ⟨rfl, rfl⟩))
    (fun os started H enc _ F0 => by rw [OpenClaim.pre_eq_preRow]; exact lifted os started H enc F0)

theorem proved : Rows.FnLineFromCardSaid :=
  Claim7.holds_tied_plain_at .later [] Rows.fnLineFromCard.laidKinds true Rows.fnLineFromCard.stood.harness false
    over (fun _ h => by cases h) (by kernel_rfl) (fun _ h => by cases h) fnLineFrom_row_tie rfl ⟨rfl, rfl⟩ (by kernel_rfl) rfl
    (fun f fn hf hfn => by
      obtain rfl : f = 4 := Option.some.inj ((show Tryd.prog.funcNamed "loop.example/shorthand/laws.FnLineFrom" = some 4 by kernel_rfl).symm.trans hf) |>.symm
      obtain rfl : fn = Tryd.f4 := (Option.some.inj (Tryd.func4.symm.trans hfn)).symm
      exact ⟨by kernel_rfl, fun j t ht => by
        rw [Tryd.params4] at ht
        have h3 : t = 22 := by
          rcases j with _ | j
          · simpa using ht.symm
          · simp at ht
        subst h3
        exact (show Tryd.prog.wantsStandIn 22 = false by kernel_rfl)⟩)
    (by kernel_rfl)
end Go.Proofs.YtppjjbjjbmodbaaDoor.fnLineFrom
