/-
  The law FnExactWrittenWays returns true for every input, and what was in memory before the call reads as before: the frame round its walk.
  Conditions: none.
-/
import Derived.Test.YtppjjbjjbmodbaaReadT
import Derived.Test.YtppjjbjjbmodbaaWLaw2
import Derived.Test.YtppjjbjjbmodbaaSgLaw
namespace Go.Proofs.Ytppjjbjjbmodbaa.fnExactWrittenWays
open Go.ChangeShapes Go.WideShapes Go.ChangeAt Go.RowKit
set_option linter.unusedVariables false

theorem szl {left r : Int} {n : Nat} (h : SzL left r n) (hr : ¬ r < 0) : 0 ≤ r ∧ r + n ≤ left := by
  rcases h with h | h
  · omega
  · exact h
set_option maxRecDepth 100000 in
set_option maxHeartbeats 1600000 in
theorem walk (A : Option Addr) (n c : Nat) (xs : List Sg) (A' : Option Addr) (n' c' : Nat) (ws : List (List UInt8)) (A2 : Option Addr) (n2 c2 : Nat) (ys : List Wr) (W : World) (R : SgsIn W W.heap.size A n c xs) (X : ∀ x ∈ xs, x.l.length ≤ maxLen) (R' : WdsIn W W.heap.size A' n' c' ws) (X' : ∀ l ∈ ws, l.length ≤ maxLen) (R2 : WrsIn W W.heap.size A2 n2 c2 ys) :
    Calls Try.prog 7 #[.slice A n c, .slice A' n' c', .slice A2 n2 c2] W fun e w' => e = .returned (.bool true) ∧ Below W.heap.size W w' := by
  have HR : Hid (∀ w, Below W.heap.size W w → SgsIn w w.heap.size A n c xs) := Lib.hid (fun w h => R.keep h)
  have HR' : Hid (∀ w, Below W.heap.size W w → WdsIn w w.heap.size A' n' c' ws) := Lib.hid (fun w h => R'.keep h)
  have HR2 : Hid (∀ w, Below W.heap.size W w → WrsIn w w.heap.size A2 n2 c2 ys) := Lib.hid (fun w h => R2.keep h)
  have HX := Lib.hid X; have HX' := Lib.hid X'
  have HL := Lib.hid R.1; have HL' := Lib.hid R'.1; have HG := Lib.hid R.2.2.2.2
  clear R R' R2 X X'
  go_enter Try.func7, Try.ntmps7
  go_wp2_with fail
  refine (szSignS A n c xs 1048576 W (by omega) (by omega) (HR.out W (Below.refl _ _)) HX.out).mono ?_
  rintro e w1 ⟨r1, rfl, hr1, b1⟩
  by_cases hneg : r1 < 0
  · go_wp2
    go_returns
    exact ⟨rfl, b1⟩
  obtain ⟨hp1, hs1⟩ := szl hr1 hneg
  have hn : n ≤ 1048576 := by omega
  have hr1' : r1 ≤ 1048576 := by omega
  clear hneg hr1 hs1
  go_wp2_with fail
  refine (szStringS A' n' c' ws r1 w1 hp1 hr1' (HR'.out w1 b1) HX'.out).mono ?_
  rintro e w1' ⟨r2, rfl, hr2, rfl⟩
  by_cases hneg : r2 < 0
  · go_wp2
    go_returns
    exact ⟨rfl, b1⟩
  obtain ⟨hp2, hs2⟩ := szl hr2 hneg
  have hn' : n' ≤ 1048576 := by omega
  have hr2' : r2 ≤ 1048576 := by omega
  clear hneg hr2 hs2
  go_wp2_with fail
  refine (szWrittenS A2 n2 c2 ys r2 w1 hp2 hr2' (HR2.out w1 b1)).mono ?_
  rintro e w2 ⟨r3, rfl, hr3, hb2⟩
  have b2 := below_next b1 hb2
  by_cases hneg : r3 < 0
  · go_wp2
    go_returns
    exact ⟨rfl, b2⟩
  obtain ⟨hp3, hs3⟩ := szl hr3 hneg
  have HN2 : Hid (n2 + lineSz ys ≤ 1048576) := Lib.hid (by omega)
  have hmx : n ≤ maxLen := by unfold maxLen; omega
  have hmx' : n' ≤ maxLen := by unfold maxLen; omega
  have HC1 := Lib.hid (fun w (h : Below W.heap.size W w) => toSignS A n c xs w hn (HR.out w h))
  have HC2 := Lib.hid (fun w (h : Below W.heap.size W w) => toStringS A' n' c' ws w hn' (HR'.out w h))
  have HC3 := Lib.hid (fun w (h : Below W.heap.size W w) => toWrittenS A2 n2 c2 ys w HN2.out (HR2.out w h))
  clear hneg hr3 hs3 hb2 hp2 hp1 hr1' hr2' HR HR' HR2 HX
  -- the reference
  go_wp2_with fail
  refine (HC1.out w2 b2).mono ?_
  rintro e w3 ⟨rfl, hB3, hb3⟩
  have b3 := below_next b2 hb3
  have S3 := Lib.hid (SgsIn.ofBlk hB3 HL.out hmx HG.out)
  clear hB3 hb3
  go_wp2_with fail
  refine (HC2.out w3 b3).mono ?_
  rintro e w4 ⟨rfl, hB4, hb4⟩
  have b4 := below_next b3 hb4
  have S4 := Lib.hid (S3.out.keep hb4)
  have D4 := Lib.hid (WdsIn.ofBlk hB4 HL'.out hmx')
  clear hB4 hb4 S3
  go_wp2_with fail
  refine (HC3.out w4 b4).mono ?_
  rintro e w5 ⟨z5, rfl, hZ5, hd5, hb5⟩
  have b5 := below_next b4 hb5
  have HS5 := Lib.hid (specWrittenWays _ n n xs _ n' n' ws _ n2 n2 z5 w5 HX'.out (S4.out.keep hb5) (D4.out.keep hb5) hZ5)
  rw [hd5] at HS5
  clear hZ5 hd5 hb5 S4 D4
  go_wp2_with fail
  refine HS5.out.mono ?_
  rintro e w6 ⟨rfl, hb6⟩
  have b6 := below_next b5 hb6
  clear hb6 HS5
  -- the program
  go_wp2_with fail
  refine (HC1.out w6 b6).mono ?_
  rintro e w7 ⟨rfl, hB7, hb7⟩
  have b7 := below_next b6 hb7
  have S7 := Lib.hid (SgsIn.ofBlk hB7 HL.out hmx HG.out)
  clear hB7 hb7
  go_wp2_with fail
  refine (HC2.out w7 b7).mono ?_
  rintro e w8 ⟨rfl, hB8, hb8⟩
  have b8 := below_next b7 hb8
  have S8 := Lib.hid (S7.out.keep hb8)
  have D8 := Lib.hid (WdsIn.ofBlk hB8 HL'.out hmx')
  clear hB8 hb8 S7
  go_wp2_with fail
  refine (HC3.out w8 b8).mono ?_
  rintro e w9 ⟨z9, rfl, hZ9, hd9, hb9⟩
  have b9 := below_next b8 hb9
  have S9 := Lib.hid (S8.out.keep hb9)
  have D9 := Lib.hid (D8.out.keep hb9)
  have Z9 := Lib.hid hZ9
  have HD9 := Lib.hid hd9
  have HI9 := Lib.hid (implWrittenWays _ n n xs _ n' n' ws _ n2 n2 z9 w9 HX'.out S9.out D9.out hZ9)
  rw [hd9] at HI9
  clear hZ9 hd9 hb9 S8 D8
  go_wp2_with fail
  refine HI9.out.mono ?_
  rintro e w10 ⟨rfl, hb10⟩
  have b10 := below_next b9 hb10
  have S10 := Lib.hid (S9.out.keep hb10)
  have D10 := Lib.hid (D9.out.keep hb10)
  have Z10 := Lib.hid (Z9.out.keep hb10)
  clear hb10 HI9 S9 D9 Z9
  generalize waysOf xs ws (ys.map Wr.dat) = T at *
  have hne : (T != T) = false := by simp
  -- the arguments are as they were
  go_wp2_with fail
  refine (HC1.out w10 b10).mono ?_
  rintro e w11 ⟨rfl, hB11, hb11⟩
  have b11 := below_next b10 hb11
  have HE11 := Lib.hid (eqSignS _ _ n n n xs w11 (S10.out.keep hb11) (SgsIn.ofBlk hB11 HL.out hmx HG.out))
  have D11 := Lib.hid (D10.out.keep hb11)
  have Z11 := Lib.hid (Z10.out.keep hb11)
  clear hB11 hb11 S10 D10 Z10
  go_wp2_with fail
  refine HE11.out.mono ?_
  rintro e w12 ⟨rfl, hb12⟩
  have b12 := below_next b11 hb12
  have D12 := Lib.hid (D11.out.keep hb12)
  have Z12 := Lib.hid (Z11.out.keep hb12)
  clear hb12 HE11 D11 Z11
  go_wp2_with fail
  refine (HC2.out w12 b12).mono ?_
  rintro e w13 ⟨rfl, hB13, hb13⟩
  have b13 := below_next b12 hb13
  have HE13 := Lib.hid (eqStringS _ _ n' n' n' ws w13 (D12.out.keep hb13) (WdsIn.ofBlk hB13 HL'.out hmx'))
  have Z13 := Lib.hid (Z12.out.keep hb13)
  clear hB13 hb13 D12 Z12
  go_wp2_with fail
  refine HE13.out.mono ?_
  rintro e w14 ⟨rfl, hb14⟩
  have b14 := below_next b13 hb14
  have Z14 := Lib.hid (Z13.out.keep hb14)
  clear hb14 HE13 Z13
  go_wp2_with fail
  refine (HC3.out w14 b14).mono ?_
  rintro e w15 ⟨z15, rfl, hZ15, hd15, hb15⟩
  have b15 := below_next b14 hb15
  have HE15 := Lib.hid (eqWrittenS _ _ n2 n2 n2 z9 z15 w15 (by rw [HD9.out, hd15]) (Z14.out.keep hb15) hZ15)
  clear hZ15 hd15 hb15 Z14
  go_wp2_with fail
  refine HE15.out.mono ?_
  rintro e w16 ⟨rfl, hb16⟩
  have b16 := below_next b15 hb16
  go_wp2
  go_returns
  exact ⟨rfl, b16⟩

set_option maxRecDepth 100000 in
theorem lifted (os : Os) (started : os.Started) (H : Type) (enc : TypeId × Value → H) :
    ReturnsInHanded {} Try.checked os 7 .any (Rows.fnExactWrittenWaysSpec.pre6 enc Try.prog Try.f7 Rows.fnExactWrittenWaysRow.domain false) (Rows.fnExactWrittenWaysSpec.post enc Try.prog Try.f7 false true false false) := by
  refine returnsInHanded_of_change (C := Try.checked) own started (by kernel_rfl) Try.func7
    (ChangeSpec.witness6 (enc := enc) (C := Try.checked) false ⟨#[], #[.slice none 0 0, .slice none 0 0, .slice none 0 0], []⟩ 8 (by kernel_rfl) (by kernel_rfl) (by kernel_rfl) (by kernel_rfl)) ?_
  intro W base args ds gs before hval0 hW hcnd _
  have hval : ∀ (j : Nat) t v, Try.f7.params[j]? = some t → args[j]? = some v → Value.okWide Try.prog W .any base t v := hval0
  have hW' := hW
  obtain ⟨p, q, hA0, hV, rfl, hfz, hnd⟩ := hW
  have hA : DataW.TrodAll enc Try.prog W 0 (fun _ => true) true Try.f7.params.toList args.toList ds p := hA0
  rw [Try.params7] at hA hval
  obtain ⟨v0, vs0, d0, ds0, p0, q0, hargs, rfl, rfl, h0, r0⟩ := trodAll_cons hA
  obtain ⟨v1, vs1, d1, ds1, p1, q1, rfl, rfl, rfl, h1, r1⟩ := trodAll_cons r0
  obtain ⟨v2, vs2, d2, ds2, p2, q2, rfl, rfl, rfl, h2, r2⟩ := trodAll_cons r1
  obtain ⟨rfl, rfl, rfl⟩ := trodAll_nil r2
  obtain rfl : args = #[v0, v1, v2] := by cases args; simp_all
  obtain ⟨rfl, rfl⟩ := trodVars_none hV
  have k0 := h0
  have lt0 : ∀ x ∈ p0, x.block < W.heap.size := by obtain ⟨m, hm⟩ := k0; exact DataW.trod_lt m _ _ _ hm
  obtain ⟨A_0, n_0, c_0, ss_0, rfl, R_0, X_0⟩ := openSigns (hval 0 47 v0 rfl rfl) h0
  have k1 := h1
  have lt1 : ∀ x ∈ p1, x.block < W.heap.size := by obtain ⟨m, hm⟩ := k1; exact DataW.trod_lt m _ _ _ hm
  obtain ⟨A_1, n_1, c_1, ws_1, rfl, R_1, X_1⟩ := openWords (hval 1 24 v1 rfl rfl) h1
  have k2 := h2
  have lt2 : ∀ x ∈ p2, x.block < W.heap.size := by obtain ⟨m, hm⟩ := k2; exact DataW.trod_lt m _ _ _ hm
  obtain ⟨A_2, n_2, c_2, ws_2, rfl, R_2⟩ := openWrittens (hval 2 64 v2 rfl rfl) h2
  clear hA0 hval0
  refine (walk A_0 n_0 c_0 ss_0 A_1 n_1 c_1 ws_1 A_2 n_2 c_2 ws_2 W R_0 X_0 R_1 X_1 R_2).mono fun e W' ⟨he, bel⟩ => ?_
  subst he
  exact ⟨_, rfl, _, _, _, [], _, [], hW', trodAll_mk1 (shut_bool Try.underlying4 _), (trodAll_cons_mk (Below.trod laidOut (by kernel_rfl) (of_decide_eq_true (by kernel_rfl)) k0 bel lt0) (trodAll_cons_mk (Below.trod laidOut (by kernel_rfl) (of_decide_eq_true (by kernel_rfl)) k1 bel lt1) (trodAll_cons_mk (Below.trod laidOut (by kernel_rfl) (of_decide_eq_true (by kernel_rfl)) k2 bel lt2) trodAll_mk0))), rfl, bel.frame _, fun h => by cases h⟩

theorem over : Rows.fnExactWrittenWaysRow.holds Try.pinned (OpenSpec.ofChange Rows.fnExactWrittenWaysSpec) :=
  OpenClaim.holds_of_wide 7 Try.f7 rfl rfl rfl rfl rfl rfl rfl ⟨rfl, rfl, rfl, rfl, rfl⟩ rfl rfl rfl rfl rfl (by kernel_rfl) Try.func7 (by kernel_rfl)
    (of_decide_eq_true (by kernel_rfl)) (by unfold Func.isWrapper; first | (rw [if_pos (by decide +kernel)]; kernel_rfl) | (rw [if_neg (by decide +kernel)]; exact ⟨rfl, rfl⟩))
    (fun os started H enc _ => lifted os started H enc)

theorem proved : Rows.FnExactWrittenWaysSaid := over
end Go.Proofs.Ytppjjbjjbmodbaa.fnExactWrittenWays
