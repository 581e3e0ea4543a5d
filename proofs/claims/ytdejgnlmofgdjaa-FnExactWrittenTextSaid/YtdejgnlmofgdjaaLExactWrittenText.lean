/-
  The law FnExactWrittenText returns true for every input, and what was in memory before the call reads as before: the frame round its walk.
  Conditions: none.
-/
import Derived.Test.YtdejgnlmofgdjaaWLaw
import Derived.Deep.RegionHeld3
namespace Go.Proofs.Ytdejgnlmofgdjaa.fnExactWrittenText
open Go.ChangeShapes Go.WideShapes Go.ChangeAt Go.RowKit
set_option linter.unusedVariables false

set_option maxRecDepth 100000 in
set_option maxHeartbeats 800000 in
theorem walk (A : Option Addr) (n c : Nat) (ss : List Stroke) (p : Int) (W : World) (R : StrokesIn W W.heap.size A n c ss) (_wp : (Lit.int .i64 p).wf = true) :
    Calls Try.prog 8 #[.agg #[.slice A n c, .int .i64 p]] W fun e w' => e = .returned (.bool true) ∧ Below W.heap.size W w' := by
  have hal : Below W.heap.size W (W.alloc (.cells #[.slice A n c, .int .i64 p] 46)) := (Below.refl _ _).alloc (Nat.le_refl _) _
  have HR : Hid (∀ w, Below W.heap.size W w → StrokesIn w w.heap.size A n c ss) := Lib.hid (fun w h => R.keep h)
  have PK : Hid (∀ w, Below (W.heap.size + 1) (W.alloc (.cells #[.slice A n c, .int .i64 p] 46)) w → w.cell? ⟨W.heap.size, 0, none⟩ = some (.slice A n c) ∧ w.cell? ⟨W.heap.size, 1, none⟩ = some (.int .i64 p)) := Lib.hid (fun w hw => by
    have hw' : Below (W.alloc (.cells #[.slice A n c, .int .i64 p] 46)).heap.size (W.alloc (.cells #[.slice A n c, .int .i64 p] 46)) w := by simpa using hw
    exact ⟨kcell hw' (newcell W _ _ 0 _ rfl), kcell hw' (newcell W _ _ 1 _ rfl)⟩)
  have hnc := R.2.1; have hm := R.2.2.1
  have hlen := Lib.hid R.1
  have HG := Lib.hid R.2.2.2.2
  clear R
  go_enter Try.func8, Try.ntmps8
  go_wp2_with fail
  refine (szWritten A n c p 1048576 _ (by omega) (by omega) hm hnc).mono ?_
  rintro e w1 ⟨r, rfl, hr, hb1⟩
  have q1 : Below (W.heap.size + 1) (W.alloc (.cells #[.slice A n c, .int .i64 p] 46)) w1 := by simpa using hb1
  have b1 := below_next hal hb1
  have z1 := q1.size
  simp only [World.size_alloc] at z1
  clear hb1
  by_cases hneg : r < 0
  · go_wp2
    go_returns
    exact ⟨rfl, b1⟩
  have hpos : 0 ≤ r := by omega
  have hn : n ≤ 1048576 := by rcases hr with h | h <;> omega
  have hmx : n ≤ maxLen := Nat.le_trans hnc hm
  clear hneg hr
  obtain ⟨p0, p1⟩ := PK.out w1 q1
  go_wp2_with fail
  refine (toWritten A n c ss p w1 hn (HR.out w1 b1)).mono ?_
  rintro e w2 ⟨g2, rfl, hg2, hB2, hb2⟩
  have b2 := below_next b1 hb2
  have q2 := q1.trans (hb2.mono z1)
  have z2 := Nat.le_trans z1 hb2.size
  have HS2 := Lib.hid (StrokesIn.ofBlk hB2 hlen.out hmx HG.out)
  clear hB2 hb2 p0 p1
  go_wp2_with fail
  refine (specWrittenText _ n n ss p w2 HS2.out).mono ?_
  rintro e w3 ⟨rfl, hb3⟩
  have b3 := below_next b2 hb3
  have q3 := q2.trans (hb3.mono z2)
  have z3 := Nat.le_trans z2 hb3.size
  clear hb3 HS2
  obtain ⟨p0, p1⟩ := PK.out w3 q3
  go_wp2_with fail
  refine (toWritten A n c ss p w3 hn (HR.out w3 b3)).mono ?_
  rintro e w4 ⟨g4, rfl, hg4, hB4, hb4⟩
  have b4 := below_next b3 hb4
  have q4 := q3.trans (hb4.mono z3)
  have z4 := Nat.le_trans z3 hb4.size
  have HS4 := Lib.hid (StrokesIn.ofBlk hB4 hlen.out hmx HG.out)
  have ha4 : Below w4.heap.size w4 (w4.alloc (.cells #[.slice (some ⟨g4, 0, none⟩) n n, .int .i64 p] 50)) := (Below.refl _ _).alloc (Nat.le_refl _) _
  have HI4 := Lib.hid (implWrittenText _ n n ss p _ (HS4.out.keep ha4))
  have x0 := newcell w4 #[.slice (some ⟨g4, 0, none⟩) n n, .int .i64 p] 50 0 _ rfl
  have x1 := newcell w4 #[.slice (some ⟨g4, 0, none⟩) n n, .int .i64 p] 50 1 _ rfl
  clear hB4 hb4 p0 p1
  generalize mkStr (wrText ss p) = t at *
  have hne : (t.toList != t.toList) = false := by simp
  go_wp2_with fail
  refine HI4.out.mono ?_
  rintro e w5 ⟨rfl, hb5⟩
  have k5 := below_next ha4 hb5
  have b5 := below_next b4 k5
  have q5 := q4.trans (k5.mono z4)
  have z5 := Nat.le_trans z4 k5.size
  have HS5 := Lib.hid (HS4.out.keep k5)
  have y0 := kcell hb5 x0; have y1 := kcell hb5 x1
  clear hb5 x0 x1 HI4 HS4
  obtain ⟨p0, p1⟩ := PK.out w5 q5
  have HR5 := Lib.hid (HR.out w5.drew b5.drew)
  have HS5d : Hid (StrokesIn w5.drew w5.drew.heap.size (some ⟨g4, 0, none⟩) n n ss) := HS5
  have b5d := b5.drew
  obtain ⟨d0, d1, d2, d3⟩ : w5.drew.cell? ⟨w4.heap.size, 0, none⟩ = some (.slice (some ⟨g4, 0, none⟩) n n) ∧ w5.drew.cell? ⟨w4.heap.size, 1, none⟩ = some (.int .i64 p) ∧ w5.drew.cell? ⟨W.heap.size, 0, none⟩ = some (.slice A n c) ∧ w5.drew.cell? ⟨W.heap.size, 1, none⟩ = some (.int .i64 p) := ⟨y0, y1, p0, p1⟩
  go_wp2_with fail
  go_region_held3 (fun w' => w'.cell? ⟨w4.heap.size, 0, none⟩ = some (.slice (some ⟨g4, 0, none⟩) n n) ∧ w'.cell? ⟨w4.heap.size, 1, none⟩ = some (.int .i64 p) ∧ w'.cell? ⟨W.heap.size, 0, none⟩ = some (.slice A n c) ∧ w'.cell? ⟨W.heap.size, 1, none⟩ = some (.int .i64 p)) (first | exact ⟨by assumption, by assumption, by assumption, by assumption⟩ | go_keep)
    (first
      | (go_at_call 30; refine (toWritten A n c ss p _ hn HR5.out).mono ?_; rintro e w6 ⟨g6, rfl, hg6, hB6, hb6⟩; have e0 := kcell hb6 d0; have e1 := kcell hb6 d1; have e2 := kcell hb6 d2; have e3 := kcell hb6 d3; have b6 := below_next b5d hb6; have hS6 := HS5d.out.keep hb6; have hT6 := StrokesIn.ofBlk hB6 hlen.out hmx HG.out)
      | (go_at_call 32; refine (eqWritten _ _ n n n ss p _ hS6 hT6).mono ?_; rintro e w7 ⟨rfl, hb7⟩; have b7 := below_next b6 hb7; have f0 := kcell hb7 e0; have f1 := kcell hb7 e1; have f2 := kcell hb7 e2; have f3 := kcell hb7 e3))
  clear d0 d1 d2 d3 e0 e1 e2 e3 f0 f1 f2 f3 y0 y1 p0 p1 hS6 hT6 hB6 hb6 hb7
  go_wp2
  go_returns
  exact ⟨rfl, b7⟩

set_option maxRecDepth 100000 in
theorem lifted (os : Os) (started : os.Started) (H : Type) (enc : TypeId × Value → H) :
    ReturnsInHanded {} Try.checked os 8 .any (Rows.fnExactWrittenTextSpec.pre6 enc Try.prog Try.f8 Rows.fnExactWrittenTextRow.domain false) (Rows.fnExactWrittenTextSpec.post enc Try.prog Try.f8 false true false false) := by
  refine returnsInHanded_of_change (C := Try.checked) own started (by kernel_rfl) Try.func8
    (ChangeSpec.witness6 (enc := enc) (C := Try.checked) false ⟨#[], #[.agg #[.slice none 0 0, .int .i64 0]], []⟩ 8 (by kernel_rfl) (by kernel_rfl) (by kernel_rfl) (by kernel_rfl)) ?_
  intro W base args ds gs before hval0 hW hcnd _
  have hval : ∀ (j : Nat) t v, Try.f8.params[j]? = some t → args[j]? = some v → Value.okWide Try.prog W .any base t v := hval0
  have hW' := hW
  obtain ⟨p, q, hA0, hV, rfl, hfz, hnd⟩ := hW
  have hA : DataW.TrodAll enc Try.prog W 0 (fun _ => true) true Try.f8.params.toList args.toList ds p := hA0
  rw [Try.params8] at hA hval
  obtain ⟨v0, vs0, d0, ds0, p0, q0, hargs, rfl, rfl, h0, r0⟩ := trodAll_cons hA
  obtain ⟨rfl, rfl, rfl⟩ := trodAll_nil r0
  obtain rfl : args = #[v0] := by cases args; simp_all
  obtain ⟨rfl, rfl⟩ := trodVars_none hV
  have k0 := h0
  have lt0 : ∀ x ∈ p0, x.block < W.heap.size := by obtain ⟨m, hm⟩ := k0; exact DataW.trod_lt m _ _ _ hm
  obtain ⟨A_0, n_0, c_0, ss_0, p_0, rfl, R_0, wp_0⟩ := openWritten (hval 0 46 v0 rfl rfl) h0
  clear hA0 hval0
  refine (walk A_0 n_0 c_0 ss_0 p_0 W R_0 wp_0).mono fun e W' ⟨he, bel⟩ => ?_
  subst he
  exact ⟨_, rfl, _, _, _, [], _, [], hW', trodAll_mk1 (shut_bool Try.underlying4 _), (trodAll_cons_mk (Below.trod laidOut (by kernel_rfl) (of_decide_eq_true (by kernel_rfl)) k0 bel lt0) trodAll_mk0), rfl, bel.frame _, fun h => by cases h⟩

theorem over : Rows.fnExactWrittenTextRow.holds Try.pinned (OpenSpec.ofChange Rows.fnExactWrittenTextSpec) :=
  OpenClaim.holds_of_wide 8 Try.f8 rfl rfl rfl rfl rfl rfl rfl ⟨rfl, rfl, rfl, rfl, rfl⟩ rfl rfl rfl rfl rfl (by kernel_rfl) Try.func8 (by kernel_rfl)
    (of_decide_eq_true (by kernel_rfl)) (by unfold Func.isWrapper; first | (rw [if_pos (by decide +kernel)]; kernel_rfl) | (rw [if_neg (by decide +kernel)]; exact ⟨rfl, rfl⟩))
    (fun os started H enc _ => lifted os started H enc)

theorem proved : Rows.FnExactWrittenTextSaid := over
end Go.Proofs.Ytdejgnlmofgdjaa.fnExactWrittenText
