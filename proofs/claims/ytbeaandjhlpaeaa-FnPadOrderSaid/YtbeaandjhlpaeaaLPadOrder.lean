/-
  The law FnPadOrder returns true for every input, and what was in memory before the call reads as before: the frame round its walk.
  Conditions: none.
-/
import Derived.Test.YtbeaandjhlpaeaaDrawPadOrder
namespace Go.Proofs.Ytbeaandjhlpaeaa.fnPadOrder
open Go.ChangeShapes Go.WideShapes Go.ChangeAt Go.RowKit
set_option linter.unusedVariables false

theorem cb_swap : ∀ a b : List UInt8, Lib.compareBytes b a = - Lib.compareBytes a b
  | [], [] => rfl
  | [], _ :: _ => rfl
  | _ :: _, [] => rfl
  | x :: a, y :: b => by
    have ih := cb_swap a b
    unfold Lib.compareBytes
    by_cases h1 : x < y
    · have h2 : ¬ y < x := fun h => by rw [UInt8.lt_iff_toNat_lt] at h h1; omega
      simp [h1, h2]
    · by_cases h2 : y < x
      · simp [h1, h2]
      · simp [h1, h2, ih]
theorem cb_zero {a b : List UInt8} : Lib.compareBytes a b = 0 ↔ a = b := by
  rw [cb_spec]
  by_cases h : Op.bytesLess a b = true
  · rw [if_pos h]
    constructor
    · intro h; cases h
    · rintro rfl
      have := cb_swap a a
      rw [cb_spec, if_pos h] at this
      omega
  · rw [if_neg h]
    by_cases he : a = b <;> simp [he]

theorem small_max {d : Int} {c : ByteArray} (h : SmallPad d c) : c.size ≤ maxLen := by
  have := h.2.2; unfold maxLen; omega

theorem ordP_swap (d : Int) (c : List UInt8) (d' : Int) (c' : List UInt8) : ordP d' c' d c = - ordP d c d' c' := by
  rcases Int.lt_trichotomy d d' with h | h | h
  · rw [ordP_lt h, ordP_gt h]; rfl
  · subst h; rw [ordP_eq, ordP_eq, cb_swap]
  · rw [ordP_lt h, ordP_gt h]

theorem last (d : Int) (c : ByteArray) (d' : Int) (c' : ByteArray) (o : Int) (ho : ordP d c.data.toList d' c'.data.toList = o) :
    (o = -1 ∨ o = 0 ∨ o = 1) ∧ ordP d' c'.data.toList d c.data.toList = 0 - o ∧ ((o == 0) = (d == d' && c.toList == c'.toList)) ∧ (d = d' ∨ ((o == -1) = decide (d < d'))) := by
  refine ⟨?_, by rw [ordP_swap, ho]; omega, ?_, ?_⟩
  · rcases Int.lt_trichotomy d d' with h | h | h
    · rw [← ho, ordP_lt h]; simp
    · subst h; rw [ordP_eq, cb_spec] at ho; rw [← ho]; split
      · simp
      · split <;> simp
    · rw [← ho, ordP_gt h]; simp
  · rcases Int.lt_trichotomy d d' with h | h | h
    · have : (d == d') = false := by simp; omega
      rw [← ho, ordP_lt h, this]; rfl
    · subst h
      rw [toL, toL, ← ho, ordP_eq]
      generalize c.data.toList = x
      generalize c'.data.toList = y
      by_cases hz : x = y
      · rw [cb_zero.2 hz]; simp [hz]
      · have h1 : Lib.compareBytes x y ≠ 0 := fun h => hz (cb_zero.1 h)
        rw [beq_eq_false_iff_ne.2 h1, beq_eq_false_iff_ne.2 hz]; simp
    · have : (d == d') = false := by simp; omega
      rw [← ho, ordP_gt h, this]; rfl
  · rcases Int.lt_trichotomy d d' with h | h | h
    · right; rw [← ho, ordP_lt h]; simp [h]
    · left; exact h
    · right; rw [← ho, ordP_gt h]; simp; omega

theorem walk (A : Option Addr) (n c : Nat) (bs : List Int) (W : World) (hb : BytesIn W W.heap.size A n c bs) :
    Calls Try.prog 5 #[.slice A n c] W fun e w' => e = .returned (.bool true) ∧ Below W.heap.size W w' := by
  have hm := hb.2.2.1
  have hnc := hb.2.1
  unfold maxLen at hm
  by_cases hn : 1048576 < n
  · clear hb
    go_enter Try.func5, Try.ntmps5
    go_wp2
    go_returns
    exact ⟨rfl, by go_grown⟩
  have HD := drawPadOrder A n c bs W hb
  have HH := Lib.hid HD
  clear hb HD
  go_enter Try.func5, Try.ntmps5
  go_wp2_with fail
  refine HH.out.mono ?_
  rintro e w1 ⟨d, cc, d', cc', rfl, hs1, hs2, b1⟩
  have z1 := b1.size
  have hc1 := small_max hs1
  have hc2 := small_max hs2
  clear hs1 hs2 HH
  go_wp2_with fail
  refine (implPadOrder _ _ _ _ _ hc1 hc2).mono ?_; rintro e w2 ⟨rfl, hb2⟩
  have b2 := below_next (show Below W.heap.size W _ by go_grown) hb2
  obtain ⟨p0, p1, q0, q1⟩ := box2 hb2
  clear hb2
  go_wp2_with fail
  refine (specPadOrder _ _ _ _ _ hc1 hc2).mono ?_; rintro e w3 ⟨rfl, hb3⟩
  have b3 := below_next b2 hb3
  obtain ⟨p0, p1, q0, q1⟩ := keep4 hb3 p0 p1 q0 q1
  clear hb3
  by_cases hv : poB d cc.data.toList d' cc'.data.toList = true
  · have HV := Lib.hid hv
    have hN : poN d cc.data.toList d' cc'.data.toList = ordP d cc.data.toList d' cc'.data.toList := by unfold poN; rw [if_pos hv]
    rw [hv, hN]
    have hv' : poB d' cc'.data.toList d cc.data.toList = true := by unfold poB at hv ⊢; rw [Bool.and_comm]; exact hv
    have hN' : poN d' cc'.data.toList d cc.data.toList = ordP d' cc'.data.toList d cc.data.toList := by unfold poN; rw [if_pos hv']
    have HN' := Lib.hid hN'; have HV' := Lib.hid hv'
    clear hv hv' hN hN'
    generalize ho : ordP d cc.data.toList d' cc'.data.toList = o
    obtain ⟨ho3, hsw, heq0, hlt⟩ := last d cc d' cc' o ho
    have HSW := Lib.hid hsw
    clear ho hsw
    have hg : Try.prog.eqGuardType Try.prog.depth 26 = false := by kernel_rfl
    rcases ho3 with rfl | rfl | rfl
    · have hab : (d == d' && cc.toList == cc'.toList) = false := by rw [← heq0]; rfl
      have hE := fun w => (eqPadRun d cc d' cc' w).trans (by rw [hab])
      clear heq0 hab
      rcases hlt with rfl | hlt
      · go_wp2_with fail
        refine (implPadOrder _ _ _ _ _ hc2 hc1).mono ?_; rintro e w4 ⟨rfl, hb4⟩
        have b4 := below_next b3 hb4
        obtain ⟨p0, p1, q0, q1⟩ := keep4 hb4 p0 p1 q0 q1
        clear hb4
        rw [HN'.out, HV'.out, HSW.out]
        go_wp2
        go_returns
        exact ⟨rfl, b4⟩
      · have hlt' : d < d' := by simpa using hlt
        have hne : (d == d') = false := by simp; omega
        clear hlt
        go_wp2_with fail
        refine (implPadOrder _ _ _ _ _ hc2 hc1).mono ?_; rintro e w4 ⟨rfl, hb4⟩
        have b4 := below_next b3 hb4
        obtain ⟨p0, p1, q0, q1⟩ := keep4 hb4 p0 p1 q0 q1
        clear hb4
        rw [HN'.out, HV'.out, HSW.out]
        go_wp2
        go_returns
        exact ⟨rfl, b4⟩
    · have hab : (d == d' && cc.toList == cc'.toList) = true := by rw [← heq0]; rfl
      have hE := fun w => (eqPadRun d cc d' cc' w).trans (by rw [hab])
      obtain rfl : d = d' := by simp at hab; exact hab.1
      clear heq0 hab hlt
      go_wp2_with fail
      refine (implPadOrder _ _ _ _ _ hc2 hc1).mono ?_; rintro e w4 ⟨rfl, hb4⟩
      have b4 := below_next b3 hb4
      obtain ⟨p0, p1, q0, q1⟩ := keep4 hb4 p0 p1 q0 q1
      clear hb4
      rw [HN'.out, HV'.out, HSW.out]
      go_wp2
      go_returns
      exact ⟨rfl, b4⟩
    · have hab : (d == d' && cc.toList == cc'.toList) = false := by rw [← heq0]; rfl
      have hE := fun w => (eqPadRun d cc d' cc' w).trans (by rw [hab])
      clear heq0 hab
      rcases hlt with rfl | hlt
      · go_wp2_with fail
        refine (implPadOrder _ _ _ _ _ hc2 hc1).mono ?_; rintro e w4 ⟨rfl, hb4⟩
        have b4 := below_next b3 hb4
        obtain ⟨p0, p1, q0, q1⟩ := keep4 hb4 p0 p1 q0 q1
        clear hb4
        rw [HN'.out, HV'.out, HSW.out]
        go_wp2
        go_returns
        exact ⟨rfl, b4⟩
      · by_cases hdd : d = d'
        · subst hdd
          clear hlt
          go_wp2_with fail
          refine (implPadOrder _ _ _ _ _ hc2 hc1).mono ?_; rintro e w4 ⟨rfl, hb4⟩
          have b4 := below_next b3 hb4
          obtain ⟨p0, p1, q0, q1⟩ := keep4 hb4 p0 p1 q0 q1
          clear hb4
          rw [HN'.out, HV'.out, HSW.out]
          go_wp2
          go_returns
          exact ⟨rfl, b4⟩
        · have hlt' : d' < d := by
            have : ¬ d < d' := by simpa using hlt
            omega
          have hne : (d == d') = false := by simp; omega
          clear hlt hdd
          go_wp2_with fail
          refine (implPadOrder _ _ _ _ _ hc2 hc1).mono ?_; rintro e w4 ⟨rfl, hb4⟩
          have b4 := below_next b3 hb4
          obtain ⟨p0, p1, q0, q1⟩ := keep4 hb4 p0 p1 q0 q1
          clear hb4
          rw [HN'.out, HV'.out, HSW.out]
          go_wp2
          go_returns
          exact ⟨ret_bool (by simp; omega), b4⟩
  · have hv' : poB d cc.data.toList d' cc'.data.toList = false := by simpa using hv
    have hN : poN d cc.data.toList d' cc'.data.toList = 0 := by unfold poN; rw [if_neg hv]
    rw [hv', hN]
    clear hv hv' hN
    go_wp2
    go_returns
    exact ⟨rfl, b3⟩

set_option maxRecDepth 100000 in
theorem lifted (os : Os) (started : os.Started) (H : Type) (enc : TypeId × Value → H) :
    ReturnsInHanded {} Try.checked os 5 .any (Rows.fnPadOrderSpec.pre6 enc Try.prog Try.f5 Rows.fnPadOrderRow.domain false) (Rows.fnPadOrderSpec.post enc Try.prog Try.f5 false true false false) := by
  refine returnsInHanded_of_change (C := Try.checked) own started (by kernel_rfl) Try.func5
    (ChangeSpec.witness6 (enc := enc) (C := Try.checked) false ⟨#[], #[.slice none 0 0], []⟩ 8 (by kernel_rfl) (by kernel_rfl) (by kernel_rfl) (by kernel_rfl)) ?_
  intro W base args ds gs before hval0 hW hcnd _
  have hval : ∀ (j : Nat) t v, Try.f5.params[j]? = some t → args[j]? = some v → Value.okWide Try.prog W .any base t v := hval0
  have hW' := hW
  obtain ⟨p, q, hA0, hV, rfl, hfz, hnd⟩ := hW
  have hA : DataW.TrodAll enc Try.prog W 0 (fun _ => true) true Try.f5.params.toList args.toList ds p := hA0
  rw [Try.params5] at hA hval
  obtain ⟨v0, vs0, d0, ds0, p0, q0, hargs, rfl, rfl, h0, r0⟩ := trodAll_cons hA
  obtain ⟨rfl, rfl, rfl⟩ := trodAll_nil r0
  obtain rfl : args = #[v0] := by cases args; simp_all
  obtain ⟨rfl, rfl⟩ := trodVars_none hV
  have k0 := h0
  have lt0 : ∀ x ∈ p0, x.block < W.heap.size := by obtain ⟨m, hm⟩ := k0; exact DataW.trod_lt m _ _ _ hm
  obtain ⟨A_0, n_0, c_0, bs_0, rfl, R_0⟩ := openBytes (hval 0 32 v0 rfl rfl) h0
  clear hA0 hval0
  refine (walk A_0 n_0 c_0 bs_0 W R_0).mono fun e W' ⟨he, bel⟩ => ?_
  subst he
  exact ⟨_, rfl, _, _, _, [], _, [], hW', trodAll_mk1 (shut_bool Try.underlying4 _), (trodAll_cons_mk (Below.trod laidOut (by kernel_rfl) (of_decide_eq_true (by kernel_rfl)) k0 bel lt0) trodAll_mk0), rfl, bel.frame _, fun h => by cases h⟩

theorem over : Rows.fnPadOrderRow.holds Try.pinned (OpenSpec.ofChange Rows.fnPadOrderSpec) :=
  OpenClaim.holds_of_wide 5 Try.f5 rfl rfl rfl rfl rfl rfl rfl ⟨rfl, rfl, rfl, rfl, rfl⟩ rfl rfl rfl rfl rfl (by kernel_rfl) Try.func5 (by kernel_rfl)
    (of_decide_eq_true (by kernel_rfl)) (by unfold Func.isWrapper; first | (rw [if_pos (by decide +kernel)]; kernel_rfl) | (rw [if_neg (by decide +kernel)]; exact ⟨rfl, rfl⟩))
    (fun os started H enc _ => lifted os started H enc)

theorem proved : Rows.FnPadOrderSaid := over
end Go.Proofs.Ytbeaandjhlpaeaa.fnPadOrder
