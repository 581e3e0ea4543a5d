/-
  The law FnWrittenFrom returns true for every input, and what was in memory before the call reads as before: the frame round its walk.
  Conditions: none.
-/
import Derived.Test.YtdejgnlmofgdjaaDrawW2
import Derived.Test.YtdejgnlmofgdjaaSameW
import Derived.Test.YtdejgnlmofgdjaaWrFrom
namespace Go.Proofs.Ytdejgnlmofgdjaa.fnWrittenFrom
open Go.ChangeShapes Go.WideShapes Go.ChangeAt Go.RowKit
set_option linter.unusedVariables false

theorem from_digit {c : UInt8} {r : List UInt8} {o : List Stroke} (h : fromS (c :: r) = some o) : markN c < 0 := by
  obtain ⟨h1, h2, h3⟩ := fromS_some h
  cases r with
  | nil => simp at h1
  | cons b r =>
    have hk := outB_ok h2 (s := ⟨(c.toNat : Int) - 48, sizeN b⟩) (by rw [h3]; simp [pairsS])
    have h4 := okS_iff.1 hk
    simp only at h4
    unfold markN
    by_cases e1 : c = 94
    · subst e1; simp at h4
    · by_cases e2 : c = 45
      · subst e2; simp at h4
      · by_cases e3 : c = 95
        · subst e3; simp at h4
        · rw [if_neg e1, if_neg e2, if_neg e3]; omega
theorem from_next {l : List UInt8} {o : List Stroke} (h : fromS l = some o) : wrFrom l = none := by
  cases l with
  | nil => rfl
  | cons c r => exact wr_no (.inl (from_digit h))
theorem wr_next {c : UInt8} {r : List UInt8} {x : List Stroke × Int} (h : wrFrom (c :: r) = some x) : wrFrom r = none := by
  simp only [wrFrom] at h
  split at h
  · cases hf : fromS r with
    | none => rw [hf] at h; cases h
    | some o => exact from_next hf
  · cases h
set_option maxRecDepth 100000 in
set_option maxHeartbeats 3200000 in
theorem walk (A : Option Addr) (n c : Nat) (bs : List Int) (W : World) (hb : BytesIn W W.heap.size A n c bs) :
    Calls Try.prog 10 #[.slice A n c] W fun e w' => e = .returned (.bool true) ∧ Below W.heap.size W w' := by
  have hm := hb.2.2.1
  have hnc := hb.2.1
  unfold maxLen at hm
  by_cases hn : 1048576 < n
  · clear hb
    go_enter Try.func10, Try.ntmps10
    go_wp2
    go_returns
    exact ⟨rfl, by go_grown⟩
  have HD := Lib.hid (drawWrittenFrom A n c bs W hb)
  clear hb
  go_enter Try.func10, Try.ntmps10
  go_wp2_with fail
  refine HD.out.mono ?_
  rintro e w1 ⟨⟨s, rfl, hs⟩, b1⟩
  clear HD
  rw [← mkStr_self s] at hs ⊢
  generalize s.data.toList = l at *
  rw [mkStr_size] at hs
  have HI := Lib.hid (implWrittenFrom l w1 (by omega))
  have HSp := Lib.hid (fun w => specWrittenFrom l w (by omega))
  cases hf : wrFrom l with
  | none =>
    rw [hf] at HI HSp
    clear hf hs
    generalize mkStr l = t at *
    go_wp2_with fail
    refine HI.out.mono ?_
    rintro e w2 ⟨hA, hb2⟩
    rcases hA with ⟨_, rfl⟩ | ⟨_, _, _, _, h, _⟩
    rotate_left
    · cases h
    have b2 := below_next b1 hb2
    have p0 := newcell w2 #[.slice none 0 0, .int .i64 0] 50 0 (.slice none 0 0) rfl
    have p1 := newcell w2 #[.slice none 0 0, .int .i64 0] 50 1 (.int .i64 0) rfl
    have hal : Below w2.heap.size w2 (w2.alloc (.cells #[.slice none 0 0, .int .i64 0] 50)) := (Below.refl _ _).alloc (Nat.le_refl _) _
    have b3 := below_next b2 hal
    have HS2 := Lib.hid (HSp.out (w2.alloc (.cells #[.slice none 0 0, .int .i64 0] 50)))
    clear HI HSp hb2
    go_wp2_with fail
    refine HS2.out.mono ?_
    rintro e w4 ⟨hA, hb4⟩
    rcases hA with ⟨_, rfl⟩ | ⟨_, _, _, _, h, _⟩
    rotate_left
    · cases h
    have b4 := below_next b3 hb4
    have q0 := kcell hb4 p0; have q1 := kcell hb4 p1
    have p2 := newcell w4 #[.slice none 0 0, .int .i64 0] 50 0 (.slice none 0 0) rfl
    have p3 := newcell w4 #[.slice none 0 0, .int .i64 0] 50 1 (.int .i64 0) rfl
    have hal4 : Below w4.heap.size w4 (w4.alloc (.cells #[.slice none 0 0, .int .i64 0] 50)) := (Below.refl _ _).alloc (Nat.le_refl _) _
    have b5 := below_next b4 hal4
    have s0 := kcell hal4 q0; have s1 := kcell hal4 q1
    have HE : Hid (∀ w : World, StrokesIn w w.heap.size none 0 0 []) := Lib.hid (fun w => StrOwn.reads (B := 0) (ss := []) (World.ownsRow_nil _ _ _ _) rfl (by simp))
    have HSm : Hid (∀ w, Calls Try.prog 35 #[.agg #[.slice none 0 0, .int .i64 0], .agg #[.slice none 0 0, .int .i64 0]] w fun e w' => e = .returned (.bool true) ∧ Below w.heap.size w w') := Lib.hid (fun w => sameWritten none none 0 0 0 [] 0 w (HE.out w) (HE.out w))
    clear HS2 hb4 hal hal4 p0 p1 q0 q1
    go_wp2_with fail
    refine (HSm.out _).mono ?_
    rintro e w6 ⟨rfl, hb6⟩
    have b6 := below_next b5 hb6
    have t0 := kcell hb6 s0; have t1 := kcell hb6 s1; have t2 := kcell hb6 p2; have t3 := kcell hb6 p3
    clear hb6 s0 s1 p2 p3
    go_wp2_with fail
    refine (HSm.out _).mono ?_
    rintro e w7 ⟨rfl, hb7⟩
    have b7 := below_next b6 hb7
    clear t0 t1 t2 t3 hb7
    go_wp2
    go_returns
    exact ⟨rfl, b7⟩
  | some x =>
    obtain ⟨ss, p⟩ := x
    obtain ⟨hv, htx⟩ := wr_from hf
    cases l with
    | nil => cases hf
    | cons cc r =>
      have HN : Hid (∀ w, Calls Try.prog 34 #[.string (mkStr r)] w fun e w' => e = .returned (.tuple #[.agg #[.slice none 0 0, .int .i64 0], .bool false]) ∧ Below w.heap.size w w') := Lib.hid (fun w => by
        refine (implWrittenFrom r w (by simp at hs; omega)).mono ?_
        rintro e w' ⟨hA, hb⟩
        rw [wr_next hf] at hA
        rcases hA with ⟨_, h⟩ | ⟨_, _, _, _, h, _⟩
        · exact ⟨h, hb⟩
        · cases h)
      rw [hf] at HI HSp
      have hz0 : 1 ≤ (mkStr (cc :: r)).size := by rw [mkStr_size]; simp
      have hx := tail_str cc r
      have HT := Lib.hid htx
      have HV := Lib.hid hv
      clear hf hs htx hv
      rw [← HT.out] at hx hz0
      rw [← HT.out] at HI HSp ⊢
      generalize hNn : ss.length = N at *
      have HNn := Lib.hid hNn; clear hNn
      have HX1 := Lib.hid (fun A c w (h : StrokesIn w w.heap.size A N c ss) => (show Calls Try.prog 38 #[.agg #[.slice A N c, .int .i64 p]] w fun e w' => e = .returned (.bool true) ∧ Below w.heap.size w w' from by have h1 := implWrittenValid A N c ss p w h; rwa [HV.out] at h1))
      have HX2 := Lib.hid (fun A c w (h : StrokesIn w w.heap.size A N c ss) => implWrittenText A N c ss p w h)
      have HX3 := Lib.hid (fun A c A' c' w (h : StrokesIn w w.heap.size A N c ss) (h' : StrokesIn w w.heap.size A' N c' ss) => sameWritten A A' N c c' ss p w h h')
      clear HT HV
      generalize mkStr (wrText ss p) = t at *
      generalize mkStr r = tr at *
      go_wp2_with fail
      refine HI.out.mono ?_
      rintro e w2 ⟨hA, hb2⟩
      rcases hA with ⟨h, _⟩ | ⟨A2, c2, ss2, p2, h, rfl, hO2, hg2⟩
      · cases h
      injection h with h
      injection h with h1 h2
      subst h1 h2
      rw [HNn.out] at hO2 ⊢
      have b2 := below_next b1 hb2
      have hR2 := StrOwn.reads (n := N) hO2 HNn.out hg2
      have p0 := newcell w2 #[.slice A2 N c2, .int .i64 p] 50 0 (.slice A2 N c2) rfl
      have p1 := newcell w2 #[.slice A2 N c2, .int .i64 p] 50 1 (.int .i64 p) rfl
      have hal : Below w2.heap.size w2 (w2.alloc (.cells #[.slice A2 N c2, .int .i64 p] 50)) := (Below.refl _ _).alloc (Nat.le_refl _) _
      have b3 := below_next b2 hal
      have hR3 := hR2.keep hal
      have HS2 := Lib.hid (HSp.out (w2.alloc (.cells #[.slice A2 N c2, .int .i64 p] 50)))
      clear HI HSp hb2 hR2 hO2
      go_wp2_with fail
      refine HS2.out.mono ?_
      rintro e w4 ⟨hA, hb4⟩
      rcases hA with ⟨h, _⟩ | ⟨A4, c4, ss4, p4, h, rfl, hO4, hg4⟩
      · cases h
      injection h with h
      injection h with h1 h2
      subst h1 h2
      rw [HNn.out] at hO4 ⊢
      have b4 := below_next b3 hb4
      have hR4 := StrOwn.reads (n := N) hO4 HNn.out hg4
      have hR24 := hR3.keep hb4
      have q0 := kcell hb4 p0; have q1 := kcell hb4 p1
      have p2' := newcell w4 #[.slice A4 N c4, .int .i64 p] 50 0 (.slice A4 N c4) rfl
      have p3' := newcell w4 #[.slice A4 N c4, .int .i64 p] 50 1 (.int .i64 p) rfl
      have hal4 : Below w4.heap.size w4 (w4.alloc (.cells #[.slice A4 N c4, .int .i64 p] 50)) := (Below.refl _ _).alloc (Nat.le_refl _) _
      have b5 := below_next b4 hal4
      have s0 := kcell hal4 q0; have s1 := kcell hal4 q1
      have hR5 := hR4.keep hal4
      have hR25 := hR24.keep hal4
      have HSm := Lib.hid (HX3.out A2 c2 A4 c4 _ hR25 hR5)
      have HR := Lib.hid (fun w h => hR25.keep (w' := w) h)
      clear HS2 hb4 hal hal4 p0 p1 q0 q1 hR3 hR4 hR24 hR5 hR25 hO4 HX3
      go_wp2_with fail
      refine HSm.out.mono ?_
      rintro e w6 ⟨rfl, hb6⟩
      have b6 := below_next b5 hb6
      have t0 := kcell hb6 s0; have t1 := kcell hb6 s1
      have HR6 := Lib.hid (fun w (h : Below w6.heap.size w6 w) => HR.out w (below_next hb6 h))
      clear hb6 s0 s1 p2' p3' HR HSm
      go_wp2_with fail
      refine (HN.out _).mono ?_
      rintro e w7 ⟨rfl, hb7⟩
      have b7 := below_next b6 hb7
      have u0 := kcell hb7 t0; have u1 := kcell hb7 t1
      have hal7 : Below w7.heap.size w7 (w7.alloc (.cells #[.slice none 0 0, .int .i64 0] 50)) := (Below.refl _ _).alloc (Nat.le_refl _) _
      have b8 := below_next b7 hal7
      have v0 := kcell hal7 u0; have v1 := kcell hal7 u1
      have k8 := below_next hb7 hal7
      have HV1 := Lib.hid (HX1.out A2 c2 _ (HR6.out _ k8))
      clear hb7 HN hal7 u0 u1 t0 t1
      go_wp2_with fail
      refine HV1.out.mono ?_
      rintro e w9 ⟨rfl, hb9⟩
      have b9 := below_next b8 hb9
      have k9 := below_next k8 hb9
      have y0 := kcell hb9 v0; have y1 := kcell hb9 v1
      have HV2 := Lib.hid (HX2.out A2 c2 _ (HR6.out _ k9))
      clear hb9 HV1 v0 v1
      go_wp2_with fail
      refine HV2.out.mono ?_
      rintro e w10 ⟨rfl, hb10⟩
      have b10 := below_next b9 hb10
      have htt : (t.toList == t.toList) = true := by simp
      clear hb10 HV2 y0 y1
      go_wp2
      go_returns
      exact ⟨rfl, b10⟩

set_option maxRecDepth 100000 in
theorem lifted (os : Os) (started : os.Started) (H : Type) (enc : TypeId × Value → H) :
    ReturnsInHanded {} Try.checked os 10 .any (Rows.fnWrittenFromSpec.pre6 enc Try.prog Try.f10 Rows.fnWrittenFromRow.domain false) (Rows.fnWrittenFromSpec.post enc Try.prog Try.f10 false true false false) := by
  refine returnsInHanded_of_change (C := Try.checked) own started (by kernel_rfl) Try.func10
    (ChangeSpec.witness6 (enc := enc) (C := Try.checked) false ⟨#[], #[.slice none 0 0], []⟩ 8 (by kernel_rfl) (by kernel_rfl) (by kernel_rfl) (by kernel_rfl)) ?_
  intro W base args ds gs before hval0 hW hcnd _
  have hval : ∀ (j : Nat) t v, Try.f10.params[j]? = some t → args[j]? = some v → Value.okWide Try.prog W .any base t v := hval0
  have hW' := hW
  obtain ⟨p, q, hA0, hV, rfl, hfz, hnd⟩ := hW
  have hA : DataW.TrodAll enc Try.prog W 0 (fun _ => true) true Try.f10.params.toList args.toList ds p := hA0
  rw [Try.params10] at hA hval
  obtain ⟨v0, vs0, d0, ds0, p0, q0, hargs, rfl, rfl, h0, r0⟩ := trodAll_cons hA
  obtain ⟨rfl, rfl, rfl⟩ := trodAll_nil r0
  obtain rfl : args = #[v0] := by cases args; simp_all
  obtain ⟨rfl, rfl⟩ := trodVars_none hV
  have k0 := h0
  have lt0 : ∀ x ∈ p0, x.block < W.heap.size := by obtain ⟨m, hm⟩ := k0; exact DataW.trod_lt m _ _ _ hm
  obtain ⟨A_0, n_0, c_0, bs_0, rfl, R_0⟩ := openBytes (hval 0 28 v0 rfl rfl) h0
  clear hA0 hval0
  refine (walk A_0 n_0 c_0 bs_0 W R_0).mono fun e W' ⟨he, bel⟩ => ?_
  subst he
  exact ⟨_, rfl, _, _, _, [], _, [], hW', trodAll_mk1 (shut_bool Try.underlying4 _), (trodAll_cons_mk (Below.trod laidOut (by kernel_rfl) (of_decide_eq_true (by kernel_rfl)) k0 bel lt0) trodAll_mk0), rfl, bel.frame _, fun h => by cases h⟩

theorem over : Rows.fnWrittenFromRow.holds Try.pinned (OpenSpec.ofChange Rows.fnWrittenFromSpec) :=
  OpenClaim.holds_of_wide 10 Try.f10 rfl rfl rfl rfl rfl rfl rfl ⟨rfl, rfl, rfl, rfl, rfl⟩ rfl rfl rfl rfl rfl (by kernel_rfl) Try.func10 (by kernel_rfl)
    (of_decide_eq_true (by kernel_rfl)) (by unfold Func.isWrapper; first | (rw [if_pos (by decide +kernel)]; kernel_rfl) | (rw [if_neg (by decide +kernel)]; exact ⟨rfl, rfl⟩))
    (fun os started H enc _ => lifted os started H enc)

theorem proved : Rows.FnWrittenFromSaid := over
end Go.Proofs.Ytdejgnlmofgdjaa.fnWrittenFrom
