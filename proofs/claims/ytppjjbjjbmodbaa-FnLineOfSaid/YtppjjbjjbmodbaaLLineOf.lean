/-
  The law FnLineOf returns true for every input, and what was in memory before the call reads as before: the frame round its walk.
  Conditions: none.
-/
import Derived.Test.YtppjjbjjbmodbaaDrawLo
import Derived.Test.YtppjjbjjbmodbaaLineOLaw
namespace Go.Proofs.Ytppjjbjjbmodbaa.fnLineOf
open Go.ChangeShapes Go.WideShapes Go.ChangeAt Go.RowKit
set_option linter.unusedVariables false

theorem words_ne (a b : List UInt8) : ((mkStr a).toList != (mkStr b).toList) = decide (a ≠ b) := by
  rw [bne, beq_str (mkStr b) a b rfl]
  by_cases h : a = b <;> simp [h]
set_option maxRecDepth 100000 in
set_option maxHeartbeats 3200000 in
theorem walk (A : Option Addr) (n c : Nat) (bs : List Int) (A' : Option Addr) (n' c' : Nat) (bs' : List Int) (W : World) (hb : BytesIn W W.heap.size A n c bs) (hb' : BytesIn W W.heap.size A' n' c' bs') :
    Calls Try.prog 3 #[.slice A n c, .slice A' n' c'] W fun e w' => e = .returned (.bool true) ∧ Below W.heap.size W w' := by
  obtain ⟨i0, hi, hz0, hz1, hz2⟩ := info_parts infoWd
  have hm := hb.2.2.1; have hnc := hb.2.1
  have hm' := hb'.2.2.1; have hnc' := hb'.2.1
  unfold maxLen at hm hm'
  clear hb'
  by_cases hn : 1048576 < n
  · clear hb
    go_enter Try.func3, Try.ntmps3
    go_wp2
    go_returns
    exact ⟨rfl, Below.refl _ _⟩
  by_cases hn' : 1048576 < n'
  · clear hb
    go_enter Try.func3, Try.ntmps3
    go_wp2
    go_returns
    exact ⟨rfl, Below.refl _ _⟩
  have HD := Lib.hid (drawLineOf A n c bs W hb)
  clear hb
  go_enter Try.func3, Try.ntmps3
  go_wp2_with fail
  refine HD.out.mono ?_
  rintro e w1 ⟨⟨A1, n1, c1, xs, A2, n2, c2, ws, rfl, hn6, hS, hDc, hwl⟩, b1⟩
  have hsh : ∀ l ∈ ws, l.length ≤ maxLen := fun l hl => by have := hwl l hl; unfold maxLen; omega
  have hncD := hDc.2.1; have hcmD := hDc.2.2.1
  unfold maxLen at hcmD
  have HLw := Lib.hid hDc.1
  have HI := Lib.hid (fun V (hV : Below w1.heap.size w1 V) => implLineOf A1 n1 c1 xs A2 n2 c2 ws V hsh (hS.keep hV) (hDc.keep hV))
  have HIk := Lib.hid (fun V (hV : Below w1.heap.size w1 V) (k : Nat) (hk : k ≤ n2) => implLineOf A1 n1 c1 xs A2 k c2 (ws.take k) V (fun l hl => hsh l (List.mem_of_mem_take hl)) (hS.keep hV) ((hDc.keep hV).upto hk))
  have HSp := Lib.hid (fun V (hV : Below w1.heap.size w1 V) => specLineOf A1 n1 c1 xs A2 n2 c2 ws V hsh (by omega) (hS.keep hV) (hDc.keep hV))
  have HDc := Lib.hid (fun V (hV : Below w1.heap.size w1 V) => hDc.keep hV)
  have HWy := Lib.hid (fun V (hV : Below w1.heap.size w1 V) (Ao : Option Addr) (no co : Nat) (os : List (List UInt8)) (Al : Option Addr) (nl cl : Nat) (ys : List Wr) (ho : WdsIn V V.heap.size Ao no co os) (hl : ∀ l ∈ os, l.length ≤ maxLen) (hy : WrsIn V V.heap.size Al nl cl ys) => implWrittenWays A1 n1 c1 xs Ao no co os Al nl cl ys V hl (hS.keep hV) ho hy)
  have HSh := Lib.hid hsh
  clear hS hDc hwl hsh HD
  have HI1 := Lib.hid (HI.out w1 (Below.refl _ _))
  cases hLO : lineOf xs ws with
  | none =>
    have HS1 := Lib.hid HSp.out
    rw [hLO] at HI1
    rw [hLO] at HS1
    clear hLO HI HIk HSp HDc HWy HSh
    go_wp2_with fail
    refine HI1.out.mono ?_
    rintro e w2 ⟨hA, hb2⟩
    rcases hA with ⟨_, A3, c3, rfl, hR3⟩ | ⟨A3, c3, ys, h, _⟩
    rotate_left
    · cases h
    have HR3 := Lib.hid hR3
    have HS2 := Lib.hid (HS1.out w2 hb2)
    have b2 := below_next b1 hb2
    clear hR3 hb2 HI1 HS1
    go_wp2_with fail
    refine HS2.out.mono ?_
    rintro e w3 ⟨hA, hb3⟩
    rcases hA with ⟨_, A4, c4, rfl, hR4⟩ | ⟨A4, c4, ys, h, _⟩
    rotate_left
    · cases h
    have HSm := Lib.hid (fun V (hV : Below w3.heap.size w3 V) => sameLine A3 A4 0 c3 c4 [] [] V ((HR3.out.keep hb3).keep hV) (hR4.keep hV) rfl)
    have b3 := below_next b2 hb3
    clear hR4 hb3 HS2
    go_wp2_with fail
    refine (HSm.out w3 (Below.refl _ _)).mono ?_
    rintro e w4 ⟨rfl, hb4⟩
    have b4 := below_next b3 hb4
    have HSm2 := Lib.hid (HSm.out w4 hb4)
    clear hb4 HSm
    go_wp2_with fail
    refine HSm2.out.mono ?_
    rintro e w5 ⟨rfl, hb5⟩
    have b5 := below_next b4 hb5
    go_wp2
    go_returns
    exact ⟨rfl, b5⟩
  | some L =>
    have HS1 := Lib.hid HSp.out
    rw [hLO] at HI1
    rw [hLO] at HS1
    have hlL : L.length = n2 := by rw [allW_len (lineOf_ok hLO).2.2, HLw.out]
    have HTk := Lib.hid (fun k => lineOf_take hLO k)
    have HOn := Lib.hid (once_ways hLO (by rw [HLw.out]; exact hn6))
    have HlL := Lib.hid hlL
    clear hLO HI HSp hlL
    go_wp2_with fail
    refine HI1.out.mono ?_
    rintro e w2 ⟨hA, hb2⟩
    rcases hA with ⟨h, _⟩ | ⟨A3, c3, ys, hL, rfl, hR3⟩
    · cases h
    injection hL with hL
    have hy : ys.length = n2 := by rw [← HlL.out, hL, List.length_map]
    rw [hy] at hR3 ⊢
    have HR3 := Lib.hid hR3
    have HS2 := Lib.hid (HS1.out w2 hb2)
    have k2 := hb2
    have HY := Lib.hid hL
    clear hR3 hb2 HI1 HS1 hL hy
    go_wp2_with fail
    refine HS2.out.mono ?_
    rintro e w3 ⟨hA, hb3⟩
    rcases hA with ⟨h, _⟩ | ⟨A4, c4, zs, hL, rfl, hR4⟩
    · cases h
    injection hL with hL
    have hz : zs.length = n2 := by rw [← HlL.out, hL, List.length_map]
    rw [hz] at hR4 ⊢
    have k3 := below_next k2 hb3
    have HR33 := Lib.hid (HR3.out.keep hb3)
    have hmR := hR4.2.2.1; have hmR3 := HR33.out.2.2.1; have hnR3 := HR33.out.2.1; have hnR4 := hR4.2.1
    unfold maxLen at hmR hmR3
    have HSm := Lib.hid (sameLine A3 A4 n2 c3 c4 ys zs w3 HR33.out hR4 (by rw [← HY.out, hL]))
    clear hR4 hb3 HS2 hL hz k2 HR3
    go_wp2_with fail
    refine HSm.out.mono ?_
    rintro e w4 ⟨rfl, hb4⟩
    have k4 := below_next k3 hb4
    have HR4 := Lib.hid (fun V (hV : Below w4.heap.size w4 V) => (HR33.out.keep hb4).keep hV)
    have HO0 : Hid (WdOwn (w4.alloc (.cells #[] 9)) w4.heap.size (.slice (some ⟨w4.heap.size, 0, none⟩) 0 0) []) := Lib.hid (World.ownsRow_made w4 #[] 0 (Nat.le_refl _) (by simp) (by simp))
    have hal : Below w4.heap.size w4 (w4.alloc (.cells #[] 9)) := (Below.refl _ _).alloc (Nat.le_refl _) _
    clear hb4 HSm HR33 k3
    go_wp2
    go_loopw [11, 12] (fun v0 i wr => ∃ (k : Nat) (v : Value), k ≤ n2 ∧ i = .int .i64 k ∧ v = v0 ∧ Hid (WdOwn wr w4.heap.size v (onceK ws k)) ∧ Below w4.heap.size w4 wr) (fun _ i _ => n2 - (intOf i).toNat)
    case atStart => exact ⟨0, _, Nat.zero_le _, rfl, rfl, HO0, hal⟩
    case round =>
      obtain ⟨k, v, hk, rfl, rfl, HO, hb⟩ := hrel
      have hz := hb.size
      by_cases hlt : k < n2
      · have i1 : (0 : Int) ≤ (k : Int) := by omega
        have i2 : (k : Int) < (n2 : Int) := by omega
        have HF0 : Hid (fresh ws k 0 = true) := Lib.hid (fresh_zero ws k)
        go_wp2
        go_loopw [13, 14] (fun f j wv => ∃ q : Nat, q ≤ k ∧ j = .int .i64 q ∧ f = .bool (fresh ws k q) ∧ Below wr.heap.size wr wv) (fun _ j _ => k - (intOf j).toNat)
        case atStart => exact ⟨0, Nat.zero_le _, rfl, by rw [HF0.out], Below.refl _ _⟩
        case round =>
          obtain ⟨q, hq, rfl, rfl, hb5⟩ := hrel
          have b45 := below_next hb hb5
          by_cases hql : q < k
          · obtain ⟨b, off, rfl, hbB, c0⟩ := (HDc.out _ (below_next k4 b45)).at_ (show q < n2 by omega)
            obtain ⟨b', off', e', hbB', c1⟩ := (HDc.out _ (below_next k4 b45)).at_ hlt
            injection e' with e'
            injection e' with e1 e2
            subst e1 e2
            have HFs := Lib.hid (fresh_succ ws k q)
            have HFt : Hid (fresh ws k q = true → fresh ws k (q + 1) = !((mkStr (wdAt ws q)).toList == (mkStr (wdAt ws k)).toList)) := Lib.hid (fun h => by
              have := words_ne (wdAt ws q) (wdAt ws k)
              rw [bne] at this
              rw [fresh_succ, h, this]; rfl)
            have j1 : (0 : Int) ≤ (q : Int) := by omega
            have j2 : (q : Int) < (n2 : Int) := by omega
            have j3 : (q : Int) < (k : Int) := by omega
            generalize mkStr (wdAt ws q) = s1 at *
            generalize mkStr (wdAt ws k) = s2 at *
            have r0 := qcell c0; have r1 := qcell c1
            cases hf : fresh ws k q with
            | false =>
              rw [hf] at HFs
              have HF2 : Hid (fresh ws k (q + 1) = false) := Lib.hid (by rw [HFs.out]; rfl)
              clear hf
              go_wp2_with fail
              refine region_qb (by kernel_rfl) (by kernel_rfl) ?_
              repeat (first | go_big_quiet_step (fail) | quiet_step (fail))
              refine wpQuiet_nil ?_
              intro w6 hb6
              have b6 := below_next hb5 hb6
              clear hb6 r0 r1 c0 c1
              go_wp2
              go_roundw
              case rel => exact ⟨q + 1, by omega, by go_num, by rw [HF2.out], b6⟩
              case measure => simp [intOf]; omega
            | true =>
              have HF2 := Lib.hid (HFt.out hf)
              clear hf
              go_wp2_with fail
              refine region_qb (by kernel_rfl) (by kernel_rfl) ?_
              repeat (first | go_big_quiet_step (fail) | quiet_step (fail))
              refine wpQuiet_nil ?_
              intro w6 hb6
              have b6 := below_next hb5 hb6
              clear hb6 r0 r1 c0 c1
              go_wp2
              go_roundw
              case rel => exact ⟨q + 1, by omega, by go_num, by rw [HF2.out], b6⟩
              case measure => simp [intOf]; omega
          · obtain rfl : q = k := by omega
            have HO5 := Lib.hid (ownG_keep HO.out hb5)
            have HSn : Hid (onceK ws (q + 1) = onceK ws q ++ if fresh ws q q = true then [wdAt ws q] else []) := Lib.hid rfl
            have hol := onceK_len ws q
            clear hb5
            cases hf : fresh ws q q with
            | false =>
              have HS2 : Hid (onceK ws (q + 1) = onceK ws q) := Lib.hid (by rw [HSn.out, hf]; simp)
              clear hf
              go_wp2
              go_roundw
              case rel => exact ⟨q + 1, _, by omega, by go_num, rfl, Lib.hid (by rw [HS2.out]; exact HO5.out), b45⟩
              case measure => simp [intOf]; omega
            | true =>
              have HS2 : Hid (onceK ws (q + 1) = onceK ws q ++ [wdAt ws q]) := Lib.hid (by rw [HSn.out, hf]; simp)
              obtain ⟨b, off, rfl, hbB, c0⟩ := (HDc.out _ (below_next k4 b45)).at_ hlt
              have z5 := b45.size
              clear hf HSn HO
              generalize wdAt ws q = l at *
              obtain ⟨A6, c6, rfl, hc6, hm6⟩ := ownG_form HO5.out
              generalize onceK ws q = os at *
              have HO6 : Hid (WdOwn wr w4.heap.size (.slice A6 os.length c6) os) := HO5
              clear HO5
              generalize hL : os.length = M at *
              have HLl := Lib.hid hL; clear hL
              have HOw : Hid (wr.ownsRow w4.heap.size 9 1 (.slice A6 M c6) M (os.map strP)) := Lib.hid (by have := HO6.out; unfold WdOwn at this; rw [HLl.out] at this; exact this)
              go_wp2_with (at_builtin; refine wpList_append_any _ rfl (.tmp 89) (.tmp 94) _ rfl w4.heap.size 9 i0 _ 1 16 Try.underlying24 hi hz0 hz1 hz2 rfl (by omega) _ M (os.map strP) rfl (HOw.out.alloc _) (wr.heap.size + 1) (some ⟨wr.heap.size, 0, none⟩) 1 1 [.string (mkStr l)] rfl (rowNew1 _ _ _) (by simp [Value.oneCell']) (by unfold maxLen; omega) (by omega) (by simp; omega) ?_; intro v7 w7 hown7 hg7 hat7)
              have HO7 : Hid (WdOwn w7 w4.heap.size v7 (onceK ws (q + 1))) := Lib.hid (by rw [HS2.out]; unfold WdOwn; rw [List.length_append, HLl.out, List.map_append]; exact hown7)
              have b7 := (b45.alloc z5 _).grown hg7 (by simp; omega) (fun z hz => ownG_base HOw.out hz)
              clear hown7 hg7 hat7
              go_wp2
              go_roundw
              case rel => exact ⟨q + 1, _, by omega, by go_num, rfl, HO7, b7⟩
              case measure => simp [intOf]; omega
      · obtain rfl : k = n2 := by omega
        obtain ⟨q, hq⟩ : ∃ q : Nat, (q : Int) = (n' : Int) % ((k : Int) + 1) := ⟨((n' : Int) % ((k : Int) + 1)).toNat, Int.toNat_of_nonneg (Int.emod_nonneg _ (by omega))⟩
        have hqN : q ≤ k := by have := Int.emod_lt_of_pos (n' : Int) (show (0 : Int) < (k : Int) + 1 by omega); omega
        have hkr : (n' : Int) % ((k : Int) + 1) = (q : Int) := hq.symm
        have kr := below_next k4 hb
        have b5 := below_next b1 kr
        have HX := Lib.hid (HIk.out wr kr q hqN)
        rw [HTk.out q] at HX
        have hs1 : ∀ V, (Instr.slice 24 (.slice A2 k c2) none (some (.int .i64 (q : Int))) none).run Try.prog V = .ok (.slice A2 q c2) V := fun V => run_uptoA elemW sizeW A2 k c2 q (by omega) V
        have hs2 : ∀ V, (Instr.slice 27 (.slice A3 k c3) none (some (.int .i64 (q : Int))) none).run Try.prog V = .ok (.slice A3 q c3) V := fun V => run_uptoA elemWr sizeWr A3 k c3 q (by omega) V
        have hLq : (L.take q).length = q := by rw [List.length_take, HlL.out]; omega
        clear hq HIk HTk
        generalize hDq : L.take q = Dq at *
        go_wp2_with fail
        refine HX.out.mono ?_
        rintro e w6 ⟨hA, hb6⟩
        rcases hA with ⟨h, _⟩ | ⟨A7, c7, xq, hL, rfl, hR7⟩
        · cases h
        injection hL with hL
        have hx : xq.length = q := by rw [← hLq, hL, List.length_map]
        rw [hx] at hR7 ⊢
        have b6 := below_next b5 hb6
        have kr6 := below_next hb hb6
        have HO6 := Lib.hid (ownG_keep HO.out hb6)
        have HSm := Lib.hid (sameLine A7 A3 q c7 c3 xq (ys.take q) w6 hR7 ((HR4.out w6 kr6).uptoS hqN) (by rw [List.map_take, ← HY.out, hDq, hL]))
        clear hR7 hb6 HX hL hx hLq hDq HO
        have e1 : ((k : Int) == (k : Int)) = true := by simp
        go_wp2_with fail
        refine HSm.out.mono ?_
        rintro e w8 ⟨rfl, hb8⟩
        have b8 := below_next b6 hb8
        have kr8 := below_next kr6 hb8
        have HO8 := Lib.hid (ownG_keep HO6.out hb8)
        obtain ⟨A9, c9, rfl, hc9, hm9⟩ := ownG_form HO8.out
        have HOn2 := HOn.out
        rw [HLw.out] at HOn2
        obtain ⟨hw1, hw2⟩ := HOn2
        have HW8 := Lib.hid (HWy.out w8 (below_next k4 kr8) A9 _ c9 (onceK ws k) A3 k c3 ys (WdOwn.reads HO8.out rfl) (fun l hl => by
          obtain ⟨j, hj, e⟩ := onceK_from ws k l hl
          rw [e]
          exact HSh.out _ (wdAt_mem (by rw [HLw.out]; exact hj))) (HR4.out w8 kr8))
        rw [← HY.out] at HW8
        clear hb8 HSm HO6 HO8
        generalize waysOf xs (onceK ws k) L = T at *
        go_wp2_with fail
        refine HW8.out.mono ?_
        rintro e w9 ⟨rfl, hb9⟩
        have b9 := below_next b8 hb9
        go_wp2
        go_returns
        exact ⟨rfl, b9⟩

set_option maxRecDepth 100000 in
theorem lifted (os : Os) (started : os.Started) (H : Type) (enc : TypeId × Value → H) :
    ReturnsInHanded {} Try.checked os 3 .any (Rows.fnLineOfSpec.pre6 enc Try.prog Try.f3 Rows.fnLineOfRow.domain false) (Rows.fnLineOfSpec.post enc Try.prog Try.f3 false true false false) := by
  refine returnsInHanded_of_change (C := Try.checked) own started (by kernel_rfl) Try.func3
    (ChangeSpec.witness6 (enc := enc) (C := Try.checked) false ⟨#[], #[.slice none 0 0, .slice none 0 0], []⟩ 8 (by kernel_rfl) (by kernel_rfl) (by kernel_rfl) (by kernel_rfl)) ?_
  intro W base args ds gs before hval0 hW hcnd _
  have hval : ∀ (j : Nat) t v, Try.f3.params[j]? = some t → args[j]? = some v → Value.okWide Try.prog W .any base t v := hval0
  have hW' := hW
  obtain ⟨p, q, hA0, hV, rfl, hfz, hnd⟩ := hW
  have hA : DataW.TrodAll enc Try.prog W 0 (fun _ => true) true Try.f3.params.toList args.toList ds p := hA0
  rw [Try.params3] at hA hval
  obtain ⟨v0, vs0, d0, ds0, p0, q0, hargs, rfl, rfl, h0, r0⟩ := trodAll_cons hA
  obtain ⟨v1, vs1, d1, ds1, p1, q1, rfl, rfl, rfl, h1, r1⟩ := trodAll_cons r0
  obtain ⟨rfl, rfl, rfl⟩ := trodAll_nil r1
  obtain rfl : args = #[v0, v1] := by cases args; simp_all
  obtain ⟨rfl, rfl⟩ := trodVars_none hV
  have k0 := h0
  have lt0 : ∀ x ∈ p0, x.block < W.heap.size := by obtain ⟨m, hm⟩ := k0; exact DataW.trod_lt m _ _ _ hm
  obtain ⟨A_0, n_0, c_0, bs_0, rfl, R_0⟩ := openBytes (hval 0 22 v0 rfl rfl) h0
  have k1 := h1
  have lt1 : ∀ x ∈ p1, x.block < W.heap.size := by obtain ⟨m, hm⟩ := k1; exact DataW.trod_lt m _ _ _ hm
  obtain ⟨A_1, n_1, c_1, bs_1, rfl, R_1⟩ := openBytes (hval 1 22 v1 rfl rfl) h1
  clear hA0 hval0
  refine (walk A_0 n_0 c_0 bs_0 A_1 n_1 c_1 bs_1 W R_0 R_1).mono fun e W' ⟨he, bel⟩ => ?_
  subst he
  exact ⟨_, rfl, _, _, _, [], _, [], hW', trodAll_mk1 (shut_bool Try.underlying4 _), (trodAll_cons_mk (Below.trod laidOut (by kernel_rfl) (of_decide_eq_true (by kernel_rfl)) k0 bel lt0) (trodAll_cons_mk (Below.trod laidOut (by kernel_rfl) (of_decide_eq_true (by kernel_rfl)) k1 bel lt1) trodAll_mk0)), rfl, bel.frame _, fun h => by cases h⟩

theorem over : Rows.fnLineOfRow.holds Try.pinned (OpenSpec.ofChange Rows.fnLineOfSpec) :=
  OpenClaim.holds_of_wide 3 Try.f3 rfl rfl rfl rfl rfl rfl rfl ⟨rfl, rfl, rfl, rfl, rfl⟩ rfl rfl rfl rfl rfl (by kernel_rfl) Try.func3 (by kernel_rfl)
    (of_decide_eq_true (by kernel_rfl)) (by unfold Func.isWrapper; first | (rw [if_pos (by decide +kernel)]; kernel_rfl) | (rw [if_neg (by decide +kernel)]; exact ⟨rfl, rfl⟩))
    (fun os started H enc _ => lifted os started H enc)

theorem proved : Rows.FnLineOfSaid := over
end Go.Proofs.Ytppjjbjjbmodbaa.fnLineOf
