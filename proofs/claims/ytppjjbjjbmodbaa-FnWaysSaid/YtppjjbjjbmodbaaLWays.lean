/-
  The law FnWays returns true for every input, and what was in memory before the call reads as before: the frame round its walk.
  Conditions: none.
-/
import Derived.Test.YtppjjbjjbmodbaaWaysLaw
namespace Go.Proofs.Ytppjjbjjbmodbaa.fnWays
open Go.ChangeShapes Go.WideShapes Go.ChangeAt Go.RowKit
set_option linter.unusedVariables false

set_option maxRecDepth 100000 in
set_option maxHeartbeats 3200000 in
theorem walk (A : Option Addr) (n c : Nat) (bs : List Int) (A' : Option Addr) (n' c' : Nat) (bs' : List Int) (W : World) (hb : BytesIn W W.heap.size A n c bs) (hb' : BytesIn W W.heap.size A' n' c' bs') :
    Calls Try.prog 5 #[.slice A n c, .slice A' n' c'] W fun e w' => e = .returned (.bool true) ∧ Below W.heap.size W w' := by
  have hm := hb.2.2.1; have hnc := hb.2.1
  have hm' := hb'.2.2.1; have hnc' := hb'.2.1
  unfold maxLen at hm hm'
  clear hb'
  by_cases hn : 1048576 < n
  · clear hb
    go_enter Try.func5, Try.ntmps5
    go_wp2
    go_returns
    exact ⟨rfl, Below.refl _ _⟩
  by_cases hn' : 1048576 < n'
  · clear hb
    go_enter Try.func5, Try.ntmps5
    go_wp2
    go_returns
    exact ⟨rfl, Below.refl _ _⟩
  have HD := Lib.hid (drawWrittenWays A n c bs W hb)
  clear hb
  go_enter Try.func5, Try.ntmps5
  go_wp2_with fail
  refine HD.out.mono ?_
  rintro e w1 ⟨⟨A1, n1, c1, xs, A2, n2, c2, ws, A3, N, c3, ys, rfl, hn1, hn2, hN, hS, hDc, hwv, hR⟩, b1⟩
  have hsh : ∀ l ∈ ws, l.length ≤ maxLen := fun l hl => by have := word_len (hwv l hl); unfold maxLen; omega
  have hNc := hR.2.1; have hcm := hR.2.2.1
  unfold maxLen at hcm
  have HIw := Lib.hid (fun (AA : Option Addr) (nn cc : Nat) (zs : List Wr) V (hV : Below w1.heap.size w1 V) (hz : WrsIn V V.heap.size AA nn cc zs) => implWrittenWays A1 n1 c1 xs A2 n2 c2 ws AA nn cc zs V hsh (hS.keep hV) (hDc.keep hV) hz)
  have HSw := Lib.hid (fun V (hV : Below w1.heap.size w1 V) => specWrittenWays A1 n1 c1 xs A2 n2 c2 ws A3 N c3 ys V hsh (hS.keep hV) (hDc.keep hV) (hR.keep hV))
  have HR := Lib.hid (fun V (hV : Below w1.heap.size w1 V) => hR.keep hV)
  have hlen : (ys.map Wr.dat).length ≤ 4 := by rw [List.length_map, hR.1]; exact hN
  have HLaw := Lib.hid (fun (h : 0 ≤ waysOf xs ws (ys.map Wr.dat)) (k : Nat) => ways_mul hlen h k)
  have HI1 := Lib.hid (HIw.out A3 N c3 ys w1 (Below.refl _ _) hR)
  clear hS hDc hwv hR hsh hlen HD
  generalize hT : waysOf xs ws (ys.map Wr.dat) = T at *
  go_wp2_with fail
  refine HI1.out.mono ?_
  rintro e w2 ⟨rfl, hb2⟩
  have b2 := below_next b1 hb2
  have HS2 := Lib.hid (HSw.out w2 hb2)
  have k2 := hb2
  clear hb2 HI1 HSw
  go_wp2_with fail
  refine HS2.out.mono ?_
  rintro e w3 ⟨rfl, hb3⟩
  have b3 := below_next b2 hb3
  have k3 := below_next k2 hb3
  clear hb3 HS2 k2
  have e0 : (T != T) = false := by simp
  have e1 : (T == T) = true := by simp
  by_cases hT0 : T < 0
  · clear HLaw hT
    go_wp2
    go_returns
    exact ⟨rfl, b3⟩
  · have hT1 : 0 ≤ T := by omega
    obtain ⟨k, hk⟩ : ∃ k : Nat, (k : Int) = (n' : Int) % ((N : Int) + 1) := ⟨((n' : Int) % ((N : Int) + 1)).toNat, Int.toNat_of_nonneg (Int.emod_nonneg _ (by omega))⟩
    have hkN : k ≤ N := by have := Int.emod_lt_of_pos (n' : Int) (show (0 : Int) < (N : Int) + 1 by omega); omega
    obtain ⟨h1, h2, h3⟩ := HLaw.out hT1 k
    have hkr : (n' : Int) % ((N : Int) + 1) = (k : Int) := hk.symm
    have HX1 : Hid (∀ V, Below w3.heap.size w3 V → Calls Try.prog 12 #[.slice A1 n1 c1, .slice A2 n2 c2, .slice A3 k c3] V fun e w' => e = .returned (.int .i64 (waysOf xs ws ((ys.map Wr.dat).take k))) ∧ Below V.heap.size V w') := Lib.hid (fun V hV => by
      rw [← List.map_take]
      exact HIw.out A3 k c3 (ys.take k) V (below_next k3 hV) ((HR.out V (below_next k3 hV)).uptoS hkN))
    have HX2 : Hid (∀ V, Below w3.heap.size w3 V → Calls Try.prog 12 #[.slice A1 n1 c1, .slice A2 n2 c2, .slice (fromB A3 k c3 2) (N - k) (c3 - k)] V fun e w' => e = .returned (.int .i64 (waysOf xs ws ((ys.map Wr.dat).drop k))) ∧ Below V.heap.size V w') := Lib.hid (fun V hV => by
      rw [← List.map_drop]
      exact HIw.out _ _ _ (ys.drop k) V (below_next k3 hV) ((HR.out V (below_next k3 hV)).fromS hkN))
    have HX3 : Hid (∀ V AA, Below w3.heap.size w3 V → Calls Try.prog 12 #[.slice A1 n1 c1, .slice A2 n2 c2, .slice AA 0 0] V fun e w' => e = .returned (.int .i64 1) ∧ Below V.heap.size V w') := Lib.hid (fun V AA hV => by
      have := HIw.out AA 0 0 [] V (below_next k3 hV) (WrsIn.zero V _ _)
      rw [show waysOf xs ws (([] : List Wr).map Wr.dat) = 1 from h2] at this
      exact this)
    have hs1 : ∀ V, (Instr.slice 27 (.slice A3 N c3) none (some (.int .i64 (k : Int))) none).run Try.prog V = .ok (.slice A3 k c3) V := fun V => run_uptoA elemWr sizeWr A3 N c3 k (by omega) V
    have hs2 : ∀ V, (Instr.slice 27 (.slice A3 N c3) (some (.int .i64 (k : Int))) none none).run Try.prog V = .ok (.slice (fromB A3 k c3 2) (N - k) (c3 - k)) V := fun V => run_fromS elemWr sizeWr A3 N c3 k hkN V
    clear hk HLaw HIw HR k3 h2 hT
    generalize waysOf xs ws ((ys.map Wr.dat).take k) = T1 at *
    generalize waysOf xs ws ((ys.map Wr.dat).drop k) = T2 at *
    have hwr : IntKind.i64.wrap (T1 * T2) = T := by rw [h1]; exact IntWalk.i64_in _ (by omega)
    clear h1
    have B0 : Below w3.heap.size w3 w3.drew := (Below.refl _ _).drew
    have e2 : ((1 : Int) == 1) = true := rfl
    go_wp2_with fail
    go_region_held3 (fun _ => True) (trivial)
      (first
        | (go_at_call_of 12 (Value.slice A3 k c3); refine (HX1.out _ B0).mono ?_; rintro e w4 ⟨rfl, hb4⟩; have k4 := below_next B0 hb4; clear hb4)
        | (go_at_call_of 12 (Value.slice (fromB A3 k c3 2) (N - k) (c3 - k)); refine (HX2.out _ k4).mono ?_; rintro e w5 ⟨rfl, hb5⟩; have k5 := below_next k4 hb5; clear hb5)
        | (go_at_call 12; refine (HX3.out _ _ (k5.alloc k5.size _)).mono ?_; rintro e w6 ⟨rfl, hb6⟩; have k6 := below_next (k5.alloc k5.size _) hb6; clear hb6))
    have b6 := below_next b3 k6
    go_wp2
    go_returns
    exact ⟨rfl, b6⟩

set_option maxRecDepth 100000 in
theorem lifted (os : Os) (started : os.Started) (H : Type) (enc : TypeId × Value → H) :
    ReturnsInHanded {} Try.checked os 5 .any (Rows.fnWaysSpec.pre6 enc Try.prog Try.f5 Rows.fnWaysRow.domain false) (Rows.fnWaysSpec.post enc Try.prog Try.f5 false true false false) := by
  refine returnsInHanded_of_change (C := Try.checked) own started (by kernel_rfl) Try.func5
    (ChangeSpec.witness6 (enc := enc) (C := Try.checked) false ⟨#[], #[.slice none 0 0, .slice none 0 0], []⟩ 8 (by kernel_rfl) (by kernel_rfl) (by kernel_rfl) (by kernel_rfl)) ?_
  intro W base args ds gs before hval0 hW hcnd _
  have hval : ∀ (j : Nat) t v, Try.f5.params[j]? = some t → args[j]? = some v → Value.okWide Try.prog W .any base t v := hval0
  have hW' := hW
  obtain ⟨p, q, hA0, hV, rfl, hfz, hnd⟩ := hW
  have hA : DataW.TrodAll enc Try.prog W 0 (fun _ => true) true Try.f5.params.toList args.toList ds p := hA0
  rw [Try.params5] at hA hval
  obtain ⟨v0, vs0, d0, ds0, p0, q0, hargs, rfl, rfl, h0, r0⟩ := trodAll_cons hA
  obtain ⟨v1, vs1, d1, ds1, p1, q1, rfl, rfl, rfl, h1, r1⟩ := trodAll_cons r0
  obtain ⟨rfl, rfl, rfl⟩ := trodAll_nil r1
  obtain rfl : args = #[v0, v1] := by cases args; simp_all
  obtain ⟨rfl, rfl⟩ := trodVars_none hV
  have k0 := h0
  have lt0 : ∀ x ∈ p0, x.block < W.heap.size := by obtain ⟨m, hm⟩ := k0; exact DataW.trod_lt m _ _ _ hm
  obtain ⟨A_0, n_0, c_0, bs_0, rfl, R_0⟩ := openBytes (hval 0 22 v0 rfl rfl) h0
  have k1 := h1
  have lt1 : ∀ x ∈ p1, x.block < W.heap.size := by obtain ⟨m, hm⟩ := k1; exact DataW.trod_lt m _ _ _ hm
  obtain ⟨A_1, n_1, c_1, bs_1, rfl, R_1⟩ := openBytes (hval 1 22 v1 rfl rfl) h1
  clear hA0 hval0
  refine (walk A_0 n_0 c_0 bs_0 A_1 n_1 c_1 bs_1 W R_0 R_1).mono fun e W' ⟨he, bel⟩ => ?_
  subst he
  exact ⟨_, rfl, _, _, _, [], _, [], hW', trodAll_mk1 (shut_bool Try.underlying4 _), (trodAll_cons_mk (Below.trod laidOut (by kernel_rfl) (of_decide_eq_true (by kernel_rfl)) k0 bel lt0) (trodAll_cons_mk (Below.trod laidOut (by kernel_rfl) (of_decide_eq_true (by kernel_rfl)) k1 bel lt1) trodAll_mk0)), rfl, bel.frame _, fun h => by cases h⟩

theorem over : Rows.fnWaysRow.holds Try.pinned (OpenSpec.ofChange Rows.fnWaysSpec) :=
  OpenClaim.holds_of_wide 5 Try.f5 rfl rfl rfl rfl rfl rfl rfl ⟨rfl, rfl, rfl, rfl, rfl⟩ rfl rfl rfl rfl rfl (by kernel_rfl) Try.func5 (by kernel_rfl)
    (of_decide_eq_true (by kernel_rfl)) (by unfold Func.isWrapper; first | (rw [if_pos (by decide +kernel)]; kernel_rfl) | (rw [if_neg (by decide +kernel)]; exact ⟨rfl, rfl⟩))
    (fun os started H enc _ => lifted os started H enc)

theorem proved : Rows.FnWaysSaid := over
end Go.Proofs.Ytppjjbjjbmodbaa.fnWays
