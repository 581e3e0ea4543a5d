/-
  The law FnCabinet returns true for every input, and what was in memory before the call reads as before: the frame round its walk.
  Conditions: none.
-/
import Derived.Test.YtbeaandjhlpaeaaDrawC
import Derived.Test.YtbeaandjhlpaeaaCabCount
namespace Go.Proofs.Ytbeaandjhlpaeaa.fnCabinet
open Go.ChangeShapes Go.WideShapes Go.ChangeAt Go.RowKit
set_option linter.unusedVariables false

theorem walk (A : Option Addr) (n c : Nat) (bs : List Int) (A' : Option Addr) (n' c' : Nat) (bs' : List Int) (W : World) (hb : BytesIn W W.heap.size A n c bs) (hb' : BytesIn W W.heap.size A' n' c' bs') :
    Calls Try.prog 9 #[.slice A n c, .slice A' n' c'] W fun e w' => e = .returned (.bool true) ∧ Below W.heap.size W w' := by
  have hm := hb.2.2.1
  have hnc := hb.2.1
  have hm' := hb'.2.2.1
  have hnc' := hb'.2.1
  unfold maxLen at hm hm'
  clear hb'
  by_cases hn : 1048576 < n
  · clear hb
    go_enter Try.func9, Try.ntmps9
    go_wp2
    go_returns
    exact ⟨rfl, by go_grown⟩
  by_cases hn' : 1048576 < n'
  · clear hb
    go_enter Try.func9, Try.ntmps9
    go_wp2
    go_returns
    exact ⟨rfl, by go_grown⟩
  have HD := Lib.hid (drawCabinetValid A n c bs W hb)
  clear hb
  go_enter Try.func9, Try.ntmps9
  go_wp2_with fail
  refine HD.out.mono ?_
  rintro e w1 ⟨Ac, cc, ds, rfl, hD, hsz, b1⟩
  have H1 := Lib.hid hD
  have hcm := hD.2.2.1; have hcc := hD.2.1
  unfold maxLen at hcm
  have hdl : ds.length ≤ 4096 := by have := cabSz_len ds; omega
  clear hD HD
  generalize hdn : ds.length = N at *
  have HN := Lib.hid hdn; clear hdn
  have IV := Lib.hid (implCabinetValid Ac N cc ds w1 H1.out)
  have hok : cabB (ds.map (·.ps)) = true ∨ cabB (ds.map (·.ps)) = false := by cases cabB (ds.map (·.ps)) <;> simp
  rcases hok with hok | hok
  · rw [hok] at IV
    have HO := Lib.hid (cabB_iff.1 hok)
    go_wp2_with fail
    refine IV.out.mono ?_
    rintro e w2 ⟨rfl, hb2⟩
    have b2 := below_next b1 hb2
    have H2 := Lib.hid (H1.out.keep hb2)
    have SV := Lib.hid (specCabinetValid Ac N cc ds w2 (by omega) H2.out)
    rw [hok] at SV
    clear hok hb2 H1 IV
    go_wp2_with fail
    refine SV.out.mono ?_
    rintro e w3 ⟨rfl, hb3⟩
    have b3 := below_next b2 hb3
    have H3 := Lib.hid (H2.out.keep hb3)
    have CC := Lib.hid (implCabinetCount Ac N cc ds w3 (by omega) H3.out)
    rw [cntI_yes (cabB_yes HO.out)] at CC
    clear hb3 H2 SV
    obtain ⟨q, hq⟩ : ∃ q, q = n' % (N + 1) := ⟨_, rfl⟩
    have hqN : q ≤ N := by rw [hq]; have := Nat.mod_lt n' (show 0 < N + 1 by omega); omega
    have hqi : (n' : Int) % ((N : Int) + 1) = (q : Int) := by rw [hq]; push_cast; rfl
    clear hq
    go_wp2_with fail
    refine CC.out.mono ?_
    rintro e w4 ⟨rfl, hb4⟩
    have b4 := below_next b3 hb4
    have H4 := Lib.hid (H3.out.keep hb4)
    clear hb4 H3 CC
    have hfb := flat_bounds HO.out.2.1
    rw [List.length_map, HN.out] at hfb
    have hfs : ((ds.map (·.ps)).take q).flatten.length + ((ds.map (·.ps)).drop q).flatten.length = (ds.map (·.ps)).flatten.length := by
      rw [← List.length_append, ← List.flatten_append, List.take_append_drop]
    have hts := cabSz_take (ds := ds) q
    have D1 := Lib.hid (H4.out.upto (k := q) hqN)
    have D2 := Lib.hid (H4.out.from_ (k := q) hqN)
    have e1 : (ds.take q).map (·.ps) = (ds.map (·.ps)).take q := by rw [List.map_take]
    have e2 : (ds.drop q).map (·.ps) = (ds.map (·.ps)).drop q := by rw [List.map_drop]
    have HP := Lib.hid (cabOK_parts HO.out q)
    have V1 : Hid (∀ W, Below w4.heap.size w4 W → Calls Try.prog 25 #[.slice Ac q cc] W fun e w' => e = .returned (.bool true) ∧ Below W.heap.size W w') := Lib.hid (fun W hW => by
      have := implCabinetValid Ac q cc (ds.take q) W (D1.out.keep hW)
      rwa [e1, cabB_yes HP.out.1] at this)
    have V2 : Hid (∀ W, Below w4.heap.size w4 W → Calls Try.prog 25 #[.slice (fromA Ac q cc 1) (N - q) (cc - q)] W fun e w' => e = .returned (.bool true) ∧ Below W.heap.size W w') := Lib.hid (fun W hW => by
      have := implCabinetValid (fromA Ac q cc 1) (N - q) (cc - q) (ds.drop q) W (D2.out.keep hW)
      rwa [e2, cabB_yes HP.out.2] at this)
    have C1 : Hid (∀ W, Below w4.heap.size w4 W → Calls Try.prog 28 #[.slice Ac q cc] W fun e w' => e = .returned (.int .i64 (((ds.map (·.ps)).take q).flatten.length : Int)) ∧ Below W.heap.size W w') := Lib.hid (fun W hW => by
      have := implCabinetCount Ac q cc (ds.take q) W (by omega) (D1.out.keep hW)
      rwa [e1, cntI_yes (cabB_yes HP.out.1)] at this)
    have C2 : Hid (∀ W, Below w4.heap.size w4 W → Calls Try.prog 28 #[.slice (fromA Ac q cc 1) (N - q) (cc - q)] W fun e w' => e = .returned (.int .i64 (((ds.map (·.ps)).drop q).flatten.length : Int)) ∧ Below W.heap.size W w') := Lib.hid (fun W hW => by
      have := implCabinetCount (fromA Ac q cc 1) (N - q) (cc - q) (ds.drop q) W (by omega) (D2.out.keep hW)
      rwa [e2, cntI_yes (cabB_yes HP.out.2)] at this)
    have hsl1 : ∀ W, (Instr.slice 39 (.slice Ac N cc) none (some (.int .i64 (q : Int))) none).run Try.prog W = .ok (.slice Ac q cc) W := fun W => run_uptoA elemCab sizeSl Ac N cc q (by omega) W
    have hsl2 : ∀ W, (Instr.slice 39 (.slice Ac N cc) (some (.int .i64 (q : Int))) none none).run Try.prog W = .ok (.slice (fromA Ac q cc 1) (N - q) (cc - q)) W := fun W => run_from elemCab sizeSl Ac N cc q hqN W
    generalize ((ds.map (·.ps)).take q).flatten.length = x1 at *
    generalize ((ds.map (·.ps)).drop q).flatten.length = x2 at *
    generalize (ds.map (·.ps)).flatten.length = x at *
    have hx3 : ((x : Int) == x) = true := by simp
    have hx1 : decide (N ≤ x) = true := decide_eq_true (by omega)
    have hx4 : decide (x ≤ 4 * N) = true := decide_eq_true (by omega)
    have hx2 : decide ((x : Int) ≤ 4 * N) = true := decide_eq_true (by omega)
    have hw1 : IntKind.i64.wrap ((x1 : Int) + x2) = x := by rw [IntWalk.i64_in _ (by omega)]; omega
    have hw2 : IntKind.i64.wrap (4 * (N : Int)) = 4 * N := IntWalk.i64_in _ (by omega)
    clear e1 e2 hfb hfs hts D1 D2 HP
    go_wp2_with fail
    refine region_qb (by kernel_rfl) (by kernel_rfl) ?_
    repeat (first | go_big_quiet_step ((first | (go_at_call_of 25 (Value.slice Ac q cc); exact quietB (V1.out _ (below_regrown w4 _ _))) | (go_at_call_of 25 (Value.slice (fromA Ac q cc 1) (N - q) (cc - q)); exact quietB (V2.out _ (below_regrown w4 _ _))) | (go_at_call_of 28 (Value.slice Ac q cc); exact quietB (C1.out _ (below_regrown w4 _ _))) | (go_at_call_of 28 (Value.slice (fromA Ac q cc 1) (N - q) (cc - q)); exact quietB (C2.out _ (below_regrown w4 _ _))))) | quiet_step ((first | (go_at_call_of 25 (Value.slice Ac q cc); exact quietB (V1.out _ (below_regrown w4 _ _))) | (go_at_call_of 25 (Value.slice (fromA Ac q cc 1) (N - q) (cc - q)); exact quietB (V2.out _ (below_regrown w4 _ _))) | (go_at_call_of 28 (Value.slice Ac q cc); exact quietB (C1.out _ (below_regrown w4 _ _))) | (go_at_call_of 28 (Value.slice (fromA Ac q cc 1) (N - q) (cc - q)); exact quietB (C2.out _ (below_regrown w4 _ _))))))
    refine wpQuiet_nil ?_
    intro w5 hb5
    have b5 := below_next b4 hb5
    clear hb5
    go_wp2
    go_returns
    exact ⟨rfl, b5⟩
  · rw [hok] at IV
    go_wp2_with fail
    refine IV.out.mono ?_
    rintro e w2 ⟨rfl, hb2⟩
    have b2 := below_next b1 hb2
    have H2 := Lib.hid (H1.out.keep hb2)
    have SV := Lib.hid (specCabinetValid Ac N cc ds w2 (by omega) H2.out)
    rw [hok] at SV
    clear hok hb2 H1 IV
    go_wp2_with fail
    refine SV.out.mono ?_
    rintro e w3 ⟨rfl, hb3⟩
    have b3 := below_next b2 hb3
    go_wp2
    go_returns
    exact ⟨rfl, b3⟩


set_option maxRecDepth 100000 in
theorem lifted (os : Os) (started : os.Started) (H : Type) (enc : TypeId × Value → H) :
    ReturnsInHanded {} Try.checked os 9 .any (Rows.fnCabinetSpec.pre6 enc Try.prog Try.f9 Rows.fnCabinetRow.domain false) (Rows.fnCabinetSpec.post enc Try.prog Try.f9 false true false false) := by
  refine returnsInHanded_of_change (C := Try.checked) own started (by kernel_rfl) Try.func9
    (ChangeSpec.witness6 (enc := enc) (C := Try.checked) false ⟨#[], #[.slice none 0 0, .slice none 0 0], []⟩ 8 (by kernel_rfl) (by kernel_rfl) (by kernel_rfl) (by kernel_rfl)) ?_
  intro W base args ds gs before hval0 hW hcnd _
  have hval : ∀ (j : Nat) t v, Try.f9.params[j]? = some t → args[j]? = some v → Value.okWide Try.prog W .any base t v := hval0
  have hW' := hW
  obtain ⟨p, q, hA0, hV, rfl, hfz, hnd⟩ := hW
  have hA : DataW.TrodAll enc Try.prog W 0 (fun _ => true) true Try.f9.params.toList args.toList ds p := hA0
  rw [Try.params9] at hA hval
  obtain ⟨v0, vs0, d0, ds0, p0, q0, hargs, rfl, rfl, h0, r0⟩ := trodAll_cons hA
  obtain ⟨v1, vs1, d1, ds1, p1, q1, rfl, rfl, rfl, h1, r1⟩ := trodAll_cons r0
  obtain ⟨rfl, rfl, rfl⟩ := trodAll_nil r1
  obtain rfl : args = #[v0, v1] := by cases args; simp_all
  obtain ⟨rfl, rfl⟩ := trodVars_none hV
  have k0 := h0
  have lt0 : ∀ x ∈ p0, x.block < W.heap.size := by obtain ⟨m, hm⟩ := k0; exact DataW.trod_lt m _ _ _ hm
  obtain ⟨A_0, n_0, c_0, bs_0, rfl, R_0⟩ := openBytes (hval 0 32 v0 rfl rfl) h0
  have k1 := h1
  have lt1 : ∀ x ∈ p1, x.block < W.heap.size := by obtain ⟨m, hm⟩ := k1; exact DataW.trod_lt m _ _ _ hm
  obtain ⟨A_1, n_1, c_1, bs_1, rfl, R_1⟩ := openBytes (hval 1 32 v1 rfl rfl) h1
  clear hA0 hval0
  refine (walk A_0 n_0 c_0 bs_0 A_1 n_1 c_1 bs_1 W R_0 R_1).mono fun e W' ⟨he, bel⟩ => ?_
  subst he
  exact ⟨_, rfl, _, _, _, [], _, [], hW', trodAll_mk1 (shut_bool Try.underlying4 _), (trodAll_cons_mk (Below.trod laidOut (by kernel_rfl) (of_decide_eq_true (by kernel_rfl)) k0 bel lt0) (trodAll_cons_mk (Below.trod laidOut (by kernel_rfl) (of_decide_eq_true (by kernel_rfl)) k1 bel lt1) trodAll_mk0)), rfl, bel.frame _, fun h => by cases h⟩

theorem over : Rows.fnCabinetRow.holds Try.pinned (OpenSpec.ofChange Rows.fnCabinetSpec) :=
  OpenClaim.holds_of_wide 9 Try.f9 rfl rfl rfl rfl rfl rfl rfl ⟨rfl, rfl, rfl, rfl, rfl⟩ rfl rfl rfl rfl rfl (by kernel_rfl) Try.func9 (by kernel_rfl)
    (of_decide_eq_true (by kernel_rfl)) (by unfold Func.isWrapper; first | (rw [if_pos (by decide +kernel)]; kernel_rfl) | (rw [if_neg (by decide +kernel)]; exact ⟨rfl, rfl⟩))
    (fun os started H enc _ => lifted os started H enc)

theorem proved : Rows.FnCabinetSaid := over
end Go.Proofs.Ytbeaandjhlpaeaa.fnCabinet
