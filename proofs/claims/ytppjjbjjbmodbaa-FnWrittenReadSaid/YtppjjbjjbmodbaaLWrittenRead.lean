/-
  The law FnWrittenRead returns true for every input, and what was in memory before the call reads as before: the frame round its walk.
  Conditions: none.
-/
import Derived.Test.YtppjjbjjbmodbaaDrawWrR
import Derived.Test.YtppjjbjjbmodbaaDRead
import Derived.Test.YtppjjbjjbmodbaaSameN
namespace Go.Proofs.Ytppjjbjjbmodbaa.fnWrittenRead
open Go.ChangeShapes Go.WideShapes Go.ChangeAt Go.RowKit
set_option linter.unusedVariables false

set_option maxRecDepth 100000 in
set_option maxHeartbeats 3200000 in
theorem walk (A : Option Addr) (n c : Nat) (bs : List Int) (W : World) (hb : BytesIn W W.heap.size A n c bs) :
    Calls Try.prog 4 #[.slice A n c] W fun e w' => e = .returned (.bool true) ∧ Below W.heap.size W w' := by
  have hm := hb.2.2.1; have hnc := hb.2.1
  unfold maxLen at hm
  by_cases hn : 1048576 < n
  · clear hb
    go_enter Try.func4, Try.ntmps4
    go_wp2
    go_returns
    exact ⟨rfl, Below.refl _ _⟩
  have HD := Lib.hid (drawWrittenRead A n c bs W hb)
  clear hb
  go_enter Try.func4, Try.ntmps4
  go_wp2_with fail
  refine HD.out.mono ?_
  rintro e w1 ⟨⟨A1, n1, c1, xs, A2, n2, c2, ws, A3, n3, c3, ss, p, rfl, hn1, hn2, hS, hDc, hwv, hR⟩, b1⟩
  have hsh : ∀ l ∈ ws, l.length ≤ maxLen := fun l hl => by have := word_len (hwv l hl); unfold maxLen; omega
  have hal : ∀ o, Below w1.heap.size w1 (w1.alloc o) := fun o => (Below.refl _ _).alloc (Nat.le_refl _) o
  have HIw := Lib.hid (fun V (hV : Below w1.heap.size w1 V) (q : Int) => implWrittenRead A1 n1 c1 xs A2 n2 c2 ws A3 n3 c3 ss q V hsh (hS.keep hV) (hDc.keep hV) (hR.keep hV))
  have HSw := Lib.hid (fun V (hV : Below w1.heap.size w1 V) => specWrittenRead A1 n1 c1 xs A2 n2 c2 ws A3 n3 c3 ss p V hsh (hS.keep hV) (hDc.keep hV) (hR.keep hV))
  have HDr := Lib.hid (fun V (hV : Below w1.heap.size w1 V) => implDictionaryRead A1 n1 c1 xs A2 n2 c2 ws A3 n3 c3 ss V hsh (hS.keep hV) (hDc.keep hV) (hR.keep hV))
  have HDc := Lib.hid (fun V (hV : Below w1.heap.size w1 V) => hDc.keep hV)
  have HLw := Lib.hid hDc.1
  have HSh := Lib.hid hsh
  have hncD := hDc.2.1; have hcmD := hDc.2.2.1
  have K1 := Lib.hid (Blk.new w1 35 #[.slice A3 n3 c3, .int .i64 p])
  obtain ⟨k0, k1, _, _⟩ := K1.out.two
  have HAl := Lib.hid hal
  clear hS hDc hwv hR hsh hal HD
  have HLaw := Lib.hid (fun h => @read_law xs ws ss p h)
  have HI1 := Lib.hid (HIw.out _ (HAl.out (.cells #[.slice A3 n3 c3, .int .i64 p] 35)) p)
  generalize hT : readAll xs ws (ss, p) = R at *
  go_wp2_with fail
  refine HI1.out.mono ?_
  rintro e w2 ⟨⟨A4, c4, rfl, hO2⟩, hb2⟩
  have k2 := below_next (HAl.out _) hb2
  have K2 := Lib.hid (K1.out.below hb2)
  obtain ⟨k20, k21, _, _⟩ := K2.out.two
  have HS2 := Lib.hid (HSw.out w2 k2)
  have HO2 := Lib.hid hO2
  clear hb2 hO2 HI1 HSw k0 k1 K1
  go_wp2_with fail
  refine HS2.out.mono ?_
  rintro e w3 ⟨⟨A5, c5, rfl, hO3⟩, hb3⟩
  have k3 := below_next k2 hb3
  have K3 := Lib.hid (K2.out.below hb3)
  have HO3 := Lib.hid (ownG_keep HO2.out hb3)
  have HR2 : Hid (∀ V, Below w3.heap.size w3 V → IntsIn V V.heap.size A4 R.length c4 (asI R)) := Lib.hid (fun V hV => (NatOwn.reads HO3.out rfl).keep hV)
  have HR3 : Hid (∀ V, Below w3.heap.size w3 V → IntsIn V V.heap.size A5 R.length c5 (asI R)) := Lib.hid (fun V hV => (NatOwn.reads hO3 rfl).keep hV)
  clear hb3 hO3 HS2 HO2 HO3 k20 k21 K2
  have HE3 := Lib.hid (sameInts A4 A5 R.length c4 c5 _ w3 (HR2.out w3 (Below.refl _ _)) (HR3.out w3 (Below.refl _ _)))
  have hRm := (HR2.out w3 (Below.refl _ _)).2.1; have hRc := (HR2.out w3 (Below.refl _ _)).2.2.1
  unfold maxLen at hRc
  go_wp2_with fail
  refine HE3.out.mono ?_
  rintro e w4 ⟨rfl, hb4⟩
  have k4 := below_next k3 hb4
  have q4 := hb4
  have K4 := Lib.hid (K3.out.below hb4)
  clear hb4 HE3 K3
  by_cases hR0 : R = []
  · have HE4 := Lib.hid (sameInts A4 A5 R.length c4 c5 _ w4 (HR2.out w4 q4) (HR3.out w4 q4))
    have hl0 : R.length = 0 := by rw [hR0]; rfl
    clear hR0 hT HLaw
    rw [hl0] at HE4
    rw [hl0]
    go_wp2_with fail
    refine HE4.out.mono ?_
    rintro e w5 ⟨rfl, hb5⟩
    have b5 := below_next b1 (below_next k4 hb5)
    go_wp2
    go_returns
    exact ⟨rfl, b5⟩
  · obtain ⟨h1, h2, h3, h4⟩ := HLaw.out hR0
    have hl0 : ((R.length : Int) == 0) = false := by
      have : R.length ≠ 0 := fun h => hR0 (List.eq_nil_of_length_eq_zero h)
      simp only [beq_eq_false_iff_ne, ne_eq]; omega
    have HDk := Lib.hid (HDr.out w4 k4)
    rw [h3] at HDk
    have hDl := dreadOf_len xs ws ss
    have hRl := read_le xs ws ss p
    have HRe : Hid (R = readOf xs ws (ss, p)) := Lib.hid h2
    rw [← HRe.out] at hRl
    have HS3 := Lib.hid (sumR_three xs ws ss)
    have HSl := Lib.hid (fun k => sumR_le h4 xs ss k)
    have HSs : Hid (∀ k, sumR xs ws ss (k + 1) = sumR xs ws ss k + (readOf xs ws (ss, (k : Int))).length) := Lib.hid (fun k => rfl)
    have HRl := Lib.hid (fun k : Nat => readOf_len xs ws (ss, (k : Int)))
    have HH := Lib.hid (fun i (h : i ∈ dreadOf xs ws ss) => has_pos (p := p) h)
    rw [← HRe.out] at HH
    have HLt := Lib.hid (fun i (h : i ∈ dreadOf xs ws ss) => dread_lt h)
    have HIk := Lib.hid (fun V (hV : Below w1.heap.size w1 V) (q : Nat) (hq : q < 3) => by
      have := HIw.out V hV (q : Int)
      rw [h1 (q : Int) (by omega) (by omega)] at this
      exact this)
    obtain ⟨k40, k41, _, _⟩ := K4.out.two
    clear h1 h2 h3 hT HLaw HIw HDr HR3 hR0
    generalize hDq : dreadOf xs ws ss = D at *
    clear hDq
    generalize sumR xs ws ss = S at *
    go_wp2_with fail
    refine HDk.out.mono ?_
    rintro e w5 ⟨⟨A6, c6, rfl, hO5⟩, hb5⟩
    have k5 := below_next k4 hb5
    have q5 := below_next q4 hb5
    have K5 := Lib.hid (K4.out.below hb5)
    have HD5 : Hid (∀ V, Below w5.heap.size w5 V → IntsIn V V.heap.size A6 D.length c6 (asI D)) := Lib.hid (fun V hV => (NatOwn.reads hO5 rfl).keep hV)
    have hcD := (HD5.out w5 (Below.refl _ _)).2.1; have hmD := (HD5.out w5 (Below.refl _ _)).2.2.1
    unfold maxLen at hmD
    clear hO5 hb5 HDk k40 k41 K4 k4 q4
    have hD20 : D.length ≤ 20 := by omega
    generalize hML : D.length = M at *
    have HML := Lib.hid hML; clear hML
    generalize hNL : R.length = N at *
    have HNL := Lib.hid hNL; clear hNL
    have hS0 : S 0 ≤ 0 := HSl.out 0
    have HS0 : Hid (S 0 = 0) := Lib.hid (by omega)
    clear hS0
    go_wp2
    go_loopw [9, 10] (fun a i wr => ∃ k : Nat, k ≤ 3 ∧ i = .int .i64 k ∧ a = .int .i64 (S k : Int) ∧ Below w5.heap.size w5 wr) (fun _ i _ => 3 - (intOf i).toNat)
    case atStart => exact ⟨0, Nat.zero_le _, rfl, by rw [HS0.out]; rfl, Below.refl _ _⟩
    case round =>
      obtain ⟨k, hk, rfl, rfl, hb⟩ := hrel
      have hsl := HSl.out k
      by_cases hlt : k < 3
      · have HX := Lib.hid (HIk.out wr (below_next k5 hb) k hlt)
        have HSk := Lib.hid (HSs.out k)
        have hrl := HRl.out k
        generalize readOf xs ws (ss, (k : Int)) = Q at *
        obtain ⟨k50, k51, _, _⟩ := (K5.out.below hb).two
        go_wp2_with fail
        refine HX.out.mono ?_
        rintro e w6 ⟨⟨A7, c7, rfl, _⟩, hb6⟩
        have b6 := below_next hb hb6
        clear hb6 HX k50 k51
        generalize hQ : Q.length = L at *
        have HS1 : Hid (S (k + 1) = S k + L) := Lib.hid (by rw [HSk.out])
        clear hQ HSk
        generalize S k = s at *
        go_wp2
        go_roundw
        case rel => exact ⟨k + 1, by omega, by go_num, by rw [HS1.out]; go_num, b6⟩
        case measure => simp [intOf]; omega
      · have hk3 : k = 3 := by omega
        have hSk : S k = M := by rw [hk3]; exact HS3.out
        have hge : (3 : Int) ≤ (k : Int) := by omega
        have b6 := below_next k5 hb
        have q6 := below_next q5 hb
        have K6 := Lib.hid (K5.out.below hb)
        have HD6 : Hid (∀ V, Below wr.heap.size wr V → IntsIn V V.heap.size A6 M c6 (asI D)) := Lib.hid (fun V hV => HD5.out V (below_next hb hV))
        rw [hSk]
        clear hSk hk3
        clear hb K5 HD5 k5 q5 hsl
        go_wp2
        go_loopw [11] (fun i wv => ∃ k : Nat, k ≤ M ∧ i = .int .i64 k ∧ Below wr.heap.size wr wv) (fun i _ => M - (intOf i).toNat)
        case atStart => exact ⟨0, Nat.zero_le _, rfl, Below.refl _ _⟩
        case round =>
          obtain ⟨k, hk, rfl, hb⟩ := hrel
          by_cases hlt : k < M
          · have hkD : k < D.length := by rw [HML.out]; exact hlt
            have hmem : D.getD k 0 ∈ D := by rw [List.getD_eq_getElem?_getD, List.getElem?_eq_getElem hkD]; exact List.getElem_mem hkD
            obtain ⟨bd, od, rfl, hbd, d0⟩ := (HD6.out _ hb).at_ hlt
            have hid2 : intAt (asI D) k = ((D.getD k 0 : Nat) : Int) := by
              unfold intAt asI; rw [List.getD_eq_getElem?_getD, List.getElem?_map, List.getD_eq_getElem?_getD, List.getElem?_eq_getElem hkD]; rfl
            rw [hid2] at d0
            have hj := HLt.out _ hmem
            have hj2 : D.getD k 0 < n2 := by rw [← HLw.out]; exact hj
            have hne := HH.out _ hmem
            obtain ⟨bw, ow, rfl, hbw, c0⟩ := (HDc.out _ (below_next b6 hb)).at_ hj2
            have hpos : ∀ V, Calls Try.prog 19 #[.string (mkStr (wdAt ws (D.getD k 0)))] V fun e w' => e = .returned (.int .i64 (posOf (wdAt ws (D.getD k 0)))) ∧ Below V.heap.size V w' := fun V => by
              have := implWordPosition (mkStr (wdAt ws (D.getD k 0))) V (by rw [mkStr_size]; exact HSh.out _ (wdAt_mem hj))
              rw [mkStr_data] at this
              exact this
            have HPo := Lib.hid hpos
            obtain ⟨k60, k61, _, _⟩ := (K6.out.below hb).two
            clear hid2 hpos hj
            generalize wdAt ws (D.getD k 0) = l at *
            generalize D.getD k 0 = j at *
            generalize posOf l = pl at *
            have HHs : Hid (∀ V, Below wr.heap.size wr V → Calls Try.prog 18 #[.slice A4 N c4, .int .i64 (j : Int)] V fun e w' => e = .returned (.bool (decide ((j : Int) ∈ asI R))) ∧ Below V.heap.size V w') := Lib.hid (fun V hV => (hasInt A4 N c4 _ (j : Int) V (HR2.out V (below_next (below_next q6 hb) hV))).mono (fun e w' h => ⟨h.1, h.2 ▸ Below.refl _ _⟩))
            generalize decide ((j : Int) ∈ asI R) = hq at *
            have hne2 : (hq == (pl == p)) = true := by
              revert hne
              generalize (pl == p) = b2
              cases hq <;> cases b2 <;> decide
            have i1 : (0 : Int) ≤ (k : Int) := by omega
            have i2 : (k : Int) < (M : Int) := by omega
            have i3 : (0 : Int) ≤ (j : Int) := by omega
            have i4 : (j : Int) < (n2 : Int) := by omega
            have r0 := qcell d0; have r1 := qcell c0; have r2 := qcell k61
            clear d0 c0 k60 k61
            go_wp2_with fail
            refine region_qb (by kernel_rfl) (by kernel_rfl) ?_
            repeat (first | go_big_quiet_step ((first | (go_at_call 18; exact quietB (HHs.out _ (below_regrown _ _ _))) | (go_at_call 19; exact quietB (HPo.out _)))) | quiet_step ((first | (go_at_call 18; exact quietB (HHs.out _ (below_regrown _ _ _))) | (go_at_call 19; exact quietB (HPo.out _)))))
            refine wpQuiet_nil ?_
            intro w7 hb7
            have b7 := below_next hb hb7
            clear hb7 r0 r1 r2
            go_wp2
            go_roundw
            case rel => exact ⟨k + 1, by omega, by go_num, b7⟩
            case measure => simp [intOf]; omega
          · obtain rfl : k = M := by omega
            have b7 := below_next b1 (below_next b6 hb)
            have e1 : ((k : Int) == (k : Int)) = true := by simp
            have e2 : (N : Int) ≤ (k : Int) := by omega
            go_wp2
            go_returns
            exact ⟨rfl, b7⟩

set_option maxRecDepth 100000 in
theorem lifted (os : Os) (started : os.Started) (H : Type) (enc : TypeId × Value → H) :
    ReturnsInHanded {} Try.checked os 4 .any (Rows.fnWrittenReadSpec.pre6 enc Try.prog Try.f4 Rows.fnWrittenReadRow.domain false) (Rows.fnWrittenReadSpec.post enc Try.prog Try.f4 false true false false) := by
  refine returnsInHanded_of_change (C := Try.checked) own started (by kernel_rfl) Try.func4
    (ChangeSpec.witness6 (enc := enc) (C := Try.checked) false ⟨#[], #[.slice none 0 0], []⟩ 8 (by kernel_rfl) (by kernel_rfl) (by kernel_rfl) (by kernel_rfl)) ?_
  intro W base args ds gs before hval0 hW hcnd _
  have hval : ∀ (j : Nat) t v, Try.f4.params[j]? = some t → args[j]? = some v → Value.okWide Try.prog W .any base t v := hval0
  have hW' := hW
  obtain ⟨p, q, hA0, hV, rfl, hfz, hnd⟩ := hW
  have hA : DataW.TrodAll enc Try.prog W 0 (fun _ => true) true Try.f4.params.toList args.toList ds p := hA0
  rw [Try.params4] at hA hval
  obtain ⟨v0, vs0, d0, ds0, p0, q0, hargs, rfl, rfl, h0, r0⟩ := trodAll_cons hA
  obtain ⟨rfl, rfl, rfl⟩ := trodAll_nil r0
  obtain rfl : args = #[v0] := by cases args; simp_all
  obtain ⟨rfl, rfl⟩ := trodVars_none hV
  have k0 := h0
  have lt0 : ∀ x ∈ p0, x.block < W.heap.size := by obtain ⟨m, hm⟩ := k0; exact DataW.trod_lt m _ _ _ hm
  obtain ⟨A_0, n_0, c_0, bs_0, rfl, R_0⟩ := openBytes (hval 0 22 v0 rfl rfl) h0
  clear hA0 hval0
  refine (walk A_0 n_0 c_0 bs_0 W R_0).mono fun e W' ⟨he, bel⟩ => ?_
  subst he
  exact ⟨_, rfl, _, _, _, [], _, [], hW', trodAll_mk1 (shut_bool Try.underlying4 _), (trodAll_cons_mk (Below.trod laidOut (by kernel_rfl) (of_decide_eq_true (by kernel_rfl)) k0 bel lt0) trodAll_mk0), rfl, bel.frame _, fun h => by cases h⟩

theorem over : Rows.fnWrittenReadRow.holds Try.pinned (OpenSpec.ofChange Rows.fnWrittenReadSpec) :=
  OpenClaim.holds_of_wide 4 Try.f4 rfl rfl rfl rfl rfl rfl rfl ⟨rfl, rfl, rfl, rfl, rfl⟩ rfl rfl rfl rfl rfl (by kernel_rfl) Try.func4 (by kernel_rfl)
    (of_decide_eq_true (by kernel_rfl)) (by unfold Func.isWrapper; first | (rw [if_pos (by decide +kernel)]; kernel_rfl) | (rw [if_neg (by decide +kernel)]; exact ⟨rfl, rfl⟩))
    (fun os started H enc _ => lifted os started H enc)

theorem proved : Rows.FnWrittenReadSaid := over
end Go.Proofs.Ytppjjbjjbmodbaa.fnWrittenRead
