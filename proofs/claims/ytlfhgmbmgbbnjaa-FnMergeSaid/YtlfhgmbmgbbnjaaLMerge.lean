/-
  The law FnMerge returns true for every input, and what was in memory before the call reads as before: the frame round its walk.
  Conditions: none.
-/
import Derived.Test.YtlfhgmbmgbbnjaaDrawM2
import Derived.Test.YtlfhgmbmgbbnjaaMkSame
namespace Go.Proofs.Ytlfhgmbmgbbnjaa.fnMerge
open Go.ChangeShapes Go.WideShapes Go.ChangeAt Go.RowKit
set_option linter.unusedVariables false

theorem rowW_bd (x : Mk) (b : List Mk) (hx : -1000 ≤ wM x ∧ wM x ≤ 1000) : -1000 * (b.length : Int) ≤ rowW x b ∧ rowW x b ≤ 1000 * (b.length : Int) := by
  induction b with
  | nil => simp [rowW]
  | cons y r ih => rw [rowW, List.length_cons]; split <;> omega
theorem comW_bd (a b : List Mk) (ha : ∀ x ∈ a, -1000 ≤ wM x ∧ wM x ≤ 1000) (hb : b.length ≤ 20) : -20000 * (a.length : Int) ≤ comW a b ∧ comW a b ≤ 20000 * (a.length : Int) := by
  induction a with
  | nil => simp [comW]
  | cons x r ih =>
    have h1 := rowW_bd x b (ha x (by simp))
    have h2 := ih (fun y hy => ha y (by simp [hy]))
    rw [comW, List.length_cons]; omega
theorem valid_bd {base : List Wd} {ms : List Mk} (h : marksB base ms = true) : ms.length ≤ 20 ∧ ∀ x ∈ ms, -1000 ≤ wM x ∧ wM x ≤ 1000 := by
  obtain ⟨h0, h1, h2, _⟩ := marksB_iff.1 h
  refine ⟨h1, fun x hx => ?_⟩
  have h3 := mkB_iff.1 ((gapB_ord h2).1 x hx)
  have h4 := (spB_iff.1 h3.2.1).2
  have h5 := (spB_iff.1 h0).2
  unfold wM; omega
theorem valid_bd2 {base : List Wd} {ms : List Mk} (h : marksB base ms = true) : ∀ x ∈ ms, x.put.length ≤ 20 ∧ x.cut ≤ 20 := by
  obtain ⟨h0, h1, h2, _⟩ := marksB_iff.1 h
  intro x hx
  have h3 := mkB_iff.1 ((gapB_ord h2).1 x hx)
  have h4 := (spB_iff.1 h3.2.1).2
  have h5 := (spB_iff.1 h0).2
  omega
theorem merge_20l {base a b out : List Wd} (h : mergeThree base a b = some out) : base.length ≤ 20 ∧ a.length ≤ 20 ∧ b.length ≤ 20 := by
  unfold mergeThree at h
  split at h
  · rename_i hs
    rw [Bool.and_eq_true, Bool.and_eq_true] at hs
    exact ⟨(spB_iff.1 hs.1).2, (spB_iff.1 hs.2.1).2, (spB_iff.1 hs.2.2).2⟩
  · cases h
theorem oneM {w : World} {B n c i : Nat} {A : Option Addr} {xs : List Mr} (h : MrsIn w B A n c xs) (hi : i < n) : MrsIn w B (fromB A i c 3) 1 (c - i) [mrAt xs i] := by
  obtain ⟨h1, h2, h3, h4, h5⟩ := h
  have h6 := (h4.take (k := i + 1) (by omega)).fromS (k := i) (c := c) (by omega) (by omega)
  rw [flat_take mkC_len, flat_drop mkC_len, show i + 1 - i = 1 by omega] at h6
  have e : (xs.take (i + 1)).drop i = [mrAt xs i] := by
    have hl : i < xs.length := by omega
    have h7 := mrAt_some hl
    rw [List.getElem?_eq_getElem hl] at h7
    injection h7 with h7
    rw [List.take_succ_eq_append_getElem hl, List.drop_append_of_le_length (by rw [List.length_take]; omega), List.drop_of_length_le (by rw [List.length_take]; omega), h7]; rfl
  rw [e] at h6
  exact ⟨rfl, by omega, by omega, h6, fun x hx => by rw [List.mem_singleton] at hx; subst hx; exact h5 _ (mrAt_mem (by omega))⟩
theorem run_oneM {A : Option Addr} {n c i : Nat} (hi : i < n) (hn : n ≤ c) (w : World) : (Instr.slice 32 (.slice A n c) (some (.int .i64 (i : Int))) (some (.int .i64 ((i : Int) + 1))) none).run Try.prog w = .ok (.slice (fromB A i c 3) 1 (c - i)) w := by
  have := run_lhS (sz := 3) (t := 32) (P := Try.prog) (by kernel_rfl) (fun w => by kernel_rfl) A n c i (i + 1) (by omega) (by omega) w
  rw [show i + 1 - i = 1 by omega] at this
  exact this
theorem comW_step {MA MB : List Mk} {i : Nat} (h : i < MA.length) : comW (MA.take (i + 1)) MB = comW (MA.take i) MB + rowW (mkAt MA i) MB := by
  rw [List.take_succ_eq_append_getElem h, comW_snoc, mkAt_get h]
theorem rowW_step {x : Mk} {MB : List Mk} {k : Nat} (h : k < MB.length) : rowW x (MB.take (k + 1)) = rowW x (MB.take k) + (if x = mkAt MB k then wM x else 0) := by
  rw [List.take_succ_eq_append_getElem h, rowW_snoc, mkAt_get h]
set_option maxRecDepth 100000 in
set_option maxHeartbeats 6400000 in
theorem walk (A : Option Addr) (n c : Nat) (bs : List Int) (W : World) (hb : BytesIn W W.heap.size A n c bs) :
    Calls Try.prog 4 #[.slice A n c] W fun e w' => e = .returned (.bool true) ∧ Below W.heap.size W w' := by
  have hm := hb.2.2.1; have hnc := hb.2.1
  unfold maxLen at hm
  by_cases hn : 1048576 < n
  · clear hb
    go_enter Try.func4, Try.ntmps4
    go_wp2
    go_returns
    exact ⟨rfl, Below.refl _ _⟩
  have HD := Lib.hid (drawMergeThree A n c bs W hb)
  clear hb
  go_enter Try.func4, Try.ntmps4
  go_wp2_with fail
  refine HD.out.mono ?_
  rintro e w1 ⟨A0, n0, c0, base, A1, n1, c1, a, A2, n2, c2, b, rfl, R0, X0, R1, X1, R2, X2, b1⟩
  have HI := Lib.hid (fun w (h : Below w1.heap.size w1 w) => implMergeThree A0 n0 c0 base A1 n1 c1 a A2 n2 c2 b w X0 X1 X2 (R0.keep h) (R1.keep h) (R2.keep h))
  have HS := Lib.hid (fun w (h : Below w1.heap.size w1 w) => specMergeThree A0 n0 c0 base A1 n1 c1 a A2 n2 c2 b w X0 X1 X2 (R0.keep h) (R1.keep h) (R2.keep h))
  have HX := Lib.hid (fun w (h : Below w1.heap.size w1 w) => implMergeThree A0 n0 c0 base A2 n2 c2 b A1 n1 c1 a w X0 X2 X1 (R0.keep h) (R2.keep h) (R1.keep h))
  have HY := Lib.hid (fun w (h : Below w1.heap.size w1 w) => implMergeThree A0 n0 c0 base A1 n1 c1 a A0 n0 c0 base w X0 X1 X0 (R0.keep h) (R1.keep h) (R0.keep h))
  have HZ := Lib.hid (fun w (h : Below w1.heap.size w1 w) => implMergeThree A0 n0 c0 base A1 n1 c1 a A1 n1 c1 a w X0 X1 X1 (R0.keep h) (R1.keep h) (R1.keep h))
  have HMA := Lib.hid (fun w (h : Below w1.heap.size w1 w) => implMarksMake A0 n0 c0 base A1 n1 c1 a w X0 X1 (R0.keep h) (R1.keep h))
  have HMB := Lib.hid (fun w (h : Below w1.heap.size w1 w) => implMarksMake A0 n0 c0 base A2 n2 c2 b w X0 X2 (R0.keep h) (R2.keep h))
  have HA := Lib.hid (fun w (h : Below w1.heap.size w1 w) => R1.keep h)
  have HL0 := Lib.hid R0.1; have HL1 := Lib.hid R1.1; have HL2 := Lib.hid R2.1
  have q0 := R0.2.2.1; have q1 := R1.2.2.1; have q2 := R2.2.2.1
  have q3 := R0.2.1; have q4 := R1.2.1; have q5 := R2.2.1
  unfold maxLen at q0 q1 q2
  clear R0 R1 R2 X0 X1 X2 HD
  have k1 : Below w1.heap.size w1 w1 := Below.refl _ _
  have HI1 := Lib.hid (HI.out w1 k1)
  clear HI
  go_wp2_with fail
  refine HI1.out.mono ?_
  rintro e w2 ⟨⟨A3, c3, rfl, hO3⟩, hb2⟩
  have b2 := below_next b1 hb2
  have k2 := below_next k1 hb2
  have HO3 := Lib.hid hO3
  have HS2 := Lib.hid (HS.out w2 k2)
  clear hO3 hb2 HI1 HS
  go_wp2_with fail
  refine HS2.out.mono ?_
  rintro e w3 ⟨⟨A4, c4, rfl, hO4⟩, hb3⟩
  have b3 := below_next b2 hb3
  have k3 := below_next k2 hb3
  have HR3 : Hid (WdsIn w3 w3.heap.size A3 ((mergeThree base a b).getD []).length c3 ((mergeThree base a b).getD [])) := Lib.hid (WdOwn.reads (HO3.out.keep hb3) rfl)
  have HR4 : Hid (WdsIn w3 w3.heap.size A4 ((mergeThree base a b).getD []).length c4 ((mergeThree base a b).getD [])) := Lib.hid (WdOwn.reads hO4 rfl)
  clear hO4 hb3 HS2 HO3
  cases hR : mergeThree base a b with
  | none =>
    rw [hR] at HR3 HR4
    dsimp only [Option.getD_none, List.length_nil, Option.isSome_none] at HR3 HR4 ⊢
    have HT := Lib.hid (fun w (h : Below w3.heap.size w3 w) => (sameTexts A3 0 c3 A4 0 c4 [] [] w (HR3.out.keep h) (HR4.out.keep h)))
    have HT1 := Lib.hid (HT.out w3 (Below.refl _ _))
    clear hR HX HY HZ HMA HMB HA HR3 HR4
    go_wp2_with fail
    refine HT1.out.mono ?_
    rintro e w4 ⟨rfl, hb4⟩
    have b4 := below_next b3 hb4
    have HT2 := Lib.hid (HT.out w4 hb4)
    clear hb4 HT HT1
    go_wp2_with fail
    refine HT2.out.mono ?_
    rintro e w5 ⟨rfl, hb5⟩
    have b5 := below_next b4 hb5
    clear hb5 HT2
    go_wp2
    go_returns
    exact ⟨rfl, b5⟩
  | some out =>
    obtain ⟨l1, l2, l3, l4, l5, l6, l7, l8⟩ := merge_law hR
    obtain ⟨z0, z1, z2⟩ := merge_20l hR
    rw [HL0.out] at z0
    rw [HL1.out] at z1
    rw [HL2.out] at z2
    rw [hR] at HR3 HR4
    unfold MgAns at HX HY HZ
    rw [l1] at HX
    rw [l2] at HY
    rw [l3] at HZ
    unfold makeO' at l4 l5
    unfold makeO at HMA HMB
    rw [l4] at HMA
    rw [l5] at HMB
    dsimp only [Option.getD_some, Option.isSome_some] at HR3 HR4 HX HY HZ ⊢
    obtain ⟨N, hN⟩ : ∃ N, N = out.length := ⟨_, rfl⟩
    rw [← hN] at HR3 HR4 HX l6 ⊢
    rw [HL1.out] at HY HZ l6
    rw [HL2.out, HL0.out] at l6
    have HNl := Lib.hid hN.symm
    obtain ⟨v1, v2⟩ := valid_bd l7
    have v2b := valid_bd2 l7
    obtain ⟨v3, v4⟩ := valid_bd l8
    have HEq := Lib.hid l6
    clear l1 l2 l3 l4 l5 l6 l7 l8 hR hN
    have HT1 := Lib.hid (sameTexts A3 N c3 A4 N c4 out out w3 HR3.out HR4.out)
    clear HR4
    go_wp2_with fail
    refine HT1.out.mono ?_
    rintro e w4 ⟨rfl, hb4⟩
    have b4 := below_next b3 hb4
    have k4 := below_next k3 hb4
    have HR4 := Lib.hid (HR3.out.keep hb4)
    have HX4 := Lib.hid (HX.out w4 k4)
    clear hb4 HT1 HX HR3 b3 k3
    go_wp2_with fail
    refine HX4.out.mono ?_
    rintro e w5 ⟨⟨A5, c5, rfl, hO5⟩, hb5⟩
    have b5 := below_next b4 hb5
    have k5 := below_next k4 hb5
    have HR5 := Lib.hid (HR4.out.keep hb5)
    have HX5 : Hid (WdsIn w5 w5.heap.size A5 N c5 out) := Lib.hid (WdOwn.reads hO5 HNl.out)
    have HY5 := Lib.hid (HY.out w5 k5)
    clear hb5 hO5 HX4 HY HR4 b4 k4
    go_wp2_with fail
    refine HY5.out.mono ?_
    rintro e w6 ⟨⟨A6, c6, rfl, hO6⟩, hb6⟩
    have b6 := below_next b5 hb6
    have k6 := below_next k5 hb6
    have HR6 := Lib.hid (HR5.out.keep hb6)
    have HX6 := Lib.hid (HX5.out.keep hb6)
    have HY6 : Hid (WdsIn w6 w6.heap.size A6 n1 c6 a) := Lib.hid (WdOwn.reads hO6 HL1.out)
    have HZ6 := Lib.hid (HZ.out w6 k6)
    clear hb6 hO6 HY5 HZ HR5 HX5 b5 k5
    go_wp2_with fail
    refine HZ6.out.mono ?_
    rintro e w7 ⟨⟨A7, c7, rfl, hO7⟩, hb7⟩
    have b7 := below_next b6 hb7
    have k7 := below_next k6 hb7
    have HR7 := Lib.hid (HR6.out.keep hb7)
    have HX7 := Lib.hid (HX6.out.keep hb7)
    have HY7 := Lib.hid (HY6.out.keep hb7)
    have HZ7 : Hid (WdsIn w7 w7.heap.size A7 n1 c7 a) := Lib.hid (WdOwn.reads hO7 HL1.out)
    have HM7 := Lib.hid (HMA.out w7 k7)
    clear hb7 hO7 HZ6 HMA HR6 HX6 HY6 b6 k6
    go_wp2_with fail
    refine HM7.out.mono ?_
    rintro e w8 ⟨hM8, hb8⟩
    obtain ⟨A8, c8, xs, hx8, rfl, hI8⟩ : ∃ A8 c8 xs, mkAll base a = xs.map Mr.dat ∧ e = .returned (.tuple #[.slice A8 xs.length c8, .bool true]) ∧ MrsIn w8 w8.heap.size A8 xs.length c8 xs := by
      rcases hM8 with ⟨h, _⟩ | ⟨A8, c8, xs, h1, h2, h3⟩
      · cases h
      · injection h1 with h1; exact ⟨A8, c8, xs, h1, h2, h3⟩
    have b8 := below_next b7 hb8
    have k8 := below_next k7 hb8
    have HR8 := Lib.hid (HR7.out.keep hb8)
    have HX8 := Lib.hid (HX7.out.keep hb8)
    have HY8 := Lib.hid (HY7.out.keep hb8)
    have HZ8 := Lib.hid (HZ7.out.keep hb8)
    have HM8 := Lib.hid (HMB.out w8 k8)
    have HI8 := Lib.hid hI8
    rw [hx8] at v1 v2 v2b HEq
    clear hb8 hM8 hx8 hI8 HM7 HMB HR7 HX7 HY7 HZ7 b7 k7
    obtain ⟨L1, hL1⟩ : ∃ L1, L1 = xs.length := ⟨_, rfl⟩
    rw [← hL1] at HI8 ⊢
    rw [List.length_map, ← hL1] at v1
    have HL1' := Lib.hid hL1.symm
    clear hL1
    go_wp2_with fail
    refine HM8.out.mono ?_
    rintro e w9 ⟨hM9, hb9⟩
    obtain ⟨A9, c9, ys, hx9, rfl, hI9⟩ : ∃ A8 c8 xs, mkAll base b = xs.map Mr.dat ∧ e = .returned (.tuple #[.slice A8 xs.length c8, .bool true]) ∧ MrsIn w9 w9.heap.size A8 xs.length c8 xs := by
      rcases hM9 with ⟨h, _⟩ | ⟨A8, c8, xs, h1, h2, h3⟩
      · cases h
      · injection h1 with h1; exact ⟨A8, c8, xs, h1, h2, h3⟩
    have b9 := below_next b8 hb9
    have k9 := below_next k8 hb9
    have HR9 := Lib.hid (HR8.out.keep hb9)
    have HX9 := Lib.hid (HX8.out.keep hb9)
    have HY9 := Lib.hid (HY8.out.keep hb9)
    have HZ9 := Lib.hid (HZ8.out.keep hb9)
    have HI9 := Lib.hid (HI8.out.keep hb9)
    have HJ9 := Lib.hid hI9
    rw [hx9] at v3 v4 HEq
    clear hb9 hM9 hx9 hI9 HM8 HR8 HX8 HY8 HZ8 HI8 b8 k8
    obtain ⟨L2, hL2⟩ : ∃ L2, L2 = ys.length := ⟨_, rfl⟩
    rw [← hL2] at HJ9 ⊢
    rw [List.length_map, ← hL2] at v3
    have HL2' := Lib.hid hL2.symm
    clear hL2
    obtain ⟨MA, hMA⟩ : ∃ MA, MA = xs.map Mr.dat := ⟨_, rfl⟩
    obtain ⟨MB, hMB⟩ : ∃ MB, MB = ys.map Mr.dat := ⟨_, rfl⟩
    rw [← hMA] at v2 v2b HEq
    rw [← hMB] at v4 HEq
    have HLA : Hid (MA.length = L1) := Lib.hid (by rw [hMA, List.length_map, HL1'.out])
    have HLB : Hid (MB.length = L2) := Lib.hid (by rw [hMB, List.length_map, HL2'.out])
    have HAt : Hid (∀ i, i < L1 → mkAt MA i = (mrAt xs i).dat) := Lib.hid (fun i hi => by rw [hMA]; exact mrAt_dat (by rw [HL1'.out]; exact hi))
    have HBt : Hid (∀ i, i < L2 → mkAt MB i = (mrAt ys i).dat) := Lib.hid (fun i hi => by rw [hMB]; exact mrAt_dat (by rw [HL2'.out]; exact hi))
    have HBd : Hid (∀ i, i ≤ L1 → -20000 * (i : Int) ≤ comW (MA.take i) MB ∧ comW (MA.take i) MB ≤ 20000 * (i : Int)) := Lib.hid (fun i hi => by
      have := comW_bd (MA.take i) MB (fun x hx => v2 x (List.mem_of_mem_take hx)) (by rw [HLB.out]; exact v3)
      rwa [List.length_take, HLA.out, Nat.min_eq_left hi] at this)
    have HBr : Hid (∀ i k, i < L1 → k ≤ L2 → -1000 * (k : Int) ≤ rowW (mkAt MA i) (MB.take k) ∧ rowW (mkAt MA i) (MB.take k) ≤ 1000 * (k : Int)) := Lib.hid (fun i k hi hk => by
      have := rowW_bd (mkAt MA i) (MB.take k) (v2 _ (mkAt_mem (by rw [HLA.out]; exact hi)))
      rwa [List.length_take, HLB.out, Nat.min_eq_left hk] at this)
    have HWx : Hid (∀ i, i < L1 → -1000 ≤ wM (mkAt MA i) ∧ wM (mkAt MA i) ≤ 1000 ∧ (mrAt xs i).n ≤ 20 ∧ (mrAt xs i).cut ≤ 20) := Lib.hid (fun i hi => by
      have hm := mkAt_mem (ms := MA) (i := i) (by rw [HLA.out]; exact hi)
      have h1 := v2 _ hm
      have h2 := v2b _ hm
      rw [HAt.out i hi] at h2
      have h3 := (HI9.out.2.2.2.2 _ (mrAt_mem (xs := xs) (k := i) (by rw [HL1'.out]; exact hi))).1
      unfold Mr.dat at h2
      exact ⟨h1.1, h1.2, by rw [← h3]; exact h2.1, h2.2⟩)
    clear hMA hMB v2 v4 v2b
    go_wp2
    go_loopw [20, 21] (fun s20 s21 wr => ∃ i : Nat, i ≤ L1 ∧ s20 = .int .i64 (comW (MA.take i) MB) ∧ s21 = .int .i64 i ∧ Below w9.heap.size w9 wr) (fun _ s21 _ => L1 - (intOf s21).toNat)
    case atStart => exact ⟨0, Nat.zero_le _, rfl, rfl, Below.refl _ _⟩
    case round =>
      obtain ⟨i, hi, rfl, rfl, hbr⟩ := hrel
      by_cases hlt : i < L1
      · have i1 : (0 : Int) ≤ (i : Int) := by omega
        have i2 : (i : Int) < (L1 : Int) := by omega
        have HC0 : Hid (comW (MA.take i) MB = comW (MA.take i) MB + rowW (mkAt MA i) (MB.take 0)) := Lib.hid (by rw [List.take_zero, rowW]; omega)
        have HC1 : Hid (comW (MA.take (i + 1)) MB = comW (MA.take i) MB + rowW (mkAt MA i) (MB.take L2)) := Lib.hid (by
          rw [comW_step (by rw [HLA.out]; exact hlt), ← HLB.out, List.take_length])
        go_wp2
        go_loopw [20, 22] (fun s20 s22 wr2 => ∃ k : Nat, k ≤ L2 ∧ s20 = .int .i64 (comW (MA.take i) MB + rowW (mkAt MA i) (MB.take k)) ∧ s22 = .int .i64 k ∧ Below w9.heap.size w9 wr2) (fun _ s22 _ => L2 - (intOf s22).toNat)
        case atStart => exact ⟨0, Nat.zero_le _, by rw [← HC0.out], rfl, hbr⟩
        case round =>
          obtain ⟨k, hk, rfl, rfl, hbq⟩ := hrel
          by_cases hlk : k < L2
          · have j1 : (0 : Int) ≤ (k : Int) := by omega
            have j2 : (k : Int) < (L2 : Int) := by omega
            have HIr := Lib.hid (HI9.out.keep hbq)
            have HJr := Lib.hid (HJ9.out.keep hbq)
            have hs1 := fun V => run_oneM (A := A8) (n := L1) (c := c8) (i := i) hlt HIr.out.2.1 V
            have hs2 := fun V => run_oneM (A := A9) (n := L2) (c := c9) (i := k) hlk HJr.out.2.1 V
            have hcm1 := HIr.out.2.2.1; have hcm2 := HJr.out.2.2.1
            have hcn1 := HIr.out.2.1; have hcn2 := HJr.out.2.1
            have hw1 : IntKind.i64.wrap ((i : Int) + 1) = (i : Int) + 1 := IntWalk.i64_in _ (by omega)
            have hw2 : IntKind.i64.wrap ((k : Int) + 1) = (k : Int) + 1 := IntWalk.i64_in _ (by omega)
            have HSm : Hid (∀ V, Below wr.heap.size wr V → Calls Try.prog 15 #[.slice (fromB A8 i c8 3) 1 (c8 - i), .slice (fromB A9 k c9 3) 1 (c9 - k)] V fun e w' => e = .returned (.bool (decide ((mrAt xs i).dat = (mrAt ys k).dat))) ∧ Below V.heap.size V w') := Lib.hid (fun V hV => (sameMarks _ 1 _ _ _ _ _ V (oneM (HIr.out.keep hV) hlt) (oneM (HJr.out.keep hV) hlk)).mono (fun e w' ⟨he, hw⟩ => ⟨by rw [he]; exact ret_bool (decide_eq_decide.2 (by simp)), hw⟩))
            have HC2 := Lib.hid (rowW_step (x := mkAt MA i) (MB := MB) (k := k) (by rw [HLB.out]; exact hlk))
            have HX8 := Lib.hid (HIr.out.at_ hlt)
            have HXn : Hid ((mrAt xs i).put.length = (mrAt xs i).n) := Lib.hid (HIr.out.2.2.2.2 _ (mrAt_mem (by rw [HL1'.out]; exact hlt))).1
            have HAi := Lib.hid (HAt.out i hlt)
            have HBk := Lib.hid (HBt.out k hlk)
            obtain ⟨r1, r2⟩ := HBd.out i hi
            obtain ⟨r3, r4⟩ := HBr.out i k hlt hk
            obtain ⟨r5, r6⟩ := HBr.out i (k + 1) hlt hlk
            have HWm : Hid (wM (mkAt MA i) = ((mrAt xs i).n : Int) - ((mrAt xs i).cut : Int)) := Lib.hid (by rw [HAi.out]; unfold wM Mr.dat; rw [HXn.out])
            have HWb : Hid (-1000 ≤ wM (mkAt MA i) ∧ wM (mkAt MA i) ≤ 1000 ∧ (mrAt xs i).n ≤ 20 ∧ (mrAt xs i).cut ≤ 20) := Lib.hid (HWx.out i hlt)
            clear hcn1 hcn2 hcm1 hcm2
            by_cases hsame : (mrAt xs i).dat = (mrAt ys k).dat
            · have HE : Hid (comW (MA.take i) MB + rowW (mkAt MA i) (MB.take k) + ((mrAt xs i).n : Int) - ((mrAt xs i).cut : Int) = comW (MA.take i) MB + rowW (mkAt MA i) (MB.take (k + 1))) := Lib.hid (by
                rw [HC2.out, if_pos (by rw [HAi.out, HBk.out]; exact hsame), HWm.out]; omega)
              obtain ⟨_, _, hwn, hwc⟩ := HWb.out
              rw [decide_eq_true hsame] at HSm
              clear hsame HC2 HWm HWb r5 r6
              generalize rowW (mkAt MA i) (MB.take k) = RW at *
              generalize comW (MA.take i) MB = CW at *
              go_wp2_with fail
              go_region_held3 (fun _ => True) (trivial)
                (first
                  | (go_at_call 15; refine (HSm.out _ ((Below.refl _ _).drew)).mono ?_; rintro e w10 ⟨rfl, hb10⟩))
              have hb10 := below_next ((Below.refl wr.heap.size wr).drew) hb10
              have b10 := below_next hbq hb10
              have ⟨xb, xo, eA, hxb, x0, x1, x2, _⟩ := HX8.out
              clear HX8
              have y0 := kcell hb10 x0; have y1 := kcell hb10 x1; have y2 := kcell hb10 x2
              subst eA
              clear x0 x1 x2 hb10 HSm hs1 hs2 hw1 hw2
              have d0 := qcell y0; have d1 := qcell y1; have d2 := qcell y2
              generalize mrAt xs i = mx at *
              have hx1 : IntKind.i64.wrap (CW + RW + (mx.n : Int)) = CW + RW + (mx.n : Int) := IntWalk.i64_in _ (by omega)
              have hx2 : IntKind.i64.wrap (CW + RW + (mx.n : Int) - (mx.cut : Int)) = CW + RW + (mx.n : Int) - (mx.cut : Int) := IntWalk.i64_in _ (by omega)
              go_wp2_with fail
              refine region_qb (by kernel_rfl) (by kernel_rfl) ?_
              repeat (first | go_big_quiet_step (fail) | quiet_step (fail))
              refine wpQuiet_nil ?_
              intro w11 hb11
              have b11 := below_next b10 hb11
              clear hx1 hx2 hb11 d0 d1 d2 y0 y1 y2
              go_wp2
              go_roundw
              case rel => exact ⟨k + 1, by omega, by rw [← HE.out], by go_num, b11⟩
              case measure => simp [intOf]; omega
            · have HE : Hid (comW (MA.take i) MB + rowW (mkAt MA i) (MB.take k) = comW (MA.take i) MB + rowW (mkAt MA i) (MB.take (k + 1))) := Lib.hid (by
                rw [HC2.out, if_neg (by rw [HAi.out, HBk.out]; exact hsame)]; omega)
              rw [decide_eq_false hsame] at HSm
              clear hsame HC2 HWm HWb r5 r6 HX8
              generalize rowW (mkAt MA i) (MB.take k) = RW at *
              go_wp2_with fail
              go_region_held3 (fun _ => True) (trivial)
                (first
                  | (go_at_call 15; refine (HSm.out _ ((Below.refl _ _).drew)).mono ?_; rintro e w10 ⟨rfl, hb10⟩))
              have hb10 := below_next ((Below.refl wr.heap.size wr).drew) hb10
              have b10 := below_next hbq hb10
              clear hb10 HSm hs1 hs2 hw1 hw2
              go_wp2
              go_roundw
              case rel => exact ⟨k + 1, by omega, by rw [← HE.out], by go_num, b10⟩
              case measure => simp [intOf]; omega
          · obtain rfl : k = L2 := by omega
            go_wp2
            go_roundw
            case rel => exact ⟨i + 1, by omega, by rw [← HC1.out], by go_num, hbq⟩
            case measure => simp [intOf]; omega
      · obtain rfl : i = L1 := by omega
        have HC : Hid (comW (MA.take i) MB = comW MA MB) := Lib.hid (by rw [← HLA.out, List.take_length])
        have HRr := Lib.hid (HR9.out.keep hbr); have HXr := Lib.hid (HX9.out.keep hbr); have HYr := Lib.hid (HY9.out.keep hbr); have HZr := Lib.hid (HZ9.out.keep hbr)
        have HAr := Lib.hid (HA.out wr (below_next k9 hbr))
        have br := below_next b9 hbr
        rw [HC.out]
        obtain ⟨r1, r2⟩ := HBd.out i hi
        rw [HC.out] at r1 r2
        have hEq := HEq.out
        have p0 : (n0 : Int) ≤ 20 := by omega
        have p1 : (n1 : Int) ≤ 20 := by omega
        have p2 : (n2 : Int) ≤ 20 := by omega
        have p3 : -400000 ≤ comW MA MB := by omega
        have p4 : comW MA MB ≤ 400000 := by omega
        have hfin : ((N : Int) == (n1 : Int) + (n2 : Int) - (n0 : Int) - comW MA MB) = true := by rw [hEq]; simp
        have hEqH := Lib.hid hEq
        clear hEq HEq HC HR9 HX9 HY9 HZ9 HA hbr HBd HBr HAt HBt HWx HI9 HJ9
        generalize comW MA MB = CW at *
        have HT1 := Lib.hid (sameTexts A5 N c5 A3 N c3 out out wr HXr.out HRr.out)
        have HT2 := Lib.hid (fun V (hV : Below wr.heap.size wr V) => sameTexts A6 n1 c6 A1 n1 c1 a a V (HYr.out.keep hV) (HAr.out.keep hV))
        have HT3 := Lib.hid (fun V (hV : Below wr.heap.size wr V) => sameTexts A7 n1 c7 A1 n1 c1 a a V (HZr.out.keep hV) (HAr.out.keep hV))
        clear HXr HRr HYr HZr HAr
        go_wp2_with fail
        refine HT1.out.mono ?_
        rintro e w10 ⟨rfl, hb10⟩
        have b10 := below_next br hb10
        have HT4 := Lib.hid (HT2.out w10 hb10)
        clear HT1 HT2
        go_wp2_with fail
        refine HT4.out.mono ?_
        rintro e w11 ⟨rfl, hb11⟩
        have b11 := below_next b10 hb11
        have HT5 := Lib.hid (HT3.out w11 (below_next hb10 hb11))
        clear HT3 HT4 hb10 hb11
        go_wp2_with fail
        refine HT5.out.mono ?_
        rintro e w12 ⟨rfl, hb12⟩
        have b12 := below_next b11 hb12
        clear hb12 HT5
        go_wp2
        go_returns
        first | exact ⟨rfl, b12⟩ | exact ⟨ret_bool hfin, b12⟩

set_option maxRecDepth 100000 in
theorem lifted (os : Os) (started : os.Started) (H : Type) (enc : TypeId × Value → H) :
    ReturnsInHanded {} Try.checked os 4 .any (Rows.fnMergeSpec.pre6 enc Try.prog Try.f4 Rows.fnMergeRow.domain false) (Rows.fnMergeSpec.post enc Try.prog Try.f4 false true false false) := by
  refine returnsInHanded_of_change (C := Try.checked) own started (by kernel_rfl) Try.func4
    (ChangeSpec.witness6 (enc := enc) (C := Try.checked) false ⟨#[], #[.slice none 0 0], []⟩ 8 (by kernel_rfl) (by kernel_rfl) (by kernel_rfl) (by kernel_rfl)) ?_
  intro W base args ds gs before hval0 hW hcnd _
  have hval : ∀ (j : Nat) t v, Try.f4.params[j]? = some t → args[j]? = some v → Value.okWide Try.prog W .any base t v := hval0
  have hW' := hW
  obtain ⟨p, q, hA0, hV, rfl, hfz, hnd⟩ := hW
  have hA : DataW.TrodAll enc Try.prog W 0 (fun _ => true) true Try.f4.params.toList args.toList ds p := hA0
  rw [Try.params4] at hA hval
  obtain ⟨v0, vs0, d0, ds0, p0, q0, hargs, rfl, rfl, h0, r0⟩ := trodAll_cons hA
  obtain ⟨rfl, rfl, rfl⟩ := trodAll_nil r0
  obtain rfl : args = #[v0] := by cases args; simp_all
  obtain ⟨rfl, rfl⟩ := trodVars_none hV
  have k0 := h0
  have lt0 : ∀ x ∈ p0, x.block < W.heap.size := by obtain ⟨m, hm⟩ := k0; exact DataW.trod_lt m _ _ _ hm
  obtain ⟨A_0, n_0, c_0, bs_0, rfl, R_0⟩ := openBytes (hval 0 29 v0 rfl rfl) h0
  clear hA0 hval0
  refine (walk A_0 n_0 c_0 bs_0 W R_0).mono fun e W' ⟨he, bel⟩ => ?_
  subst he
  exact ⟨_, rfl, _, _, _, [], _, [], hW', trodAll_mk1 (shut_bool Try.underlying4 _), (trodAll_cons_mk (Below.trod laidOut (by kernel_rfl) (of_decide_eq_true (by kernel_rfl)) k0 bel lt0) trodAll_mk0), rfl, bel.frame _, fun h => by cases h⟩

theorem over : Rows.fnMergeRow.holds Try.pinned (OpenSpec.ofChange Rows.fnMergeSpec) :=
  OpenClaim.holds_of_wide 4 Try.f4 rfl rfl rfl rfl rfl rfl rfl ⟨rfl, rfl, rfl, rfl, rfl⟩ rfl rfl rfl rfl rfl (by kernel_rfl) Try.func4 (by kernel_rfl)
    (of_decide_eq_true (by kernel_rfl)) (by unfold Func.isWrapper; first | (rw [if_pos (by decide +kernel)]; kernel_rfl) | (rw [if_neg (by decide +kernel)]; exact ⟨rfl, rfl⟩))
    (fun os started H enc _ => lifted os started H enc)

theorem proved : Rows.FnMergeSaid := over
end Go.Proofs.Ytlfhgmbmgbbnjaa.fnMerge
