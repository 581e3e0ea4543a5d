/-
  Both lists of marks together, of the reference. Conditions: the lists lie in memory; the numbers are small; no text is absurdly long.
-/
import Derived.Test.YtlfhgmbmgbbnjaaMkCl
import Derived.Test.YtlfhgmbmgbbnjaaMkCo
import Derived.Test.YtlfhgmbmgbbnjaaMkValS
namespace Go.Proofs.Ytlfhgmbmgbbnjaa
open Go.ChangeShapes Go.WideShapes Go.ChangeAt Go.RowKit
set_option maxRecDepth 100000
set_option linter.unusedSimpArgs false
set_option linter.unusedVariables false

theorem drop_mk {ms : List Mk} {k : Nat} (hk : k < ms.length) : ms.drop k = mkAt ms k :: ms.drop (k + 1) := by
  rw [List.drop_eq_getElem_cons hk, mkAt_get hk]
theorem mg_eq {a b : List Mk} {i k : Nat} (hi : i < a.length) (hk : k < b.length) (h : mkAt a i = mkAt b k) : mergeP (a.drop i) (b.drop k) = mkAt a i :: mergeP (a.drop (i + 1)) (b.drop (k + 1)) := by
  rw [drop_mk hi, drop_mk hk, mergeP_cons, if_pos h]
theorem mg_a {a b : List Mk} {i k : Nat} (hi : i < a.length) (hne : k < b.length → mkAt a i ≠ mkAt b k) (h : k < b.length → (mkAt a i).at_ < (mkAt b k).at_) : mergeP (a.drop i) (b.drop k) = mkAt a i :: mergeP (a.drop (i + 1)) (b.drop k) := by
  by_cases hk : k < b.length
  · rw [drop_mk hi, drop_mk hk, mergeP_cons, if_neg (hne hk), if_pos (h hk)]
  · rw [List.drop_of_length_le (l := b) (by omega), mergeP_nil', mergeP_nil', drop_mk hi]
theorem mg_b {a b : List Mk} {i k : Nat} (hk : k < b.length) (hne : i < a.length → mkAt a i ≠ mkAt b k) (h : i < a.length → ¬ (mkAt a i).at_ < (mkAt b k).at_) : mergeP (a.drop i) (b.drop k) = mkAt b k :: mergeP (a.drop i) (b.drop (k + 1)) := by
  by_cases hi : i < a.length
  · rw [drop_mk hk, drop_mk hi, mergeP_cons, if_neg (hne hi), if_neg (h hi)]
  · rw [List.drop_of_length_le (l := a) (by omega), mergeP_nil, mergeP_nil, drop_mk hk]
theorem mg_end {a b : List Mk} {i k : Nat} (hi : a.length ≤ i) (hk : b.length ≤ k) : mergeP (a.drop i) (b.drop k) = [] := by
  rw [List.drop_of_length_le hi, List.drop_of_length_le hk, mergeP_nil]
/-- Marks that are among others are fine too. -/
theorem okMs_of {w : World} {B : Nat} {v : Value} {D : List Mr} {xs ys : List Mr} (hX : OkMs xs) (hY : OkMs ys) (hx : ∀ x ∈ xs, x.put.length = x.n) (hy : ∀ x ∈ ys, x.put.length = x.n) (hO : MrOwn w B v D) (h : ∀ m ∈ D.map Mr.dat, m ∈ xs.map Mr.dat ∨ m ∈ ys.map Mr.dat) : OkMs D := by
  intro d hd
  have hn := (hO.2 d hd).1.1
  have key : ∀ x : Mr, x.dat = d.dat → (SmM x ∧ ∀ l ∈ x.put, l.length ≤ maxLen) → x.put.length = x.n → SmM d ∧ ∀ l ∈ d.put, l.length ≤ maxLen := fun x e h1 h2 => by
    obtain ⟨e1, e2, e3⟩ := mr_eq.1 e
    rw [e3] at h1 h2
    refine ⟨⟨by rw [← e1]; exact h1.1.1, by rw [← e2]; exact h1.1.2.1, ?_⟩, h1.2⟩
    have := h1.1.2.2
    omega
  rcases h _ (List.mem_map_of_mem hd) with h1 | h1
  · obtain ⟨x, hx1, e⟩ := List.mem_map.1 h1
    exact key x e (hX x hx1) (hx x hx1)
  · obtain ⟨x, hx1, e⟩ := List.mem_map.1 h1
    exact key x e (hY x hx1) (hy x hx1)
theorem bothP_no {ws : List Wd} {a b : List Mk} (h : marksB ws a = false ∨ marksB ws b = false ∨ clashB a b = true) : bothP ws a b = none := by
  unfold bothP
  rw [if_neg]
  rcases h with h | h | h
  · rw [h]; simp
  · rw [h]; simp
  · rw [h]; simp
theorem bothP_yes {ws : List Wd} {a b : List Mk} (h1 : marksB ws a = true) (h2 : marksB ws b = true) (h3 : clashB a b = false) : bothP ws a b = if marksB ws (mergeP a b) = true then some (mergeP a b) else none := by
  unfold bothP
  rw [if_pos (by rw [h1, h2, h3]; rfl)]
set_option maxHeartbeats 6400000 in
theorem specMarksBoth (A0 : Option Addr) (n0 c0 : Nat) (ws : List Wd) (A : Option Addr) (n c : Nat) (xs : List Mr) (A' : Option Addr) (n' c' : Nat) (ys : List Mr) (w : World) (hW : ∀ l ∈ ws, l.length ≤ maxLen) (hX : OkMs xs) (hY : OkMs ys)
    (h0 : WdsIn w w.heap.size A0 n0 c0 ws) (h : MrsIn w w.heap.size A n c xs) (h' : MrsIn w w.heap.size A' n' c' ys) :
    Calls Try.prog 17 #[.slice A0 n0 c0, .slice A n c, .slice A' n' c'] w fun e w' => MkAns w' (bothP ws (xs.map Mr.dat) (ys.map Mr.dat)) e ∧ Below w.heap.size w w' := by
  have hal : Below w.heap.size w (w.alloc (.cells #[] 37)) := (Below.refl _ _).alloc (Nat.le_refl _) _
  have HV1 : Hid (∀ W, Below w.heap.size w W → Calls Try.prog 33 #[.slice A0 n0 c0, .slice A n c] W fun e w' => e = .returned (.bool (marksB ws (xs.map Mr.dat))) ∧ Below W.heap.size W w') := Lib.hid (fun W hb => specMarksValid A0 n0 c0 ws A n c xs W hW hX (h0.keep hb) (h.keep hb))
  have HV2 : Hid (∀ W, Below w.heap.size w W → Calls Try.prog 33 #[.slice A0 n0 c0, .slice A' n' c'] W fun e w' => e = .returned (.bool (marksB ws (ys.map Mr.dat))) ∧ Below W.heap.size W w') := Lib.hid (fun W hb => specMarksValid A0 n0 c0 ws A' n' c' ys W hW hY (h0.keep hb) (h'.keep hb))
  have HVD : Hid (∀ W A n c D, Below w.heap.size w W → OkMs D → MrsIn W W.heap.size A n c D → Calls Try.prog 33 #[.slice A0 n0 c0, .slice A n c] W fun e w' => e = .returned (.bool (marksB ws (D.map Mr.dat))) ∧ Below W.heap.size W w') := Lib.hid (fun W A n c D hb hD hI => specMarksValid A0 n0 c0 ws A n c D W hW hD (h0.keep hb) hI)
  have HZ := Lib.hid (fun (W : World) (AA : Option Addr) => MrsIn.zero W W.heap.size AA)
  have HNo := Lib.hid (fun hh => bothP_no (ws := ws) (a := xs.map Mr.dat) (b := ys.map Mr.dat) hh)
  have HL := Lib.hid h.1; have HL' := Lib.hid h'.1
  have HO0 := Lib.hid (MrOwn.made w)
  cases hA : marksB ws (xs.map Mr.dat) with
  | false =>
    have HR := Lib.hid (HNo.out (.inl hA))
    rw [hA] at HV1
    clear hA h h' h0 hX hY hW HVD HV2 HO0
    go_enter Try.func17, Try.ntmps17
    go_wp2_with fail
    refine (HV1.out _ hal).mono ?_
    rintro e w1 ⟨rfl, hb1⟩
    go_wp2
    go_ret2
    exact ⟨.inl ⟨HR.out, _, _, rfl, HZ.out _ _⟩, below_next hal hb1⟩
  | true =>
  cases hB : marksB ws (ys.map Mr.dat) with
  | false =>
    have HR := Lib.hid (HNo.out (.inr (.inl hB)))
    rw [hA] at HV1; rw [hB] at HV2
    clear hA hB h h' h0 hX hY hW HVD HO0
    go_enter Try.func17, Try.ntmps17
    go_wp2_with fail
    refine (HV1.out _ hal).mono ?_
    rintro e w1 ⟨rfl, hb1⟩
    have b1 := below_next hal hb1
    go_wp2_with fail
    refine (HV2.out _ b1).mono ?_
    rintro e w2 ⟨rfl, hb2⟩
    go_wp2
    go_ret2
    exact ⟨.inl ⟨HR.out, _, _, rfl, HZ.out _ _⟩, below_next b1 hb2⟩
  | true =>
    have h20 : n ≤ 20 := by have := (marksB_iff.1 hA).2.1; rw [List.length_map, HL.out] at this; exact this
    have h20' : n' ≤ 20 := by have := (marksB_iff.1 hB).2.1; rw [List.length_map, HL'.out] at this; exact this
    have HCl : Hid (∀ W, Below w.heap.size w W → Calls Try.prog 34 #[.slice A n c, .slice A' n' c'] W fun e w' => e = .returned (.bool (clashB (xs.map Mr.dat) (ys.map Mr.dat))) ∧ Below W.heap.size W w') := Lib.hid (fun W hb => specClash A n c xs A' n' c' ys W (fun x hx => (hX x hx).1) (fun x hx => (hY x hx).1) (by omega) (by omega) (h.keep hb) (h'.keep hb))
    cases hC : clashB (xs.map Mr.dat) (ys.map Mr.dat) with
    | true =>
      have HR := Lib.hid (HNo.out (.inr (.inr hC)))
      rw [hA] at HV1; rw [hB] at HV2; rw [hC] at HCl
      clear hA hB hC h h' h0 hX hY hW HVD HO0
      go_enter Try.func17, Try.ntmps17
      go_wp2_with fail
      refine (HV1.out _ hal).mono ?_
      rintro e w1 ⟨rfl, hb1⟩
      have b1 := below_next hal hb1
      go_wp2_with fail
      refine (HV2.out _ b1).mono ?_
      rintro e w2 ⟨rfl, hb2⟩
      have b2 := below_next b1 hb2
      go_wp2_with fail
      refine (HCl.out _ b2).mono ?_
      rintro e w3 ⟨rfl, hb3⟩
      go_wp2
      go_ret2
      exact ⟨.inl ⟨HR.out, _, _, rfl, HZ.out _ _⟩, below_next b2 hb3⟩
    | false =>
      have HR := Lib.hid (bothP_yes hA hB hC)
      rw [hA] at HV1; rw [hB] at HV2; rw [hC] at HCl
      have H := Lib.hid h; have H' := Lib.hid h'
      have HDx : Hid (∀ i, i < n → mkAt (xs.map Mr.dat) i = (mrAt xs i).dat) := Lib.hid (fun i hi => mrAt_dat (by rw [HL.out]; exact hi))
      have HDy : Hid (∀ i, i < n' → mkAt (ys.map Mr.dat) i = (mrAt ys i).dat) := Lib.hid (fun i hi => mrAt_dat (by rw [HL'.out]; exact hi))
      have HSx : Hid (∀ k, k < n → SmM (mrAt xs k)) := Lib.hid (fun k hk => (hX _ (mrAt_mem (by rw [HL.out]; exact hk))).1)
      have HSy : Hid (∀ k, k < n' → SmM (mrAt ys k)) := Lib.hid (fun k hk => (hY _ (mrAt_mem (by rw [HL'.out]; exact hk))).1)
      have HOk : Hid (∀ (W : World) (B : Nat) (v : Value) (D : List Mr), MrOwn W B v D → mergeP (xs.map Mr.dat) (ys.map Mr.dat) = D.map Mr.dat → OkMs D) := Lib.hid (fun W B v D hO hE => okMs_of hX hY (fun x hx => (h.2.2.2.2 x hx).1) (fun x hx => (h'.2.2.2.2 x hx).1) hO (fun m hm => (mergeP_mem _ _ _).1 (by rw [hE]; exact hm)))
      have HEq : Hid (∀ i k, i < n → k < n' → (mrAt xs i).dat = (mrAt ys k).dat → mergeP ((xs.map Mr.dat).drop i) ((ys.map Mr.dat).drop k) = (mrAt xs i).dat :: mergeP ((xs.map Mr.dat).drop (i + 1)) ((ys.map Mr.dat).drop (k + 1))) := Lib.hid (fun i k hi hk he => by
        have := mg_eq (a := xs.map Mr.dat) (b := ys.map Mr.dat) (i := i) (k := k) (by rw [List.length_map, HL.out]; exact hi) (by rw [List.length_map, HL'.out]; exact hk) (by rw [HDx.out i hi, HDy.out k hk]; exact he)
        rwa [HDx.out i hi] at this)
      have HEa : Hid (∀ i k, i < n → (k < n' → (mrAt xs i).dat ≠ (mrAt ys k).dat) → (k < n' → (mrAt xs i).at_ < (mrAt ys k).at_) → mergeP ((xs.map Mr.dat).drop i) ((ys.map Mr.dat).drop k) = (mrAt xs i).dat :: mergeP ((xs.map Mr.dat).drop (i + 1)) ((ys.map Mr.dat).drop k)) := Lib.hid (fun i k hi hne hlt => by
        have := mg_a (a := xs.map Mr.dat) (b := ys.map Mr.dat) (i := i) (k := k) (by rw [List.length_map, HL.out]; exact hi) (fun hk => by rw [List.length_map, HL'.out] at hk; rw [HDx.out i hi, HDy.out k hk]; exact hne hk) (fun hk => by rw [List.length_map, HL'.out] at hk; rw [HDx.out i hi, HDy.out k hk]; exact hlt hk)
        rwa [HDx.out i hi] at this)
      have HEb : Hid (∀ i k, k < n' → (i < n → (mrAt xs i).dat ≠ (mrAt ys k).dat) → (i < n → ¬ (mrAt xs i).at_ < (mrAt ys k).at_) → mergeP ((xs.map Mr.dat).drop i) ((ys.map Mr.dat).drop k) = (mrAt ys k).dat :: mergeP ((xs.map Mr.dat).drop i) ((ys.map Mr.dat).drop (k + 1))) := Lib.hid (fun i k hk hne hlt => by
        have := mg_b (a := xs.map Mr.dat) (b := ys.map Mr.dat) (i := i) (k := k) (by rw [List.length_map, HL'.out]; exact hk) (fun hi => by rw [List.length_map, HL.out] at hi; rw [HDx.out i hi, HDy.out k hk]; exact hne hi) (fun hi => by rw [List.length_map, HL.out] at hi; rw [HDx.out i hi, HDy.out k hk]; exact hlt hi)
        rwa [HDy.out k hk] at this)
      have HEn : Hid (mergeP ((xs.map Mr.dat).drop n) ((ys.map Mr.dat).drop n') = []) := Lib.hid (mg_end (by rw [List.length_map, HL.out]; exact Nat.le_refl _) (by rw [List.length_map, HL'.out]; exact Nat.le_refl _))
      have HE0 : Hid (mergeP (xs.map Mr.dat) (ys.map Mr.dat) = ([] : List Mr).map Mr.dat ++ mergeP ((xs.map Mr.dat).drop 0) ((ys.map Mr.dat).drop 0)) := Lib.hid rfl
      clear hA hB hC h h' h0 hX hY hW HNo HL HL' HDx HDy
      obtain ⟨i0, hi, hz0, hz1, hz2⟩ := info_parts infoMk
      go_enter Try.func17, Try.ntmps17
      go_wp2_with fail
      refine (HV1.out _ hal).mono ?_
      rintro e w1 ⟨rfl, hb1⟩
      have b1 := below_next hal hb1
      have o1 := HO0.out.keep hb1
      go_wp2_with fail
      refine (HV2.out _ b1).mono ?_
      rintro e w2 ⟨rfl, hb2⟩
      have b2 := below_next b1 hb2
      have o2 := o1.keep hb2
      go_wp2_with fail
      refine (HCl.out _ b2).mono ?_
      rintro e w3 ⟨rfl, hb3⟩
      have HB0 := Lib.hid (below_next b2 hb3)
      have HO3 := Lib.hid (o2.keep hb3)
      clear hb1 b1 o1 hb2 b2 o2 hb3 HV1 HV2 HCl HO0 hal
      go_wp2
      go_loopw [8, 9, 10] (fun s8 s9 s10 wr => ∃ (i k : Nat) (D : List Mr) (v : Value), i ≤ n ∧ k ≤ n' ∧ s8 = v ∧ s9 = .int .i64 i ∧ s10 = .int .i64 k ∧ Hid (mergeP (xs.map Mr.dat) (ys.map Mr.dat) = D.map Mr.dat ++ mergeP ((xs.map Mr.dat).drop i) ((ys.map Mr.dat).drop k)) ∧ Hid (D.length ≤ i + k) ∧ Hid (MrOwn wr w.heap.size v D) ∧ Hid (Below w.heap.size w wr)) (fun _ s9 s10 _ => (n - (intOf s9).toNat) + (n' - (intOf s10).toNat))
      case atStart => exact ⟨0, 0, [], _, Nat.zero_le _, Nat.zero_le _, rfl, rfl, rfl, HE0, Lib.hid (by simp), HO3, HB0⟩
      case round =>
        obtain ⟨i, k, D, v, hin, hkn, rfl, rfl, rfl, HE, HX, HO, HB⟩ := hrel
        have i1 : (0 : Int) ≤ (i : Int) := by omega
        have k1 : (0 : Int) ≤ (k : Int) := by omega
        have i5 : (i : Int) ≤ 20 := by omega
        have k5 : (k : Int) ≤ 20 := by omega
        go_upto_region 6 with fail
        go_cut [37] (fun c37 wx => wr = wx ∧ Value.bool (decide (i < n ∨ k < n')) = c37)
        case first =>
          by_cases hi : i < n
          · have e0 : (i : Int) < (n : Int) := by omega
            go_wp2
            go_meet
            exact ⟨rfl, congrArg Value.bool (decide_eq_true (.inl hi))⟩
          · have e0 : ¬ (i : Int) < (n : Int) := by omega
            by_cases hk : k < n'
            · have e1 : (k : Int) < (n' : Int) := by omega
              go_wp2
              go_meet
              exact ⟨rfl, congrArg Value.bool (decide_eq_true (.inr hk))⟩
            · have e1 : ¬ (k : Int) < (n' : Int) := by omega
              go_wp2
              go_meet
              exact ⟨rfl, congrArg Value.bool (decide_eq_false (fun h => h.elim hi hk))⟩
        case rest =>
          obtain ⟨rfl, rfl⟩ := hcut
          by_cases hgo : i < n ∨ k < n'
          · rw [decide_eq_true hgo]
            go_upto_region 9 with fail
            go_cut [48] (fun c48 wx => Below wr.heap.size wr wx ∧ Value.bool (decide (i < n ∧ k < n' ∧ (mrAt xs i).dat = (mrAt ys k).dat)) = c48)
            case first =>
              clear HE HX HO HEq HEa HEb HEn HE0 HVD HZ HR HOk HSx HSy
              by_cases hi : i < n
              · have e0 : (i : Int) < (n : Int) := by omega
                by_cases hk : k < n'
                · have e1 : (k : Int) < (n' : Int) := by omega
                  obtain ⟨b, off, rfl, _, c0, c1, c2, hx⟩ := (H.out.keep HB.out).at_ hi
                  obtain ⟨b', off', rfl, _, d0, d1, d2, hy⟩ := (H'.out.keep HB.out).at_ hk
                  have HS : Hid (∀ W, Below wr.heap.size wr W → Calls Try.prog 35 #[.agg #[.int .i64 ((mrAt xs i).at_ : Int), .int .i64 ((mrAt xs i).cut : Int), .slice (mrAt xs i).A (mrAt xs i).n (mrAt xs i).c], .agg #[.int .i64 ((mrAt ys k).at_ : Int), .int .i64 ((mrAt ys k).cut : Int), .slice (mrAt ys k).A (mrAt ys k).n (mrAt ys k).c]] W fun e w' => e = .returned (.bool (decide ((mrAt xs i).dat = (mrAt ys k).dat))) ∧ Below W.heap.size W w') := Lib.hid (fun W hW => l7Same _ _ W (MrIn.keep hx hW) (MrIn.keep hy hW))
                  have HF : Hid (decide (i < n ∧ k < n' ∧ (mrAt xs i).dat = (mrAt ys k).dat) = decide ((mrAt xs i).dat = (mrAt ys k).dat)) := Lib.hid (decide_eq_decide.2 ⟨fun h => h.2.2, fun h => ⟨hi, hk, h⟩⟩)
                  have q0 := qcell c0; have q1 := qcell c1; have q2 := qcell c2; have r0 := qcell d0; have r1 := qcell d1; have r2 := qcell d2
                  clear hx hy
                  generalize decide ((mrAt xs i).dat = (mrAt ys k).dat) = q at *
                  generalize mrAt xs i = x at *
                  generalize mrAt ys k = y at *
                  refine region_qb (by kernel_rfl) (by kernel_rfl) ?_
                  repeat (first | go_big_quiet_step ((go_at_call 35; exact quietB (HS.out _ (below_regrown _ _ _)))) | quiet_step ((go_at_call 35; exact quietB (HS.out _ (below_regrown _ _ _)))))
                  refine wpQuiet_nil ?_
                  intro w7 hb7
                  go_wp2
                  go_meet
                  exact ⟨hb7, congrArg Value.bool HF.out⟩
                · have e1 : ¬ (k : Int) < (n' : Int) := by omega
                  refine region_qb (by kernel_rfl) (by kernel_rfl) ?_
                  repeat (first | go_big_quiet_step (fail) | quiet_step (fail))
                  refine wpQuiet_nil ?_
                  intro w7 hb7
                  go_wp2
                  go_meet
                  exact ⟨hb7, congrArg Value.bool (decide_eq_false (fun h => hk h.2.1))⟩
              · have e0 : ¬ (i : Int) < (n : Int) := by omega
                refine region_qb (by kernel_rfl) (by kernel_rfl) ?_
                repeat (first | go_big_quiet_step (fail) | quiet_step (fail))
                refine wpQuiet_nil ?_
                intro w7 hb7
                go_wp2
                go_meet
                exact ⟨hb7, congrArg Value.bool (decide_eq_false (fun h => hi h.1))⟩
            case rest =>
              obtain ⟨hb5, rfl⟩ := hcut
              generalize wc = w5 at *
              have HO5 := Lib.hid (HO.out.keep hb5)
              have HB5 := Lib.hid (below_next HB.out hb5)
              have hs5 := HB5.out.size
              have hD5 := HX.out
              clear HO HB hb5
              by_cases he : i < n ∧ k < n' ∧ (mrAt xs i).dat = (mrAt ys k).dat
              · rw [decide_eq_true he]
                obtain ⟨hi3, hk3, he3⟩ := he
                have hi4 : (i : Int) < (n : Int) := by omega
                obtain ⟨b, off, rfl, _, c0, c1, c2, hx⟩ := (H.out.keep HB5.out).at_ hi3
                have sx := HSx.out i hi3
                have sx3 := sx.2.2
                have HCo := Lib.hid (specL7Copy (mrAt xs i) w5 (by omega) hx)
                have HE7 := Lib.hid (HE.out.trans (congrArg (D.map Mr.dat ++ ·) (HEq.out i k hi3 hk3 he3)))
                clear HE hx sx
                generalize mrAt xs i = x at *
                go_wp2_with fail
                refine HCo.out.mono ?_
                rintro e w6 ⟨A6, c6, rfl, hI6, hn6, hb6⟩
                have hz6 := hb6.size
                have hal6 : Below w6.heap.size w6 (w6.alloc (.cells #[.int .i64 (x.at_ : Int), .int .i64 (x.cut : Int), .slice A6 x.n c6] 37)) := (Below.refl _ _).alloc (Nat.le_refl _) _
                have hI7 := WdsIn.keep hI6 hal6
                have HBa := Lib.hid (below_next hb6 hal6)
                have HOa := Lib.hid (HO5.out.keep HBa.out)
                have hbs : w.heap.size ≤ (w6.alloc (.cells #[.int .i64 (x.at_ : Int), .int .i64 (x.cut : Int), .slice A6 x.n c6] 37)).heap.size := by simp; omega
                have hr7 := rowNewMk w6 (.int .i64 (x.at_ : Int)) (.int .i64 (x.cut : Int)) (.slice A6 x.n c6) 37
                have HI7 := Lib.hid hI7
                have HN7 : Hid (0 < x.n → ∀ p, A6 = some p → w5.heap.size ≤ p.block ∧ p.block < (w6.alloc (.cells #[.int .i64 (x.at_ : Int), .int .i64 (x.cut : Int), .slice A6 x.n c6] 37)).heap.size) := Lib.hid (fun hp p hpA => ⟨(hn6 hp p hpA).1, by have := (hn6 hp p hpA).2; simp; omega⟩)
                clear hI6 hI7 hn6 hal6 hb6 HCo c0 c1 c2
                go_wp2_with (at_builtin; refine wpList_append_any _ rfl (.tmp 70) (.tmp 76) _ rfl w.heap.size 37 i0 _ 3 40 Try.underlying32 hi hz0 hz1 hz2 rfl (by omega) _ D.length (D.flatMap mkC) rfl HOa.out.1 (w6.heap.size + 1) (some ⟨w6.heap.size, 0, none⟩) 1 1 [.int .i64 (x.at_ : Int), .int .i64 (x.cut : Int), .slice A6 x.n c6] rfl hr7 (by simp [Value.oneCell']) (by unfold maxLen; omega) (by omega) hbs ?_; intro v7 w7 hown7 hg7 hat7; have hF := Lib.hid (FinRow.mk HBa.out HO5.out HI7.out HN7.out hown7 hg7 hat7); clear hown7 hg7 hat7)
                obtain ⟨y, hyd, _, hgy, hOy, _⟩ := hF.out
                have HO8 := Lib.hid hOy
                have HB8 := Lib.hid (HB5.out.grown hgy HB5.out.size (fun q hq => ownG_base HO5.out.1 hq))
                have HE8 : Hid (mergeP (xs.map Mr.dat) (ys.map Mr.dat) = (D ++ [y]).map Mr.dat ++ mergeP ((xs.map Mr.dat).drop (i + 1)) ((ys.map Mr.dat).drop (k + 1))) := Lib.hid (by
                  rw [HE7.out, List.map_append, List.append_assoc]
                  simp only [List.map_cons, List.map_nil, List.singleton_append, hyd]
                  rfl)
                have HX8 : Hid ((D ++ [y]).length ≤ i + 1 + (k + 1)) := Lib.hid (by have := HX.out; simp; omega)
                clear hgy hOy hyd hF HBa HOa HI7 HN7 HE7 hr7 hbs
                go_wp2
                go_roundw
                case rel => exact ⟨i + 1, k + 1, D ++ [y], v7, by omega, by omega, rfl, by go_num, by go_num, HE8, HX8, HO8, HB8⟩
                case measure => simp [intOf] <;> omega
              · rw [decide_eq_false he]
                go_upto_region 13 with fail
                go_cut [82] (fun c82 wx => Below w5.heap.size w5 wx ∧ Value.bool (decide (k = n' ∨ i < n ∧ (mrAt xs i).at_ < (mrAt ys k).at_)) = c82)
                case first =>
                  clear HE HX HO5 HEq HEa HEb HEn HE0 HVD HZ HR HOk HSx HSy
                  by_cases hk : k = n'
                  · have e1 : ((k : Int) == (n' : Int)) = true := by rw [hk]; exact beq_self_eq_true _
                    have HF : Hid (decide (k = n' ∨ i < n ∧ (mrAt xs i).at_ < (mrAt ys k).at_) = true) := Lib.hid (decide_eq_true (.inl hk))
                    clear hk he hgo
                    refine region_qb (by kernel_rfl) (by kernel_rfl) ?_
                    repeat (first | go_big_quiet_step (fail) | quiet_step (fail))
                    refine wpQuiet_nil ?_
                    intro w7 hb7
                    go_wp2
                    go_meet
                    exact ⟨hb7, congrArg Value.bool HF.out⟩
                  · have e1 : ((k : Int) == (n' : Int)) = false := beq_eq_false_iff_ne.2 (fun e => hk (by omega))
                    have hk3 : k < n' := by omega
                    have k4 : (k : Int) < (n' : Int) := by omega
                    by_cases hi : i < n
                    · have e0 : (i : Int) < (n : Int) := by omega
                      obtain ⟨b, off, rfl, _, c0, c1, c2, hx⟩ := (H.out.keep HB5.out).at_ hi
                      obtain ⟨b', off', rfl, _, d0, d1, d2, hy⟩ := (H'.out.keep HB5.out).at_ hk3
                      have HF : Hid (decide (k = n' ∨ i < n ∧ (mrAt xs i).at_ < (mrAt ys k).at_) = decide ((mrAt xs i).at_ < (mrAt ys k).at_)) := Lib.hid (decide_eq_decide.2 ⟨fun h => by rcases h with h | h; exact absurd h hk; exact h.2, fun h => .inr ⟨hi, h⟩⟩)
                      have q0 := qcell c0; have r0 := qcell d0
                      clear hx hy hk he hgo
                      generalize mrAt xs i = x at *
                      generalize mrAt ys k = y at *
                      refine region_qb (by kernel_rfl) (by kernel_rfl) ?_
                      repeat (first | go_big_quiet_step (fail) | quiet_step (fail))
                      refine wpQuiet_nil ?_
                      intro w7 hb7
                      go_wp2
                      go_meet
                      exact ⟨hb7, congrArg Value.bool HF.out⟩
                    · have e0 : ¬ (i : Int) < (n : Int) := by omega
                      have HF : Hid (decide (k = n' ∨ i < n ∧ (mrAt xs i).at_ < (mrAt ys k).at_) = false) := Lib.hid (decide_eq_false (fun h => by rcases h with h | h; exact hk h; exact hi h.1))
                      clear hk he hgo
                      refine region_qb (by kernel_rfl) (by kernel_rfl) ?_
                      repeat (first | go_big_quiet_step (fail) | quiet_step (fail))
                      refine wpQuiet_nil ?_
                      intro w7 hb7
                      go_wp2
                      go_meet
                      exact ⟨hb7, congrArg Value.bool HF.out⟩
                case rest =>
                  obtain ⟨hb9, rfl⟩ := hcut
                  replace HO5 := Lib.hid (HO5.out.keep hb9)
                  replace HB5 := Lib.hid (below_next HB5.out hb9)
                  replace hs5 := HB5.out.size
                  clear hb9
                  generalize wc = w5 at *
                  by_cases hc : k = n' ∨ i < n ∧ (mrAt xs i).at_ < (mrAt ys k).at_
                  · rw [decide_eq_true hc]
                    have hi3 : i < n := by omega
                    have hi4 : (i : Int) < (n : Int) := by omega
                    obtain ⟨b, off, rfl, _, c0, c1, c2, hx⟩ := (H.out.keep HB5.out).at_ hi3
                    have sx := HSx.out i hi3
                    have sx3 := sx.2.2
                    have HCo := Lib.hid (specL7Copy (mrAt xs i) w5 (by omega) hx)
                    have HE7 := Lib.hid (HE.out.trans (congrArg (D.map Mr.dat ++ ·) (HEa.out i k hi3 (fun hk e => he ⟨hi3, hk, e⟩) (fun hk => by rcases hc with h | h; omega; exact h.2))))
                    clear HE hx sx
                    generalize mrAt xs i = x at *
                    go_wp2_with fail
                    refine HCo.out.mono ?_
                    rintro e w6 ⟨A6, c6, rfl, hI6, hn6, hb6⟩
                    have hz6 := hb6.size
                    have hal6 : Below w6.heap.size w6 (w6.alloc (.cells #[.int .i64 (x.at_ : Int), .int .i64 (x.cut : Int), .slice A6 x.n c6] 37)) := (Below.refl _ _).alloc (Nat.le_refl _) _
                    have hI7 := WdsIn.keep hI6 hal6
                    have HBa := Lib.hid (below_next hb6 hal6)
                    have HOa := Lib.hid (HO5.out.keep HBa.out)
                    have hbs : w.heap.size ≤ (w6.alloc (.cells #[.int .i64 (x.at_ : Int), .int .i64 (x.cut : Int), .slice A6 x.n c6] 37)).heap.size := by simp; omega
                    have hr7 := rowNewMk w6 (.int .i64 (x.at_ : Int)) (.int .i64 (x.cut : Int)) (.slice A6 x.n c6) 37
                    have HI7 := Lib.hid hI7
                    have HN7 : Hid (0 < x.n → ∀ p, A6 = some p → w5.heap.size ≤ p.block ∧ p.block < (w6.alloc (.cells #[.int .i64 (x.at_ : Int), .int .i64 (x.cut : Int), .slice A6 x.n c6] 37)).heap.size) := Lib.hid (fun hp p hpA => ⟨(hn6 hp p hpA).1, by have := (hn6 hp p hpA).2; simp; omega⟩)
                    clear hI6 hI7 hn6 hal6 hb6 HCo c0 c1 c2
                    go_wp2_with (at_builtin; refine wpList_append_any _ rfl (.tmp 106) (.tmp 112) _ rfl w.heap.size 37 i0 _ 3 40 Try.underlying32 hi hz0 hz1 hz2 rfl (by omega) _ D.length (D.flatMap mkC) rfl HOa.out.1 (w6.heap.size + 1) (some ⟨w6.heap.size, 0, none⟩) 1 1 [.int .i64 (x.at_ : Int), .int .i64 (x.cut : Int), .slice A6 x.n c6] rfl hr7 (by simp [Value.oneCell']) (by unfold maxLen; omega) (by omega) hbs ?_; intro v7 w7 hown7 hg7 hat7; have hF := Lib.hid (FinRow.mk HBa.out HO5.out HI7.out HN7.out hown7 hg7 hat7); clear hown7 hg7 hat7)
                    obtain ⟨y, hyd, _, hgy, hOy, _⟩ := hF.out
                    have HO8 := Lib.hid hOy
                    have HB8 := Lib.hid (HB5.out.grown hgy HB5.out.size (fun q hq => ownG_base HO5.out.1 hq))
                    have HE8 : Hid (mergeP (xs.map Mr.dat) (ys.map Mr.dat) = (D ++ [y]).map Mr.dat ++ mergeP ((xs.map Mr.dat).drop (i + 1)) ((ys.map Mr.dat).drop (k))) := Lib.hid (by
                      rw [HE7.out, List.map_append, List.append_assoc]
                      simp only [List.map_cons, List.map_nil, List.singleton_append, hyd]
                      rfl)
                    have HX8 : Hid ((D ++ [y]).length ≤ i + 1 + (k)) := Lib.hid (by have := HX.out; simp; omega)
                    clear hgy hOy hyd hF HBa HOa HI7 HN7 HE7 hr7 hbs
                    go_wp2
                    go_roundw
                    case rel => exact ⟨i + 1, k, D ++ [y], v7, by omega, by omega, rfl, by go_num, by go_num, HE8, HX8, HO8, HB8⟩
                    case measure => simp [intOf] <;> omega
                  · rw [decide_eq_false hc]
                    have hk3 : k < n' := by omega
                    have hk4 : (k : Int) < (n' : Int) := by omega
                    obtain ⟨b, off, rfl, _, c0, c1, c2, hx⟩ := (H'.out.keep HB5.out).at_ hk3
                    have sx := HSy.out k hk3
                    have sx3 := sx.2.2
                    have HCo := Lib.hid (specL7Copy (mrAt ys k) w5 (by omega) hx)
                    have HE7 := Lib.hid (HE.out.trans (congrArg (D.map Mr.dat ++ ·) (HEb.out i k hk3 (fun hi e => he ⟨hi, hk3, e⟩) (fun hi h => hc (.inr ⟨hi, h⟩)))))
                    clear HE hx sx
                    generalize mrAt ys k = x at *
                    go_wp2_with fail
                    refine HCo.out.mono ?_
                    rintro e w6 ⟨A6, c6, rfl, hI6, hn6, hb6⟩
                    have hz6 := hb6.size
                    have hal6 : Below w6.heap.size w6 (w6.alloc (.cells #[.int .i64 (x.at_ : Int), .int .i64 (x.cut : Int), .slice A6 x.n c6] 37)) := (Below.refl _ _).alloc (Nat.le_refl _) _
                    have hI7 := WdsIn.keep hI6 hal6
                    have HBa := Lib.hid (below_next hb6 hal6)
                    have HOa := Lib.hid (HO5.out.keep HBa.out)
                    have hbs : w.heap.size ≤ (w6.alloc (.cells #[.int .i64 (x.at_ : Int), .int .i64 (x.cut : Int), .slice A6 x.n c6] 37)).heap.size := by simp; omega
                    have hr7 := rowNewMk w6 (.int .i64 (x.at_ : Int)) (.int .i64 (x.cut : Int)) (.slice A6 x.n c6) 37
                    have HI7 := Lib.hid hI7
                    have HN7 : Hid (0 < x.n → ∀ p, A6 = some p → w5.heap.size ≤ p.block ∧ p.block < (w6.alloc (.cells #[.int .i64 (x.at_ : Int), .int .i64 (x.cut : Int), .slice A6 x.n c6] 37)).heap.size) := Lib.hid (fun hp p hpA => ⟨(hn6 hp p hpA).1, by have := (hn6 hp p hpA).2; simp; omega⟩)
                    clear hI6 hI7 hn6 hal6 hb6 HCo c0 c1 c2
                    go_wp2_with (at_builtin; refine wpList_append_any _ rfl (.tmp 38) (.tmp 44) _ rfl w.heap.size 37 i0 _ 3 40 Try.underlying32 hi hz0 hz1 hz2 rfl (by omega) _ D.length (D.flatMap mkC) rfl HOa.out.1 (w6.heap.size + 1) (some ⟨w6.heap.size, 0, none⟩) 1 1 [.int .i64 (x.at_ : Int), .int .i64 (x.cut : Int), .slice A6 x.n c6] rfl hr7 (by simp [Value.oneCell']) (by unfold maxLen; omega) (by omega) hbs ?_; intro v7 w7 hown7 hg7 hat7; have hF := Lib.hid (FinRow.mk HBa.out HO5.out HI7.out HN7.out hown7 hg7 hat7); clear hown7 hg7 hat7)
                    obtain ⟨y, hyd, _, hgy, hOy, _⟩ := hF.out
                    have HO8 := Lib.hid hOy
                    have HB8 := Lib.hid (HB5.out.grown hgy HB5.out.size (fun q hq => ownG_base HO5.out.1 hq))
                    have HE8 : Hid (mergeP (xs.map Mr.dat) (ys.map Mr.dat) = (D ++ [y]).map Mr.dat ++ mergeP ((xs.map Mr.dat).drop (i)) ((ys.map Mr.dat).drop (k + 1))) := Lib.hid (by
                      rw [HE7.out, List.map_append, List.append_assoc]
                      simp only [List.map_cons, List.map_nil, List.singleton_append, hyd]
                      rfl)
                    have HX8 : Hid ((D ++ [y]).length ≤ i + (k + 1)) := Lib.hid (by have := HX.out; simp; omega)
                    clear hgy hOy hyd hF HBa HOa HI7 HN7 HE7 hr7 hbs
                    go_wp2
                    go_roundw
                    case rel => exact ⟨i, k + 1, D ++ [y], v7, by omega, by omega, rfl, by go_num, by go_num, HE8, HX8, HO8, HB8⟩
                    case measure => simp [intOf] <;> omega
          · rw [decide_eq_false hgo]
            have hi9 : i = n := by omega
            have hk9 : k = n' := by omega
            have HE9 : Hid (mergeP (xs.map Mr.dat) (ys.map Mr.dat) = D.map Mr.dat) := Lib.hid (by rw [HE.out, hi9, hk9, HEn.out, List.append_nil])
            have hok := HOk.out wr _ _ D HO.out HE9.out
            obtain ⟨A9, c9, hv9, hc9, hm9⟩ := ownG_form HO.out.1
            have HO9 := HO.out
            rw [hv9] at HO9
            have hI9 := MrOwn.reads HO9 rfl
            have HV9 := Lib.hid (HVD.out wr A9 D.length c9 D HB.out hok hI9)
            have HI9 := Lib.hid hI9
            subst hv9
            clear HE HX hok HO HO9 hI9 HVD HEq HEa HEb HEn HE0 HOk HSx HSy hi9 hk9
            cases hv : marksB ws (D.map Mr.dat) with
            | true =>
              rw [hv] at HV9
              have HR9 : Hid (bothP ws (xs.map Mr.dat) (ys.map Mr.dat) = some (D.map Mr.dat)) := Lib.hid (by rw [HR.out, HE9.out, if_pos hv])
              clear hv HR HE9
              go_wp2_with fail
              refine HV9.out.mono ?_
              rintro e w9 ⟨rfl, hb9⟩
              have HAns : Hid (MkAns w9 (bothP ws (xs.map Mr.dat) (ys.map Mr.dat)) (.returned (.tuple #[.slice A9 D.length c9, .bool true]))) := Lib.hid (.inr ⟨A9, c9, D, HR9.out, rfl, HI9.out.keep hb9⟩)
              go_wp2
              go_ret2
              exact ⟨HAns.out, below_next HB.out hb9⟩
            | false =>
              rw [hv] at HV9
              have HR9 : Hid (bothP ws (xs.map Mr.dat) (ys.map Mr.dat) = none) := Lib.hid (by rw [HR.out, HE9.out, if_neg (by rw [hv]; simp)])
              clear hv HR HE9
              go_wp2_with fail
              refine HV9.out.mono ?_
              rintro e w9 ⟨rfl, hb9⟩
              go_wp2
              go_ret2
              exact ⟨.inl ⟨HR9.out, _, _, rfl, HZ.out _ _⟩, (below_next HB.out hb9).alloc (by have := (below_next HB.out hb9).size; omega) _⟩
end Go.Proofs.Ytlfhgmbmgbbnjaa
