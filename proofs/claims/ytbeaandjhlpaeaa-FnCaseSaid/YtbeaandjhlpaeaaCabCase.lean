/-
  CabinetCase of both packages. Conditions: the drawers hold no more than a law lets by.
-/
import Derived.Test.YtbeaandjhlpaeaaInts
import Derived.Test.YtbeaandjhlpaeaaTreeB
namespace Go.Proofs.Ytbeaandjhlpaeaa
open Go.ChangeShapes Go.WideShapes Go.ChangeAt Go.RowKit
set_option maxRecDepth 100000

def caseDays (s : ByteArray) (ps : List Pad) : List Int := (ps.filter fun p => p.case.toList == s.toList).map (·.day)
theorem caseDays_yes {s : ByteArray} {ps : List Pad} {k : Nat} (h : k < ps.length) (he : ((padAt ps k).case.toList == s.toList) = true) : caseDays s (ps.take (k + 1)) = caseDays s (ps.take k) ++ [(padAt ps k).day] := by
  rw [take_step (padAt_some h)]; simp [caseDays, List.filter_append, he]
theorem caseDays_no {s : ByteArray} {ps : List Pad} {k : Nat} (h : k < ps.length) (he : ((padAt ps k).case.toList == s.toList) = false) : caseDays s (ps.take (k + 1)) = caseDays s (ps.take k) := by
  rw [take_step (padAt_some h)]; simp [caseDays, List.filter_append, he]
theorem caseDays_len (s : ByteArray) (ps : List Pad) : (caseDays s ps).length ≤ ps.length := by
  unfold caseDays; rw [List.length_map]; exact List.length_filter_le _ _
theorem infoInt : (Try.prog.info? 3).map (fun i => (i.zero, i.size, i.bytes)) = some (some (.int .i64 0), 1, 8) := by kernel_rfl
theorem intsC_snoc (xs : List Int) (x : Int) : intsC (xs ++ [x]) = intsC xs ++ [.int .i64 x] := by simp [intsC]

theorem own_ne {w : World} {B B' n n' sz sz' : Nat} {e e' : TypeId} {v v' : Value} {xs xs' : List Value} (h : w.ownsRow B e sz v n xs) (h' : w.ownsRow B' e' sz' v' n' xs') (hne : e ≠ e') : ∀ b, v.ownBlock = some b → v'.ownBlock ≠ some b := by
  intro b hb hb'
  obtain ⟨cur, h1⟩ := own_obj h hb
  obtain ⟨cur', h2⟩ := own_obj h' hb'
  rw [h1] at h2; injection h2 with h2; injection h2 with _ h3; exact hne h3

/-- What CabinetCase answers: the days D. -/
def DaysAns (w' : World) (B : Nat) (D : List Int) (e : Ending) : Prop :=
  ∃ A c, e = .returned (.slice A D.length c) ∧ IntsOwn w' B (.slice A D.length c) D
theorem DaysAns.of {w' : World} {B : Nat} {D : List Int} {e : Ending} {v : Value} (he : e = .returned v) (ho : IntsOwn w' B v D) : DaysAns w' B D e := by
  obtain ⟨A, c, rfl, _⟩ := own_form ho
  exact ⟨A, c, he, ho⟩

theorem specCabinetCase (A : Option Addr) (n c : Nat) (ds : List Drawer) (s : ByteArray) (w : World) (hsz : cabSz ds ≤ 1048576) (h : DrawersIn w w.heap.size A n c ds) :
    Calls Try.prog 38 #[.slice A n c, .string s] w fun e w' => DaysAns w' w.heap.size (caseDays s (ansP (ds.map (·.ps)))) e ∧ Below w.heap.size w w' := by
  have H := Lib.hid h; clear h
  obtain ⟨i0, hi, hz0, hz1, hz2⟩ := info_parts infoInt
  go_enter Try.func38, Try.ntmps38
  go_wp2_with fail
  have hb0 : Below w.heap.size w (w.alloc (.cells #[] 3)) := (Below.refl _ _).alloc (Nat.le_refl _) _
  have HV0 : Hid (IntsOwn (w.alloc (.cells #[] 3)) w.heap.size (.slice (some ⟨w.heap.size, 0, none⟩) 0 0) []) := Lib.hid (World.ownsRow_made w #[] 0 (Nat.le_refl _) (by simp) (by simp))
  refine (specCabinetPads A n c ds _ hsz (H.out.keep hb0)).mono ?_
  rintro e w1 ⟨⟨A1, c1, rfl, hO⟩, hb1⟩
  have b1 : Below w.heap.size w w1 := below_next hb0 hb1
  have HV1 := Lib.hid (HV0.out.keep hb1)
  have hpl : (ansP (ds.map (·.ps))).length ≤ 1048576 := by
    by_cases h : cabB (ds.map (·.ps)) = true
    · rw [ansP_yes h, allPads_flat]; exact flat_len_le hsz
    · rw [ansP_no (by simpa using h)]; simp
  have hgood : ∀ p ∈ ansP (ds.map (·.ps)), p.good := by
    by_cases hc : cabB (ds.map (·.ps)) = true
    · rw [ansP_yes hc, allPads_flat]; exact allPads_good H.out
    · rw [ansP_no (by simpa using hc)]; simp
  generalize hep : ansP (ds.map (·.ps)) = P at *
  have HEP := Lib.hid hep; clear hep
  have HO := Lib.hid hO; clear hO
  have HG := Lib.hid hgood; clear hgood
  generalize hpn : P.length = N at *
  have HPN := Lib.hid hpn; clear hpn
  have hx := (HO.out.reads HPN.out HG.out).2.2.1
  have hy := (HO.out.reads HPN.out HG.out).2.1
  unfold maxLen at hx
  clear hb0 HV0 hb1
  go_wp2
  go_loopw [5, 8] (fun v i wr => ∃ (k : Nat), k ≤ N ∧ i = .int .i64 k ∧ Hid (IntsOwn wr w.heap.size v (caseDays s (P.take k))) ∧ Hid (PadsOwn wr (w.alloc (.cells #[] 3)).heap.size (.slice A1 N c1) P) ∧ Below w.heap.size w wr) (fun _ i _ => N - (intOf i).toNat)
  case atStart => exact ⟨0, Nat.zero_le _, rfl, Lib.hid (by simpa [caseDays] using HV1.out), HO, b1⟩
  case round =>
    obtain ⟨k, hk, rfl, hD, hP, hb⟩ := hrel
    by_cases hlt : k < N
    · obtain ⟨b, off, eA, hbB, c0, c2, _⟩ := (hP.out.reads HPN.out HG.out).at_ hlt
      have hkl : k < P.length := by have := HPN.out; omega
      subst eA
      cases he : ((padAt P k).case.toList == s.toList) with
      | true =>
        have HS := Lib.hid (caseDays_yes hkl he)
        have hln := caseDays_len s (P.take k)
        rw [List.length_take] at hln
        have hal : Below wr.heap.size wr (wr.alloc (.cells #[.int .i64 (padAt P k).day] 3)) := (Below.refl _ _).alloc (Nat.le_refl _) _
        have HD2 := Lib.hid (hD.out.keep hal)
        have HP2 := Lib.hid (hP.out.keep hal)
        have hb2 := hb.trans (hal.mono hb.size)
        clear hkl hal hD hP
        generalize padAt P k = p at *
        generalize caseDays s (P.take k) = D at *
        go_wp2_with (at_builtin; refine wpList_append_any _ rfl (.tmp 28) (.tmp 34) _ rfl w.heap.size 3 i0 _ 1 8 Try.underlying55 hi hz0 hz1 hz2 rfl (by omega) _ D.length (intsC D) rfl HD2.out (wr.heap.size + 1) (some ⟨wr.heap.size, 0, none⟩) 1 1 [.int .i64 p.day] rfl (rowNew1 _ _ _) (by simp [Value.oneCell']) (by unfold maxLen; omega) (by omega) hb2.size ?_; intro v1 w2 hown1 hg1 hat1)
        have b3 := hb2.grown hg1 hb2.size (fun q hq => own_base HD2.out hq)
        have HP3 := Lib.hid (HP2.out.only hg1 (fun q hq => own_ne HP2.out HD2.out (by decide) q hq))
        have HD3 : Hid (IntsOwn w2 w.heap.size v1 (caseDays s (P.take (k + 1)))) := Lib.hid (by
          rw [HS.out]; unfold IntsOwn; rw [List.length_append, intsC_snoc]; exact hown1)
        go_wp2
        go_roundw
        case rel => exact ⟨k + 1, by omega, by go_num, HD3, HP3, b3⟩
        case measure => simp [intOf]; omega
      | false =>
        have HD3 : Hid (IntsOwn wr w.heap.size _ (caseDays s (P.take (k + 1)))) := Lib.hid (by
          rw [caseDays_no hkl he]; exact hD.out)
        clear hkl hD
        generalize padAt P k = p at *
        go_wp2
        go_roundw
        case rel => exact ⟨k + 1, by omega, by go_num, HD3, hP, hb⟩
        case measure => simp [intOf]; omega
    · have hkn : P.take k = P := List.take_of_length_le (by have := HPN.out; omega)
      rw [hkn] at hD
      have HF := Lib.hid (own_form hD.out)
      clear hkn
      go_wp2
      go_ret
      exact ⟨by rw [HEP.out]; exact .of rfl hD.out, hb⟩

theorem implCabinetCase (A : Option Addr) (n c : Nat) (ds : List Drawer) (s : ByteArray) (w : World) (hsz : cabSz ds ≤ 1048576) (h : DrawersIn w w.heap.size A n c ds) :
    Calls Try.prog 39 #[.slice A n c, .string s] w fun e w' => DaysAns w' w.heap.size (caseDays s (ansP (ds.map (·.ps)))) e ∧ Below w.heap.size w w' := by
  have H := Lib.hid h; clear h
  obtain ⟨i0, hi, hz0, hz1, hz2⟩ := info_parts infoInt
  go_enter Try.func39, Try.ntmps39
  go_wp2_with fail
  refine (treeOf A n c ds w H.out).mono ?_
  rintro e w1 ⟨hT, b1⟩
  rcases hT with ⟨hn, rfl⟩ | ⟨hy, t, v, ls, rfl, hT, hM⟩
  · have HN := Lib.hid (ansP_no hn); clear hn
    go_wp2
    go_ret
    exact ⟨by rw [HN.out]; exact .of rfl (World.ownsRow_nil _ _ _ _), b1⟩
  have HN := Lib.hid (ansP_yes hy); clear hy
  have HA := Lib.hid (leaf_all hM); clear hM
  have HT := Lib.hid hT; clear hT
  go_wp2_with fail
  have hb0 : Below w1.heap.size w1 (w1.alloc (.cells #[] 3)) := (Below.refl _ _).alloc (Nat.le_refl _) _
  have HV0 : Hid (IntsOwn (w1.alloc (.cells #[] 3)) w.heap.size (.slice (some ⟨w1.heap.size, 0, none⟩) 0 0) []) := Lib.hid (World.ownsRow_made w1 #[] 0 b1.size (by simp) (by simp))
  refine (treePads t v ls _ (w1.alloc (.cells #[] 3)) (by rw [HA.out]; exact flat_len_le hsz) (HT.out.below hb0)).mono ?_
  rw [HA.out]
  rintro e w2 ⟨A1, c1, rfl, hO, hb2⟩
  have b2 : Below w.heap.size w w2 := b1.trans ((below_next hb0 hb2).mono b1.size)
  have HV1 := Lib.hid (HV0.out.keep hb2)
  have hpl := flat_len_le hsz
  have HG : Hid (∀ p ∈ allPads ds, p.good) := Lib.hid (allPads_good H.out)
  have HE : Hid (ansP (ds.map (·.ps)) = allPads ds) := Lib.hid (by rw [HN.out, allPads_flat])
  clear HA
  generalize allPads ds = P at *
  have HO := Lib.hid hO; clear hO
  generalize hpn : P.length = N at *
  have HPN := Lib.hid hpn; clear hpn
  have hx := (HO.out.reads HPN.out HG.out).2.2.1
  have hy := (HO.out.reads HPN.out HG.out).2.1
  unfold maxLen at hx
  clear hb0 HV0 hb2
  go_wp2
  go_loopw [7, 21] (fun v i wr => ∃ (k : Nat), k ≤ N ∧ i = .int .i64 k ∧ Hid (IntsOwn wr w.heap.size v (caseDays s (P.take k))) ∧ Hid (PadsOwn wr (w1.alloc (.cells #[] 3)).heap.size (.slice A1 N c1) P) ∧ Below w.heap.size w wr) (fun _ i _ => N - (intOf i).toNat)
  case atStart => exact ⟨0, Nat.zero_le _, rfl, Lib.hid (by simpa [caseDays] using HV1.out), HO, b2⟩
  case round =>
    obtain ⟨k, hk, rfl, hD, hP, hb⟩ := hrel
    by_cases hlt : k < N
    · obtain ⟨b, off, eA, hbB, c0, c2, _⟩ := (hP.out.reads HPN.out HG.out).at_ hlt
      have hkl : k < P.length := by have := HPN.out; omega
      subst eA
      cases he : ((padAt P k).case.toList == s.toList) with
      | true =>
        have HS := Lib.hid (caseDays_yes hkl he)
        have hln := caseDays_len s (P.take k)
        rw [List.length_take] at hln
        have hal : Below wr.heap.size wr ((wr.alloc (.cells #[.int .i64 (padAt P k).day, .string (padAt P k).case] 26)).alloc (.cells #[.int .i64 (padAt P k).day] 3)) := ((Below.refl _ _).alloc (Nat.le_refl _) _).alloc (by simp) _
        have HD2 := Lib.hid (hD.out.keep hal)
        have HP2 := Lib.hid (hP.out.keep hal)
        have hb2 := hb.trans (hal.mono hb.size)
        clear hkl hal hD hP
        generalize padAt P k = p at *
        generalize caseDays s (P.take k) = D at *
        go_wp2_with (at_builtin; refine wpList_append_any _ rfl (.tmp 29) (.tmp 32) _ rfl w.heap.size 3 i0 _ 1 8 Try.underlying55 hi hz0 hz1 hz2 rfl (by omega) _ D.length (intsC D) rfl HD2.out (wr.heap.size + 2) (some ⟨wr.heap.size + 1, 0, none⟩) 1 1 [.int .i64 p.day] rfl (rowNew _ _ _ _) (by simp [Value.oneCell']) (by unfold maxLen; omega) (by omega) hb2.size ?_; intro v1 w3 hown1 hg1 hat1)
        have b3 := hb2.grown hg1 hb2.size (fun q hq => own_base HD2.out hq)
        have HP3 := Lib.hid (HP2.out.only hg1 (fun q hq => own_ne HP2.out HD2.out (by decide) q hq))
        have HD3 : Hid (IntsOwn w3 w.heap.size v1 (caseDays s (P.take (k + 1)))) := Lib.hid (by
          rw [HS.out]; unfold IntsOwn; rw [List.length_append, intsC_snoc]; exact hown1)
        go_wp2
        go_roundw
        case rel => exact ⟨k + 1, by omega, by go_num, HD3, HP3, b3⟩
        case measure => simp [intOf]; omega
      | false =>
        have hal : Below wr.heap.size wr (wr.alloc (.cells #[.int .i64 (padAt P k).day, .string (padAt P k).case] 26)) := (Below.refl _ _).alloc (Nat.le_refl _) _
        have HD3 : Hid (IntsOwn (wr.alloc (.cells #[.int .i64 (padAt P k).day, .string (padAt P k).case] 26)) w.heap.size _ (caseDays s (P.take (k + 1)))) := Lib.hid (by
          rw [caseDays_no hkl he]; exact hD.out.keep hal)
        have HP3 := Lib.hid (hP.out.keep hal)
        have hb2 := hb.trans (hal.mono hb.size)
        clear hkl hal hD hP
        generalize padAt P k = p at *
        go_wp2
        go_roundw
        case rel => exact ⟨k + 1, by omega, by go_num, HD3, HP3, hb2⟩
        case measure => simp [intOf]; omega
    · have hkn : P.take k = P := List.take_of_length_le (by have := HPN.out; omega)
      rw [hkn] at hD
      clear hkn
      go_wp2
      go_ret
      exact ⟨by rw [HE.out]; exact .of rfl hD.out, hb⟩
end Go.Proofs.Ytbeaandjhlpaeaa
