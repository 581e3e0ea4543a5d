/-
  slices.DeleteFunc at pads, in a row of the call's own, with a closure that writes nothing. Conditions: no more pads than a law lets by.
-/
import Derived.Test.YtbeaandjhlpaeaaDelInv
namespace Go.Proofs.Ytbeaandjhlpaeaa
open Go.ChangeShapes Go.WideShapes Go.ChangeAt Go.RowKit Go.Shelf
set_option maxRecDepth 100000

theorem zeroPad : ∀ w, (zeroValue 26).run Try.prog w = .ok (.agg #[.int .i64 0, .string ByteArray.empty]) w := fun w => by kernel_rfl
def zPad : Value := .agg #[.int .i64 0, .string ByteArray.empty]
theorem zPad_len (n : Nat) : (Builtin.zeroCells zPad.cells n).toList.length = n * 2 := by simp [Builtin.zeroCells, zPad, Value.cells]
theorem zPad_one (n : Nat) : ∀ v ∈ (Builtin.zeroCells zPad.cells n).toList, v.oneCell' = true := by
  intro v hv
  simp only [Builtin.zeroCells, zPad, Value.cells, Array.toList_map, List.mem_map] at hv
  obtain ⟨i, _, rfl⟩ := hv
  have : i % 2 = 0 ∨ i % 2 = 1 := by omega
  rcases this with h | h <;> simp [h, Value.oneCell']

/-- The answer of DeleteFunc: the kept elements, in the same row. -/
def DelAns (w w' : World) (B : Nat) (v : Value) (ps : List Pad) (e : Ending) : Prop :=
  ∃ A c, e = .returned (.slice A ps.length c) ∧ PadsOwn w' B (.slice A ps.length c) ps ∧ (Value.slice A ps.length c).ownBlock = v.ownBlock ∧ w.grownBy w' v.ownBlock

theorem delPads (g : Nat) (cb : Array Value) (p : Pad → Bool) (eg : ∀ args w, (callFunc g args).run Try.prog w = .ok (.enter g args) w) (A : Option Addr) (n c B : Nat) (ps : List Pad) (w : World) (hn : ps.length = n) (hn1 : n ≤ 1048576)
    (hgood : ∀ x ∈ ps, x.good) (hp : PredPad g cb p w (Value.slice A n c).ownBlock) (h : PadsOwn w B (.slice A n c) ps) :
    Calls Try.prog 78 #[.slice A n c, .func (.func g) #[] cb] w fun e w' => DelAns w w' B (.slice A n c) (ps.filter fun x => !p x) e := by
  have hR := h.reads hn hgood
  have HI := Lib.hid (idxFuncPad g cb p (Value.slice A n c).ownBlock eg A n c ps w hp hR)
  have HG := Lib.hid hgood; clear hgood
  have HPd := Lib.hid hp; clear hp
  have HO := Lib.hid h
  have hcm := hR.2.2.1; have hnc := hR.2.1
  unfold maxLen at hcm
  have HN := Lib.hid hn; clear hn
  clear hR
  go_enter Try.func78, Try.ntmps78
  go_wp2_with fail
  refine HI.out.mono ?_
  rintro e w1 ⟨r, rfl, hr, b1⟩
  rcases hr with ⟨rfl, hno⟩ | ⟨k, rfl, hkn, hyes, hno⟩
  · have HF : Hid (ps.filter (fun x => !p x) = ps) := Lib.hid (List.filter_eq_self.2 (fun x hx => by
      obtain ⟨i, hi, rfl⟩ := List.getElem_of_mem hx
      have := hno i (by rw [← HN.out]; exact hi)
      rw [show padAt ps i = ps[i] by unfold padAt; simp [List.getD, List.getElem?_eq_getElem hi]] at this
      simp [this]))
    have HW := Lib.hid (HO.out.keep b1)
    clear hno
    go_wp2
    go_ret
    rw [HF.out]
    exact ⟨A, c, by rw [HN.out]; rfl, by rw [HN.out]; exact HW.out, by rw [HN.out], Below.only b1⟩
  · unfold PadsOwn at h
    rw [HN.out] at h
    rcases h.2 with ⟨e, e0⟩ | ⟨gb, cap, cur, e, hg, hB, _, _, hcs, ht⟩
    · omega
    injection e with e1 e2 e3
    subst e1 e3
    have hD0 : DelInv padC 2 (fun x => !p x) ps cur c k k := DelInv.start padC_len hcs (by rw [HN.out]; exact ht) (by rw [HN.out]; omega) (fun x hx => by
      obtain ⟨i, hi, rfl⟩ := List.getElem_of_mem hx
      simp only [List.length_take] at hi
      have := hno i (by omega)
      rw [List.getElem_take]
      rw [show padAt ps i = ps[i] by unfold padAt; simp [List.getD, List.getElem?_eq_getElem (show i < ps.length by omega)]] at this
      simp [this])
    have hD1 := Lib.hid (hD0.skip (padAt_some (by rw [HN.out]; exact hkn)) (by simp [hyes]))
    have hB1 := Lib.hid (Blk.below (show Blk w gb 26 cur from hB) b1)
    have hG1 := Lib.hid (Below.only (row := some gb) b1)
    have HP : Hid (PredPad g cb p w (some gb)) := Lib.hid HPd.out
    have hk1 : ((k : Int) == -1) = false := by simp
    clear h hD0 hB ht hcs hno hyes HPd HI
    go_wp2
    go_loopw [5, 6] (fun a i wr => ∃ (q j : Nat) (cs : Array Value), q < j ∧ j ≤ n ∧ a = .int .i64 q ∧ i = .int .i64 j ∧ Hid (Blk wr gb 26 cs) ∧ Hid (DelInv padC 2 (fun x => !p x) ps cs c q j) ∧ Hid (w.grownBy wr (some gb))) (fun _ i _ => n - (intOf i).toNat)
    case atStart => exact ⟨k, k + 1, cur, by omega, by omega, rfl, by go_num, hB1, hD1, hG1⟩
    case round =>
      obtain ⟨q, j, cs, hqj, hj, rfl, rfl, hC, hD, hG⟩ := hrel
      by_cases hlt : j < n
      · have hjl : j < ps.length := by rw [HN.out]; exact hlt
        have hx := padAt_some hjl
        have c0 : wr.cell? ⟨gb, j * 2, none⟩ = some (.int .i64 (padAt ps j).day) := by
          rw [hC.out.cell]; exact hD.out.2.2.2 j _ (Nat.le_refl _) hx 0 (by omega)
        have c1 : wr.cell? ⟨gb, j * 2 + 1, none⟩ = some (.string (padAt ps j).case) := by
          rw [hC.out.cell]; exact hD.out.2.2.2 j _ (Nat.le_refl _) hx 1 (by omega)
        have hgx := HG.out _ (padAt_mem hjl)
        have hal : wr.grownBy (wr.alloc (.cells #[.int .i64 (padAt ps j).day, .string (padAt ps j).case] 26)) (some gb) := Below.only ((Below.refl _ _).alloc (Nat.le_refl _) _)
        have hcall := HP.out _ (padAt ps j) (only_next hG.out hal) hgx
        unfold padV at hcall
        cases hq : p (padAt ps j) with
        | true =>
          rw [hq] at hcall
          have HC := Lib.hid hcall
          have HD := Lib.hid (hD.out.skip hx (by simp [hq]))
          have HB := Lib.hid (hC.out.alloc (.cells #[.int .i64 (padAt ps j).day, .string (padAt ps j).case] 26))
          have HGr := Lib.hid (only_next hG.out hal)
          clear hcall hq hx hgx hjl hC hD hG hal
          generalize padAt ps j = x at *
          go_wp2_with (go_at_fn g; refine HC.out.mono ?_; rintro e w2 ⟨rfl, hb2⟩)
          have HB2 := Lib.hid (HB.out.below hb2)
          have HG2 := Lib.hid (only_next HGr.out (Below.only hb2))
          go_roundw
          case rel => exact ⟨q, j + 1, cs, by omega, by omega, rfl, by go_num, HB2, HD, HG2⟩
          case measure => simp [intOf]; omega
        | false =>
          rw [hq] at hcall
          have HC := Lib.hid hcall
          have HB := Lib.hid (hC.out.alloc (.cells #[.int .i64 (padAt ps j).day, .string (padAt ps j).case] 26))
          have HGr := Lib.hid (only_next hG.out hal)
          have hsz := hD.out.1
          have HDD := Lib.hid hD.out
          have HXX := Lib.hid hx
          have HQ := Lib.hid hq
          obtain ⟨v0, hv0⟩ : ∃ u, cs[q * 2]? = some u := ⟨_, Array.getElem?_eq_getElem (by omega)⟩
          obtain ⟨v1, hv1⟩ : ∃ u, cs[q * 2 + 1]? = some u := ⟨_, Array.getElem?_eq_getElem (by omega)⟩
          clear hcall hq hx hgx hjl hC hD hG hal hsz
          have HV0 := Lib.hid hv0; have HV1 := Lib.hid hv1; clear hv0 hv1
          generalize padAt ps j = x at *
          go_wp2_with (go_at_fn g; refine HC.out.mono ?_; rintro e w2 ⟨rfl, hb2⟩; have hB2 := HB.out.below hb2; have f0 := (hB2.cell (q * 2)).trans HV0.out; have f1 := (hB2.cell (q * 2 + 1)).trans HV1.out; have z0 := hB2.free (q * 2); have z1 := hB2.free (q * 2 + 1); have l0 := kcell hb2 (newcell wr #[.int .i64 x.day, .string x.case] 26 0 _ rfl); have l1 := kcell hb2 (newcell wr #[.int .i64 x.day, .string x.case] 26 1 _ rfl))
          have HB3 := Lib.hid ((hB2.set (q * 2) (.int .i64 x.day)).set (q * 2 + 1) (.string x.case))
          have HG3 := Lib.hid (only_set (only_set (only_next HGr.out (Below.only hb2)) rfl (.int .i64 x.day) (p := ⟨gb, q * 2, none⟩)) rfl (.string x.case) (p := ⟨gb, q * 2 + 1, none⟩))
          have HD3 : Hid (DelInv padC 2 (fun x => !p x) ps ((cs.setIfInBounds (q * 2) (.int .i64 x.day)).setIfInBounds (q * 2 + 1) (.string x.case)) c (q + 1) (j + 1)) := Lib.hid (by
            have hsz := HDD.out.1
            refine HDD.out.put padC_len (by omega) HXX.out (by simp [HQ.out]) (by rw [HN.out]; exact hnc) (by simp) (fun r hr => ?_) (fun m hm => ?_)
            · rcases r with _ | _ | r
              · show ((cs.setIfInBounds (q * 2) (.int .i64 x.day)).setIfInBounds (q * 2 + 1) (.string x.case))[q * 2]? = _
                rw [Array.getElem?_setIfInBounds_ne (by omega), Array.getElem?_setIfInBounds_self_of_lt (by omega)]; rfl
              · rw [Array.getElem?_setIfInBounds_self_of_lt (by simp; omega)]; rfl
              · omega
            · rw [Array.getElem?_setIfInBounds_ne (by omega), Array.getElem?_setIfInBounds_ne (by omega)])
          go_roundw
          case rel => exact ⟨q + 1, j + 1, _, by omega, by omega, by go_num, by go_num, HB3, HD3, HG3⟩
          case measure => simp [intOf]; omega
      · obtain rfl : j = n := by omega
        have hsz := hD.out.1
        have hlenf := hD.out.2.2.1
        have hfull : ps.take j = ps := List.take_of_length_le (by rw [HN.out]; exact Nat.le_refl _)
        have HT : Hid (cs.toList.take (q * 2) = (ps.filter fun x => !p x).flatMap padC ∧ (ps.filter fun x => !p x).length = q) := Lib.hid (by
          have h1 := hD.out.2.1; have h2 := hD.out.2.2.1
          rw [hfull] at h1 h2; exact ⟨h1, h2⟩)
        have hcl := run_clear_any (P := Try.prog) wr (j - q) 49 26 0 zPad Try.underlying49 zeroPad (zPad_one _) gb (q * 2) (c - q) (by omega) (fun m hm => by
          rw [zPad_len] at hm
          obtain ⟨u, hu⟩ : ∃ u, cs[q * 2 + m]? = some u := ⟨_, Array.getElem?_eq_getElem (by omega)⟩
          rw [hC.out.cell, hu]; rfl) (fun m => hC.out.free _)
        generalize (Builtin.zeroCells zPad.cells (j - q)).toList = zs at hcl
        obtain ⟨cs', hB', hs', hk'⟩ := Blk.cells zs (q * 2) hC.out
        have HG3 := Lib.hid (only_setCells zs (q * 2) hG.out)
        have HF : Hid (PadsOwn (wr.setCells gb (q * 2) zs) B (.slice (some ⟨gb, 0, none⟩) (ps.filter fun x => !p x).length c) (ps.filter fun x => !p x)) := Lib.hid (by
          refine ⟨by rw [flat_len padC_len], .inr ⟨gb, c, cs', rfl, hg, hB', by rw [HT.out.2]; omega, by unfold maxLen; omega, by rw [hs', hsz], ?_⟩⟩
          rw [HT.out.2, ← HT.out.1]
          apply List.ext_getElem?
          intro m
          rcases Nat.lt_or_ge m (q * 2) with hm | hm
          · rw [List.getElem?_take_of_lt hm, List.getElem?_take_of_lt hm, Array.getElem?_toList, Array.getElem?_toList, hk' m hm]
          · rw [List.getElem?_eq_none (by rw [List.length_take]; omega), List.getElem?_eq_none (by rw [List.length_take]; omega)])
        clear hlenf hfull hB' hk' hs'
        go_wp2
        go_ret
        exact ⟨_, c, by rw [HT.out.2]; rfl, HF.out, rfl, HG3.out⟩
end Go.Proofs.Ytbeaandjhlpaeaa
