/-
  slices.DeleteFunc at leaf pointers, with keep's second closure: the leaves without pads go. Conditions: no more leaves than a law lets by.
-/
import Derived.Test.YtbeaandjhlpaeaaDelLeaf
namespace Go.Proofs.Ytbeaandjhlpaeaa
open Go.ChangeShapes Go.WideShapes Go.ChangeAt Go.RowKit Go.Shelf
set_option maxRecDepth 100000

/-- The answer of DeleteFunc at leaves: the kept ones, in the same row. -/
def DelLeafAns (w w' : World) (B : Nat) (v : Value) (ls : List Leaf) (e : Ending) : Prop :=
  ∃ A c, e = .returned (.slice A ls.length c) ∧ w'.ownsRow B 97 1 (.slice A ls.length c) ls.length (ls.flatMap ptrC) ∧ (Value.slice A ls.length c).ownBlock = v.ownBlock ∧ w.grownBy w' v.ownBlock
theorem zeroLeafP : ∀ w, (zeroValue 97).run Try.prog w = .ok (.pointer none) w := fun w => by kernel_rfl
theorem zPtr_len (n : Nat) : (Builtin.zeroCells (Value.pointer none).cells n).toList.length = n * 1 := by simp [Builtin.zeroCells, Value.cells]
theorem zPtr_one (n : Nat) : ∀ v ∈ (Builtin.zeroCells (Value.pointer none).cells n).toList, v.oneCell' = true := by
  intro v hv
  simp only [Builtin.zeroCells, Value.cells, Array.toList_map, List.mem_map] at hv
  obtain ⟨i, _, rfl⟩ := hv
  have : i % 1 = 0 := by omega
  simp [this, Value.oneCell']

set_option maxHeartbeats 1000000 in
theorem delLeaf (A : Option Addr) (n c B : Nat) (ps : List Leaf) (w : World) (hn : ps.length = n) (hn1 : n ≤ 1048576)
    (hrd : ∀ l ∈ ps, LeafRd w l) (h : w.ownsRow B 97 1 (.slice A n c) n (ps.flatMap ptrC)) :
    Calls Try.prog 79 #[.slice A n c, .func (.func 80) #[] #[]] w fun e w' => DelLeafAns w w' B (.slice A n c) (ps.filter fun x => !noPads x) e := by
  have eg : ∀ args w, (callFunc 80 args).run Try.prog w = .ok (.enter 80 args) w := enters_of Try.func80 (by kernel_rfl) rfl
  have HI := Lib.hid (idxFuncLeaf A n c ps w hn hn1 hrd (Row.of_own h))
  obtain ⟨A0, cc0, e0, hnc, hcm⟩ := own_form h
  injection e0 with e1 e2 e3; subst e1 e3; clear e2
  unfold maxLen at hcm
  have HRd := Lib.hid hrd; clear hrd
  have HNe : Hid (∀ l ∈ ps, (Value.slice A n c).ownBlock ≠ some l.g) := Lib.hid (fun l hl => by
    obtain ⟨A, c, hB⟩ := HRd.out l hl
    exact hB.ne_own h (by decide))
  have HO := Lib.hid h
  have HN := Lib.hid hn; clear hn
  go_enter Try.func79, Try.ntmps79
  go_wp2_with fail
  refine HI.out.mono ?_
  rintro e w1 ⟨r, rfl, hr, b1⟩
  rcases hr with ⟨rfl, hno⟩ | ⟨k, rfl, hkn, hyes, hno⟩
  · have HF : Hid (ps.filter (fun x => !noPads x) = ps) := Lib.hid (List.filter_eq_self.2 (fun x hx => by
      obtain ⟨i, hi, rfl⟩ := List.getElem_of_mem hx
      have := hno i (by rw [← HN.out]; exact hi)
      rw [show leafAt ps i = ps[i] by unfold leafAt; simp [List.getD, List.getElem?_eq_getElem hi]] at this
      simp [this]))
    have HW := Lib.hid (own_congr HO.out (fun b hv => b1.block b (own_lt HO.out hv)))
    clear hno
    go_wp2
    go_ret
    rw [HF.out]
    exact ⟨A, c, by rw [HN.out]; rfl, by rw [HN.out]; exact HW.out, by rw [HN.out], Below.only b1⟩
  · rcases h.2 with ⟨e, e0⟩ | ⟨gb, cap, cur, e, hg, hB, _, _, hcs, ht⟩
    · omega
    injection e with e1 e2 e3
    subst e1 e3
    have hD0 : DelInv ptrC 1 (fun x => !noPads x) ps cur c k k := DelInv.start ptrC_len hcs (by rw [HN.out]; exact ht) (by rw [HN.out]; omega) (fun x hx => by
      obtain ⟨i, hi, rfl⟩ := List.getElem_of_mem hx
      simp only [List.length_take] at hi
      have := hno i (by omega)
      rw [List.getElem_take]
      rw [show leafAt ps i = ps[i] by unfold leafAt; simp [List.getD, List.getElem?_eq_getElem (show i < ps.length by omega)]] at this
      simp [this])
    have hD1 := Lib.hid (hD0.skip (leafAt_some (by rw [HN.out]; exact hkn)) (by simp [hyes]))
    have hB1 := Lib.hid (Blk.below (show Blk w gb 97 cur from hB) b1)
    have hG1 := Lib.hid (Below.only (row := some gb) b1)
    have hk1 : ((k : Int) == -1) = false := by simp
    have HNg : Hid (∀ l ∈ ps, gb ≠ l.g) := Lib.hid (fun l hl e => HNe.out l hl (by rw [e]; rfl))
    clear h hD0 hB ht hcs hno hyes HI HNe
    go_wp2
    go_loopw [5, 6] (fun a i wr => ∃ (q j : Nat) (cs : Array Value), q < j ∧ j ≤ n ∧ a = .int .i64 q ∧ i = .int .i64 j ∧ Hid (Blk wr gb 97 cs) ∧ Hid (DelInv ptrC 1 (fun x => !noPads x) ps cs c q j) ∧ Hid (w.grownBy wr (some gb))) (fun _ i _ => n - (intOf i).toNat)
    case atStart => exact ⟨k, k + 1, cur, by omega, by omega, rfl, by go_num, hB1, hD1, hG1⟩
    case round =>
      obtain ⟨q, j, cs, hqj, hj, rfl, rfl, hC, hD, hG⟩ := hrel
      by_cases hlt : j < n
      · have hjl : j < ps.length := by rw [HN.out]; exact hlt
        have hx := leafAt_some hjl
        have c0 : wr.cell? ⟨gb, j, none⟩ = some (leafAt ps j).ptr := by
          rw [hC.out.cell]
          have := hD.out.2.2.2 j _ (Nat.le_refl _) hx 0 (by omega)
          rw [show j * 1 + 0 = j by omega] at this
          exact this
        have hrd : LeafRd wr (leafAt ps j) := by
          obtain ⟨A1, c1, hB⟩ := HRd.out _ (leafAt_mem hjl)
          exact ⟨A1, c1, hB.only hG.out (fun e => HNg.out _ (leafAt_mem hjl) e.symm)⟩
        have hcall := emptyLeaf (leafAt ps j) wr hrd
        cases hq : noPads (leafAt ps j) with
        | true =>
          rw [hq] at hcall
          have HC := Lib.hid hcall
          have HD := Lib.hid (hD.out.skip hx (by simp [hq]))
          clear hcall hq hx hjl hD hrd
          unfold Leaf.ptr at HC c0
          generalize leafAt ps j = x at *
          go_wp2_with (go_at_fn 80; refine HC.out.mono ?_; rintro e w2 ⟨rfl, hb2⟩)
          have HB2 := Lib.hid (hC.out.below hb2)
          have HG2 := Lib.hid (only_next hG.out (Below.only hb2))
          go_roundw
          case rel => exact ⟨q, j + 1, cs, by omega, by omega, rfl, by go_num, HB2, HD, HG2⟩
          case measure => simp [intOf]; omega
        | false =>
          rw [hq] at hcall
          have HC := Lib.hid hcall
          have hsz := hD.out.1
          have HDD := Lib.hid hD.out
          have HXX := Lib.hid hx
          have HQ := Lib.hid hq
          obtain ⟨v0, hv0⟩ : ∃ u, cs[q]? = some u := ⟨_, Array.getElem?_eq_getElem (by omega)⟩
          clear hcall hq hx hjl hD hrd hsz
          have HV0 := Lib.hid hv0; clear hv0
          unfold Leaf.ptr at HC c0
          generalize leafAt ps j = x at *
          go_wp2_with (go_at_fn 80; refine HC.out.mono ?_; rintro e w2 ⟨rfl, hb2⟩; have hB2 := hC.out.below hb2; have f0 := (hB2.cell q).trans HV0.out; have z0 := hB2.free q)
          have HB3 := Lib.hid (hB2.set q x.ptr)
          have HG3 := Lib.hid (only_set (only_next hG.out (Below.only hb2)) rfl x.ptr (p := ⟨gb, q, none⟩))
          have HD3 : Hid (DelInv ptrC 1 (fun x => !noPads x) ps (cs.setIfInBounds q x.ptr) c (q + 1) (j + 1)) := Lib.hid (by
            have hsz := HDD.out.1
            refine HDD.out.put ptrC_len (by omega) HXX.out (by simp [HQ.out]) (by rw [HN.out]; exact hnc) (by simp) (fun r hr => ?_) (fun m hm => ?_)
            · obtain rfl : r = 0 := by omega
              rw [show q * 1 + 0 = q by omega, Array.getElem?_setIfInBounds_self_of_lt (by omega)]; rfl
            · rw [Array.getElem?_setIfInBounds_ne (by omega)])
          unfold Leaf.ptr at HB3 HG3 HD3
          go_roundw
          case rel => exact ⟨q + 1, j + 1, _, by omega, by omega, by go_num, by go_num, HB3, HD3, HG3⟩
          case measure => simp [intOf]; omega
      · obtain rfl : j = n := by omega
        have hsz := hD.out.1
        have hlenf := hD.out.2.2.1
        have hfull : ps.take j = ps := List.take_of_length_le (by rw [HN.out]; exact Nat.le_refl _)
        have HT : Hid (cs.toList.take q = (ps.filter fun x => !noPads x).flatMap ptrC ∧ (ps.filter fun x => !noPads x).length = q) := Lib.hid (by
          have h1 := hD.out.2.1; have h2 := hD.out.2.2.1
          rw [hfull] at h1 h2; rw [Nat.mul_one] at h1; exact ⟨h1, h2⟩)
        have hcl := run_clear_any (P := Try.prog) wr (j - q) 93 97 0 (.pointer none) Try.underlying93 zeroLeafP (zPtr_one _) gb q (c - q) (by omega) (fun m hm => by
          rw [zPtr_len] at hm
          obtain ⟨u, hu⟩ : ∃ u, cs[q + m]? = some u := ⟨_, Array.getElem?_eq_getElem (by omega)⟩
          rw [hC.out.cell, hu]; rfl) (fun m => hC.out.free _)
        generalize (Builtin.zeroCells (Value.pointer none).cells (j - q)).toList = zs at hcl
        obtain ⟨cs', hB', hs', hk'⟩ := Blk.cells zs q hC.out
        have HG3 := Lib.hid (only_setCells zs q hG.out)
        have HF : Hid ((wr.setCells gb q zs).ownsRow B 97 1 (.slice (some ⟨gb, 0, none⟩) (ps.filter fun x => !noPads x).length c) (ps.filter fun x => !noPads x).length ((ps.filter fun x => !noPads x).flatMap ptrC)) := Lib.hid (by
          refine ⟨by rw [flat_len ptrC_len], .inr ⟨gb, c, cs', rfl, hg, hB', by rw [HT.out.2]; omega, by unfold maxLen; omega, by rw [hs', hsz], ?_⟩⟩
          rw [HT.out.2, ← HT.out.1, Nat.mul_one]
          apply List.ext_getElem?
          intro m
          rcases Nat.lt_or_ge m q with hm | hm
          · rw [List.getElem?_take_of_lt hm, List.getElem?_take_of_lt hm, Array.getElem?_toList, Array.getElem?_toList, hk' m hm]
          · rw [List.getElem?_eq_none (by rw [List.length_take]; omega), List.getElem?_eq_none (by rw [List.length_take]; omega)])
        clear hlenf hfull hB' hk' hs'
        go_wp2
        go_ret
        exact ⟨_, c, by rw [HT.out.2]; rfl, HF.out, rfl, HG3.out⟩
end Go.Proofs.Ytbeaandjhlpaeaa
