/-
  The points of a chain and the end of an outline, of the program. Conditions: the two tables of steps read as the program's text lays them.
-/
import Derived.Test.YtdejgnlmofgdjaaDoorPts
import Derived.Test.YtdejgnlmofgdjaaDoorFrom
import Derived.RegionTactic
import Derived.StillTailTactics
namespace Go.Proofs.YtdejgnlmofgdjaaDoor
open Go.ChangeShapes Go.WideShapes Go.ChangeAt Go.RowKit
set_option maxRecDepth 100000
set_option linter.unusedSimpArgs false

/-- The two tables lie as the program's text lays them. -/
def TabS (w : World) : Prop := ∀ k : Nat, k < 8 → w.cell? ⟨0, k, none⟩ = some (.int .i64 (stX k)) ∧ w.cell? ⟨1, k, none⟩ = some (.int .i64 (stY k))
theorem TabS.keep {w w' : World} (h : TabS w) (hb : Below w.heap.size w w') : TabS w' := fun k hk => ⟨kcell hb (h k hk).1, kcell hb (h k hk).2⟩
def ptC (p : Pt) : List Value := [.int .i64 p.1, .int .i64 p.2]
theorem ptC_len (p : Pt) : (ptC p).length = 2 := rfl
def PtOwn (w : World) (B : Nat) (v : Value) (l : List Pt) : Prop := w.ownsRow B 55 2 v l.length (l.flatMap ptC)
theorem infoPt : (Tryd.prog.info? 55).map (fun i => (i.zero, i.size, i.bytes)) = some (some (.agg #[.int .i64 0, .int .i64 0]), 2, 16) := by kernel_rfl
theorem PtOwn.one (w : World) : PtOwn (w.alloc (.cells #[.int .i64 0, .int .i64 0] 55)) w.heap.size (.slice (some ⟨w.heap.size, 0, none⟩) 1 1) [(0, 0)] :=
  ⟨rfl, .inr ⟨_, 1, _, rfl, Nat.le_refl _, heap_alloc_new w _, Nat.le_refl _, by unfold maxLen; omega, rfl, rfl⟩⟩

theorem region_still_store {P : Program} {id : Nat} {Q : Exit → Act → World → Prop} {a : Act} {w : World} {l : List Oper} (n : Nat) (hm : P.follows .mixedOrders = true) (hB : Region.lexTailB .any l.toArray n = true)
    (h : wpStill P l.toArray w.drew (fun a' => wpList P l.toArray Q (l.drop n) a' w.drew) (l.take n) a) : (Code.region id l.toArray true).wp P Q a w := wp_region_still_tail n hm hB h
/-- Where the pen stands, in the call's own cells. -/
def AtIn (w : World) (B : Nat) (p : Pt) : Prop := Blk w B 55 #[.int .i64 p.1, .int .i64 p.2]

set_option maxHeartbeats 1600000 in
theorem chainPoints (v : Value) (ss : List Stroke) (w : World) (hC : ChainIn w v ss) (ho : outB ss = true) (hT : TabS w) :
    Calls Tryd.prog 28 #[v] w fun e w' => (∃ A c, e = .returned (.slice A (ptsS ss).length c) ∧ PtOwn w' w.heap.size (.slice A (ptsS ss).length c) (ptsS ss)) ∧ Below w.heap.size w w' := by
  obtain ⟨i0, hi, hz0, hz1, hz2⟩ := info_parts infoPt
  have h8 := outB_len ho
  have HO := Lib.hid ho; have HC := Lib.hid hC; have HT := Lib.hid hT
  clear ho hC hT
  obtain ⟨n, hn⟩ : ∃ n, n = ss.length := ⟨_, rfl⟩
  rw [← hn] at h8
  have HL := Lib.hid hn.symm; clear hn
  have b0 : Below w.heap.size w (w.alloc (.cells #[.int .i64 0, .int .i64 0] 55)) := (Below.refl _ _).alloc (Nat.le_refl _) _
  have b1 := b0.alloc b0.size (.cells #[.int .i64 0, .int .i64 0] 55)
  have K0 := Blk.new w 55 #[.int .i64 0, .int .i64 0]
  obtain ⟨k0, k1, _, _⟩ := K0.two
  go_enter Tryd.func28, Tryd.ntmps28
  go_wp2
  go_loopg [0, 4] n (fun g v lst wr => ∃ k : Nat, k ≤ n ∧ g = n - k ∧ Hid (ChainIn w v (ss.drop k)) ∧ Hid (PtOwn wr (w.heap.size + 1) lst (trailU (0, 0) (unitsS (ss.take k)))) ∧ Hid (AtIn wr w.heap.size (endU (0, 0) (unitsS (ss.take k)))) ∧ Below w.heap.size w wr)
  case atStart => exact ⟨0, Nat.zero_le _, rfl, HC, Lib.hid (by have h := PtOwn.one (w.alloc (.cells #[.int .i64 0, .int .i64 0] 55)); simpa [unitsS, trailU] using h), Lib.hid (K0.alloc _), b1⟩
  case round =>
    obtain ⟨k, hk, rfl, HCk, HP, HA, hb⟩ := hrel
    have hz := hb.size
    by_cases hlt : k < n
    · have hkl : k < ss.length := by rw [HL.out]; exact hlt
      have hC := HCk.out
      rw [drop_step hkl] at hC
      obtain ⟨b, nv, rfl, hBk, hC2⟩ := hC
      have hok := outB_ok HO.out (strokeAt_mem hkl)
      have HSz := Lib.hid (fun w => penSize (strokeAt ss k) hok w)
      have HDr := Lib.hid (fun w => penDir (strokeAt ss k) hok w)
      have HSt := Lib.hid (unitsS_step hkl)
      have hul := unitsS_len (ss := ss.take k) fun s hs => outB_ok HO.out (List.mem_of_mem_take hs)
      rw [List.length_take] at hul
      have hus : (unitsS (ss.take k)).length ≤ 24 := by omega
      obtain ⟨d0, d1, z0, z1⟩ := okS_iff.1 hok
      obtain ⟨d, hd⟩ : ∃ d : Nat, (strokeAt ss k).dir = (d : Int) := ⟨_, (Int.toNat_of_nonneg d0).symm⟩
      obtain ⟨z, hzz⟩ : ∃ z : Nat, (strokeAt ss k).size = (z : Int) := ⟨_, (Int.toNat_of_nonneg (by omega)).symm⟩
      have hbw := hBk.lt
      have HBk := Lib.hid hBk
      have HC2 := Lib.hid hC2
      rw [hd] at HDr HSt d0 d1
      rw [hzz] at HSz HSt z0 z1
      rw [Int.toNat_natCast] at HSt
      have hd8 : d < 8 := by omega
      obtain ⟨y0, y1, _, _⟩ := (show Blk wr b 58 _ from (hb.block b hbw).trans hBk).two
      clear hC2 hok hkl hBk hul hd hzz
      generalize strokeAt ss k = s at *
      generalize unitsS (ss.take k) = us at *
      go_wp2_with fail
      refine (HSz.out _).mono ?_
      rintro e w3 ⟨rfl, rfl⟩
      go_wp2
      go_loopw [4, 19] (fun lst i wi => ∃ j : Nat, j ≤ z ∧ i = .int .i64 j ∧ Hid (PtOwn wi (w.heap.size + 1) lst (trailU (0, 0) (us ++ List.replicate j (d : Int)))) ∧ Hid (AtIn wi w.heap.size (endU (0, 0) (us ++ List.replicate j (d : Int)))) ∧ Below w.heap.size w wi) (fun _ i _ => z - (intOf i).toNat)
      case atStart => exact ⟨0, Nat.zero_le _, rfl, Lib.hid (by simpa using HP.out), Lib.hid (by simpa using HA.out), hb⟩
      case round =>
        obtain ⟨j, hj, rfl, HPj, HAj, hbj⟩ := hrel
        have hzj := hbj.size
        by_cases hjz : j < z
        · have hrl : (us ++ List.replicate j (d : Int)).length ≤ 48 := by rw [List.length_append, List.length_replicate]; omega
          have HTr : Hid (trailU (0, 0) (us ++ List.replicate (j + 1) (d : Int)) = trailU (0, 0) (us ++ List.replicate j (d : Int)) ++ [stepP (endU (0, 0) (us ++ List.replicate j (d : Int))) d]) := Lib.hid (by rw [rep_succ, ← List.append_assoc, trailU_snoc])
          have HEn : Hid (endU (0, 0) (us ++ List.replicate (j + 1) (d : Int)) = stepP (endU (0, 0) (us ++ List.replicate j (d : Int))) d) := Lib.hid (by rw [rep_succ, ← List.append_assoc, endU_snoc])
          have hbd := endU_bd (0, 0) (us ++ List.replicate j (d : Int))
          have htl := trailU_len (0, 0) (us ++ List.replicate j (d : Int))
          generalize trailU (0, 0) (us ++ List.replicate j (d : Int)) = T at *
          generalize endU (0, 0) (us ++ List.replicate j (d : Int)) = P at *
          obtain ⟨px, py⟩ := P
          dsimp only at hbd
          have hsx := stX_bd (d : Int); have hsy := stY_bd (d : Int)
          have HTl : T.length ≤ 49 := by omega
          have hw1 : IntKind.i64.wrap (px + stX (d : Int)) = px + stX (d : Int) := IntWalk.i64_in _ (by omega)
          have hw2 : IntKind.i64.wrap (py + stY (d : Int)) = py + stY (d : Int) := IntWalk.i64_in _ (by omega)
          obtain ⟨q0, q1⟩ := (HT.out.keep hbj) d hd8
          obtain ⟨x0, x1, _, _⟩ := (show Blk wr b 58 _ from (hbj.block b hbw).trans HBk.out).two
          obtain ⟨a0, a1, f0, f1⟩ := HAj.out.two
          have HQ : Hid (∀ W, Below w.heap.size w W → W.cell? ⟨1, d, none⟩ = some (.int .i64 (stY (d : Int)))) := Lib.hid (fun W hW => ((HT.out.keep hW) d hd8).2)
          have hdi1 : (0 : Int) ≤ (d : Int) := by omega
          have hdi2 : (d : Int) < 8 := by omega
          clear hbd htl d0 d1
          have HSp : Hid (stepP (px, py) (d : Int) = (px + stX (d : Int), py + stY (d : Int))) := Lib.hid rfl
          generalize stX (d : Int) = sx at *
          generalize stY (d : Int) = sy at *
          have HS1 : Hid (∀ V, V = wr.drew → ∀ u, Below w.heap.size w (V.setCell ⟨w.heap.size, 0, none⟩ (.int .i64 u)) ∧ AtIn (V.setCell ⟨w.heap.size, 0, none⟩ (.int .i64 u)) w.heap.size (u, py) ∧ PtOwn (V.setCell ⟨w.heap.size, 0, none⟩ (.int .i64 u)) (w.heap.size + 1) u4 T ∧ AtIn V w.heap.size (px, py)) := Lib.hid (by
            rintro V rfl u
            exact ⟨hbj.drew.setCell (p := ⟨w.heap.size, 0, none⟩) (Nat.le_refl _) _, HAj.out.set 0 _, ownG_congr HPj.out fun q hq => Below.heap_setCell wr ⟨w.heap.size, 0, none⟩ _ q (by have := ownG_base HPj.out hq; show q ≠ w.heap.size; omega), HAj.out⟩)
          go_wp2_with fail
          refine region_still_store 11 (by kernel_rfl) (by kernel_rfl) ?_
          simp only [List.take_succ_cons, List.take_zero, List.drop_succ_cons, List.drop_zero]
          repeat still_step
          still_call ((HDr.out _).mono fun _ _ h => ⟨h.1, h.2.symm⟩)
          repeat still_step
          refine wpStill_nil ?_
          obtain ⟨V, hV⟩ : ∃ V, V = wr.drew := ⟨_, rfl⟩
          obtain ⟨bw1, HA1, HP1, HAV⟩ := HS1.out V hV (px + sx)
          rw [← hV]
          have HP1 := Lib.hid HP1
          clear hV HS1 HPj HAj a0 a1 f0 f1 x0 x1 q0 q1
          obtain ⟨a0, a1, f0, f1⟩ := HAV.two
          clear HAV
          go_wp2_with fail
          obtain ⟨W1, hW1⟩ : ∃ W1, W1 = V.setCell ⟨w.heap.size, 0, none⟩ (.int .i64 (px + sx)) := ⟨_, rfl⟩
          rw [← hW1] at bw1 HA1 HP1 ⊢
          clear hW1 a0 a1 f0 f1
          have q1 := HQ.out W1 bw1
          obtain ⟨x0, x1, _, _⟩ := (show Blk W1 b 58 _ from (bw1.block b hbw).trans HBk.out).two
          obtain ⟨a0, a1, f0, f1⟩ := HA1.two
          have HS2 : Hid (∀ V, V = W1.drew → ∀ u, Below w.heap.size w (V.setCell ⟨w.heap.size, 1, none⟩ (.int .i64 u)) ∧ AtIn (V.setCell ⟨w.heap.size, 1, none⟩ (.int .i64 u)) w.heap.size (px + sx, u) ∧ PtOwn (V.setCell ⟨w.heap.size, 1, none⟩ (.int .i64 u)) (w.heap.size + 1) u4 T ∧ AtIn V w.heap.size (px + sx, py)) := Lib.hid (by
            rintro V rfl u
            exact ⟨bw1.drew.setCell (p := ⟨w.heap.size, 1, none⟩) (Nat.le_refl _) _, HA1.set 1 _, ownG_congr HP1.out fun q hq => Below.heap_setCell W1 ⟨w.heap.size, 1, none⟩ _ q (by have := ownG_base HP1.out hq; show q ≠ w.heap.size; omega), HA1⟩)
          clear HA1
          refine region_still_store 11 (by kernel_rfl) (by kernel_rfl) ?_
          simp only [List.take_succ_cons, List.take_zero, List.drop_succ_cons, List.drop_zero]
          repeat still_step
          still_call ((HDr.out _).mono fun _ _ h => ⟨h.1, h.2.symm⟩)
          repeat still_step
          refine wpStill_nil ?_
          obtain ⟨V2, hV2⟩ : ∃ V2, V2 = W1.drew := ⟨_, rfl⟩
          obtain ⟨bw2, HA2, HP2, HAV⟩ := HS2.out V2 hV2 (py + sy)
          rw [← hV2]
          have HP2 := Lib.hid HP2
          have HA2 := Lib.hid HA2
          have hz2' := bw2.size
          have hlt2 := HA2.out.lt
          clear hV2 HS2 HP1 a0 a1 f0 f1 x0 x1 q1 bw1
          obtain ⟨a0, a1, f0, f1⟩ := HAV.two
          clear HAV
          go_wp2_with (at_builtin; refine wpList_append_any _ rfl (.tmp 43) (.tmp 45) _ rfl (w.heap.size + 1) 55 i0 _ 2 16 Tryd.underlying52 hi hz0 hz1 hz2 rfl (by omega) _ T.length (T.flatMap ptC) rfl (HP2.out.alloc _) ((V2.setCell ⟨w.heap.size, 1, none⟩ (.int .i64 (py + sy))).heap.size + 1) (some ⟨(V2.setCell ⟨w.heap.size, 1, none⟩ (.int .i64 (py + sy))).heap.size, 0, none⟩) 1 1 [.int .i64 (px + sx), .int .i64 (py + sy)] (by simp [Act.eval, Act.put]) (rowNewSt _ _ _ _) (by simp [Value.oneCell']) (by unfold maxLen; omega) (by omega) (by simp at hlt2 ⊢; omega) ?_; intro v7 w7 hown7 hg7 hat7)
          have HP7 : Hid (PtOwn w7 (w.heap.size + 1) v7 (trailU (0, 0) (us ++ List.replicate (j + 1) (d : Int)))) := Lib.hid (by rw [HTr.out]; unfold PtOwn; rw [List.length_append, List.flatMap_append, HSp.out]; exact hown7)
          have HA7 : Hid (AtIn w7 w.heap.size (endU (0, 0) (us ++ List.replicate (j + 1) (d : Int)))) := Lib.hid (by
            rw [HEn.out, HSp.out]
            exact (hg7.block _ (by simp at hlt2 ⊢; omega) (fun q => by have := ownG_base HP2.out q.symm; omega)).trans (HA2.out.alloc _))
          have b7 : Below w.heap.size w w7 := (bw2.alloc hz2' _).grown hg7 (by simp at hz2' ⊢; omega) (fun q hq => by have := ownG_base HP2.out hq; omega)
          clear hown7 hg7 hat7 HP2 HA2 HTr HEn a0 a1 f0 f1
          go_wp2
          go_roundw
          case rel => exact ⟨j + 1, by omega, by go_num, HP7, HA7, b7⟩
          case measure => simp [intOf]; omega
        · obtain rfl : j = z := by omega
          obtain ⟨x0, x1, _, _⟩ := (show Blk wr b 58 _ from (hbj.block b hbw).trans HBk.out).two
          rw [← HSt.out] at HPj HAj
          go_wp2
          go_roundg (n - (k + 1))
          case rel => exact ⟨k + 1, by omega, rfl, HC2, HPj, HAj, hbj⟩
          case measure => omega
    · have e : ss.drop k = [] := List.drop_eq_nil_of_le (by rw [HL.out]; omega)
      have e2 : ss.take k = ss := List.take_of_length_le (by rw [HL.out]; omega)
      rw [e] at HCk
      rw [e2] at HP HA
      have hC := HCk.out
      subst hC
      obtain ⟨A5, c5, rfl, _, _⟩ := ownG_form HP.out
      have HP6 : Hid (PtOwn wr w.heap.size (.slice A5 (ptsS ss).length c5) (ptsS ss)) := Lib.hid (ownG_mono HP.out (by omega))
      clear e e2
      go_wp2
      go_returns
      exact ⟨⟨A5, c5, rfl, HP6.out⟩, hb⟩
end Go.Proofs.YtdejgnlmofgdjaaDoor
