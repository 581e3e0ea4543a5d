/-
  The words of an outline, of the program. Conditions: the lists lie in memory; no text is absurdly long.
-/
import Derived.Test.YtppjjbjjbmodbaaReadLaw
namespace Go.Proofs.Ytppjjbjjbmodbaa
open Go.ChangeShapes Go.WideShapes Go.ChangeAt Go.RowKit Go.Maps
set_option maxRecDepth 100000
set_option linter.unusedSimpArgs false

/-- The indexes of the first k written words with this outline. -/
def isO (ss : List Stroke) (x : It) : Bool := decide (x.ss = ss)
def outF (its : List It) (ss : List Stroke) (k : Nat) : List Nat := ((its.take k).filter (isO ss)).map (·.i)
theorem outF_succ {its : List It} {ss : List Stroke} {k : Nat} (h : k < its.length) : outF its ss (k + 1) = outF its ss k ++ if isO ss (itAt its k) = true then [(itAt its k).i] else [] := by
  unfold outF
  rw [it_take h, List.filter_append, List.map_append]
  congr 1
  cases hh : isO ss (itAt its k) <;> simp [hh]
theorem outF_len (its : List It) (ss : List Stroke) (k : Nat) : (outF its ss k).length ≤ k := by
  unfold outF
  rw [List.length_map]
  exact Nat.le_trans (List.length_filter_le _ _) (List.length_take_le _ _)
theorem outF_read {its : List It} {xs : List Sg} {ws : List (List UInt8)} {n : Nat} (hl : its.length = n) (h : its.map ouDat = outsK xs ws ws.length) (ss : List Stroke) : outF its ss n = dreadOf xs ws ss := by
  unfold outF
  rw [List.take_of_length_le (by omega)]
  have h1 := dread_outs xs ws ss ws.length
  unfold dreadOf
  rw [← h1, ← h, List.filter_map, List.map_map]
  rfl

set_option maxHeartbeats 1600000 in
theorem implDictionaryRead (A : Option Addr) (n c : Nat) (xs : List Sg) (A' : Option Addr) (n' c' : Nat) (ws : List (List UInt8)) (A2 : Option Addr) (n2 c2 : Nat) (ss : List Stroke) (w : World) (hW : ∀ l ∈ ws, l.length ≤ maxLen) (h : SgsIn w w.heap.size A n c xs) (h' : WdsIn w w.heap.size A' n' c' ws) (h2 : StrokesIn w w.heap.size A2 n2 c2 ss) :
    Calls Try.prog 17 #[.slice A n c, .slice A' n' c', .slice A2 n2 c2] w fun e w' => IdxAns w' w.heap.size (dreadAll xs ws ss) e ∧ Below w.heap.size w w' := by
  obtain ⟨i0, hi, hz0, hz1, hz2⟩ := info_parts infoInt
  have HP := Lib.hid (writtenWords A n c xs A' n' c' ws w hW h h')
  have HV := Lib.hid (fun W (hb : Below w.heap.size w W) => implOutlineValid A2 n2 c2 ss W (h2.keep hb))
  have H2 := Lib.hid h2
  have HNil : Hid (∀ W : World, NatOwn W w.heap.size (.slice none 0 0) []) := Lib.hid (fun W => World.ownsRow_nil _ _ _ _)
  have HNo : Hid (¬ ((sysB xs && dicB ws) = true ∧ outB ss = true) → dreadAll xs ws ss = []) := Lib.hid (fun h => if_neg h)
  have HYes : Hid ((sysB xs && dicB ws) = true → outB ss = true → dreadAll xs ws ss = dreadOf xs ws ss) := Lib.hid (fun h1 h2 => if_pos ⟨h1, h2⟩)
  clear h h' h2
  go_enter Try.func17, Try.ntmps17
  go_wp2_with fail
  refine HP.out.mono ?_
  rintro e w1 ⟨hA, b1⟩
  rcases hA with ⟨hB, rfl⟩ | ⟨hB, A3, n3, c3, its, rfl, hI, hd⟩
  · have HF := Lib.hid (HNo.out (fun h => by rw [h.1] at hB; cases hB))
    clear hB
    go_wp2
    go_ret
    exact ⟨⟨none, 0, by rw [HF.out]; rfl, by rw [HF.out]; exact HNil.out _⟩, b1⟩
  · have HVk := Lib.hid (HV.out w1 b1)
    have hn20 : n3 ≤ 20 := by
      have h1 := congrArg List.length hd
      rw [List.length_map, hI.1] at h1
      have h2 := outsK_len xs ws ws.length
      rw [Bool.and_eq_true] at hB
      have := (dicB_iff.1 hB.2).1
      omega
    have hnc := hI.2.1; have hcm := hI.2.2.1
    unfold maxLen at hcm
    have HFr := Lib.hid (outF_read hI.1 hd ss)
    have HLi := Lib.hid hI.1
    have HI := Lib.hid hI
    have HB := Lib.hid hB
    clear hI hd hB
    cases hw : outB ss with
    | false =>
      rw [hw] at HVk
      have HF := Lib.hid (HNo.out (fun h => by rw [h.2] at hw; cases hw))
      clear hw
      go_wp2_with fail
      refine HVk.out.mono ?_
      rintro e w2 ⟨rfl, hb2⟩
      have b2 := below_next b1 hb2
      go_wp2
      go_ret
      exact ⟨⟨none, 0, by rw [HF.out]; rfl, by rw [HF.out]; exact HNil.out _⟩, b2⟩
    | true =>
      rw [hw] at HVk
      have HF := Lib.hid (HYes.out HB.out hw)
      clear hw
      go_wp2_with fail
      refine HVk.out.mono ?_
      rintro e w2 ⟨rfl, hb2⟩
      have b2 := below_next b1 hb2
      have HI2 := Lib.hid (HI.out.keep hb2)
      have H22 := Lib.hid (H2.out.keep b2)
      have z2 := b2.size
      have HO0 : Hid (NatOwn (w2.alloc (.cells #[] 3)) w2.heap.size (.slice (some ⟨w2.heap.size, 0, none⟩) 0 0) []) := Lib.hid (World.ownsRow_made w2 #[] 0 (Nat.le_refl _) (by simp) (by simp))
      have hal : Below w2.heap.size w2 (w2.alloc (.cells #[] 3)) := (Below.refl _ _).alloc (Nat.le_refl _) _
      clear hb2 HVk HP HV HI H2
      go_wp2
      go_loopw [9, 28] (fun v0 i wr => ∃ (k : Nat) (v : Value), k ≤ n3 ∧ i = .int .i64 k ∧ v = v0 ∧ Hid (NatOwn wr w2.heap.size v (outF its ss k)) ∧ Below w2.heap.size w2 wr) (fun _ i _ => n3 - (intOf i).toNat)
      case atStart => exact ⟨0, _, Nat.zero_le _, rfl, rfl, HO0, hal⟩
      case round =>
        obtain ⟨k, v, hk, rfl, rfl, HO, hb⟩ := hrel
        have hz := hb.size
        have hlk := outF_len its ss k
        by_cases hlt : k < n3
        · obtain ⟨b, off, rfl, hbB, c0, c1, hSt⟩ := (HI2.out.keep hb).ou hlt
          have HFs := Lib.hid (outF_succ (ss := ss) (show k < its.length by rw [HLi.out]; exact hlt))
          have hal1 : ∀ o, Below wr.heap.size wr (wr.alloc o) := fun o => (Below.refl _ _).alloc (Nat.le_refl _) o
          have HEq := Lib.hid (fun o => equalStrokes (itAt its k).A (itAt its k).n (itAt its k).c A2 n2 c2 (itAt its k).ss ss (wr.alloc o) (hSt.keep (hal1 o)) (H22.out.keep (below_next hb (hal1 o))))
          have HAl := Lib.hid hal1
          have hisf : isO ss (itAt its k) = decide ((itAt its k).ss = ss) := rfl
          rw [hisf] at HFs
          clear hSt hisf hal1
          generalize decide ((itAt its k).ss = ss) = q at *
          generalize itAt its k = x at *
          obtain ⟨xi, xA, xn, xc, xss, xp⟩ := x
          dsimp only at c0 c1 HFs HEq
          have i1 : (0 : Int) ≤ (k : Int) := by omega
          have i2 : (k : Int) < (n3 : Int) := by omega
          have K1 := Blk.new wr 96 #[.int .i64 (xi : Int), .slice xA xn xc]
          have m0 := K1.cell 0; have m1 := K1.cell 1
          go_wp2_with fail
          refine (HEq.out _).mono ?_
          rintro e w3 ⟨rfl, hb3⟩
          have hb03 := below_next (HAl.out _) hb3
          have b3 := below_next hb hb03
          have z3 := b3.size
          have HO3 : Hid (NatOwn w3 w2.heap.size v (outF its ss k)) := Lib.hid (ownG_keep HO.out hb03)
          have K3 := K1.below hb3
          have n0 := K3.cell 0
          clear m0 m1 K1 hb3 hb03 HEq HAl c0 c1
          cases q with
          | false =>
            have HF2 : Hid (outF its ss (k + 1) = outF its ss k) := Lib.hid (by rw [HFs.out]; simp)
            go_wp2
            go_roundw
            case rel => exact ⟨k + 1, _, by omega, by go_num, rfl, Lib.hid (by rw [HF2.out]; exact HO3.out), b3⟩
            case measure => simp [intOf]; omega
          | true =>
            have HF2 : Hid (outF its ss (k + 1) = outF its ss k ++ [xi]) := Lib.hid (by rw [HFs.out]; simp)
            generalize outF its ss k = I at *
            have HOa : Hid (∀ o, (w3.alloc o).ownsRow w2.heap.size 3 1 v I.length (I.map natP)) := Lib.hid (fun o => ownG_keep HO3.out ((Below.refl _ _).alloc (Nat.le_refl _) o))
            go_wp2_with (at_builtin; refine wpList_append_any _ rfl (.tmp 36) (.tmp 39) _ rfl w2.heap.size 3 i0 _ 1 8 Try.underlying38 hi hz0 hz1 hz2 rfl (by omega) v I.length (I.map natP) rfl (HOa.out _) (w3.heap.size + 1) (some ⟨w3.heap.size, 0, none⟩) 1 1 [.int .i64 (xi : Int)] rfl (rowNew1 _ _ _) (by simp [Value.oneCell']) (by unfold maxLen; omega) (by omega) (by simp; omega) ?_; intro v4 w4 hown4 hg4 hat4)
            have HO4 : Hid (NatOwn w4 w2.heap.size v4 (outF its ss (k + 1))) := Lib.hid (by rw [HF2.out]; unfold NatOwn; rw [List.length_append, List.map_append]; exact hown4)
            have b4 := (b3.alloc z3 _).grown hg4 (by simp; omega) (fun q hq => by have := ownG_base HO3.out hq; omega)
            clear hown4 hg4 hat4 HOa
            go_wp2
            go_roundw
            case rel => exact ⟨k + 1, _, by omega, by go_num, rfl, HO4, b4⟩
            case measure => simp [intOf]; omega
        · obtain rfl : k = n3 := by omega
          have HO7 := HO
          rw [HFr.out, ← HF.out] at HO7
          obtain ⟨A6, c6, rfl, hc6, hm6⟩ := ownG_form HO7.out
          have HO6 : Hid (NatOwn wr w.heap.size (.slice A6 (dreadAll xs ws ss).length c6) (dreadAll xs ws ss)) := Lib.hid (ownG_mono HO7.out z2)
          have b6 := below_next b2 hb
          go_wp2
          go_ret
          exact ⟨⟨A6, c6, rfl, HO6.out⟩, b6⟩
end Go.Proofs.Ytppjjbjjbmodbaa
