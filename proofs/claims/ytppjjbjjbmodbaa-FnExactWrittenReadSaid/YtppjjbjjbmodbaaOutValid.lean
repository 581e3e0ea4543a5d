/-
  OutlineValid of both. Conditions: none.
-/
import Derived.Test.YtppjjbjjbmodbaaOutline
namespace Go.Proofs.Ytppjjbjjbmodbaa
open Go.ChangeShapes Go.WideShapes Go.ChangeAt Go.RowKit
set_option maxRecDepth 100000

theorem implOutlineValid (A : Option Addr) (n c : Nat) (ss : List Stroke) (w : World) (h : StrokesIn w w.heap.size A n c ss) :
    Calls Try.prog 60 #[.slice A n c] w fun e w' => e = .returned (.bool (outB ss)) ∧ Below w.heap.size w w' := by
  have HC := Lib.hid (chainOf A n c ss w h)
  clear h
  go_enter Try.func60, Try.ntmps60
  go_wp2_with fail
  refine HC.out.mono ?_
  rintro e w1 ⟨hA, b1⟩
  rcases hA with ⟨ho, rfl⟩ | ⟨ho, v, rfl, _⟩
  · have HO := Lib.hid ho; clear ho
    go_wp2
    go_returns
    exact ⟨ret_bool HO.out.symm, b1⟩
  · have HO := Lib.hid ho; clear ho
    go_wp2
    go_returns
    exact ⟨ret_bool HO.out.symm, b1⟩

theorem tmod4 {x : Int} (h1 : -7 ≤ x) (h2 : x ≤ 7) : (x.tmod 4 == 0) = !decide (x % 4 ≠ 0) := by
  have : x = -7 ∨ x = -6 ∨ x = -5 ∨ x = -4 ∨ x = -3 ∨ x = -2 ∨ x = -1 ∨ x = 0 ∨ x = 1 ∨ x = 2 ∨ x = 3 ∨ x = 4 ∨ x = 5 ∨ x = 6 ∨ x = 7 := by omega
  rcases this with rfl | rfl | rfl | rfl | rfl | rfl | rfl | rfl | rfl | rfl | rfl | rfl | rfl | rfl | rfl <;> decide
theorem tmod4_bd (x : Int) : IntKind.i64.wrap (x.tmod 4) = x.tmod 4 := by
  have h1 := Int.tmod_lt_of_pos x (b := 4) (by omega)
  have h2 := Int.lt_tmod_of_pos x (b := 4) (by omega)
  exact IntWalk.i64_in _ (by omega)

set_option maxHeartbeats 1000000 in
theorem specOutlineValid (A : Option Addr) (n c : Nat) (ss : List Stroke) (w : World) (h : StrokesIn w w.heap.size A n c ss) :
    Calls Try.prog 88 #[.slice A n c] w fun e w' => e = .returned (.bool (outB ss)) ∧ Below w.heap.size w w' := by
  have hnc := h.2.1; have hm := h.2.2.1
  unfold maxLen at hm
  have HL := Lib.hid h.1
  have H := Lib.hid h; clear h
  go_enter Try.func88, Try.ntmps88
  go_wp2
  go_loopw [3] (fun i wr => ∃ k : Nat, k ≤ n ∧ i = .int .i64 k ∧ Hid (∀ j, j < k → goodS ss j) ∧ Below w.heap.size w wr) (fun i _ => n - (intOf i).toNat)
  case atStart => exact ⟨0, Nat.zero_le _, rfl, Lib.hid (fun j hj => by omega), Below.refl _ _⟩
  case round =>
    obtain ⟨k, hk, rfl, HG, hb⟩ := hrel
    by_cases hlt : k < n
    · have hkl : k < ss.length := by rw [HL.out]; exact hlt
      obtain ⟨b, off, eA, hbB, q0, q1, hg⟩ := (H.out.keep hb).at_ hlt
      have HNo := Lib.hid (fun (h : ¬ goodS ss k) => outB_no hkl h)
      have HNx := Lib.hid (fun (h : goodS ss k) j (hj : j < k + 1) => if e : j = k then e ▸ h else HG.out j (by omega))
      have HV := Lib.hid (fun W => specStrokeValid (strokeAt ss k).dir (strokeAt ss k).size W)
      have hi1 : (0 : Int) ≤ (k : Int) := by omega
      have hi2 : (k : Int) < (n : Int) := by omega
      subst eA
      have r0 := qcell q0; have r1 := qcell q1
      cases ho : okS (strokeAt ss k) with
      | false =>
        have HN := Lib.hid (HNo.out (fun h => by rw [h.1] at ho; cases ho))
        have HO : Hid (okS ⟨(strokeAt ss k).dir, (strokeAt ss k).size⟩ = false) := Lib.hid ho
        rw [HO.out] at HV
        clear ho hg HNo HNx HG hkl
        generalize strokeAt ss k = s at *
        go_wp2_with fail
        refine region_qb (by kernel_rfl) (by kernel_rfl) ?_
        repeat (first | go_big_quiet_step ((go_at_call 83; exact quietB (HV.out _))) | quiet_step ((go_at_call 83; exact quietB (HV.out _))))
        refine wpQuiet_nil ?_
        intro w3 hb3
        have b3 := below_next hb hb3
        clear r0 r1 q0 q1 hb3
        go_wp2
        go_returns
        exact ⟨ret_bool HN.out.symm, b3⟩
      | true =>
        have HO : Hid (okS ⟨(strokeAt ss k).dir, (strokeAt ss k).size⟩ = true) := Lib.hid ho
        rw [HO.out] at HV
        by_cases hk0 : 0 < k
        · obtain ⟨j, hj⟩ : ∃ j, k = j + 1 := ⟨k - 1, by omega⟩
          have hj1 : j < n := by omega
          obtain ⟨b', off', eA', _, x0, x1, _⟩ := (H.out.keep hb).at_ hj1
          obtain ⟨rfl, rfl⟩ : b = b' ∧ off = off' := by simpa using eA'
          have hgj := HG.out j (by omega)
          obtain ⟨d1, d2, _, _⟩ := okS_iff.1 ho
          obtain ⟨e1, e2, _, _⟩ := okS_iff.1 hgj.1
          have hl : leadB (strokeAt ss j) (strokeAt ss k) = decide (((strokeAt ss k).dir - (strokeAt ss j).dir) % 4 ≠ 0) := rfl
          have ht := tmod4 (x := (strokeAt ss k).dir - (strokeAt ss j).dir) (by omega) (by omega)
          rw [← hl] at ht
          have hw1 : IntKind.i64.wrap ((k : Int) - 1) = (j : Int) := by rw [hj]; exact (IntWalk.i64_in _ (by omega)).trans (by omega)
          have hw2 : IntKind.i64.wrap ((strokeAt ss k).dir - (strokeAt ss j).dir) = (strokeAt ss k).dir - (strokeAt ss j).dir := IntWalk.i64_in _ (by omega)
          have hw3 := tmod4_bd ((strokeAt ss k).dir - (strokeAt ss j).dir)
          have HGd : Hid (goodS ss k ↔ leadB (strokeAt ss j) (strokeAt ss k) = true) := Lib.hid ⟨fun h => by have := h.2 hk0; rwa [show k - 1 = j by omega] at this, fun h => ⟨ho, fun _ => by rw [show k - 1 = j by omega]; exact h⟩⟩
          have s0 := qcell x0
          have HJ := Lib.hid hj
          have hj2 : (j : Int) < (n : Int) := by omega
          have hj3 : (0 : Int) ≤ (j : Int) := by omega
          clear ho hg hgj hl hj eA' HG hkl
          generalize strokeAt ss k = s at *
          generalize strokeAt ss j = t at *
          cases hld : leadB t s with
          | false =>
            have HN := Lib.hid (HNo.out (fun h => by rw [HGd.out.1 h] at hld; cases hld))
            rw [hld] at ht
            clear hld HNo HNx HGd
            go_wp2_with fail
            refine region_qb (by kernel_rfl) (by kernel_rfl) ?_
            repeat (first | go_big_quiet_step ((go_at_call 83; exact quietB (HV.out _))) | quiet_step ((go_at_call 83; exact quietB (HV.out _))))
            refine wpQuiet_nil ?_
            intro w3 hb3
            have b3 := below_next hb hb3
            clear r0 r1 q0 q1 s0 x0 x1 hb3 hw1 hw2 hw3 ht
            go_wp2
            go_returns
            exact ⟨ret_bool HN.out.symm, b3⟩
          | true =>
            have HN := Lib.hid (HNx.out (HGd.out.2 hld))
            rw [hld] at ht
            clear hld HNo HNx HGd
            go_wp2_with fail
            refine region_qb (by kernel_rfl) (by kernel_rfl) ?_
            repeat (first | go_big_quiet_step ((go_at_call 83; exact quietB (HV.out _))) | quiet_step ((go_at_call 83; exact quietB (HV.out _))))
            refine wpQuiet_nil ?_
            intro w3 hb3
            have b3 := below_next hb hb3
            clear r0 r1 q0 q1 s0 x0 x1 hb3 hw1 hw2 hw3 ht
            go_wp2
            go_roundw
            case rel => exact ⟨k + 1, by omega, by go_num, HN, b3⟩
            case measure => simp [intOf]; omega
        · have HN := Lib.hid (HNx.out ⟨ho, fun h => absurd h hk0⟩)
          have hd0 : decide ((0 : Int) < (k : Int)) = false := decide_eq_false (by omega)
          clear ho hg HNo HNx HG hkl
          generalize strokeAt ss k = s at *
          go_wp2_with fail
          refine region_qb (by kernel_rfl) (by kernel_rfl) ?_
          repeat (first | go_big_quiet_step ((go_at_call 83; exact quietB (HV.out _))) | quiet_step ((go_at_call 83; exact quietB (HV.out _))))
          refine wpQuiet_nil ?_
          intro w3 hb3
          have b3 := below_next hb hb3
          clear r0 r1 q0 q1 hb3 hd0
          go_wp2
          go_roundw
          case rel => exact ⟨k + 1, by omega, by go_num, HN, b3⟩
          case measure => simp [intOf]; omega
    · obtain rfl : n = k := by omega
      have HR : Hid (outB ss = decide ((n : Int) ≤ 8)) := Lib.hid (by
        rw [Bool.eq_iff_iff, outB_iff, decide_eq_true_iff, HL.out]
        exact ⟨fun h => by omega, fun h => ⟨by omega, HG.out⟩⟩)
      go_wp2
      go_returns
      exact ⟨ret_bool (by rw [HR.out]), hb⟩
end Go.Proofs.Ytppjjbjjbmodbaa
