/-
  The marks that a law writes into lists of signs, words and strokes of its own. Conditions: marks no greater than a law's.
-/
import Derived.Test.YtppjjbjjbmodbaaSgLaw
import Derived.Test.YtppjjbjjbmodbaaDrawA
namespace Go.Proofs.Ytppjjbjjbmodbaa
open Go.ChangeShapes Go.WideShapes Go.ChangeAt Go.RowKit
set_option maxRecDepth 100000

theorem only_bel {a w w' : World} {row : Option Nat} (h : a.grownBy w row) (hb : Below w.heap.size w w') : a.grownBy w' row := only_next h ⟨hb.os, hb.tape, hb.output, hb.size, fun i hi _ => hb.block i hi⟩

theorem markStringS (g n m : Nat) (arr : Array Value) (w : World) (hm0 : 0 < m) (hm : m ≤ 9000000) (hn : n ≤ 1048576) (hs : arr.size = n) (h : Blk w g 9 arr) :
    Calls Try.prog 33 #[.slice (some ⟨g, 0, none⟩) n n, .int .i64 m] w fun e w' => e = .returned (.int .i64 ((m + n : Nat) : Int)) ∧ w.grownBy w' (some g) := by
  have HB := Lib.hid h
  have HS := Lib.hid hs
  clear h hs
  go_enter Try.func33, Try.ntmps33
  go_wp2
  go_loopw [1, 5] (fun a i wr => ∃ (k : Nat) (cs : Array Value), k ≤ n ∧ i = .int .i64 k ∧ a = .int .i64 ((m + k : Nat) : Int) ∧ Hid (cs.size = n) ∧ Hid (Blk wr g 9 cs) ∧ Hid (w.grownBy wr (some g))) (fun _ i _ => n - (intOf i).toNat)
  case atStart => exact ⟨0, arr, Nat.zero_le _, rfl, rfl, HS, HB, Lib.hid (World.grownBy.refl _ _)⟩
  case round =>
    obtain ⟨k, cs, hk, rfl, rfl, hZ, hC, hG⟩ := hrel
    by_cases hlt : k < n
    · obtain ⟨u0, hu0⟩ : ∃ u, cs[k]? = some u := ⟨_, Array.getElem?_eq_getElem (by rw [hZ.out]; exact hlt)⟩
      have HX := Lib.hid hu0
      clear hu0
      have HT := Lib.hid (markText (m + k) wr (by omega) (by omega))
      have hne : ((m : Int) + (k : Int)) = ((m + k : Nat) : Int) := by omega
      have HN := Lib.hid hne
      clear hne
      go_wp2_with fail
      rw [HN.out]
      refine HT.out.mono ?_
      rintro e w1 ⟨rfl, hb1⟩
      have hB1 := hC.out.below hb1
      have f1 : w1.cell? ⟨g, k, none⟩ = some u0 := (hB1.cell k).trans HX.out
      have g1 := hB1.free k
      have HG1 := only_bel hG.out hb1
      generalize markT (m + k) = t at *
      have HB2 := Lib.hid (hB1.set k (.string t))
      have HZ2 : Hid ((cs.setIfInBounds k (.string t)).size = n) := Lib.hid (by rw [Array.size_setIfInBounds]; exact hZ.out)
      have HG2 := Lib.hid (only_setCell HG1 (p := ⟨g, k, none⟩) (.inl rfl) (.string t))
      have i1 : (0 : Int) ≤ (k : Int) := by omega
      have i2 : (k : Int) < (n : Int) := by omega
      clear hB1 HG1 hb1 hC hG HT HN
      go_wp2
      go_roundw
      case rel => exact ⟨k + 1, _, by omega, by go_num, by go_num, HZ2, HB2, HG2⟩
      case measure => simp [intOf]; omega
    · obtain rfl : k = n := by omega
      go_wp2
      go_ret
      exact ⟨rfl, hG.out⟩

theorem markStrokeS (g n m : Nat) (arr : Array Value) (w : World) (hm0 : 0 < m) (hm : m ≤ 9000000) (hn : n ≤ 1048576) (hs : arr.size = n * 2) (h : Blk w g 99 arr) :
    Calls Try.prog 73 #[.slice (some ⟨g, 0, none⟩) n n, .int .i64 m] w fun e w' => e = .returned (.int .i64 ((m + 2 * n : Nat) : Int)) ∧ w.grownBy w' (some g) := by
  have HB := Lib.hid h
  have HS := Lib.hid hs
  clear h hs
  go_enter Try.func73, Try.ntmps73
  go_wp2
  go_loopw [1, 5] (fun a i wr => ∃ (k : Nat) (cs : Array Value), k ≤ n ∧ i = .int .i64 k ∧ a = .int .i64 ((m + 2 * k : Nat) : Int) ∧ Hid (cs.size = n * 2) ∧ Hid (Blk wr g 99 cs) ∧ Hid (w.grownBy wr (some g))) (fun _ i _ => n - (intOf i).toNat)
  case atStart => exact ⟨0, arr, Nat.zero_le _, rfl, rfl, HS, HB, Lib.hid (World.grownBy.refl _ _)⟩
  case round =>
    obtain ⟨k, cs, hk, rfl, rfl, hZ, hC, hG⟩ := hrel
    by_cases hlt : k < n
    · obtain ⟨u0, hu0⟩ : ∃ u, cs[k * 2]? = some u := ⟨_, Array.getElem?_eq_getElem (by rw [hZ.out]; omega)⟩
      obtain ⟨u1, hu1⟩ : ∃ u, cs[k * 2 + 1]? = some u := ⟨_, Array.getElem?_eq_getElem (by rw [hZ.out]; omega)⟩
      have f0 := (hC.out.cell (k * 2)).trans hu0
      have f1 := (hC.out.cell (k * 2 + 1)).trans hu1
      have g0 := hC.out.free (k * 2)
      have g1 := hC.out.free (k * 2 + 1)
      have HB2 := Lib.hid ((hC.out.set (k * 2) (.int .i64 ((m : Int) + 2 * k))).set (k * 2 + 1) (.int .i64 ((m : Int) + 2 * k + 1)))
      have HZ2 : Hid (((cs.setIfInBounds (k * 2) (.int .i64 ((m : Int) + 2 * k))).setIfInBounds (k * 2 + 1) (.int .i64 ((m : Int) + 2 * k + 1))).size = n * 2) := Lib.hid (by rw [Array.size_setIfInBounds, Array.size_setIfInBounds]; exact hZ.out)
      have HG2 := Lib.hid (only_setCell (only_setCell hG.out (p := ⟨g, k * 2, none⟩) (.inl rfl) (.int .i64 ((m : Int) + 2 * k))) (p := ⟨g, k * 2 + 1, none⟩) (.inl rfl) (.int .i64 ((m : Int) + 2 * k + 1)))
      have i1 : (0 : Int) ≤ (k : Int) := by omega
      have i2 : (k : Int) < (n : Int) := by omega
      clear hu0 hu1 hC hG
      go_wp2
      go_roundw
      case rel => exact ⟨k + 1, _, by omega, by go_num, by go_num, HZ2, HB2, HG2⟩
      case measure => simp [intOf]; omega
    · obtain rfl : k = n := by omega
      go_wp2
      go_ret
      exact ⟨rfl, hG.out⟩

theorem markWritten (g n m : Nat) (p : Int) (arr : Array Value) (w : World) (hm0 : 0 < m) (hm : m ≤ 9000000) (hn : n ≤ 1048576) (hs : arr.size = n * 2) (h : Blk w g 99 arr) :
    Calls Try.prog 34 #[.agg #[.slice (some ⟨g, 0, none⟩) n n, .int .i64 p], .int .i64 m] w fun e w' => e = .returned (.int .i64 ((m + 2 * n : Nat) : Int)) ∧ w.grownBy w' (some g) := by
  have p0 := newcell w #[.slice (some ⟨g, 0, none⟩) n n, .int .i64 p] 35 0 _ rfl
  have HM := Lib.hid (fun o => markStrokeS g n m arr (w.alloc o) hm0 hm hn hs (h.alloc o))
  have HG := Lib.hid (fun o => World.grownBy_alloc w o (some g))
  clear h
  go_enter Try.func34, Try.ntmps34
  go_wp2_with fail
  refine (HM.out _).mono ?_
  rintro e w1 ⟨rfl, hg1⟩
  have HG1 := Lib.hid (only_next (HG.out _) hg1)
  clear hg1 p0
  go_wp2
  go_ret
  exact ⟨rfl, HG1.out⟩

set_option maxHeartbeats 800000 in
theorem markSignS (g n m : Nat) (arr : Array Value) (w : World) (hm0 : 0 < m) (hm : m ≤ 9000000) (hn : n ≤ 1048576) (hs : arr.size = n * 3) (h : Blk w g 109 arr) :
    Calls Try.prog 32 #[.slice (some ⟨g, 0, none⟩) n n, .int .i64 m] w fun e w' => e = .returned (.int .i64 ((m + 3 * n : Nat) : Int)) ∧ w.grownBy w' (some g) := by
  have HB := Lib.hid h
  have HS := Lib.hid hs
  clear h hs
  go_enter Try.func32, Try.ntmps32
  go_wp2
  go_loopw [1, 5] (fun a i wr => ∃ (k : Nat) (cs : Array Value), k ≤ n ∧ i = .int .i64 k ∧ a = .int .i64 ((m + 3 * k : Nat) : Int) ∧ Hid (cs.size = n * 3) ∧ Hid (Blk wr g 109 cs) ∧ Hid (w.grownBy wr (some g))) (fun _ i _ => n - (intOf i).toNat)
  case atStart => exact ⟨0, arr, Nat.zero_le _, rfl, rfl, HS, HB, Lib.hid (World.grownBy.refl _ _)⟩
  case round =>
    obtain ⟨k, cs, hk, rfl, rfl, hZ, hC, hG⟩ := hrel
    by_cases hlt : k < n
    · obtain ⟨u0, hu0⟩ : ∃ u, cs[k * 3]? = some u := ⟨_, Array.getElem?_eq_getElem (by rw [hZ.out]; omega)⟩
      obtain ⟨u1, hu1⟩ : ∃ u, cs[k * 3 + 1]? = some u := ⟨_, Array.getElem?_eq_getElem (by rw [hZ.out]; omega)⟩
      obtain ⟨u2, hu2⟩ : ∃ u, cs[k * 3 + 2]? = some u := ⟨_, Array.getElem?_eq_getElem (by rw [hZ.out]; omega)⟩
      have HX0 := Lib.hid hu0; have HX1 := Lib.hid hu1; have HX2 := Lib.hid hu2
      clear hu0 hu1 hu2
      have HT := Lib.hid (markText (m + 3 * k) wr (by omega) (by omega))
      have HN := Lib.hid (show (m : Int) + 3 * (k : Int) = ((m + 3 * k : Nat) : Int) by omega)
      go_wp2_with fail
      rw [HN.out]
      refine HT.out.mono ?_
      rintro e w1 ⟨rfl, hb1⟩
      have hB1 := hC.out.below hb1
      have f0 : w1.cell? ⟨g, k * 3, none⟩ = some u0 := (hB1.cell _).trans HX0.out
      have f1 : w1.cell? ⟨g, k * 3 + 1, none⟩ = some u1 := (hB1.cell _).trans HX1.out
      have f2 : w1.cell? ⟨g, k * 3 + 2, none⟩ = some u2 := (hB1.cell _).trans HX2.out
      have g0 := hB1.free (k * 3)
      have g1 := hB1.free (k * 3 + 1)
      have g2 := hB1.free (k * 3 + 2)
      have HG1 := only_bel hG.out hb1
      generalize markT (m + 3 * k) = t at *
      have HB2 := Lib.hid (((hB1.set (k * 3) (.string t)).set (k * 3 + 1) (.int .i64 ((m : Int) + 3 * k + 1))).set (k * 3 + 2) (.int .i64 ((m : Int) + 3 * k + 1 + 1)))
      have HZ2 : Hid ((((cs.setIfInBounds (k * 3) (.string t)).setIfInBounds (k * 3 + 1) (.int .i64 ((m : Int) + 3 * k + 1))).setIfInBounds (k * 3 + 2) (.int .i64 ((m : Int) + 3 * k + 1 + 1))).size = n * 3) := Lib.hid (by rw [Array.size_setIfInBounds, Array.size_setIfInBounds, Array.size_setIfInBounds]; exact hZ.out)
      have HG2 := Lib.hid (only_setCell (only_setCell (only_setCell HG1 (p := ⟨g, k * 3, none⟩) (.inl rfl) (.string t)) (p := ⟨g, k * 3 + 1, none⟩) (.inl rfl) (.int .i64 ((m : Int) + 3 * k + 1))) (p := ⟨g, k * 3 + 2, none⟩) (.inl rfl) (.int .i64 ((m : Int) + 3 * k + 1 + 1)))
      have i1 : (0 : Int) ≤ (k : Int) := by omega
      have i2 : (k : Int) < (n : Int) := by omega
      clear hB1 HG1 hb1 hC hG HT HN
      go_wp2
      go_roundw
      case rel => exact ⟨k + 1, _, by omega, by go_num, by go_num, HZ2, by simpa using HB2, by simpa using HG2⟩
      case measure => simp [intOf]; omega
    · obtain rfl : k = n := by omega
      go_wp2
      go_ret
      exact ⟨rfl, hG.out⟩
end Go.Proofs.Ytppjjbjjbmodbaa
