/-
  The laws' words sameInts at equal lists, and hasInt. Conditions: none.
-/
import Derived.Test.YtppjjbjjbmodbaaIntN
namespace Go.Proofs.Ytppjjbjjbmodbaa
open Go.ChangeShapes Go.WideShapes Go.ChangeAt Go.RowKit
set_option maxRecDepth 100000

theorem sameInts (A A' : Option Addr) (n c c' : Nat) (xs : List Int) (w : World) (h : IntsIn w w.heap.size A n c xs) (h' : IntsIn w w.heap.size A' n c' xs) :
    Calls Try.prog 16 #[.slice A n c, .slice A' n c'] w fun e w' => e = .returned (.bool true) ∧ Below w.heap.size w w' := by
  have hm := h.2.2.1; have hnc := h.2.1
  unfold maxLen at hm
  have H := Lib.hid h; have H' := Lib.hid h'; clear h h'
  go_enter Try.func16, Try.ntmps16
  go_wp2
  go_loopw [5] (fun i wr => ∃ k : Nat, k ≤ n ∧ i = .int .i64 k ∧ Below w.heap.size w wr) (fun i _ => n - (intOf i).toNat)
  case atStart => exact ⟨0, Nat.zero_le _, rfl, Below.refl _ _⟩
  case round =>
    obtain ⟨k, hk, rfl, hb⟩ := hrel
    by_cases hlt : k < n
    · obtain ⟨b, off, eA, hbB, c0⟩ := (H.out.below hb).at_ hlt
      obtain ⟨b', off', eA', hbB', c0'⟩ := (H'.out.below hb).at_ hlt
      subst eA eA'
      generalize intAt xs k = p at *
      have hne : (p != p) = false := by simp
      have r0 := qcell c0; have r0' := qcell c0'
      go_wp2_with fail
      refine region_qb (by kernel_rfl) (by kernel_rfl) ?_
      repeat (first | go_big_quiet_step (fail) | quiet_step (fail))
      refine wpQuiet_nil ?_
      intro w1 hb1; have b1 := hb.trans (hb1.mono hb.size)
      clear r0 r0' c0 c0' hb1
      go_wp2
      go_roundw
      case rel => exact ⟨k + 1, by omega, by go_num, b1⟩
      case measure => simp [intOf]; omega
    · go_wp2
      go_ret
      exact ⟨rfl, hb⟩
theorem mem_take_succ {xs : List Int} {k : Nat} (h : k < xs.length) (m : Int) : m ∈ xs.take (k + 1) ↔ m ∈ xs.take k ∨ m = intAt xs k := by
  rw [List.take_add_one, List.getElem?_eq_getElem h, List.mem_append]
  have : intAt xs k = xs[k] := by unfold intAt; rw [List.getD_eq_getElem?_getD, List.getElem?_eq_getElem h]; rfl
  rw [this]; simp
theorem hasInt (A : Option Addr) (n c : Nat) (xs : List Int) (m : Int) (w : World) (h : IntsIn w w.heap.size A n c xs) :
    Calls Try.prog 18 #[.slice A n c, .int .i64 m] w fun e w' => e = .returned (.bool (decide (m ∈ xs))) ∧ w = w' := by
  have hm := h.2.2.1; have hnc := h.2.1
  unfold maxLen at hm
  have HL := Lib.hid h.1
  have H := Lib.hid h; clear h
  go_enter Try.func18, Try.ntmps18
  go_wp2
  go_loop [5] (fun i => ∃ k : Nat, k ≤ n ∧ i = .int .i64 k ∧ Hid (m ∉ xs.take k)) (fun i => n - (intOf i).toNat)
  case atStart => exact ⟨0, Nat.zero_le _, rfl, Lib.hid (by simp)⟩
  case round =>
    obtain ⟨k, hk, rfl, HK⟩ := hrel
    by_cases hlt : k < n
    · obtain ⟨b, off, rfl, hbB, c0⟩ := H.out.at_ hlt
      have HS := Lib.hid (mem_take_succ (show k < xs.length by rw [HL.out]; exact hlt) m)
      have HM : Hid (intAt xs k = m → m ∈ xs) := Lib.hid (fun h => List.mem_of_mem_take (HS.out.2 (.inr h.symm)))
      generalize intAt xs k = x at *
      by_cases hx : x = m
      · have HF := Lib.hid (HM.out hx)
        have e0 : (x == m) = true := by simpa using hx
        clear hx
        go_wp2
        go_ret
        exact ⟨ret_bool (decide_eq_true HF.out).symm, rfl⟩
      · have HF : Hid (m ∉ xs.take (k + 1)) := Lib.hid (fun h => by rcases HS.out.1 h with h | h; exact HK.out h; exact hx h.symm)
        have e0 : (x == m) = false := by simpa using hx
        clear hx
        go_wp2
        go_round
        case rel => exact ⟨k + 1, by omega, by go_num, HF⟩
        case measure => simp [intOf]; omega
    · obtain rfl : k = n := by omega
      have HF : Hid (m ∉ xs) := Lib.hid (by have := HK.out; rw [List.take_of_length_le (by rw [HL.out]; exact Nat.le_refl _)] at this; exact this)
      go_wp2
      go_ret
      exact ⟨ret_bool (decide_eq_false HF.out).symm, rfl⟩
end Go.Proofs.Ytppjjbjjbmodbaa
