/-
  How often a byte stands in a text. Conditions: the text is no longer than a Go string can be.
-/
import Derived.Test.YtlphefpgnfogfaaDoorBase
namespace Go.Proofs.YtlphefpgnfogfaaDoor
open Go.ChangeShapes Go.WideShapes Go.ChangeAt Go.RowKit
set_option maxRecDepth 100000

theorem cnt_take (s : ByteArray) (c : UInt8) (k : Nat) (h : k < s.size) : (s.data.toList.take (k + 1)).count c = (s.data.toList.take k).count c + (if s[k] = c then 1 else 0) := by
  rw [take_snoc s k h, List.count_append]
  congr 1
  by_cases e : s[k] = c
  · rw [if_pos e, e]; simp
  · rw [if_neg e]; exact List.count_eq_zero.2 (by simp; exact fun h => e h.symm)
theorem countOf (s : ByteArray) (c : UInt8) (w : World) (hs : s.size ≤ 1000000) : Calls Tryd.prog 11 #[.string s, .int .u8 (c.toNat : Int)] w fun e w' => e = .returned (.int .i64 ((s.data.toList.count c : Nat) : Int)) ∧ w = w' := by
  go_enter Tryd.func11, Tryd.ntmps11
  go_wp2
  go_loop [5, 6] (fun n i => ∃ k : Nat, k ≤ s.size ∧ i = .int .i64 k ∧ n = .int .i64 (((s.data.toList.take k).count c : Nat) : Int)) (fun _ i => s.size - (intOf i).toNat)
  case atStart => exact ⟨0, Nat.zero_le _, rfl, rfl⟩
  case round =>
    obtain ⟨k, hk, rfl, rfl⟩ := hrel
    by_cases hlt : k < s.size
    · have hcl : (s.data.toList.take k).count c ≤ k := Nat.le_trans List.count_le_length (List.length_take_le _ _)
      have HT := Lib.hid (cnt_take s c k hlt)
      by_cases e : s[k] = c
      · have hb : ((s[k].toNat : Int) == (c.toNat : Int)) = true := by rw [e]; simp
        have HT2 : Hid ((s.data.toList.take (k + 1)).count c = (s.data.toList.take k).count c + 1) := Lib.hid (by rw [HT.out, if_pos e])
        clear e HT
        generalize (s.data.toList.take k).count c = q at *
        go_wp2
        go_round
        case rel => exact ⟨k + 1, by omega, by go_num, by rw [HT2.out]; go_num⟩
        case measure => simp [intOf]; omega
      · have hb : ((s[k].toNat : Int) == (c.toNat : Int)) = false := beq_eq_false_iff_ne.2 (fun h => e (UInt8.toNat_inj.1 (by omega)))
        have HT2 : Hid ((s.data.toList.take (k + 1)).count c = (s.data.toList.take k).count c) := Lib.hid (by rw [HT.out, if_neg e]; rfl)
        clear e HT
        generalize (s.data.toList.take k).count c = q at *
        go_wp2
        go_round
        case rel => exact ⟨k + 1, by omega, by go_num, by rw [HT2.out]⟩
        case measure => simp [intOf]; omega
    · have e2 : s.data.toList.take k = s.data.toList := List.take_of_length_le (by simp; omega)
      rw [e2]
      go_wp2
      go_ret
      exact ⟨rfl, rfl⟩
end Go.Proofs.YtlphefpgnfogfaaDoor
