/-
  Contracts of the functions on one pad: PadValid of both, toPad, szPad.
-/
import Derived.Test.YtbeaandjhlpaeaaWord
import Derived.WalkKit
import Derived.ProofKit
import Derived.OpenShut
import Derived.ShutString
import Derived.Outline
import Derived.WalkLawsBesides
import Derived.WalkSpells
import Derived.BigQuiet
import Derived.Deep.QuietTactic
import Derived.Lib.Hide
import Derived.Deep.DeepMust
import Derived.Deep.LoopGhost
import Derived.Deep.RegionWith
import Derived.Handy
namespace Go.Proofs.Ytbeaandjhlpaeaa
open Go.ChangeShapes Go.WideShapes Go.ChangeAt Go.RowKit

def padB (d : Int) (c : List UInt8) : Bool := decide (0 ≤ d ∧ d ≤ 9999) && wordB c

theorem toPad (d : Int) (c : ByteArray) (w : World) : Calls Try.prog 17 #[.agg #[.int .i64 d, .string c]] w fun e w' => e = .returned (.agg #[.int .i64 d, .string c]) ∧ Below w.heap.size w w' := by
  go_enter Try.func17, Try.ntmps17
  go_wp2
  go_returns
  exact ⟨rfl, by go_grown⟩

theorem specPadValid (d : Int) (c : ByteArray) (w : World) (hc : c.size ≤ maxLen) : Calls Try.prog 16 #[.agg #[.int .i64 d, .string c]] w fun e w' => e = .returned (.bool (padB d c.data.toList)) ∧ Below w.heap.size w w' := by
  by_cases hd : 0 ≤ d ∧ d ≤ 9999
  · have hr : padB d c.data.toList = wordB c.data.toList := by unfold padB; rw [decide_eq_true hd]; rfl
    have HR := Lib.hid hr; clear hr
    obtain ⟨hd1, hd2⟩ := hd
    go_enter Try.func16, Try.ntmps16
    go_wp2_with (first | (go_at_call 49; refine (l6In_any _ _ _ _).mono ?_; rintro e w' ⟨rfl, rfl⟩) | (go_at_call 50; refine (specWordValid _ _ hc).mono ?_; rintro e w' ⟨rfl, rfl⟩))
    go_returns
    exact ⟨ret_bool (by rw [HR.out]), by go_grown⟩
  · have hr : padB d c.data.toList = false := by unfold padB; rw [decide_eq_false hd]; rfl
    have HR := Lib.hid hr; clear hr
    have hdd : decide (0 ≤ d ∧ d ≤ 9999) = false := decide_eq_false hd
    go_enter Try.func16, Try.ntmps16
    go_wp2_with (first | (go_at_call 49; refine (l6In_any _ _ _ _).mono ?_; rintro e w' ⟨rfl, rfl⟩) | (go_at_call 50; refine (specWordValid _ _ hc).mono ?_; rintro e w' ⟨rfl, rfl⟩))
    go_returns
    exact ⟨ret_bool (by rw [HR.out]), by go_grown⟩

theorem implPadValid (d : Int) (c : ByteArray) (w : World) (hc : c.size ≤ maxLen) : Calls Try.prog 18 #[.agg #[.int .i64 d, .string c]] w fun e w' => e = .returned (.bool (padB d c.data.toList)) ∧ Below w.heap.size w w' := by
  by_cases hd1 : 0 ≤ d
  · by_cases hd2 : d ≤ 9999
    · have hr : padB d c.data.toList = wordB c.data.toList := by unfold padB; rw [decide_eq_true ⟨hd1, hd2⟩]; rfl
      have HR := Lib.hid hr; clear hr
      go_enter Try.func18, Try.ntmps18
      go_wp2_with (go_at_call 51; refine (implWordValid _ _ hc).mono ?_; rintro e w' ⟨rfl, rfl⟩)
      go_returns
      exact ⟨ret_bool (by rw [HR.out]), by go_grown⟩
    · have hr : padB d c.data.toList = false := by unfold padB; rw [decide_eq_false (by omega)]; rfl
      have HR := Lib.hid hr; clear hr
      go_enter Try.func18, Try.ntmps18
      go_wp2
      go_returns
      exact ⟨ret_bool (by rw [HR.out]), by go_grown⟩
  · have hr : padB d c.data.toList = false := by unfold padB; rw [decide_eq_false (by omega)]; rfl
    have HR := Lib.hid hr; clear hr
    go_enter Try.func18, Try.ntmps18
    go_wp2
    go_returns
    exact ⟨ret_bool (by rw [HR.out]), by go_grown⟩

def subL (left n : Int) : Int := if left - n < 0 then -1 else left - n
theorem subL_neg {left n : Int} (h : left - n < 0) : subL left n = -1 := by unfold subL; rw [if_pos h]
theorem subL_pos {left n : Int} (h : 0 ≤ left - n) : subL left n = left - n := by unfold subL; rw [if_neg (by omega)]

theorem szPad (d : Int) (c : ByteArray) (left : Int) (w : World) (h0 : 0 ≤ left) (h1 : left ≤ 1048576) (hc : c.size ≤ maxLen) :
    Calls Try.prog 15 #[.agg #[.int .i64 d, .string c], .int .i64 left] w fun e w' => e = .returned (.int .i64 (subL left c.size)) ∧ Below w.heap.size w w' := by
  unfold maxLen at hc
  by_cases hl : left - c.size < 0
  · go_enter Try.func15, Try.ntmps15
    go_wp2
    go_returns
    exact ⟨ret_int (subL_neg hl).symm, by go_grown⟩
  · have hl' : 0 ≤ left - c.size := by omega
    clear hl
    go_enter Try.func15, Try.ntmps15
    go_wp2
    go_returns
    exact ⟨ret_int (subL_pos hl').symm, by go_grown⟩

end Go.Proofs.Ytbeaandjhlpaeaa
