/-
  The laws' sameStrokes at equal lists; OutlineLength of the program. Conditions: none.
-/
import Derived.Test.YtppjjbjjbmodbaaOutText
import Derived.Test.YtppjjbjjbmodbaaBase
namespace Go.Proofs.Ytppjjbjjbmodbaa
open Go.ChangeShapes Go.WideShapes Go.ChangeAt Go.RowKit
set_option maxRecDepth 100000

theorem neqStrokeRun (d z : Int) (w : World) :
    (binOp .neq 99 (.agg #[.int .i64 d, .int .i64 z]) (.agg #[.int .i64 d, .int .i64 z])).run Try.prog w = .ok (.bool false) w := by
  have u3 := Try.underlying3
  have a3 := Try.isAgg3
  have z3 := Try.sizeOf3
  have hS : Try.prog.underlying 99 = some (.struct (Try.prog.fieldsOf 99)) := by kernel_rfl
  have hp : Try.prog.stoodInHeld 99 = false := by kernel_rfl
  rw [run_neq_struct, show (10000 : Nat) = 9999 + 1 from rfl, run_equalIn_agg w 9999 99 _ _ hS hp]
  simp only [Program.fieldsOf, Try.underlying99]
  go_simp

theorem sameStrokes (A A' : Option Addr) (n c c' : Nat) (ss : List Stroke) (w : World) (h : StrokesIn w w.heap.size A n c ss) (h' : StrokesIn w w.heap.size A' n c' ss) :
    Calls Try.prog 84 #[.slice A n c, .slice A' n c'] w fun e w' => e = .returned (.bool true) ∧ Below w.heap.size w w' := by
  have hm := h.2.2.1; have hnc := h.2.1
  unfold maxLen at hm
  have H := Lib.hid h; have H' := Lib.hid h'; clear h h'
  have hg0 : Try.prog.eqGuardType Try.prog.depth 99 = false := by kernel_rfl
  go_enter Try.func84, Try.ntmps84
  go_wp2
  go_loopw [5] (fun i wr => ∃ k : Nat, k ≤ n ∧ i = .int .i64 k ∧ Below w.heap.size w wr) (fun i _ => n - (intOf i).toNat)
  case atStart => exact ⟨0, Nat.zero_le _, rfl, Below.refl _ _⟩
  case round =>
    obtain ⟨k, hk, rfl, hb⟩ := hrel
    by_cases hlt : k < n
    · obtain ⟨b, off, eA, hbB, c0, c1, hg⟩ := (H.out.below hb).at_ hlt
      obtain ⟨b', off', eA', hbB', c0', c1', hg'⟩ := (H'.out.below hb).at_ hlt
      subst eA eA'
      generalize strokeAt ss k = p at *
      have hE : ∀ W, (binOp .neq 99 (.agg #[.int .i64 p.dir, .int .i64 p.size]) (.agg #[.int .i64 p.dir, .int .i64 p.size])).run Try.prog W = .ok (.bool false) W := fun W => neqStrokeRun p.dir p.size W
      have r0 := qcell c0; have r1 := qcell c1; have r0' := qcell c0'; have r1' := qcell c1'
      go_wp2_with fail
      refine region_qb (by kernel_rfl) (by kernel_rfl) ?_
      repeat (first | go_big_quiet_step (fail) | quiet_step (fail))
      refine wpQuiet_nil ?_
      intro w1 hb1; have b1 := hb.trans (hb1.mono hb.size)
      clear r0 r1 r0' r1' c0 c1 c0' c1' hb1
      go_wp2
      go_roundw
      case rel => exact ⟨k + 1, by omega, by go_num, b1⟩
      case measure => simp [intOf]; omega
    · go_wp2
      go_ret
      exact ⟨rfl, hb⟩

end Go.Proofs.Ytppjjbjjbmodbaa
