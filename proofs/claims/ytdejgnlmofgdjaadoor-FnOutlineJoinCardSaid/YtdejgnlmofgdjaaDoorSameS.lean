/-
  The laws' sameStrokes at equal lists; OutlineLength of the program. Conditions: none.
-/
import Derived.Test.YtdejgnlmofgdjaaDoorOutText
import Derived.Test.YtdejgnlmofgdjaaDoorBase
namespace Go.Proofs.YtdejgnlmofgdjaaDoor
open Go.ChangeShapes Go.WideShapes Go.ChangeAt Go.RowKit
set_option maxRecDepth 100000

theorem neqStrokeRun (d z : Int) (w : World) :
    (binOp .neq 48 (.agg #[.int .i64 d, .int .i64 z]) (.agg #[.int .i64 d, .int .i64 z])).run Tryd.prog w = .ok (.bool false) w := by
  have u3 := Tryd.underlying3
  have a3 := Tryd.isAgg3
  have z3 := Tryd.sizeOf3
  have hS : Tryd.prog.underlying 48 = some (.struct (Tryd.prog.fieldsOf 48)) := by kernel_rfl
  have hp : Tryd.prog.stoodInHeld 48 = false := by kernel_rfl
  rw [run_neq_struct, show (10000 : Nat) = 9999 + 1 from rfl, run_equalIn_agg w 9999 48 _ _ hS hp]
  simp only [Program.fieldsOf, Tryd.underlying48]
  go_simp

theorem sameStrokes (A A' : Option Addr) (n c c' : Nat) (ss : List Stroke) (w : World) (h : StrokesIn w w.heap.size A n c ss) (h' : StrokesIn w w.heap.size A' n c' ss) :
    Calls Tryd.prog 9 #[.slice A n c, .slice A' n c'] w fun e w' => e = .returned (.bool true) ∧ Below w.heap.size w w' := by
  have hm := h.2.2.1; have hnc := h.2.1
  unfold maxLen at hm
  have H := Lib.hid h; have H' := Lib.hid h'; clear h h'
  have hg0 : Tryd.prog.eqGuardType Tryd.prog.depth 48 = false := by kernel_rfl
  go_enter Tryd.func9, Tryd.ntmps9
  go_wp2
  go_loopw [5] (fun i wr => ∃ k : Nat, k ≤ n ∧ i = .int .i64 k ∧ Below w.heap.size w wr) (fun i _ => n - (intOf i).toNat)
  case atStart => exact ⟨0, Nat.zero_le _, rfl, Below.refl _ _⟩
  case round =>
    obtain ⟨k, hk, rfl, hb⟩ := hrel
    by_cases hlt : k < n
    · obtain ⟨b, off, eA, hbB, c0, c1, hg⟩ := (H.out.below hb).at_ hlt
      obtain ⟨b', off', eA', hbB', c0', c1', hg'⟩ := (H'.out.below hb).at_ hlt
      subst eA eA'
      generalize strokeAt ss k = p at *
      have hE : ∀ W, (binOp .neq 48 (.agg #[.int .i64 p.dir, .int .i64 p.size]) (.agg #[.int .i64 p.dir, .int .i64 p.size])).run Tryd.prog W = .ok (.bool false) W := fun W => neqStrokeRun p.dir p.size W
      have r0 := qcell c0; have r1 := qcell c1; have r0' := qcell c0'; have r1' := qcell c1'
      go_wp2_with fail
      refine region_qb (by kernel_rfl) (by kernel_rfl) ?_
      repeat (first | go_big_quiet_step (fail) | quiet_step (fail))
      refine wpQuiet_nil ?_
      intro w1 hb1; have b1 := hb.trans (hb1.mono hb.size)
      clear r0 r1 r0' r1' c0 c1 c0' c1' hb1
      go_wp2
      go_roundw
      case rel => exact ⟨k + 1, by omega, by go_num, b1⟩
      case measure => simp [intOf]; omega
    · go_wp2
      go_ret
      exact ⟨rfl, hb⟩

/-- The sum of the sizes. -/
def lenS (ss : List Stroke) : Int := (ss.map (·.size)).sum
def lenO (ss : List Stroke) : Int := if outB ss = true then lenS ss else -1
theorem lenS_step {ss : List Stroke} {k : Nat} (h : k < ss.length) : lenS (ss.take (k + 1)) = lenS (ss.take k) + (strokeAt ss k).size := by
  unfold lenS
  rw [List.take_add_one, strokeAt_some h]
  simp
theorem lenS_bd : ∀ {ss : List Stroke}, (∀ s ∈ ss, okS s = true) → 0 ≤ lenS ss ∧ lenS ss ≤ 3 * ss.length
  | [], _ => by simp [lenS]
  | s :: r, h => by
    have h1 := okS_iff.1 (h s (by simp))
    have h2 := lenS_bd (ss := r) fun x hx => h x (by simp [hx])
    have e : lenS (s :: r) = s.size + lenS r := by simp [lenS]
    rw [e, List.length_cons]
    omega
theorem implOutlineLength (A : Option Addr) (n c : Nat) (ss : List Stroke) (w : World) (h : StrokesIn w w.heap.size A n c ss) :
    Calls Tryd.prog 11 #[.slice A n c] w fun e w' => e = .returned (.int .i64 (lenO ss)) ∧ Below w.heap.size w w' := by
  have hnc := h.2.1; have hm := h.2.2.1
  unfold maxLen at hm
  have HL := Lib.hid h.1
  have HC := Lib.hid (chainOf A n c ss w h); clear h
  go_enter Tryd.func11, Tryd.ntmps11
  go_wp2_with fail
  refine HC.out.mono ?_
  rintro e w1 ⟨hA, b1⟩
  rcases hA with ⟨ho, rfl⟩ | ⟨ho, v, rfl, hCh⟩
  · have HR : Hid (lenO ss = -1) := Lib.hid (by unfold lenO; rw [if_neg (by rw [ho]; simp)]); clear ho
    go_wp2
    go_returns
    exact ⟨by rw [HR.out]; rfl, b1⟩
  · have HR : Hid (lenO ss = lenS ss) := Lib.hid (by unfold lenO; rw [if_pos ho])
    have HO := Lib.hid ho
    have h8 := outB_len ho
    rw [HL.out] at h8
    have HCh := Lib.hid hCh
    clear ho hCh
    go_wp2
    go_loopg [5, 6] n (fun g s v wr => ∃ (k : Nat) (x : Int), k ≤ n ∧ g = n - k ∧ s = .int .i64 x ∧ 0 ≤ x ∧ x ≤ 24 ∧ Hid (x = lenS (ss.take k)) ∧ Hid (ChainIn w1 v (ss.drop k)) ∧ Below w1.heap.size w1 wr)
    case atStart => exact ⟨0, 0, Nat.zero_le _, rfl, rfl, by omega, by omega, Lib.hid (by simp [lenS]), HCh, Below.refl _ _⟩
    case round =>
      obtain ⟨k, x, hk, rfl, rfl, hx0, hx1, HX, HC, hb⟩ := hrel
      have b2 := below_next b1 hb
      have hz := hb.size
      by_cases hlt : k < n
      · have hkl : k < ss.length := by rw [HL.out]; exact hlt
        have hC := HC.out
        rw [drop_step hkl] at hC
        obtain ⟨b, nv, rfl, hBk, hC2⟩ := hC
        have hok := outB_ok HO.out (strokeAt_mem hkl)
        have HT := Lib.hid (fun w => penSize (strokeAt ss k) hok w)
        have HTx := Lib.hid (lenS_step hkl)
        have hbd := lenS_bd (ss := ss.take (k + 1)) fun s hs => outB_ok HO.out (List.mem_of_mem_take hs)
        rw [HTx.out, ← HX.out, List.length_take] at hbd
        have hz1 := okS_iff.1 hok
        have hbw := hBk.lt
        obtain ⟨y0, y1, _, _⟩ := (show Blk wr b 58 _ from (hb.block b hbw).trans hBk).two
        have HC2 := Lib.hid hC2
        have hy1 : x + (strokeAt ss k).size ≤ 24 := by omega
        have hy0 : 0 ≤ x + (strokeAt ss k).size := by omega
        clear hC2 hok hkl hbd
        have hBk := Lib.hid hBk
        generalize strokeAt ss k = s at *
        go_wp2_with fail
        refine (HT.out _).mono ?_
        rintro e w3 ⟨rfl, rfl⟩
        go_wp2
        go_roundg (n - (k + 1))
        case rel => exact ⟨k + 1, _, by omega, rfl, rfl, hy0, hy1, Lib.hid (by rw [HTx.out, ← HX.out]), HC2, hb⟩
        case measure => omega
      · have e : ss.drop k = [] := List.drop_eq_nil_of_le (by rw [HL.out]; omega)
        have e2 : ss.take k = ss := List.take_of_length_le (by rw [HL.out]; omega)
        rw [e] at HC
        rw [e2] at HX
        have hC := HC.out
        subst hC
        go_wp2
        go_ret
        exact ⟨by rw [HR.out, ← HX.out]; rfl, b2⟩
end Go.Proofs.YtdejgnlmofgdjaaDoor
