/-
  The laws' own functions on outlines: copies, comparisons, sizes. Conditions: Go's own sizes.
-/
import Derived.Test.YtppjjbjjbmodbaaSPrim
import Derived.Test.YtppjjbjjbmodbaaFill
namespace Go.Proofs.Ytppjjbjjbmodbaa
open Go.ChangeShapes Go.WideShapes Go.ChangeAt Go.RowKit
set_option maxRecDepth 100000

theorem infoStroke : (Try.prog.info? 99).map (fun i => (i.zero, i.size, i.bytes)) = some (some (.agg #[.int .i64 0, .int .i64 0]), 2, 16) := by kernel_rfl

/-- A block whose cells are the pads of a list, as a slice's own row. -/
theorem toStrokeS (A : Option Addr) (n c : Nat) (ss : List Stroke) (w : World) (hn : n ≤ 1048576) (h : StrokesIn w w.heap.size A n c ss) :
    Calls Try.prog 69 #[.slice A n c] w fun e w' => e = .returned (.slice (some ⟨w.heap.size, 0, none⟩) n n) ∧ Blk w' w.heap.size 99 (ss.flatMap stC).toArray ∧ Below w.heap.size w w' := by
  have HL : Hid (ss.length = n) := Lib.hid h.1
  have HX : Hid ((ss.flatMap stC).length = n * 2) := Lib.hid h.2.2.2.1.1
  have H := Lib.hid h; clear h
  obtain ⟨i0, hi, hz0, hz1, hz2⟩ := info_parts infoStroke
  have hmk := fun W => run_make_rowN (P := Try.prog) 33 99 i0 _ Try.underlying33 hi hz0 .i64 .i64 n n (Nat.le_refl _) (by rw [hz2]; omega) (by omega) W
  rw [hz1] at hmk
  go_enter Try.func69, Try.ntmps69
  go_wp2
  go_loopw [4] (fun i wr => ∃ (k : Nat) (arr : Array Value), k ≤ n ∧ i = .int .i64 k ∧ Blk wr w.heap.size 99 arr ∧ Hid (Filled arr (ss.flatMap stC) (k * 2)) ∧ Below w.heap.size w wr) (fun i _ => n - (intOf i).toNat)
  case atStart => exact ⟨0, _, Nat.zero_le _, rfl, Blk.new _ _ _, Lib.hid (Filled.zero (by rw [madeCells_size, HX.out])), (Below.refl _ _).alloc (Nat.le_refl _) _⟩
  case round =>
    obtain ⟨k, arr, hk, rfl, hB, hF, hb⟩ := hrel
    by_cases hlt : k < n
    · obtain ⟨b, off, eA, hbB, c0, c1, hg⟩ := (H.out.below hb).at_ hlt
      subst eA
      have hx0 := flat_at stC_len ss k _ 0 (.int .i64 (strokeAt ss k).dir) (strokeAt_some (by have := HL.out; omega)) rfl
      have hx1 := flat_at stC_len ss k _ 1 (.int .i64 (strokeAt ss k).size) (strokeAt_some (by have := HL.out; omega)) rfl
      have HF2 : Hid (Filled ((arr.setIfInBounds (k * 2) (.int .i64 (strokeAt ss k).dir)).setIfInBounds (k * 2 + 1) (.int .i64 (strokeAt ss k).size)) (ss.flatMap stC) ((k + 1) * 2)) := Lib.hid (by
        rw [show (k + 1) * 2 = k * 2 + 1 + 1 by omega]
        exact (hF.out.step (by simpa using hx0)).step hx1)
      obtain ⟨x0, hy0⟩ := hF.out.there (j := k * 2) (by rw [HX.out]; omega)
      obtain ⟨x1, hy1⟩ := hF.out.there (j := k * 2 + 1) (by rw [HX.out]; omega)
      generalize strokeAt ss k = p at *
      go_wp2_with fail
      refine (toStroke _ _ _).mono ?_; rintro e w1 ⟨rfl, hb1⟩
      have b1 := hb.trans (hb1.mono hb.size)
      have B1 := hB.below hb1
      have d0 : w1.cell? ⟨w.heap.size, k * 2, none⟩ = some x0 := (B1.cell _).trans hy0
      have d1 : w1.cell? ⟨w.heap.size, k * 2 + 1, none⟩ = some x1 := (B1.cell _).trans hy1
      have f0 := B1.free (k * 2)
      have f1 := B1.free (k * 2 + 1)
      have B2 := Lib.hid ((B1.set (k * 2) (.int .i64 p.dir)).set (k * 2 + 1) (.int .i64 p.size))
      have b2 := Lib.hid ((b1.setCell (p := ⟨w.heap.size, k * 2, none⟩) (Nat.le_refl _) (.int .i64 p.dir)).setCell (p := ⟨w.heap.size, k * 2 + 1, none⟩) (Nat.le_refl _) (.int .i64 p.size))
      clear hb1 c0 c1 hx0 hx1 hy0 hy1 B1 b1 hF hB hb
      go_wp2
      go_roundw
      case rel => exact ⟨k + 1, _, by omega, by go_num, B2.out, HF2, b2.out⟩
      case measure => simp [intOf]; omega
    · obtain rfl : k = n := by omega
      have e : arr = (ss.flatMap stC).toArray := Filled.done (by rw [HX.out]; exact hF.out)
      subst e
      go_wp2
      go_ret
      exact ⟨rfl, hB, hb⟩
theorem StrokesIn.ofBlk {w : World} {g n : Nat} {ss : List Stroke} (h : Blk w g 99 (ss.flatMap stC).toArray) (hn : ss.length = n) (hm : n ≤ maxLen) (hg : ∀ s ∈ ss, s.good) : StrokesIn w w.heap.size (some ⟨g, 0, none⟩) n n ss :=
  ⟨hn, Nat.le_refl _, hm, ⟨by rw [flat_len stC_len, hn], fun _ => ⟨g, 0, rfl, h.lt, fun j u hu => by rw [Nat.zero_add]; exact (h.cell j).trans (by simpa using hu)⟩⟩, hg⟩

theorem eqStroke (d z : Int) (w : World) :
    Calls Try.prog 96 #[.agg #[.int .i64 d, .int .i64 z], .agg #[.int .i64 d, .int .i64 z]] w fun e w' => e = .returned (.bool true) ∧ Below w.heap.size w w' := by
  have h1 : (d != d) = false := by simp
  have h2 : (z != z) = false := by simp
  go_enter Try.func96, Try.ntmps96
  go_wp2
  go_ret
  exact ⟨rfl, by go_grown⟩

theorem eqStrokeS (A A' : Option Addr) (n c c' : Nat) (ss : List Stroke) (w : World) (h : StrokesIn w w.heap.size A n c ss) (h' : StrokesIn w w.heap.size A' n c' ss) :
    Calls Try.prog 71 #[.slice A n c, .slice A' n c'] w fun e w' => e = .returned (.bool true) ∧ Below w.heap.size w w' := by
  have hm := h.2.2.1; have hnc := h.2.1
  unfold maxLen at hm
  have H := Lib.hid h; have H' := Lib.hid h'; clear h h'
  go_enter Try.func71, Try.ntmps71
  go_wp2
  go_loopw [5] (fun i wr => ∃ k : Nat, k ≤ n ∧ i = .int .i64 k ∧ Below w.heap.size w wr) (fun i _ => n - (intOf i).toNat)
  case atStart => exact ⟨0, Nat.zero_le _, rfl, Below.refl _ _⟩
  case round =>
    obtain ⟨k, hk, rfl, hb⟩ := hrel
    by_cases hlt : k < n
    · obtain ⟨b, off, eA, hbB, c0, c1, hg⟩ := (H.out.below hb).at_ hlt
      obtain ⟨b', off', eA', hbB', c0', c1', hg'⟩ := (H'.out.below hb).at_ hlt
      subst eA eA'
      generalize strokeAt ss k = p at *
      have r0 := qcell c0; have r1 := qcell c1; have r0' := qcell c0'; have r1' := qcell c1'
      go_wp2_with fail
      refine region_qb (by kernel_rfl) (by kernel_rfl) ?_
      repeat (quiet_step ((go_at_call 96; exact quietB (eqStroke _ _ _))))
      refine wpQuiet_nil ?_
      intro w1 hb1; have b1 := hb.trans (hb1.mono hb.size)
      clear r0 r1 r0' r1' c0 c1 c0' c1' hb1
      go_wp2
      go_roundw
      case rel => exact ⟨k + 1, by omega, by go_num, b1⟩
      case measure => simp [intOf]; omega
    · go_wp2
      go_ret
      exact ⟨rfl, hb⟩

/-- What is left behind a size. -/
def SzL (left r : Int) (n : Nat) : Prop := r = -1 ∨ (0 ≤ r ∧ r + n ≤ left)
theorem szStrokeS (A : Option Addr) (n c : Nat) (left : Int) (w : World) (h0 : 0 ≤ left) (h1 : left ≤ 1048576) (hc : c ≤ maxLen) (hn : n ≤ c) :
    Calls Try.prog 67 #[.slice A n c, .int .i64 left] w fun e w' => ∃ r, e = .returned (.int .i64 r) ∧ SzL left r n ∧ w = w' := by
  unfold maxLen at hc
  by_cases hl : left - (n : Int) < 0
  · go_enter Try.func67, Try.ntmps67
    go_wp2
    go_returns
    exact ⟨-1, rfl, .inl rfl, rfl⟩
  · have hl2 : 0 ≤ left - (n : Int) := by omega
    have HR : Hid (SzL left (left - (n : Int)) n) := Lib.hid (.inr ⟨hl2, by omega⟩)
    clear hl
    go_enter Try.func67, Try.ntmps67
    go_wp2
    go_returns
    exact ⟨_, rfl, HR.out, rfl⟩
end Go.Proofs.Ytppjjbjjbmodbaa
