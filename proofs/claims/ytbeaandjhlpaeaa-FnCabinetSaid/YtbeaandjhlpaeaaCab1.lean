/-
  Lists of pads in memory, compared, measured, copied. Conditions: none but those of Go's own sizes.
-/
import Derived.Test.YtbeaandjhlpaeaaPad
import Derived.Test.YtbeaandjhlpaeaaOpen
import Derived.Test.YtbeaandjhlpaeaaQuiet
namespace Go.Proofs.Ytbeaandjhlpaeaa
open Go.ChangeShapes Go.WideShapes Go.ChangeAt Go.RowKit
set_option maxRecDepth 100000

/-- The k-th pad of a list. -/
def padAt (ps : List Pad) (k : Nat) : Pad := ps.getD k ⟨0, ByteArray.empty⟩
theorem padAt_some {ps : List Pad} {k : Nat} (h : k < ps.length) : ps[k]? = some (padAt ps k) := by
  unfold padAt; simp [List.getD, List.getElem?_eq_getElem h]
theorem padAt_mem {ps : List Pad} {k : Nat} (h : k < ps.length) : padAt ps k ∈ ps := List.mem_of_getElem? (padAt_some h)

theorem PadsIn.at_ {w : World} {B n c k : Nat} {A : Option Addr} {ps : List Pad} (h : PadsIn w B A n c ps) (hk : k < n) :
    ∃ b off, A = some ⟨b, off, none⟩ ∧ b < B ∧ w.cell? ⟨b, off + k * 2, none⟩ = some (.int .i64 (padAt ps k).day) ∧ w.cell? ⟨b, off + k * 2 + 1, none⟩ = some (.string (padAt ps k).case) ∧ (padAt ps k).good := by
  obtain ⟨h1, h2, h3, h4, h5⟩ := h
  obtain ⟨b, off, e, hb, hc⟩ := h4.2 (by omega)
  have hk' := padAt_some (ps := ps) (k := k) (by omega)
  refine ⟨b, off, e, hb, ?_, ?_, h5 _ (padAt_mem (by omega))⟩
  · have := hc _ _ (flat_at padC_len ps k _ 0 _ hk' rfl)
    simpa using this
  · have := hc _ _ (flat_at padC_len ps k _ 1 _ hk' rfl)
    rw [Nat.add_assoc]; exact this

theorem eqPad (d : Int) (c : ByteArray) (d' : Int) (c' : ByteArray) (w : World) :
    Calls Try.prog 64 #[.agg #[.int .i64 d, .string c], .agg #[.int .i64 d', .string c']] w fun e w' => e = .returned (.bool (d == d' && c.toList == c'.toList)) ∧ Below w.heap.size w w' := by
  by_cases h1 : d = d'
  · subst h1
    by_cases h2 : (c.toList == c'.toList) = true
    · have h3 : (c.toList != c'.toList) = false := by rw [bne, h2]; rfl
      go_enter Try.func64, Try.ntmps64
      go_wp2
      go_ret
      exact ⟨ret_bool (by simp [h2]), by go_grown⟩
    · have h2' : (c.toList == c'.toList) = false := by simpa using h2
      have h3 : (c.toList != c'.toList) = true := by rw [bne, h2']; rfl
      go_enter Try.func64, Try.ntmps64
      go_wp2
      go_ret
      exact ⟨ret_bool (by simp [h2']), by go_grown⟩
  · have h1' : (d != d') = true := by simp; omega
    have h1'' : (d == d') = false := by simp; omega
    go_enter Try.func64, Try.ntmps64
    go_wp2
    go_ret
    exact ⟨ret_bool (by simp [h1'']), by go_grown⟩

theorem PadsIn.below {w w' : World} {B n c : Nat} {A : Option Addr} {ps : List Pad} (h : PadsIn w B A n c ps) (hb : Below B w w') : PadsIn w' B A n c ps :=
  ⟨h.1, h.2.1, h.2.2.1, h.2.2.2.1.below hb, h.2.2.2.2⟩
theorem PadsIn.more {w : World} {B B' n c : Nat} {A : Option Addr} {ps : List Pad} (h : PadsIn w B A n c ps) (hb : B ≤ B') : PadsIn w B' A n c ps :=
  ⟨h.1, h.2.1, h.2.2.1, h.2.2.2.1.more hb, h.2.2.2.2⟩

theorem eqPadS (A A' : Option Addr) (n c c' : Nat) (ps : List Pad) (w : World) (h : PadsIn w w.heap.size A n c ps) (h' : PadsIn w w.heap.size A' n c' ps) :
    Calls Try.prog 34 #[.slice A n c, .slice A' n c'] w fun e w' => e = .returned (.bool true) ∧ Below w.heap.size w w' := by
  have hm := h.2.2.1; have hnc := h.2.1
  unfold maxLen at hm
  have H := Lib.hid h; have H' := Lib.hid h'; clear h h'
  go_enter Try.func34, Try.ntmps34
  go_wp2
  go_loopw [5] (fun i wr => ∃ k : Nat, k ≤ n ∧ i = .int .i64 k ∧ Below w.heap.size w wr) (fun i _ => n - (intOf i).toNat)
  case atStart => exact ⟨0, Nat.zero_le _, rfl, Below.refl _ _⟩
  case round =>
    obtain ⟨k, hk, rfl, hb⟩ := hrel
    by_cases hlt : k < n
    · obtain ⟨b, off, eA, hbB, c0, c1, hg⟩ := (H.out.below hb).at_ hlt
      obtain ⟨b', off', eA', hbB', c0', c1', hg'⟩ := (H'.out.below hb).at_ hlt
      subst eA eA'
      generalize padAt ps k = p at *
      have r0 := qcell c0; have r1 := qcell c1; have r0' := qcell c0'; have r1' := qcell c1'
      go_wp2_with fail
      refine region_qb (by kernel_rfl) (by kernel_rfl) ?_
      repeat (quiet_step ((go_at_call 64; exact quietB (eqPad _ _ _ _ _))))
      refine wpQuiet_nil ?_
      intro w1 hb1; have b1 := hb.trans (hb1.mono hb.size)
      clear r0 r1 r0' r1' c0 c1 c0' c1' hb1
      go_wp2
      go_roundw
      case rel => exact ⟨k + 1, by omega, by go_num, b1⟩
      case measure => simp [intOf]; omega
    · go_wp2
      go_ret
      exact ⟨rfl, hb⟩
end Go.Proofs.Ytbeaandjhlpaeaa
