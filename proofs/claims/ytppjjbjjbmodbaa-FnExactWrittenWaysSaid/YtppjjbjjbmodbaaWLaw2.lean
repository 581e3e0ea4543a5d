/-
  The laws' own functions on lines: copies, comparisons, sizes. Conditions: Go's own sizes.
-/
import Derived.Test.YtppjjbjjbmodbaaWLaw
import Derived.Test.YtppjjbjjbmodbaaLineDef
namespace Go.Proofs.Ytppjjbjjbmodbaa
open Go.ChangeShapes Go.WideShapes Go.ChangeAt Go.RowKit
set_option maxRecDepth 100000

/-- What a line's forms take: a number for each form and for each stroke. -/
def lineSz : List Wr → Nat
  | [] => 0
  | x :: r => x.n + lineSz r
theorem lineSz_append : ∀ a b : List Wr, lineSz (a ++ b) = lineSz a + lineSz b
  | [], b => by simp [lineSz]
  | x :: a, b => by simp only [List.cons_append, lineSz, lineSz_append a b]; omega
theorem lineSz_step {xs : List Wr} {k : Nat} (h : k < xs.length) : lineSz (xs.take (k + 1)) = lineSz (xs.take k) + (wrAt xs k).n := by
  have e : xs.take (k + 1) = xs.take k ++ [wrAt xs k] := by
    rw [List.take_succ_eq_append_getElem h]
    have : xs[k] = wrAt xs k := by unfold wrAt; rw [List.getD_eq_getElem?_getD, List.getElem?_eq_getElem h]; rfl
    rw [this]
  rw [e, lineSz_append]; simp [lineSz]
theorem lineSz_mem {x : Wr} : ∀ {xs : List Wr}, x ∈ xs → x.n ≤ lineSz xs
  | [], h => by cases h
  | q :: r, h => by
    simp only [lineSz]
    rcases List.mem_cons.1 h with rfl | h
    · omega
    · have := lineSz_mem h; omega

theorem szWrittenS (A : Option Addr) (n c : Nat) (xs : List Wr) (left : Int) (w : World) (h0 : 0 ≤ left) (h1 : left ≤ 1048576) (h : WrsIn w w.heap.size A n c xs) :
    Calls Try.prog 37 #[.slice A n c, .int .i64 left] w fun e w' => ∃ r, e = .returned (.int .i64 r) ∧ SzL left r (n + lineSz xs) ∧ Below w.heap.size w w' := by
  have hnc := h.2.1; have hm := h.2.2.1
  unfold maxLen at hm
  have HL := Lib.hid h.1
  have H := Lib.hid h; clear h
  by_cases hl : left - (n : Int) < 0
  · have HR : Hid (SzL left (-1) (n + lineSz xs)) := Lib.hid (.inl rfl)
    go_enter Try.func37, Try.ntmps37
    go_wp2
    go_returns
    exact ⟨-1, rfl, HR.out, Below.refl _ _⟩
  · have hl2 : 0 ≤ left - (n : Int) := by omega
    clear hl
    go_enter Try.func37, Try.ntmps37
    go_wp2
    go_loopw [1, 5] (fun l i wr => ∃ (k : Nat) (r : Int), k ≤ n ∧ i = .int .i64 k ∧ l = .int .i64 r ∧ 0 ≤ r ∧ r + n + lineSz (xs.take k) ≤ left ∧ Below w.heap.size w wr) (fun _ i _ => n - (intOf i).toNat)
    case atStart => exact ⟨0, _, Nat.zero_le _, rfl, rfl, hl2, by simp [lineSz], Below.refl _ _⟩
    case round =>
      obtain ⟨k, r, hk, rfl, rfl, hr0, hr1, hb⟩ := hrel
      by_cases hlt : k < n
      · have hkl : k < xs.length := by rw [HL.out]; exact hlt
        obtain ⟨b, off, eA, hbB, q0, q1, hW⟩ := (H.out.keep hb).at_ hlt
        have hst := lineSz_step hkl
        have HS := Lib.hid (szWritten (wrAt xs k).A (wrAt xs k).n (wrAt xs k).c (wrAt xs k).pos r wr hr0 (by omega) hW.1.2.2.1 hW.1.2.1)
        have HR : Hid (SzL left (-1) (n + lineSz xs)) := Lib.hid (.inl rfl)
        have HSt := Lib.hid hst
        subst eA
        clear hW hkl hst
        generalize wrAt xs k = x at *
        go_wp2_with fail
        refine HS.out.mono ?_
        rintro e w1 ⟨r1, rfl, hz, hb1⟩
        have b1 := below_next hb hb1
        clear hb1 q0 q1 HS
        rcases hz with rfl | ⟨z0, z1⟩
        · go_wp2
          go_returns
          exact ⟨-1, rfl, HR.out, b1⟩
        · have hs2 := HSt.out
          have hrr : r1 + n + lineSz (xs.take (k + 1)) ≤ left := by omega
          clear hs2 z1 hr1 hr0
          go_wp2
          go_roundw
          case rel => exact ⟨k + 1, r1, by omega, by go_num, rfl, z0, hrr, b1⟩
          case measure => simp [intOf]; omega
      · have e : xs.take k = xs := List.take_of_length_le (by rw [HL.out]; omega)
        rw [e] at hr1
        have HR : Hid (SzL left r (n + lineSz xs)) := Lib.hid (.inr ⟨hr0, by omega⟩)
        clear e hr1
        go_wp2
        go_returns
        exact ⟨r, rfl, HR.out, hb⟩

/-- A written form whose strokes lie in a block of their own, from block B on. -/
def WrCop (w : World) (B : Nat) (x : Wr) : Prop := ∃ g, B ≤ g ∧ x.A = some ⟨g, 0, none⟩ ∧ x.c = x.n ∧ x.ss.length = x.n ∧ x.n ≤ 1048576 ∧ Blk w g 99 (x.ss.flatMap stC).toArray ∧ (∀ s ∈ x.ss, s.good) ∧ (Lit.int .i64 x.pos).wf = true
theorem WrCop.below {w w' : World} {B : Nat} {x : Wr} (h : WrCop w B x) (hb : Below w.heap.size w w') : WrCop w' B x := by
  obtain ⟨g, h1, h2, h3, h4, h5, h6, h7⟩ := h
  exact ⟨g, h1, h2, h3, h4, h5, h6.below hb, h7⟩
theorem WrCop.far {w : World} {B : Nat} {x : Wr} (h : WrCop w B x) {p : Addr} (hp : p.block < B) (u : Value) : WrCop (w.setCell p u) B x := by
  obtain ⟨g, h1, h2, h3, h4, h5, h6, h7⟩ := h
  exact ⟨g, h1, h2, h3, h4, h5, h6.far (by omega) u, h7⟩
theorem WrCop.reads {w : World} {B : Nat} {x : Wr} (h : WrCop w B x) : WrIn w w.heap.size x := by
  obtain ⟨g, h1, h2, h3, h4, h5, h6, h7, h8⟩ := h
  have := StrokesIn.ofBlk h6 h4 (by unfold maxLen; omega) h7
  exact ⟨by rw [h2, h3]; exact this, h8⟩

/-- The first k forms of a line are copied into a row. -/
def CopyW (wr : World) (base n k : Nat) (arr : Array Value) (xs' : List Wr) (D : List Dat) : Prop :=
  arr.size = n * 2 ∧ xs'.length = k ∧ (∀ (j : Nat) (u : Value), (xs'.flatMap wrC)[j]? = some u → arr[j]? = some u) ∧ xs'.map Wr.dat = D ∧ ∀ x ∈ xs', WrCop wr base x
theorem CopyW.step {wr w1 : World} {base n k o : Nat} {arr : Array Value} {xs' : List Wr} {D : List Dat} {x : Wr} (h : CopyW wr base n k arr xs' D) (hk : k < n) (hb : Below wr.heap.size wr w1) (hx : WrCop w1 base x) (ho : o < base) :
    CopyW ((w1.setCell ⟨o, k * 2, none⟩ (.slice x.A x.n x.c)).setCell ⟨o, k * 2 + 1, none⟩ (.int .i64 x.pos)) base n (k + 1) ((arr.setIfInBounds (k * 2) (.slice x.A x.n x.c)).setIfInBounds (k * 2 + 1) (.int .i64 x.pos)) (xs' ++ [x]) (D ++ [x.dat]) := by
  obtain ⟨f1, f2, f3, f4, f5⟩ := h
  refine ⟨by simp [f1], by simp [f2], fun j u hj => ?_, by simp [f4], fun y hy => ?_⟩
  · have hfl := flat_len wrC_len xs'
    rw [List.flatMap_append] at hj
    by_cases hjk : j < (xs'.flatMap wrC).length
    · rw [List.getElem?_append_left hjk] at hj
      rw [Array.getElem?_setIfInBounds, if_neg (by omega), Array.getElem?_setIfInBounds, if_neg (by omega)]
      exact f3 j u hj
    · rw [List.getElem?_append_right (by omega), hfl, f2] at hj
      have hj2 : j - k * 2 = 0 ∨ j - k * 2 = 1 := by
        have := (List.getElem?_eq_some_iff.1 hj).1
        simp [wrC] at this; omega
      rcases hj2 with e | e
      · rw [e] at hj
        simp [wrC] at hj; subst hj
        obtain rfl : j = k * 2 := by omega
        rw [Array.getElem?_setIfInBounds, if_neg (by omega), Array.getElem?_setIfInBounds, if_pos rfl, if_pos (by omega)]
      · rw [e] at hj
        simp [wrC] at hj; subst hj
        obtain rfl : j = k * 2 + 1 := by omega
        rw [Array.getElem?_setIfInBounds, if_pos rfl, if_pos (by simp; omega)]
  · rcases List.mem_append.1 hy with h | h
    · exact (((f5 y h).below hb).far ho _).far ho _
    · rw [List.mem_singleton] at h; subst h; exact (hx.far ho _).far ho _
theorem CopyW.done {wr : World} {o base n : Nat} {arr : Array Value} {xs' : List Wr} {D : List Dat} (h : CopyW wr base n n arr xs' D) (hB : Blk wr o 35 arr) (hn : n ≤ maxLen) : WrsIn wr wr.heap.size (some ⟨o, 0, none⟩) n n xs' ∧ xs'.map Wr.dat = D := by
  obtain ⟨f1, f2, f3, f4, f5⟩ := h
  refine ⟨⟨f2, Nat.le_refl _, hn, ⟨by rw [flat_len wrC_len, f2], fun _ => ⟨o, 0, rfl, hB.lt, fun j u hu => by rw [Nat.zero_add]; exact (hB.cell j).trans (f3 j u hu)⟩⟩, fun x hx => (f5 x hx).reads⟩, f4⟩

theorem infoWrC : (Try.prog.info? 35).map (fun i => (i.zero, i.size, i.bytes)) = some (some (.agg #[.slice none 0 0, .int .i64 0]), 2, 32) := by kernel_rfl

set_option maxHeartbeats 800000 in
theorem toWrittenS (A : Option Addr) (n c : Nat) (xs : List Wr) (w : World) (hn : n + lineSz xs ≤ 1048576) (h : WrsIn w w.heap.size A n c xs) :
    Calls Try.prog 38 #[.slice A n c] w fun e w' => ∃ xs', e = .returned (.slice (some ⟨w.heap.size, 0, none⟩) n n) ∧ WrsIn w' w'.heap.size (some ⟨w.heap.size, 0, none⟩) n n xs' ∧ xs'.map Wr.dat = xs.map Wr.dat ∧ Below w.heap.size w w' := by
  have HL : Hid (xs.length = n) := Lib.hid h.1
  have hnx : n ≤ 1048576 := by omega
  have HZ := Lib.hid hn
  have H := Lib.hid h; clear h hn
  obtain ⟨i0, hi, hz0, hz1, hz2⟩ := info_parts infoWrC
  have hmk := fun W => run_make_rowN (P := Try.prog) 27 35 i0 _ Try.underlying27 hi hz0 .i64 .i64 n n (Nat.le_refl _) (by rw [hz2]; omega) (by omega) W
  rw [hz1] at hmk
  go_enter Try.func38, Try.ntmps38
  go_wp2
  go_loopw [4] (fun i wr => ∃ (k : Nat) (arr : Array Value) (xs' : List Wr), k ≤ n ∧ i = .int .i64 k ∧ Blk wr w.heap.size 35 arr ∧ Hid (CopyW wr (w.heap.size + 1) n k arr xs' ((xs.take k).map Wr.dat)) ∧ Below w.heap.size w wr) (fun i _ => n - (intOf i).toNat)
  case atStart => exact ⟨0, _, [], Nat.zero_le _, rfl, Blk.new _ _ _, Lib.hid ⟨by rw [madeCells_size], rfl, by simp, rfl, by simp⟩, (Below.refl _ _).alloc (Nat.le_refl _) _⟩
  case round =>
    obtain ⟨k, arr, xs', hk, rfl, hB, hF, hb⟩ := hrel
    by_cases hlt : k < n
    · obtain ⟨b, off, eA, hbB, q0, q1, hX⟩ := (H.out.keep hb).at_ hlt
      subst eA
      have hkl : k < xs.length := by rw [HL.out]; exact hlt
      have HTK : Hid ((xs.take (k + 1)).map Wr.dat = (xs.take k).map Wr.dat ++ [(wrAt xs k).dat]) := Lib.hid (by
        have e : xs.take (k + 1) = xs.take k ++ [wrAt xs k] := by
          rw [List.take_succ_eq_append_getElem hkl]
          have : xs[k] = wrAt xs k := by unfold wrAt; rw [List.getD_eq_getElem?_getD, List.getElem?_eq_getElem hkl]; rfl
          rw [this]
        rw [e, List.map_append]; rfl)
      have hxn : (wrAt xs k).n ≤ 1048576 := by have := lineSz_mem (wrAt_mem hkl); have := HZ.out; omega
      have HT := Lib.hid (toWritten (wrAt xs k).A (wrAt xs k).n (wrAt xs k).c (wrAt xs k).ss (wrAt xs k).pos wr hxn hX.1)
      have hsz := hF.out.1
      obtain ⟨x0, hy0⟩ : ∃ x, arr[k * 2]? = some x := ⟨_, Array.getElem?_eq_getElem (by omega)⟩
      obtain ⟨x1, hy1⟩ : ∃ x, arr[k * 2 + 1]? = some x := ⟨_, Array.getElem?_eq_getElem (by omega)⟩
      have HX := Lib.hid hX
      have hz := hb.size
      have hzB := hB.lt
      clear hX hkl hsz
      generalize wrAt xs k = x at *
      go_wp2_with fail
      refine HT.out.mono ?_
      rintro e w1 ⟨g, rfl, hg, hG, hb1⟩
      have b1 := hb.trans (hb1.mono hz)
      have B1 := hB.below hb1
      have d0 : w1.cell? ⟨w.heap.size, k * 2, none⟩ = some x0 := (B1.cell _).trans hy0
      have d1 : w1.cell? ⟨w.heap.size, k * 2 + 1, none⟩ = some x1 := (B1.cell _).trans hy1
      have f0 := B1.free (k * 2)
      have f1 := B1.free (k * 2 + 1)
      have hO : WrCop w1 (w.heap.size + 1) ⟨some ⟨g, 0, none⟩, x.n, x.n, x.ss, x.pos⟩ := ⟨g, by omega, rfl, rfl, HX.out.1.1, hxn, hG, HX.out.1.2.2.2.2, HX.out.2⟩
      have HF2 : Hid (CopyW ((w1.setCell ⟨w.heap.size, k * 2, none⟩ (.slice (some ⟨g, 0, none⟩) x.n x.n)).setCell ⟨w.heap.size, k * 2 + 1, none⟩ (.int .i64 x.pos)) (w.heap.size + 1) n (k + 1) ((arr.setIfInBounds (k * 2) (.slice (some ⟨g, 0, none⟩) x.n x.n)).setIfInBounds (k * 2 + 1) (.int .i64 x.pos)) (xs' ++ [⟨some ⟨g, 0, none⟩, x.n, x.n, x.ss, x.pos⟩]) ((xs.take (k + 1)).map Wr.dat)) := Lib.hid (by
        rw [HTK.out]
        exact hF.out.step hlt hb1 hO (Nat.lt_succ_self _))
      have B2 := Lib.hid ((B1.set (k * 2) (.slice (some ⟨g, 0, none⟩) x.n x.n)).set (k * 2 + 1) (.int .i64 x.pos))
      have b2 := Lib.hid ((b1.setCell (p := ⟨w.heap.size, k * 2, none⟩) (Nat.le_refl _) (.slice (some ⟨g, 0, none⟩) x.n x.n)).setCell (p := ⟨w.heap.size, k * 2 + 1, none⟩) (Nat.le_refl _) (.int .i64 x.pos))
      clear hb1 q0 q1 hy0 hy1 B1 b1 hF hB hb hO hG HT
      go_wp2
      go_roundw
      case rel => exact ⟨k + 1, _, _, by omega, by go_num, B2.out, HF2, b2.out⟩
      case measure => simp [intOf]; omega
    · obtain rfl : n = k := by omega
      rw [List.take_of_length_le (by rw [HL.out]; exact Nat.le_refl _)] at hF
      have HD := Lib.hid (hF.out.done hB (by unfold maxLen; omega))
      clear hB hF
      go_wp2
      go_ret
      exact ⟨xs', rfl, HD.out.1, HD.out.2, hb⟩

theorem map_wr {xs xs' : List Wr} (h : xs.map Wr.dat = xs'.map Wr.dat) {k : Nat} (hk : k < xs.length) (hk' : k < xs'.length) : (wrAt xs' k).ss = (wrAt xs k).ss ∧ (wrAt xs' k).pos = (wrAt xs k).pos := by
  have h1 : (xs.map Wr.dat)[k]? = (xs'.map Wr.dat)[k]? := by rw [h]
  rw [List.getElem?_map, List.getElem?_map, wrAt_some hk, wrAt_some hk'] at h1
  simp only [Option.map_some, Option.some.injEq] at h1
  unfold Wr.dat at h1
  injection h1 with h2 h3
  exact ⟨h2.symm, h3.symm⟩
theorem eqWrittenS (A A' : Option Addr) (n c c' : Nat) (xs xs' : List Wr) (w : World) (hd : xs.map Wr.dat = xs'.map Wr.dat) (h : WrsIn w w.heap.size A n c xs) (h' : WrsIn w w.heap.size A' n c' xs') :
    Calls Try.prog 39 #[.slice A n c, .slice A' n c'] w fun e w' => e = .returned (.bool true) ∧ Below w.heap.size w w' := by
  have hm := h.2.2.1; have hnc := h.2.1
  unfold maxLen at hm
  have HD := Lib.hid hd
  have H := Lib.hid h; have H' := Lib.hid h'; clear h h' hd
  go_enter Try.func39, Try.ntmps39
  go_wp2
  go_loopw [5] (fun i wr => ∃ k : Nat, k ≤ n ∧ i = .int .i64 k ∧ Below w.heap.size w wr) (fun i _ => n - (intOf i).toNat)
  case atStart => exact ⟨0, Nat.zero_le _, rfl, Below.refl _ _⟩
  case round =>
    obtain ⟨k, hk, rfl, hb⟩ := hrel
    by_cases hlt : k < n
    · obtain ⟨b, off, eA, hbB, c0, c1, hX⟩ := (H.out.keep hb).at_ hlt
      obtain ⟨b', off', eA', hbB', c0', c1', hX'⟩ := (H'.out.keep hb).at_ hlt
      obtain ⟨e1, e2⟩ := map_wr HD.out (k := k) (by rw [H.out.1]; exact hlt) (by rw [H'.out.1]; exact hlt)
      have HE : Hid (∀ W, Below wr.heap.size wr W → Calls Try.prog 31 #[.agg #[.slice (wrAt xs k).A (wrAt xs k).n (wrAt xs k).c, .int .i64 (wrAt xs k).pos], .agg #[.slice (wrAt xs' k).A (wrAt xs' k).n (wrAt xs' k).c, .int .i64 (wrAt xs' k).pos]] W fun e w' => e = .returned (.bool true) ∧ Below W.heap.size W w') := Lib.hid (fun W hW => by
        have h1 := (hX.keep hW).1
        have h2 := (hX'.keep hW).1
        rw [e1] at h2
        have hnn : (wrAt xs' k).n = (wrAt xs k).n := by rw [← h1.1, ← h2.1]
        rw [hnn] at h2 ⊢
        rw [e2]
        exact eqWritten _ _ _ _ _ _ _ W h1 h2)
      subst eA eA'
      clear hX hX' e1 e2
      generalize wrAt xs k = x at *
      generalize wrAt xs' k = x' at *
      have r0 := qcell c0; have r1 := qcell c1; have r0' := qcell c0'; have r1' := qcell c1'
      go_wp2_with fail
      refine region_qb (by kernel_rfl) (by kernel_rfl) ?_
      repeat (quiet_step ((go_at_call 31; exact quietB (HE.out _ (below_regrown _ _ _)))))
      refine wpQuiet_nil ?_
      intro w1 hb1; have b1 := hb.trans (hb1.mono hb.size)
      clear r0 r1 r0' r1' c0 c1 c0' c1' hb1
      go_wp2
      go_roundw
      case rel => exact ⟨k + 1, by omega, by go_num, b1⟩
      case measure => simp [intOf]; omega
    · go_wp2
      go_ret
      exact ⟨rfl, hb⟩
end Go.Proofs.Ytppjjbjjbmodbaa
