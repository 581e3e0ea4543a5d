/-
  The reference's l8Put: a drawer with a pad at its place, in new memory. Conditions: no more pads than a law lets by.
-/
import Derived.Test.YtbeaandjhlpaeaaRowAns
import Derived.Test.YtbeaandjhlpaeaaFind2
namespace Go.Proofs.Ytbeaandjhlpaeaa
open Go.ChangeShapes Go.WideShapes Go.ChangeAt Go.RowKit
set_option maxRecDepth 100000

theorem put1 {w w3 w4 : World} {v1 : Value} {k : Nat} {xs : List Value} {x y : Value} (b3 : Below w.heap.size w w3) (p0 : w3.cell? ⟨w.heap.size, 0, none⟩ = some x) (p1 : w3.cell? ⟨w.heap.size, 1, none⟩ = some y)
    (hg : (w3.alloc (.cells #[] 26)).grownBy w4 (Value.slice (some ⟨w3.heap.size, 0, none⟩) 0 0).ownBlock) (ho : w4.ownsRow w.heap.size 26 2 v1 (0 + k) ([] ++ xs)) :
    Below w.heap.size w w4 ∧ w4.cell? ⟨w.heap.size, 0, none⟩ = some x ∧ w4.cell? ⟨w.heap.size, 1, none⟩ = some y ∧ Hid (w4.ownsRow w.heap.size 26 2 v1 k xs) := by
  have z := World.block_lt_of_cell? _ _ p0
  simp only at z
  have hne : some w.heap.size ≠ (Value.slice (some ⟨w3.heap.size, 0, none⟩) 0 0).ownBlock := fun e => by
    have e2 : w.heap.size = w3.heap.size := by injection e
    omega
  refine ⟨(b3.alloc b3.size _).grown hg (by simp; omega) (fun q hq => by injection hq with hq; rw [← hq]; exact b3.size), hg.cell (Lib.cell?_alloc_some _ p0) hne, hg.cell (Lib.cell?_alloc_some _ p1) hne, Lib.hid ?_⟩
  simpa only [Nat.zero_add, List.nil_append] using ho

theorem put_end {w : World} {B n k : Nat} {v : Value} {ps : List Pad} {p : Pad} (hn : ps.length = n) (hk : k ≤ n) (h : w.ownsRow B 26 2 v (k + 1 + (n - k)) ((ps.take k).flatMap padC ++ [.int .i64 p.day, .string p.case] ++ (ps.drop k).flatMap padC)) : PadsOwn w B v (ins ps p k) := by
  unfold PadsOwn
  rw [ins_len, hn, show n + 1 = k + 1 + (n - k) by omega]
  unfold ins
  rw [List.flatMap_append, List.flatMap_cons]
  simpa [padC] using h

theorem l8Put (A : Option Addr) (n c : Nat) (ps : List Pad) (p : Pad) (w : World) (hn1 : 1 ≤ n) (hn : n ≤ 1048576) (h : PadsIn w w.heap.size A n c ps) :
    Calls Try.prog 83 #[.slice A n c, padVal p] w fun e w' => RowAns w' w.heap.size (ins ps p (putIdx ps p)) e ∧ Below w.heap.size w w' := by
  have hm := h.2.2.1; have hnc := h.2.1
  unfold maxLen at hm
  have HL := Lib.hid h.1
  obtain ⟨b, off, eA, hbB, _⟩ := h.2.2.2.1.2 hn1
  subst eA
  have H := Lib.hid h; clear h
  obtain ⟨i0, hi, hz0, hz1, hz2⟩ := info_parts infoPad
  have HT1 : Hid (∀ k, k ≤ n → ∀ W, Below w.heap.size w W → Row W w.heap.size (some ⟨b, off, none⟩) k 2 ((ps.take k).flatMap padC)) := Lib.hid (fun k hk W hW => by rw [← flat_take padC_len]; exact (H.out.2.2.2.1.below hW).take hk)
  unfold padVal
  go_enter Try.func83, Try.ntmps83
  go_wp2
  go_loopw [5] (fun i wr => ∃ k : Nat, k ≤ n ∧ i = .int .i64 k ∧ Hid (∀ j, j < k → ordPad (padAt ps j) p < 0) ∧ Below w.heap.size w wr ∧ wr.cell? ⟨w.heap.size, 0, none⟩ = some (.int .i64 p.day) ∧ wr.cell? ⟨w.heap.size, 1, none⟩ = some (.string p.case)) (fun i _ => n - (intOf i).toNat)
  case atStart => exact ⟨0, Nat.zero_le _, rfl, Lib.hid (fun j h => by omega), (Below.refl _ _).alloc (Nat.le_refl _) _, newcell w #[.int .i64 p.day, .string p.case] _ 0 _ rfl, newcell w #[.int .i64 p.day, .string p.case] _ 1 _ rfl⟩
  case round =>
    obtain ⟨k, hk, rfl, hF, hb, p0, p1⟩ := hrel
    have ways : (k < n ∧ ordPad (padAt ps k) p < 0) ∨ (Hid (putIdx ps p = k) ∧ ((k < n ∧ 0 ≤ ordPad (padAt ps k) p) ∨ k = n)) := by
      by_cases hlt : k < n
      · by_cases ho : ordPad (padAt ps k) p < 0
        · exact .inl ⟨hlt, ho⟩
        · exact .inr ⟨Lib.hid (putIdx_of (by rw [HL.out]; exact hk) hF.out (fun _ => ho)), .inl ⟨hlt, by omega⟩⟩
      · exact .inr ⟨Lib.hid (putIdx_of (by rw [HL.out]; exact hk) hF.out (fun h => by rw [HL.out] at h; omega)), .inr (by omega)⟩
    rcases ways with ⟨hlt, ho⟩ | ⟨HI, ways⟩
    · obtain ⟨b', off', eA, hbB', c0, c1, hg⟩ := (H.out.below hb).at_ hlt
      injection eA with eA; injection eA with e1 e2; subst e1 e2
      have hb0 : decide ((k : Int) < n) = true := decide_eq_true (by omega)
      have HF2 : Hid (∀ j, j < k + 1 → ordPad (padAt ps j) p < 0) := Lib.hid (fun j hj => by
        by_cases e : j = k
        · subst e; exact ho
        · exact hF.out j (by omega))
      have co : ∀ W, Calls Try.prog 52 #[.agg #[.int .i64 (padAt ps k).day, .string (padAt ps k).case], .agg #[.int .i64 p.day, .string p.case]] W fun e w' => e = .returned (.int .i64 (ordPad (padAt ps k) p)) ∧ Below W.heap.size W w' := fun W => l8Order _ _ _ _ W
      have CO := Lib.hid co; clear co hg hF
      have r0 := qcell c0; have r1 := qcell c1; have r2 := qcell p0; have r3 := qcell p1
      generalize ordPad (padAt ps k) p = o at *
      generalize padAt ps k = q at *
      go_wp2_with fail
      refine region_qb (by kernel_rfl) (by kernel_rfl) ?_
      repeat (first | go_big_quiet_step ((go_at_call 52; exact quietB (CO.out _))) | quiet_step ((go_at_call 52; exact quietB (CO.out _))))
      refine wpQuiet_nil ?_
      intro w3 hb3
      have b3 := hb.trans (hb3.mono hb.size)
      have p0' := kcell hb3 p0; have p1' := kcell hb3 p1
      clear r0 r1 r2 r3 c0 c1 p0 p1 hb3
      go_wp2
      go_roundw
      case rel => exact ⟨k + 1, by omega, by go_num, HF2, b3, p0', p1'⟩
      case measure => simp [intOf]; omega
    · clear hF
      -- the test says no
      have step : ∀ w3, Below wr.heap.size wr w3 → Below w.heap.size w w3 ∧ w3.cell? ⟨w.heap.size, 0, none⟩ = some (.int .i64 p.day) ∧ w3.cell? ⟨w.heap.size, 1, none⟩ = some (.string p.case) := fun w3 hb3 => ⟨hb.trans (hb3.mono hb.size), kcell hb3 p0, kcell hb3 p1⟩
      have STEP := Lib.hid step; clear step
      rcases ways with ⟨hlt, ho⟩ | hkn
      · obtain ⟨b', off', eA, hbB', c0, c1, hg⟩ := (H.out.below hb).at_ hlt
        injection eA with eA; injection eA with e1 e2; subst e1 e2
        have hb0 : decide ((k : Int) < n) = true := decide_eq_true (by omega)
        have co : ∀ W, Calls Try.prog 52 #[.agg #[.int .i64 (padAt ps k).day, .string (padAt ps k).case], .agg #[.int .i64 p.day, .string p.case]] W fun e w' => e = .returned (.int .i64 (ordPad (padAt ps k) p)) ∧ Below W.heap.size W w' := fun W => l8Order _ _ _ _ W
        have CO := Lib.hid co; clear co hg
        have r0 := qcell c0; have r1 := qcell c1; have r2 := qcell p0; have r3 := qcell p1
        generalize ordPad (padAt ps k) p = o at *
        generalize padAt ps k = q at *
        go_wp2_with fail
        refine region_qb (by kernel_rfl) (by kernel_rfl) ?_
        repeat (first | go_big_quiet_step ((go_at_call 52; exact quietB (CO.out _))) | quiet_step ((go_at_call 52; exact quietB (CO.out _))))
        refine wpQuiet_nil ?_
        intro w3 hb3
        obtain ⟨b3, p0', p1'⟩ := STEP.out w3 hb3
        clear r0 r1 r2 r3 c0 c1 p0 p1 hb3 hb STEP hb0
        have hkc : k < c := by omega
        have HT3 : Hid (∀ W, Below w.heap.size w W → Row W w.heap.size (some ⟨b, off + k * 2, none⟩) (n - k) 2 ((ps.drop k).flatMap padC)) := Lib.hid (fun W hW => by rw [← flat_drop padC_len]; exact (H.out.2.2.2.1.below hW).drop hk)
        have z3 := b3.size
        have z3' := World.block_lt_of_cell? _ _ p0'
        simp only at z3'
        go_wp2_with (first
          | (at_builtin; refine wpList_append_any _ rfl (.tmp 22) (.tmp 25) _ rfl w.heap.size 26 i0 _ 2 24 Try.underlying49 hi hz0 hz1 hz2 rfl (by omega) (.slice (some ⟨w3.heap.size, 0, none⟩) 0 0) 0 [] rfl (World.ownsRow_made w3 _ 0 z3 (by simp) (by simp)) w.heap.size (some ⟨b, off, none⟩) k c ((ps.take k).flatMap padC) rfl (HT1.out k hk _ (b3.alloc z3 _)) padC_one (by unfold maxLen; omega) (by omega) (by simp; omega) ?_; intro v1 w4 hown1 hg1 hat1; obtain ⟨b4, p0a, p1a, HO1⟩ := put1 b3 p0' p1' hg1 hown1; have z4 := b4.size; clear hown1 hg1 hat1)
          | (at_builtin; refine wpList_append_any _ rfl (.tmp 27) (.tmp 29) _ rfl w.heap.size 26 i0 _ 2 24 Try.underlying49 hi hz0 hz1 hz2 rfl (by omega) v1 k ((ps.take k).flatMap padC) rfl (HO1.out.alloc _) (w4.heap.size + 1) (some ⟨w4.heap.size, 0, none⟩) 1 1 [.int .i64 p.day, .string p.case] rfl (rowNewPad _ _ _ _) (by simp [Value.oneCell']) (by unfold maxLen; omega) (by omega) (by simp; omega) ?_; intro v2 w5 hown2 hg2 hat2; have b5 := (b4.alloc z4 _).grown hg2 (by simp; omega) (fun q hq => own_base HO1.out hq); have HO2 := Lib.hid hown2; have z5 := b5.size; clear hown2 hg2 hat2)
          | (at_builtin; refine wpList_append_any _ rfl (.tmp 31) (.tmp 34) _ rfl w.heap.size 26 i0 _ 2 24 Try.underlying49 hi hz0 hz1 hz2 rfl (by omega) v2 (k + 1) _ rfl HO2.out w.heap.size (some ⟨b, off + k * 2, none⟩) (n - k) (c - k) ((ps.drop k).flatMap padC) rfl (HT3.out _ b5) padC_one (by unfold maxLen; omega) (by omega) (by omega) ?_; intro v3 w6 hown3 hg3 hat3; have b6 := b5.grown hg3 z5 (fun q hq => own_base HO2.out hq); have HO3 := Lib.hid hown3; clear hown3 hg3 hat3))
        go_ret
        exact ⟨.of rfl (by rw [HI.out]; exact put_end HL.out hk HO3.out), b6⟩
      · have hb0 : decide ((k : Int) < n) = false := decide_eq_false (by omega)
        go_wp2_with fail
        refine region_qb (by kernel_rfl) (by kernel_rfl) ?_
        repeat (first | go_big_quiet_step (fail) | quiet_step (fail))
        refine wpQuiet_nil ?_
        intro w3 hb3
        obtain ⟨b3, p0', p1'⟩ := STEP.out w3 hb3
        clear p0 p1 hb3 hb STEP hb0
        subst hkn
        have z3 := b3.size
        have z3' := World.block_lt_of_cell? _ _ p0'
        simp only at z3'
        have hE : Hid (∀ (w : World) (B : Nat) (v : Value), w.ownsRow B 26 2 v (k + 1 + 0) ((ps.take k).flatMap padC ++ [.int .i64 p.day, .string p.case] ++ []) → PadsOwn w B v (ins ps p k)) := Lib.hid (fun w B v h => put_end (n := k) HL.out (Nat.le_refl _) (by
          rw [Nat.sub_self, List.drop_of_length_le (by rw [HL.out]; exact Nat.le_refl _)]; exact h))
        by_cases hkc : k < c
        · skip
          go_wp2_with (first
            | (at_builtin; refine wpList_append_any _ rfl (.tmp 22) (.tmp 25) _ rfl w.heap.size 26 i0 _ 2 24 Try.underlying49 hi hz0 hz1 hz2 rfl (by omega) (.slice (some ⟨w3.heap.size, 0, none⟩) 0 0) 0 [] rfl (World.ownsRow_made w3 _ 0 z3 (by simp) (by simp)) w.heap.size (some ⟨b, off, none⟩) k c ((ps.take k).flatMap padC) rfl (HT1.out k hk _ (b3.alloc z3 _)) padC_one (by unfold maxLen; omega) (by omega) (by simp; omega) ?_; intro v1 w4 hown1 hg1 hat1; obtain ⟨b4, p0a, p1a, HO1⟩ := put1 b3 p0' p1' hg1 hown1; have z4 := b4.size; clear hown1 hg1 hat1)
            | (at_builtin; refine wpList_append_any _ rfl (.tmp 27) (.tmp 29) _ rfl w.heap.size 26 i0 _ 2 24 Try.underlying49 hi hz0 hz1 hz2 rfl (by omega) v1 k ((ps.take k).flatMap padC) rfl (HO1.out.alloc _) (w4.heap.size + 1) (some ⟨w4.heap.size, 0, none⟩) 1 1 [.int .i64 p.day, .string p.case] rfl (rowNewPad _ _ _ _) (by simp [Value.oneCell']) (by unfold maxLen; omega) (by omega) (by simp; omega) ?_; intro v2 w5 hown2 hg2 hat2; have b5 := (b4.alloc z4 _).grown hg2 (by simp; omega) (fun q hq => own_base HO1.out hq); have HO2 := Lib.hid hown2; have z5 := b5.size; clear hown2 hg2 hat2)
            | (at_builtin; refine wpList_append_any _ rfl (.tmp 31) (.tmp 34) _ rfl w.heap.size 26 i0 _ 2 24 Try.underlying49 hi hz0 hz1 hz2 rfl (by omega) v2 (k + 1) _ rfl HO2.out w.heap.size (some ⟨b, off + k * 2, none⟩) 0 (c - k) [] rfl Row.empty (by simp) (by unfold maxLen; omega) (by omega) (by omega) ?_; intro v3 w6 hown3 hg3 hat3; have b6 := b5.grown hg3 z5 (fun q hq => own_base HO2.out hq); have HO3 := Lib.hid hown3; clear hown3 hg3 hat3))
          go_ret
          exact ⟨.of rfl (by rw [HI.out]; exact hE.out _ _ _ HO3.out), b6⟩
        · obtain rfl : k = c := by omega
          go_wp2_with (first
            | (at_builtin; refine wpList_append_any _ rfl (.tmp 22) (.tmp 25) _ rfl w.heap.size 26 i0 _ 2 24 Try.underlying49 hi hz0 hz1 hz2 rfl (by omega) (.slice (some ⟨w3.heap.size, 0, none⟩) 0 0) 0 [] rfl (World.ownsRow_made w3 _ 0 z3 (by simp) (by simp)) w.heap.size (some ⟨b, off, none⟩) k k ((ps.take k).flatMap padC) rfl (HT1.out k hk _ (b3.alloc z3 _)) padC_one (by unfold maxLen; omega) (by omega) (by simp; omega) ?_; intro v1 w4 hown1 hg1 hat1; obtain ⟨b4, p0a, p1a, HO1⟩ := put1 b3 p0' p1' hg1 hown1; have z4 := b4.size; clear hown1 hg1 hat1)
            | (at_builtin; refine wpList_append_any _ rfl (.tmp 27) (.tmp 29) _ rfl w.heap.size 26 i0 _ 2 24 Try.underlying49 hi hz0 hz1 hz2 rfl (by omega) v1 k ((ps.take k).flatMap padC) rfl (HO1.out.alloc _) (w4.heap.size + 1) (some ⟨w4.heap.size, 0, none⟩) 1 1 [.int .i64 p.day, .string p.case] rfl (rowNewPad _ _ _ _) (by simp [Value.oneCell']) (by unfold maxLen; omega) (by omega) (by simp; omega) ?_; intro v2 w5 hown2 hg2 hat2; have b5 := (b4.alloc z4 _).grown hg2 (by simp; omega) (fun q hq => own_base HO1.out hq); have HO2 := Lib.hid hown2; have z5 := b5.size; clear hown2 hg2 hat2)
            | (at_builtin; refine wpList_append_any _ rfl (.tmp 31) (.tmp 34) _ rfl w.heap.size 26 i0 _ 2 24 Try.underlying49 hi hz0 hz1 hz2 rfl (by omega) v2 (k + 1) _ rfl HO2.out w.heap.size (some ⟨b, off, none⟩) 0 0 [] rfl Row.empty (by simp) (by unfold maxLen; omega) (by omega) (by omega) ?_; intro v3 w6 hown3 hg3 hat3; have b6 := b5.grown hg3 z5 (fun q hq => own_base HO2.out hq); have HO3 := Lib.hid hown3; clear hown3 hg3 hat3))
          go_ret
          exact ⟨.of rfl (by rw [HI.out]; exact hE.out _ _ _ HO3.out), b6⟩
end Go.Proofs.Ytbeaandjhlpaeaa
