/-
  l91Outline draws an outline of at most so many strokes. Conditions: as for pick.
-/
import Derived.Test.YtppjjbjjbmodbaaDrawS3
namespace Go.Proofs.Ytppjjbjjbmodbaa
open Go.ChangeShapes Go.WideShapes Go.ChangeAt Go.RowKit
set_option maxRecDepth 100000

/-- What l91Outline answers. -/
def DrawnOut (B g lim most : Nat) (w : World) (e : Ending) (w' : World) : Prop :=
  ∃ N v, N ≤ most ∧ e = .returned v ∧ SmOwn w' w.heap.size N v ∧ w.grownBy w' (some g) ∧ RdIn w' B g (lim + 100)
theorem steps6 {m : Nat} (hm : m < 6) : ∃ x : Int, (#[.int .i64 1, .int .i64 2, .int .i64 3, .int .i64 5, .int .i64 6, .int .i64 7] : Array Value)[m]? = some (.int .i64 x) ∧ 0 ≤ x ∧ x ≤ 7 := by
  match m, hm with
  | 0, _ => exact ⟨1, rfl, by omega, by omega⟩
  | 1, _ => exact ⟨2, rfl, by omega, by omega⟩
  | 2, _ => exact ⟨3, rfl, by omega, by omega⟩
  | 3, _ => exact ⟨5, rfl, by omega, by omega⟩
  | 4, _ => exact ⟨6, rfl, by omega, by omega⟩
  | 5, _ => exact ⟨7, rfl, by omega, by omega⟩

set_option maxHeartbeats 1600000 in
theorem l91Outline (g B lim most : Nat) (w : World) (hl : lim ≤ 800000000) (hmo : most ≤ 9) (hr : RdIn w B g lim) (hBw : B ≤ w.heap.size) :
    Calls Try.prog 86 #[.pointer (some ⟨g, 0, none⟩), .int .i64 most] w (DrawnOut B g lim most w) := by
  obtain ⟨i0, hi, hz0, hz1, hz2⟩ := info_parts infoSt
  have hg0 := hr.lt
  go_enter Try.func86, Try.ntmps86
  go_wp2_with fail
  refine (pickR (n := (most : Int) + 1) (hr.alloc' _) (by omega) (by omega) (by omega)).mono ?_
  rintro e w1 ⟨N, rfl, hN', hg1, hr1⟩
  have hN : N ≤ most := by omega
  clear hN'
  have G1 : w.grownBy w1 (some g) := only_next (World.grownBy_alloc w _ _) hg1
  have hO1 : SmOwn w1 w.heap.size 0 (.slice (some ⟨w.heap.size, 0, none⟩) 0 0) := SmOwn.only ⟨[], rfl, StrOwn.made w, by simp⟩ hg1 hg0
  go_wp2_with fail
  refine (pickR (n := 8) hr1 (by omega) (by omega) (by omega)).mono ?_
  rintro e w2 ⟨dir, rfl, hdir, hg2, hr2⟩
  have HG := Lib.hid (only_next G1 hg2); have HR := Lib.hid hr2; have HO := Lib.hid (hO1.only hg2 hg0)
  clear G1 hr1 hO1 hg1 hr hg2 hr2
  go_wp2
  go_loopw [5, 7, 8] (fun v d i wr => ∃ (k : Nat) (dd : Int), k ≤ N ∧ i = .int .i64 k ∧ d = .int .i64 dd ∧ 0 ≤ dd ∧ dd ≤ 7 ∧ Hid (SmOwn wr w.heap.size k v) ∧ Hid (w.grownBy wr (some g)) ∧ Hid (RdIn wr B g (lim + 2 + 2 * k))) (fun _ _ i _ => N - (intOf i).toNat)
  case atStart => exact ⟨0, dir, Nat.zero_le _, rfl, rfl, by omega, by omega, HO, HG, HR⟩
  case round =>
    obtain ⟨k, dd, hk, rfl, rfl, hd0, hd1, hO, hG, hR⟩ := hrel
    by_cases hlt : k < N
    · have hz := hG.out.size
      have HP := Lib.hid (pickR (n := 3) hR.out (by omega) (by omega) (by omega))
      go_wp2_with fail
      refine HP.out.mono ?_
      rintro e w3 ⟨m3, rfl, hm3, hg3, hr3⟩
      have HG3 := Lib.hid (only_next hG.out hg3)
      have hz3 := HG3.out.size
      have HR3 := Lib.hid hr3
      obtain ⟨ps, hpl, hPO, hPS⟩ := hO.out.only hg3 hg0
      have HPO := Lib.hid hPO; have HPS := Lib.hid hPS; have HPL := Lib.hid hpl
      have hpk : ps.length ≤ 9 := by omega
      clear hPO hPS hpl hg3 hr3 HP
      go_wp2_with (at_builtin; refine wpList_append_any _ rfl (.tmp 21) (.tmp 27) _ rfl w.heap.size 99 i0 _ 2 16 Try.underlying33 hi hz0 hz1 hz2 rfl (by omega) _ ps.length (ps.flatMap stC) rfl (HPO.out.alloc _) (w3.heap.size + 1) (some ⟨w3.heap.size, 0, none⟩) 1 1 [.int .i64 dd, .int .i64 (1 + m3)] rfl (rowNewSt _ _ _ _) (by simp [Value.oneCell']) (by unfold maxLen; omega) (by omega) (by simp; omega) ?_; intro v4 w4 hown4 hg4 hat4)
      have hs3 : SmallS ⟨dd, 1 + m3⟩ := by unfold SmallS; dsimp; omega
      have HO4 : Hid (SmOwn w4 w.heap.size (k + 1) v4) := Lib.hid ⟨ps ++ [⟨dd, 1 + m3⟩], by rw [List.length_append, HPL.out]; rfl, by unfold StrOwn; rw [List.length_append, List.flatMap_append]; exact hown4, fun s hs => by
        rcases List.mem_append.1 hs with h | h
        · exact HPS.out s h
        · simp at h; subst h; exact hs3⟩
      have HG4 := Lib.hid (own_after' (only_next HG3.out (World.grownBy_alloc w3 _ _)) hg4 (fun q hq => ownG_base HPO.out hq))
      have HR4 : Hid (RdIn w4 B g (lim + 2 + 2 * k + 1)) := Lib.hid ((HR3.out.alloc' _).far hg4 (fun q hq => by have := ownG_base HPO.out hq; exact ⟨by omega, by omega⟩) (by simp; omega))
      clear hown4 hg4 hat4 HPO HPS HG3 HR3 hO hG hR
      have HP := Lib.hid (fun o => pickR (n := 6) (HR4.out.alloc' o) (by omega) (by omega) (by omega))
      have hz4 := HG4.out.size
      go_wp2_with fail
      refine (HP.out _).mono ?_
      rintro e w5 ⟨m5, rfl, hm5, hg5, hr5⟩
      have hm5' : m5 < 6 := by omega
      obtain ⟨x, hx, hx0, hx1⟩ := steps6 hm5'
      have K5 := (Blk.new w4 _ _).only hg5 (by omega)
      have hx5 := (K5.cell m5).trans hx
      have HG5 := Lib.hid (only_next (only_alloc HG4.out _) hg5)
      have HO5 := Lib.hid ((show SmOwn (w4.alloc _) w.heap.size (k + 1) v4 from by obtain ⟨ss, h1, h2, h3⟩ := HO4.out; exact ⟨ss, h1, ownG_keep h2 ((Below.refl _ _).alloc (Nat.le_refl _) _), h3⟩).only hg5 hg0)
      have HR5 : Hid (RdIn w5 B g (lim + 2 + 2 * (k + 1))) := Lib.hid hr5
      clear hg5 hr5 K5 hx HG4 HO4 HR4 HP hm5
      go_wp2
      go_roundw
      case rel => exact ⟨k + 1, _, by omega, by go_num, rfl, Int.emod_nonneg _ (by omega), by have := Int.emod_lt_of_pos (dd + x) (show (0 : Int) < 8 by omega); omega, HO5, HG5, HR5⟩
      case measure => simp [intOf]; omega
    · obtain rfl : k = N := by omega
      clear hlt
      have hz := hG.out.size
      have HR1 := Lib.hid (hR.out.more (show lim + 2 + 2 * k ≤ lim + 50 by omega))
      by_cases hk0 : k = 0
      · subst hk0
        have HR2 := Lib.hid (HR1.out.more (show lim + 50 ≤ lim + 100 by omega))
        go_wp2
        go_returns
        exact ⟨0, _, Nat.zero_le _, rfl, hO.out, hG.out, HR2.out⟩
      · have hk1 : 0 < k := by omega
        obtain ⟨gb, cap, rfl, hgb, hkc, hcm⟩ := hO.out.some_ hk1
        have HP := Lib.hid (pickR (n := 40) HR1.out (by omega) (by omega) (by omega))
        go_wp2_with fail
        refine HP.out.mono ?_
        rintro e w3 ⟨m3, rfl, hm3, hg3, hr3⟩
        have HG3 := Lib.hid (only_next hG.out hg3)
        have hz3 := HG3.out.size
        have HR3 := Lib.hid hr3
        have HO3 := Lib.hid (hO.out.only hg3 hg0)
        clear hg3 hr3 HP hO hG hR HR1
        obtain ⟨M, rfl⟩ : ∃ M, k = M + 1 := ⟨k - 1, by omega⟩
        by_cases h0 : m3 = 0
        · subst h0
          have HS := Lib.hid (l91Stroke g B (lim + 50 + 1) w3 (by omega) HR3.out (by omega))
          go_wp2_with fail
          refine HS.out.mono ?_
          rintro e w4 ⟨d, z, rfl, hs, hg4, hr4⟩
          unfold SmallS at hs
          dsimp only at hs
          have hO4 := HO3.out.only hg4 hg0
          obtain ⟨d0, z0, c0, c1, f0, f1, _⟩ := hO4.cells (k := 0) rfl hk1
          rw [show 0 * 2 = 0 from rfl] at c0 f0 c1 f1
          have HO5 := Lib.hid (show SmOwn ((w4.setCell ⟨gb, 0, none⟩ (.int .i64 d)).setCell ⟨gb, 1, none⟩ (.int .i64 z)) w.heap.size (M + 1) (.slice (some ⟨gb, 0, none⟩) (M + 1) cap) from (hO4.set0 (k := 0) rfl hk1 ⟨hs.1, hs.2.1⟩).set1 (k := 0) rfl hk1 ⟨hs.2.2.1, hs.2.2.2⟩)
          have HG5 := Lib.hid (only_setCell (only_setCell (only_next HG3.out hg4) (p := ⟨gb, 0, none⟩) (.inr hgb) (.int .i64 d)) (p := ⟨gb, 1, none⟩) (.inr hgb) (.int .i64 z))
          have HR5 := Lib.hid (((hr4.set' (p := ⟨gb, 0, none⟩) (by simp; omega) (by simp; omega) (.int .i64 d)).set' (p := ⟨gb, 1, none⟩) (by simp; omega) (by simp; omega) (.int .i64 z)).more (show lim + 50 + 1 + 3 ≤ lim + 100 by omega))
          clear hO4 hg4 hr4 HS HG3 HR3 HO3 hs
          go_wp2
          go_returns
          exact ⟨M + 1, _, hN, rfl, HO5.out, HG5.out, HR5.out⟩
        have e0 : ((m3 : Int) == 0) = false := by simpa using h0
        by_cases h1 : m3 = 1
        · subst h1
          have hO4 := HO3.out
          obtain ⟨d0, z0, c0, c1, f0, f1, hd00, hd01, _⟩ := hO4.cells (k := 0) rfl hk1
          obtain ⟨dM, zM, cM, cM1, fM, fM1, _⟩ := hO4.cells (k := M) rfl (Nat.lt_succ_self M)
          rw [show 0 * 2 = 0 from rfl] at c0 f0 c1 f1
          have HO5 := Lib.hid (hO4.set0 (k := M) (a := d0) rfl (Nat.lt_succ_self M) ⟨hd00, hd01⟩)
          have HG5 := Lib.hid (only_setCell HG3.out (p := ⟨gb, M * 2, none⟩) (.inr hgb) (.int .i64 d0))
          have HR5 := Lib.hid ((HR3.out.set' (p := ⟨gb, M * 2, none⟩) (by simp; omega) (by simp; omega) (.int .i64 d0)).more (show lim + 50 + 1 ≤ lim + 100 by omega))
          clear hO4 HG3 HR3 HO3
          go_wp2
          go_returns
          exact ⟨M + 1, _, hN, rfl, HO5.out, HG5.out, HR5.out⟩
        have e1 : ((m3 : Int) == 1) = false := by simp; omega
        by_cases h2 : m3 = 2
        · subst h2
          have hO4 := HO3.out
          obtain ⟨dM, zM, cM, cM1, fM, fM1, _⟩ := hO4.cells (k := M) rfl (Nat.lt_succ_self M)
          have HO5 := Lib.hid (hO4.set1 (k := M) (a := 4) rfl (Nat.lt_succ_self M) ⟨by omega, by omega⟩)
          have HG5 := Lib.hid (only_setCell HG3.out (p := ⟨gb, M * 2 + 1, none⟩) (.inr hgb) (.int .i64 4))
          have HR5 := Lib.hid ((HR3.out.set' (p := ⟨gb, M * 2 + 1, none⟩) (by simp; omega) (by simp; omega) (.int .i64 4)).more (show lim + 50 + 1 ≤ lim + 100 by omega))
          clear hO4 HG3 HR3 HO3
          go_wp2
          go_returns
          exact ⟨M + 1, _, hN, rfl, HO5.out, HG5.out, HR5.out⟩
        have e2 : ((m3 : Int) == 2) = false := by simp; omega
        have HR5 := Lib.hid (HR3.out.more (show lim + 50 + 1 ≤ lim + 100 by omega))
        clear HR3
        go_wp2
        go_returns
        exact ⟨M + 1, _, hN, rfl, HO3.out, HG3.out, HR5.out⟩
end Go.Proofs.Ytppjjbjjbmodbaa
