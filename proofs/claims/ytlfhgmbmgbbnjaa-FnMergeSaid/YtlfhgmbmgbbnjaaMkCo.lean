/-
  A copy of a mark, of the reference. Conditions: the mark's words lie in memory; Go's own sizes.
-/
import Derived.Test.YtlfhgmbmgbbnjaaMkI
namespace Go.Proofs.Ytlfhgmbmgbbnjaa
open Go.ChangeShapes Go.WideShapes Go.ChangeAt Go.RowKit
set_option maxRecDepth 100000
set_option linter.unusedSimpArgs false
set_option linter.unusedVariables false

/-- Words appended to a new row. -/
theorem copyRun (V : World) (A : Option Addr) (n c : Nat) (ws : List Wd) (hn : n ≤ 1048576) (h : WdsIn V V.heap.size A n c ws) :
    ∃ g c1 w1, (appZ #[22, 22] 22 #[.slice (some ⟨V.heap.size, 0, none⟩) 0 0, .slice A n c]).run Try.prog (V.alloc (.cells #[] 9)) = .ok (.slice (some ⟨g, 0, none⟩) n c1) w1 ∧ w1.ownsRow V.heap.size 9 1 (.slice (some ⟨g, 0, none⟩) n c1) n (ws.map strP) ∧ V.heap.size ≤ g ∧ Below V.heap.size V w1 := by
  obtain ⟨i0, hi, hz0, hz1, hz2⟩ := info_parts infoWd
  have hb : Below V.heap.size V (V.alloc (.cells #[] 9)) := (Below.refl _ _).alloc (Nat.le_refl _) _
  have hk := h.keep hb
  obtain ⟨v', w', hrun, ho, hg, hat⟩ := run_append_any (P := Try.prog) (w := V.alloc (.cells #[] 9)) V.heap.size 22 22 9 i0 _ 1 16 Try.underlying22 hi hz0 hz1 hz2 rfl (by omega) (.slice (some ⟨V.heap.size, 0, none⟩) 0 0) 0 [] (World.ownsRow_made V #[] 0 (Nat.le_refl _) (by simp) (by simp)) (V.alloc (.cells #[] 9)).heap.size A n c (ws.map strP) hk.2.2.2 (strP_one ws) (by unfold maxLen; omega) (by omega) (by simp)
  rw [Nat.zero_add, List.nil_append] at ho
  have hob : ∃ g, v'.ownBlock = some g ∧ V.heap.size ≤ g := by
    rcases hat with e | e
    · exact ⟨_, e, Nat.le_refl _⟩
    · exact ⟨_, e, by simp⟩
  obtain ⟨g, hg1, hg2⟩ := hob
  have hB : Below V.heap.size V w' := hb.grown hg hb.size (fun q hq => by have h2 : some V.heap.size = some q := hq; injection h2 with h2; omega)
  rcases ho.2 with ⟨e, _⟩ | ⟨g', cap, cur, rfl, _⟩
  · rw [e] at hg1; cases hg1
  · injection hg1 with hg1
    have hg3 : g' = g := hg1
    subst hg3
    exact ⟨g', cap, w', hrun, ho, hg2, hB⟩
attribute [local go_sem ↓] appZ_eq
set_option maxHeartbeats 1600000 in
theorem specL7Copy (x : Mr) (w : World) (hn : x.n ≤ 1048576) (hx : MrIn w w.heap.size x) :
    Calls Try.prog 36 #[.agg #[.int .i64 (x.at_ : Int), .int .i64 (x.cut : Int), .slice x.A x.n x.c]] w fun e w' => MkOf w w' x.at_ x.cut x.n x.put e := by
  obtain ⟨W0, hW0⟩ : ∃ W0, W0 = ((w.alloc (.cells #[.int .i64 (x.at_ : Int), .int .i64 (x.cut : Int), .slice x.A x.n x.c] 37)).alloc (.cells #[.int .i64 0, .int .i64 0, .slice none 0 0] 37)).drew := ⟨_, rfl⟩
  have hz : W0.heap.size = w.heap.size + 2 := by rw [hW0]; simp
  have hb0 : Below w.heap.size w W0 := by rw [hW0]; exact (((Below.refl _ _).alloc (Nat.le_refl _) _).alloc (by simp) _).drew
  obtain ⟨g1, c1, w1, hrun, ho, hg1, hb1⟩ := copyRun W0 x.A x.n x.c x.put hn (WdsIn.keep hx hb0)
  have hc : ∀ W, Below W0.heap.size W0 W → ((W.cell? ⟨w.heap.size + 1, 0, none⟩ = some (.int .i64 0) ∧ W.frozen? ⟨w.heap.size + 1, 0, none⟩ = false) ∧ (W.cell? ⟨w.heap.size + 1, 1, none⟩ = some (.int .i64 0) ∧ W.frozen? ⟨w.heap.size + 1, 1, none⟩ = false) ∧ (W.cell? ⟨w.heap.size + 1, 2, none⟩ = some (.slice none 0 0) ∧ W.frozen? ⟨w.heap.size + 1, 2, none⟩ = false) ∧ W.cell? ⟨w.heap.size, 0, none⟩ = some (.int .i64 (x.at_ : Int)) ∧ W.cell? ⟨w.heap.size, 1, none⟩ = some (.int .i64 (x.cut : Int)) ∧ W.cell? ⟨w.heap.size, 2, none⟩ = some (.slice x.A x.n x.c)) := fun W hW => by
    have h1 : Below ((w.alloc (.cells #[.int .i64 (x.at_ : Int), .int .i64 (x.cut : Int), .slice x.A x.n x.c] 37)).alloc (.cells #[.int .i64 0, .int .i64 0, .slice none 0 0] 37)).heap.size ((w.alloc (.cells #[.int .i64 (x.at_ : Int), .int .i64 (x.cut : Int), .slice x.A x.n x.c] 37)).alloc (.cells #[.int .i64 0, .int .i64 0, .slice none 0 0] 37)) W := by
      have h3 : Below W0.heap.size ((w.alloc (.cells #[.int .i64 (x.at_ : Int), .int .i64 (x.cut : Int), .slice x.A x.n x.c] 37)).alloc (.cells #[.int .i64 0, .int .i64 0, .slice none 0 0] 37)) W0 := by rw [hW0]; exact (Below.refl _ _).drew
      have h4 := h3.trans hW
      rw [hz] at h4
      simpa using h4
    have h2 : Below (w.alloc (.cells #[.int .i64 (x.at_ : Int), .int .i64 (x.cut : Int), .slice x.A x.n x.c] 37)).heap.size (w.alloc (.cells #[.int .i64 (x.at_ : Int), .int .i64 (x.cut : Int), .slice x.A x.n x.c] 37)) W := ((Below.refl _ _).alloc (Nat.le_refl _) _).trans (h1.mono (by simp))
    have k0 := newKeep (w.alloc _) _ _ h1 0 _ rfl
    have k1 := newKeep (w.alloc _) _ _ h1 1 _ rfl
    have k2 := newKeep (w.alloc _) _ _ h1 2 _ rfl
    simp only [World.size_alloc] at k0 k1 k2
    exact ⟨k0, k1, k2, (newKeep w _ _ h2 0 _ rfl).1, (newKeep w _ _ h2 1 _ rfl).1, (newKeep w _ _ h2 2 _ rfl).1⟩
  obtain ⟨⟨v0, vf0⟩, ⟨v1, vf1⟩, ⟨v2, vf2⟩, y0, y1, y2⟩ := hc w1 hb1
  obtain ⟨q0, q1, q2⟩ := set3_cells (u0 := .int .i64 (x.at_ : Int)) (u1 := .int .i64 (x.cut : Int)) (u2 := .slice (some ⟨g1, 0, none⟩) x.n c1) v0 v1 v2
  have HM := Lib.hid (MkOf.set3 (a := x.at_) (k := x.cut) ho hg1 (by omega) hb0 hb1 hx.1)
  have hrun2 : (appZ #[22, 22] 22 #[.slice (some ⟨w.heap.size + 2, 0, none⟩) 0 0, .slice x.A x.n x.c]).run Try.prog ((((w.alloc (.cells #[.int .i64 (x.at_ : Int), .int .i64 (x.cut : Int), .slice x.A x.n x.c] 37)).alloc (.cells #[.int .i64 0, .int .i64 0, .slice none 0 0] 37)).alloc (.cells #[] 9)).drew) = .ok (.slice (some ⟨g1, 0, none⟩) x.n c1) w1 := by
    rw [hz, hW0] at hrun; exact hrun
  clear hrun hW0 hb0 hc hb1 ho hg1 hz hx
  go_enter Try.func36, Try.ntmps36
  go_wp2_with fail
  go_region
  all_goals

    go_wp2
    refine bodyPost_ret (v := .agg #[.int .i64 (x.at_ : Int), .int .i64 (x.cut : Int), .slice (some ⟨g1, 0, none⟩) x.n c1]) (by simp [results, Try.results36, go_sem, q0, q1, q2]) rfl HM.out
end Go.Proofs.Ytlfhgmbmgbbnjaa
