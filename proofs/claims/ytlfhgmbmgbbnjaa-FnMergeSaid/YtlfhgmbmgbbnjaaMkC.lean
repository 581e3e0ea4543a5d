/-
  A mark by its change: changeOf, the marks of the three kinds, slices.Clone of words. Conditions: Go's own bounds on sizes.
-/
import Derived.Test.YtlfhgmbmgbbnjaaFar
import Derived.Test.YtlfhgmbmgbbnjaaMkMem
import Derived.Deep.DeepCutAuto
import Derived.Deep.Cut
import Derived.Deep.CutRange
import Derived.BigQuiet
import Derived.Handy
import Derived.Deep.RegionLaw
namespace Go.Proofs.Ytlfhgmbmgbbnjaa
open Go.ChangeShapes Go.WideShapes Go.ChangeAt Go.RowKit
set_option maxRecDepth 100000
set_option linter.unusedSimpArgs false

theorem strP_one (ws : List Wd) : ∀ v ∈ ws.map strP, v.oneCell' = true := by
  intro v hv
  obtain ⟨l, _, rfl⟩ := List.mem_map.1 hv
  rfl
/-- slices.Clone of words that are some. -/
theorem cloneWd1 (A : Option Addr) (n c : Nat) (ws : List Wd) (w : World) (hn1 : 1 ≤ n) (hn : n ≤ 1048576) (h : WdsIn w w.heap.size A n c ws) :
    Calls Try.prog 80 #[.slice A n c] w fun e w' => ∃ g c', e = .returned (.slice (some ⟨g, 0, none⟩) n c') ∧ w'.ownsRow w.heap.size 9 1 (.slice (some ⟨g, 0, none⟩) n c') n (ws.map strP) ∧ w.heap.size ≤ g ∧ Below w.heap.size w w' := by
  have HL := Lib.hid h.1
  have HR := Lib.hid h.2.2.2
  obtain ⟨b, off, rfl, hb, _⟩ := h.2.2.2.2 hn1
  obtain ⟨i0, hi, hz0, hz1, hz2⟩ := info_parts infoWd
  clear h
  have hE : ∀ W, (binOp .eql 22 (.slice (some ⟨b, off, none⟩) n c) (.slice none 0 0)).run Try.prog W = .ok (.bool false) W := fun W => Lib.run_eql_slice_nil (P := Try.prog) W _ 9 (some ⟨b, off, none⟩) n c 0 0 Try.underlying22
  go_enter Try.func80, Try.ntmps80
  go_wp2_with (at_builtin; refine wpList_append_any _ rfl (.tmp 5) (.tmp 6) _ rfl w.heap.size 9 i0 _ 1 16 Try.underlying22 hi hz0 hz1 hz2 rfl (by omega) (.slice (some ⟨w.heap.size, 0, none⟩) 0 0) 0 [] rfl (World.ownsRow_made w _ 0 (Nat.le_refl _) (by simp) (by simp)) w.heap.size (some ⟨b, off, none⟩) n c (ws.map strP) rfl (HR.out.below ((Below.refl _ _).alloc (Nat.le_refl _) _)) (strP_one ws) (by unfold maxLen; omega) (by omega) (by simp) ?_; intro v1 w1 hown1 hg1 hat1)
  have b0 : Below w.heap.size w (w.alloc (Obj.cells #[] 9)) := (Below.refl _ _).alloc (Nat.le_refl _) _
  have hg1' : (w.alloc (Obj.cells #[] 9)).grownBy w1 (some w.heap.size) := hg1
  have b1 : Below w.heap.size w w1 := b0.grown hg1' b0.size (fun q hq => by injection hq with hq; omega)
  simp only [Nat.zero_add, List.nil_append] at hown1
  go_wp2
  go_ret
  rcases hown1.2 with ⟨_, h⟩ | ⟨g, cap, cur, rfl, hg, _⟩
  · omega
  · exact ⟨g, cap, rfl, hown1, hg, b1⟩
theorem WdsIn.zero (w : World) (B : Nat) (A : Option Addr) (c : Nat) (hc : c ≤ maxLen) : WdsIn w B A 0 c [] := ⟨rfl, Nat.zero_le _, hc, ⟨rfl, fun h => absurd h (by omega)⟩⟩
/-- A mark's change. -/
def chV (a k : Nat) (A : Option Addr) (n c : Nat) : Value :=
  if n = 0 then .iface 75 (.agg #[.int .i64 (a : Int), .int .i64 (k : Int)])
  else if k = 0 then .iface 77 (.agg #[.int .i64 (a : Int), .slice A n c])
  else .iface 79 (.agg #[.int .i64 (a : Int), .int .i64 (k : Int), .slice A n c])
theorem changeOf (a k : Nat) (A : Option Addr) (n c : Nat) (w : World) (hn : n ≤ maxLen) :
    Calls Try.prog 30 #[.agg #[.int .i64 (a : Int), .int .i64 (k : Int), .slice A n c]] w fun e w' => e = .returned (chV a k A n c) ∧ Below w.heap.size w w' := by
  have hal : Below w.heap.size w (w.alloc (.cells #[.int .i64 (a : Int), .int .i64 (k : Int), .slice A n c] 37)) := (Below.refl _ _).alloc (Nat.le_refl _) _
  unfold maxLen at hn
  unfold chV
  by_cases h0 : n = 0
  · rw [if_pos h0]
    subst h0
    go_enter Try.func30, Try.ntmps30
    go_wp2
    go_returns
    exact ⟨rfl, hal⟩
  · rw [if_neg h0]
    by_cases h1 : k = 0
    · rw [if_pos h1]
      subst h1
      go_enter Try.func30, Try.ntmps30
      go_wp2
      go_returns
      exact ⟨rfl, hal⟩
    · rw [if_neg h1]
      go_enter Try.func30, Try.ntmps30
      go_wp2
      go_returns
      exact ⟨rfl, hal⟩
/-- What a mark answers. -/
def MkOf (w w' : World) (a k n : Nat) (ws : List Wd) (e : Ending) : Prop :=
  ∃ A' c', e = .returned (.agg #[.int .i64 (a : Int), .int .i64 (k : Int), .slice A' n c']) ∧ WdsIn w' w'.heap.size A' n c' ws ∧ (0 < n → ∀ p, A' = some p → w.heap.size ≤ p.block ∧ p.block < w'.heap.size) ∧ Below w.heap.size w w'
theorem leavingMark (a k : Nat) (w : World) : Calls Try.prog 78 #[.agg #[.int .i64 (a : Int), .int .i64 (k : Int)]] w fun e w' => MkOf w w' a k 0 [] e := by
  go_enter Try.func78, Try.ntmps78
  go_wp2
  go_returns
  exact ⟨_, _, rfl, WdsIn.zero _ _ _ _ (by unfold maxLen; omega), fun h => absurd h (by omega), by go_grown⟩
/-- New cells are kept, and may be stored to. -/
theorem newKeep (w : World) (xs : Array Value) (t : TypeId) {W : World} (hb : Below (w.alloc (.cells xs t)).heap.size (w.alloc (.cells xs t)) W) (j : Nat) (v : Value) (hj : xs[j]? = some v) :
    W.cell? ⟨w.heap.size, j, none⟩ = some v ∧ W.frozen? ⟨w.heap.size, j, none⟩ = false := by
  have h1 := newcell w xs t j v hj
  have h2 : (w.alloc (.cells xs t)).frozen? ⟨w.heap.size, j, none⟩ = false := World.frozen?_alloc_new w xs t j
  exact ⟨kcell hb h1, kfree hb h1 h2⟩
theorem MkOf.set3 {w w0 w1 : World} {a k n g1 c1 : Nat} {ws : List Wd} (hO : w1.ownsRow w0.heap.size 9 1 (.slice (some ⟨g1, 0, none⟩) n c1) n (ws.map strP)) (hg : w0.heap.size ≤ g1) (h0 : w.heap.size + 2 ≤ w0.heap.size) (hb0 : Below w.heap.size w w0) (hb1 : Below w0.heap.size w0 w1) (hl : ws.length = n) :
    MkOf w (((w1.setCell ⟨w.heap.size + 1, 0, none⟩ (.int .i64 (a : Int))).setCell ⟨w.heap.size + 1, 1, none⟩ (.int .i64 (k : Int))).setCell ⟨w.heap.size + 1, 2, none⟩ (.slice (some ⟨g1, 0, none⟩) n c1)) a k n ws (.returned (.agg #[.int .i64 (a : Int), .int .i64 (k : Int), .slice (some ⟨g1, 0, none⟩) n c1])) := by
  obtain ⟨A2, c2, e, hc, hm⟩ := ownG_form hO
  injection e with e1 e2 e3
  subst e1 e3
  have hI : WdsIn w1 w1.heap.size (some ⟨g1, 0, none⟩) n c1 ws := ⟨hl, hc, hm, Row.of_own hO⟩
  have hgt := ownG_lt hO rfl
  have s1 := only_set1 w1 (w.heap.size + 1) 0 (.int .i64 (a : Int))
  have s2 := only_set1 (w1.setCell ⟨w.heap.size + 1, 0, none⟩ (.int .i64 (a : Int))) (w.heap.size + 1) 1 (.int .i64 (k : Int))
  have s3 := only_set1 ((w1.setCell ⟨w.heap.size + 1, 0, none⟩ (.int .i64 (a : Int))).setCell ⟨w.heap.size + 1, 1, none⟩ (.int .i64 (k : Int))) (w.heap.size + 1) 2 (.slice (some ⟨g1, 0, none⟩) n c1)
  have hne : 0 < n → ∀ p : Addr, some (⟨g1, 0, none⟩ : Addr) = some p → some (w.heap.size + 1) ≠ some p.block := fun _ p hp e => by
    injection hp with hp; injection e with e
    rw [← hp] at e; simp at e; omega
  refine ⟨_, _, rfl, WdsIn.grown (WdsIn.grown (WdsIn.grown hI s1 hne) s2 hne) s3 hne, fun _ p hp => ?_, ?_⟩
  · injection hp with hp
    rw [← hp]
    have : w1.heap.size = (((w1.setCell ⟨w.heap.size + 1, 0, none⟩ (.int .i64 (a : Int))).setCell ⟨w.heap.size + 1, 1, none⟩ (.int .i64 (k : Int))).setCell ⟨w.heap.size + 1, 2, none⟩ (.slice (some ⟨g1, 0, none⟩) n c1)).heap.size := by simp
    exact ⟨by show w.heap.size ≤ g1; omega, by rw [← this]; exact hgt⟩
  · have b1 : Below w.heap.size w w1 := below_next hb0 hb1
    have hz := b1.size
    have b2 := b1.grown s1 hz (fun q hq => by injection hq with hq; omega)
    have b3 := b2.grown s2 b2.size (fun q hq => by injection hq with hq; omega)
    exact b3.grown s3 b3.size (fun q hq => by injection hq with hq; omega)
theorem set3_cells {w : World} {g : Nat} {u0 u1 u2 v0 v1 v2 : Value} (h0 : w.cell? ⟨g, 0, none⟩ = some v0) (h1 : w.cell? ⟨g, 1, none⟩ = some v1) (h2 : w.cell? ⟨g, 2, none⟩ = some v2) :
    (w.setCell ⟨g, 0, none⟩ u0).cell? ⟨g, 0, none⟩ = some u0 ∧ ((w.setCell ⟨g, 0, none⟩ u0).setCell ⟨g, 1, none⟩ u1).cell? ⟨g, 1, none⟩ = some u1 ∧ (((w.setCell ⟨g, 0, none⟩ u0).setCell ⟨g, 1, none⟩ u1).setCell ⟨g, 2, none⟩ u2).cell? ⟨g, 2, none⟩ = some u2 := by
  have a0 : (w.setCell ⟨g, 0, none⟩ u0).cell? ⟨g, 0, none⟩ = some u0 := World.cell?_setCell_same _ _ _ h0
  have a1 : (w.setCell ⟨g, 0, none⟩ u0).cell? ⟨g, 1, none⟩ = some v1 := (World.cell?_setCell_other _ _ _ _ (by simp)).trans h1
  have a2 : (w.setCell ⟨g, 0, none⟩ u0).cell? ⟨g, 2, none⟩ = some v2 := (World.cell?_setCell_other _ _ _ _ (by simp)).trans h2
  have b2 : ((w.setCell ⟨g, 0, none⟩ u0).setCell ⟨g, 1, none⟩ u1).cell? ⟨g, 2, none⟩ = some v2 := (World.cell?_setCell_other _ _ _ _ (by simp)).trans a2
  exact ⟨a0, World.cell?_setCell_same _ _ _ a1, World.cell?_setCell_same _ _ _ b2⟩
theorem puttingMark (a : Nat) (A : Option Addr) (n c : Nat) (ws : List Wd) (w : World) (hn1 : 1 ≤ n) (hn : n ≤ 1048576) (h : WdsIn w w.heap.size A n c ws) :
    Calls Try.prog 79 #[.agg #[.int .i64 (a : Int), .slice A n c]] w fun e w' => MkOf w w' a 0 n ws e := by
  have HC : Hid (∀ W, Below w.heap.size w W → Calls Try.prog 80 #[.slice A n c] W fun e w' => ∃ g c', e = .returned (.slice (some ⟨g, 0, none⟩) n c') ∧ w'.ownsRow W.heap.size 9 1 (.slice (some ⟨g, 0, none⟩) n c') n (ws.map strP) ∧ W.heap.size ≤ g ∧ Below W.heap.size W w') := Lib.hid (fun W hW => cloneWd1 A n c ws W hn1 hn (h.keep hW))
  have HL := Lib.hid h.1
  have HK : Hid (∀ W, Below (w.heap.size + 2) ((w.alloc (.cells #[.int .i64 (a : Int), .slice A n c] 77)).alloc (.cells #[.int .i64 0, .int .i64 0, .slice none 0 0] 37)).drew W → 
    (W.cell? ⟨w.heap.size + 1, 0, none⟩ = some (.int .i64 0) ∧ W.frozen? ⟨w.heap.size + 1, 0, none⟩ = false) ∧ (W.cell? ⟨w.heap.size + 1, 1, none⟩ = some (.int .i64 0) ∧ W.frozen? ⟨w.heap.size + 1, 1, none⟩ = false) ∧ (W.cell? ⟨w.heap.size + 1, 2, none⟩ = some (.slice none 0 0) ∧ W.frozen? ⟨w.heap.size + 1, 2, none⟩ = false) ∧
    W.cell? ⟨w.heap.size, 0, none⟩ = some (.int .i64 (a : Int)) ∧ W.cell? ⟨w.heap.size, 1, none⟩ = some (.slice A n c)) := Lib.hid (fun W hW => by
      have h1 : Below ((w.alloc (.cells #[.int .i64 (a : Int), .slice A n c] 77)).alloc (.cells #[.int .i64 0, .int .i64 0, .slice none 0 0] 37)).heap.size ((w.alloc (.cells #[.int .i64 (a : Int), .slice A n c] 77)).alloc (.cells #[.int .i64 0, .int .i64 0, .slice none 0 0] 37)) W := by
        have := ((Below.refl (w.heap.size + 2) _).drew).trans hW
        simpa using this
      have h2 : Below (w.alloc (.cells #[.int .i64 (a : Int), .slice A n c] 77)).heap.size (w.alloc (.cells #[.int .i64 (a : Int), .slice A n c] 77)) W := ((Below.refl _ _).alloc (Nat.le_refl _) _).trans (h1.mono (by simp))
      have k0 := newKeep (w.alloc _) _ _ h1 0 _ rfl
      have k1 := newKeep (w.alloc _) _ _ h1 1 _ rfl
      have k2 := newKeep (w.alloc _) _ _ h1 2 _ rfl
      simp only [World.size_alloc] at k0 k1 k2
      exact ⟨k0, k1, k2, (newKeep w _ _ h2 0 _ rfl).1, (newKeep w _ _ h2 1 _ rfl).1⟩)
  clear h
  go_enter Try.func79, Try.ntmps79
  go_wp2_with fail
  obtain ⟨⟨x0, xf0⟩, ⟨x1, xf1⟩, ⟨x2, xf2⟩, y0, y1⟩ := HK.out _ (Below.refl _ _)
  go_region_law (go_simp; go_at_call 80; refine (HC.out _ (by go_grown)).mono ?_; rintro e w1 ⟨g1, c1, rfl, hO1, hg1, hb1⟩; have hq1 := hb1; simp only [World.size_drew, World.size_alloc] at hq1; obtain ⟨⟨v0, vf0⟩, ⟨v1, vf1⟩, ⟨v2, vf2⟩, u0, u1⟩ := HK.out _ hq1; dsimp only)
  all_goals
    have HM := Lib.hid (MkOf.set3 (a := a) (k := 0) hO1 hg1 (by simp only [World.size_drew, World.size_alloc]; omega) ((((Below.refl _ _).alloc (Nat.le_refl _) _).alloc (by simp) _).drew) hb1 HL.out)
    rw [show ((0 : Nat) : Int) = 0 from rfl] at HM
    obtain ⟨q0, q1, q2⟩ := set3_cells (u0 := .int .i64 (a : Int)) (u1 := .int .i64 0) (u2 := .slice (some ⟨g1, 0, none⟩) n c1) v0 v1 v2
    clear HC HK HL hq1 x0 xf0 x1 xf1 x2 xf2 y0 y1 hO1 hg1 hb1
    go_wp2
    refine bodyPost_ret (v := .agg #[.int .i64 (a : Int), .int .i64 0, .slice (some ⟨g1, 0, none⟩) n c1]) ?_ ?_ HM.out
    · simp [results, Try.results79, go_sem, q0, q1, q2]
    · rfl
set_option maxHeartbeats 3200000 in
theorem replacingMark (a k : Nat) (A : Option Addr) (n c : Nat) (ws : List Wd) (w : World) (hn1 : 1 ≤ n) (hn : n ≤ 1048576) (h : WdsIn w w.heap.size A n c ws) :
    Calls Try.prog 81 #[.agg #[.int .i64 (a : Int), .int .i64 (k : Int), .slice A n c]] w fun e w' => MkOf w w' a k n ws e := by
  have HC : Hid (∀ W, Below w.heap.size w W → Calls Try.prog 80 #[.slice A n c] W fun e w' => ∃ g c', e = .returned (.slice (some ⟨g, 0, none⟩) n c') ∧ w'.ownsRow W.heap.size 9 1 (.slice (some ⟨g, 0, none⟩) n c') n (ws.map strP) ∧ W.heap.size ≤ g ∧ Below W.heap.size W w') := Lib.hid (fun W hW => cloneWd1 A n c ws W hn1 hn (h.keep hW))
  have HL := Lib.hid h.1
  have HK : Hid (∀ W, Below (w.heap.size + 2) ((w.alloc (.cells #[.int .i64 (a : Int), .int .i64 (k : Int), .slice A n c] 79)).alloc (.cells #[.int .i64 0, .int .i64 0, .slice none 0 0] 37)).drew W → 
    (W.cell? ⟨w.heap.size + 1, 0, none⟩ = some (.int .i64 0) ∧ W.frozen? ⟨w.heap.size + 1, 0, none⟩ = false) ∧ (W.cell? ⟨w.heap.size + 1, 1, none⟩ = some (.int .i64 0) ∧ W.frozen? ⟨w.heap.size + 1, 1, none⟩ = false) ∧ (W.cell? ⟨w.heap.size + 1, 2, none⟩ = some (.slice none 0 0) ∧ W.frozen? ⟨w.heap.size + 1, 2, none⟩ = false) ∧
    W.cell? ⟨w.heap.size, 0, none⟩ = some (.int .i64 (a : Int)) ∧ W.cell? ⟨w.heap.size, 1, none⟩ = some (.int .i64 (k : Int)) ∧ W.cell? ⟨w.heap.size, 2, none⟩ = some (.slice A n c)) := Lib.hid (fun W hW => by
      have h1 : Below ((w.alloc (.cells #[.int .i64 (a : Int), .int .i64 (k : Int), .slice A n c] 79)).alloc (.cells #[.int .i64 0, .int .i64 0, .slice none 0 0] 37)).heap.size ((w.alloc (.cells #[.int .i64 (a : Int), .int .i64 (k : Int), .slice A n c] 79)).alloc (.cells #[.int .i64 0, .int .i64 0, .slice none 0 0] 37)) W := by
        have := ((Below.refl (w.heap.size + 2) _).drew).trans hW
        simpa using this
      have h2 : Below (w.alloc (.cells #[.int .i64 (a : Int), .int .i64 (k : Int), .slice A n c] 79)).heap.size (w.alloc (.cells #[.int .i64 (a : Int), .int .i64 (k : Int), .slice A n c] 79)) W := ((Below.refl _ _).alloc (Nat.le_refl _) _).trans (h1.mono (by simp))
      have k0 := newKeep (w.alloc _) _ _ h1 0 _ rfl
      have k1 := newKeep (w.alloc _) _ _ h1 1 _ rfl
      have k2 := newKeep (w.alloc _) _ _ h1 2 _ rfl
      simp only [World.size_alloc] at k0 k1 k2
      exact ⟨k0, k1, k2, (newKeep w _ _ h2 0 _ rfl).1, (newKeep w _ _ h2 1 _ rfl).1, (newKeep w _ _ h2 2 _ rfl).1⟩)
  clear h
  go_enter Try.func81, Try.ntmps81
  go_wp2_with fail
  obtain ⟨⟨x0, xf0⟩, ⟨x1, xf1⟩, ⟨x2, xf2⟩, y0, y1, y2⟩ := HK.out _ (Below.refl _ _)
  go_region_law (go_simp; go_at_call 80; refine (HC.out _ (by go_grown)).mono ?_; rintro e w1 ⟨g1, c1, rfl, hO1, hg1, hb1⟩; have hq1 := hb1; simp only [World.size_drew, World.size_alloc] at hq1; obtain ⟨⟨v0, vf0⟩, ⟨v1, vf1⟩, ⟨v2, vf2⟩, u0, u1, u2⟩ := HK.out _ hq1; dsimp only)
  all_goals
    have HM := Lib.hid (MkOf.set3 (a := a) (k := k) hO1 hg1 (by simp only [World.size_drew, World.size_alloc]; omega) ((((Below.refl _ _).alloc (Nat.le_refl _) _).alloc (by simp) _).drew) hb1 HL.out)
    obtain ⟨q0, q1, q2⟩ := set3_cells (u0 := .int .i64 (a : Int)) (u1 := .int .i64 (k : Int)) (u2 := .slice (some ⟨g1, 0, none⟩) n c1) v0 v1 v2
    clear HC HK HL hq1 x0 xf0 x1 xf1 x2 xf2 y0 y1 y2 hO1 hg1 hb1
    go_wp2
    refine bodyPost_ret (v := .agg #[.int .i64 (a : Int), .int .i64 (k : Int), .slice (some ⟨g1, 0, none⟩) n c1]) (by simp [results, Try.results81, go_sem, q0, q1, q2]) rfl HM.out
end Go.Proofs.Ytlfhgmbmgbbnjaa
