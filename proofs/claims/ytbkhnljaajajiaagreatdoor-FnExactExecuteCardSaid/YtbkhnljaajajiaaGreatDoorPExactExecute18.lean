/-
  Contracts and plain laws that the proof of the law ExactExecute leans on. Conditions: as each says.
-/
import Derived.Test.YtbkhnljaajajiaaGreatDoorPExactExecute02
import Derived.Test.YtbkhnljaajajiaaGreatDoorPExactExecute03
import Derived.Test.YtbkhnljaajajiaaGreatDoorPExactExecute14
import Derived.Test.YtbkhnljaajajiaaGreatDoorPExactExecute17
import Derived.Deep.DeepCutAuto
import Derived.Deep.Cut
import Derived.Deep.CutRange
import Derived.BigQuiet
import Derived.Handy
import Derived.Deep.RegionLaw
set_option maxRecDepth 100000
set_option linter.unusedSimpArgs false
set_option linter.unusedVariables false
set_option linter.unnecessarySimpa false
namespace Go.Proofs.YtbkhnljaajajiaaGreatDoor
open Go.ChangeShapes Go.WideShapes Go.ChangeAt Go.RowKit
theorem strP_one (ws : List Wd) : ∀ v ∈ ws.map strP, v.oneCell' = true := by
 intro v hv; obtain ⟨l, _, rfl⟩ := List.mem_map.1 hv; rfl
theorem cloneWd1 (A : Option Addr) (n c : Nat) (ws : List Wd) (w : World) (hn1 : 1 ≤ n) (hn : n ≤ 1048576) (h : WdsIn w w.heap.size A n c ws) :
  Calls Tryz.prog 210 #[.slice A n c] w fun e w' => ∃ g c', e = .returned (.slice (some ⟨g, 0, none⟩) n c') ∧ w'.ownsRow w.heap.size 9 1 (.slice (some ⟨g, 0, none⟩) n c') n (ws.map strP) ∧ w.heap.size ≤ g ∧ Below w.heap.size w w' := by
 have HL := uH h.1; have HR := uH h.2.2.2; obtain ⟨b, off, rfl, hb, _⟩ := h.2.2.2.2 hn1; obtain ⟨i0, hi, hz0, hz1, hz2⟩ := info_parts infoWd; clear h; have hE : ∀ W, (binOp .eql 27 (.slice (some ⟨b, off, none⟩) n c) (.slice none 0 0)).run Tryz.prog W = .ok (.bool false) W := fun W => Lib.run_eql_slice_nil (P := Tryz.prog) W _ 9 (some ⟨b, off, none⟩) n c 0 0 Tryz.underlying27; go_enter Tryz.func210, Tryz.ntmps210
 go_wp2_with (at_builtin; refine wpList_append_any _ rfl (.tmp 5) (.tmp 6) _ rfl w.heap.size 9 i0 _ 1 16 Tryz.underlying27 hi hz0 hz1 hz2 rfl (by omega) (.slice (some ⟨w.heap.size, 0, none⟩) 0 0) 0 [] rfl (World.ownsRow_made w _ 0 (Nat.le_refl _) (by simp) (by simp)) w.heap.size (some ⟨b, off, none⟩) n c (ws.map strP) rfl (HR.out.below ((Below.refl _ _).alloc (Nat.le_refl _) _)) (strP_one ws) (by unfold maxLen; omega) (by omega) (by simp) ?_; intro v1 w1 hown1 hg1 hat1)
 have b0 : Below w.heap.size w (w.alloc (Obj.cells #[] 9)) := (Below.refl _ _).alloc (Nat.le_refl _) _; have hg1' : (w.alloc (Obj.cells #[] 9)).grownBy w1 (some w.heap.size) := hg1; have b1 : Below w.heap.size w w1 := b0.grown hg1' b0.size (fun q hq => by injection hq with hq; omega); simp only [Nat.zero_add, List.nil_append] at hown1; go_wp2; go_ret; rcases hown1.2 with ⟨_, h⟩ | ⟨g, cap, cur, rfl, hg, _⟩
 ·omega
 ·exact ⟨g, cap, rfl, hown1, hg, b1⟩
theorem WdsIn.zero (w : World) (B : Nat) (A : Option Addr) (c : Nat) (hc : c ≤ maxLen) : WdsIn w B A 0 c [] := ⟨rfl, Nat.zero_le _, hc, ⟨rfl, fun h => absurd h (by omega)⟩⟩
def chV (a k : Nat) (A : Option Addr) (n c : Nat) : Value :=
 if n = 0 then .iface 179 (.agg #[.int .i64 (a : Int), .int .i64 (k : Int)])
 else if k = 0 then .iface 181 (.agg #[.int .i64 (a : Int), .slice A n c])
 else .iface 183 (.agg #[.int .i64 (a : Int), .int .i64 (k : Int), .slice A n c])
theorem changeOf (a k : Nat) (A : Option Addr) (n c : Nat) (w : World) (hn : n ≤ maxLen) :
  Calls Tryz.prog 69 #[.agg #[.int .i64 (a : Int), .int .i64 (k : Int), .slice A n c]] w fun e w' => e = .returned (chV a k A n c) ∧ Below w.heap.size w w' := by
 have hal : Below w.heap.size w (w.alloc (.cells #[.int .i64 (a : Int), .int .i64 (k : Int), .slice A n c] 116)) := (Below.refl _ _).alloc (Nat.le_refl _) _; unfold maxLen at hn; unfold chV; by_cases h0 : n = 0
 ·rw [if_pos h0]; subst h0; go_enter Tryz.func69, Tryz.ntmps69
  go_wp2; go_returns; exact ⟨rfl, hal⟩
 ·rw [if_neg h0]; by_cases h1 : k = 0
  ·rw [if_pos h1]; subst h1; go_enter Tryz.func69, Tryz.ntmps69
   go_wp2; go_returns; exact ⟨rfl, hal⟩
  ·rw [if_neg h1]; go_enter Tryz.func69, Tryz.ntmps69
   go_wp2; go_returns; exact ⟨rfl, hal⟩
def MkOf (w w' : World) (a k n : Nat) (ws : List Wd) (e : Ending) : Prop :=
 ∃ A' c', e = .returned (.agg #[.int .i64 (a : Int), .int .i64 (k : Int), .slice A' n c']) ∧ WdsIn w' w'.heap.size A' n c' ws ∧ (0 < n → ∀ p, A' = some p → w.heap.size ≤ p.block ∧ p.block < w'.heap.size) ∧ Below w.heap.size w w'
theorem leavingMark (a k : Nat) (w : World) : Calls Tryz.prog 285 #[.agg #[.int .i64 (a : Int), .int .i64 (k : Int)]] w fun e w' => MkOf w w' a k 0 [] e := by
 go_enter Tryz.func285, Tryz.ntmps285
 go_wp2; go_returns; exact ⟨_, _, rfl, WdsIn.zero _ _ _ _ (by unfold maxLen; omega), fun h => absurd h (by omega), by go_grown⟩
theorem newKeep (w : World) (xs : Array Value) (t : TypeId) {W : World} (hb : Below (w.alloc (.cells xs t)).heap.size (w.alloc (.cells xs t)) W) (j : Nat) (v : Value) (hj : xs[j]? = some v) :
  W.cell? ⟨w.heap.size, j, none⟩ = some v ∧ W.frozen? ⟨w.heap.size, j, none⟩ = false := by
 have h1 := newcell w xs t j v hj; have h2 : (w.alloc (.cells xs t)).frozen? ⟨w.heap.size, j, none⟩ = false := World.frozen?_alloc_new w xs t j; exact ⟨kcell hb h1, kfree hb h1 h2⟩
theorem MkOf.set3 {w w0 w1 : World} {a k n g1 c1 : Nat} {ws : List Wd} (hO : w1.ownsRow w0.heap.size 9 1 (.slice (some ⟨g1, 0, none⟩) n c1) n (ws.map strP)) (hg : w0.heap.size ≤ g1) (h0 : w.heap.size + 2 ≤ w0.heap.size) (hb0 : Below w.heap.size w w0) (hb1 : Below w0.heap.size w0 w1) (hl : ws.length = n) :
  MkOf w (((w1.setCell ⟨w.heap.size + 1, 0, none⟩ (.int .i64 (a : Int))).setCell ⟨w.heap.size + 1, 1, none⟩ (.int .i64 (k : Int))).setCell ⟨w.heap.size + 1, 2, none⟩ (.slice (some ⟨g1, 0, none⟩) n c1)) a k n ws (.returned (.agg #[.int .i64 (a : Int), .int .i64 (k : Int), .slice (some ⟨g1, 0, none⟩) n c1])) := by
 obtain ⟨A2, c2, e, hc, hm⟩ := ownG_form hO; injection e with e1 e2 e3; subst e1 e3; have hI : WdsIn w1 w1.heap.size (some ⟨g1, 0, none⟩) n c1 ws := ⟨hl, hc, hm, Row.of_own hO⟩; have hgt := ownG_lt hO rfl; have s1 := only_set1 w1 (w.heap.size + 1) 0 (.int .i64 (a : Int)); have s2 := only_set1 (w1.setCell ⟨w.heap.size + 1, 0, none⟩ (.int .i64 (a : Int))) (w.heap.size + 1) 1 (.int .i64 (k : Int)); have s3 := only_set1 ((w1.setCell ⟨w.heap.size + 1, 0, none⟩ (.int .i64 (a : Int))).setCell ⟨w.heap.size + 1, 1, none⟩ (.int .i64 (k : Int))) (w.heap.size + 1) 2 (.slice (some ⟨g1, 0, none⟩) n c1); have hne : 0 < n → ∀ p : Addr, some (⟨g1, 0, none⟩ : Addr) = some p → some (w.heap.size + 1) ≠ some p.block := fun _ p hp e => by
  injection hp with hp; injection e with e; rw [← hp] at e; simp at e; omega
 refine ⟨_, _, rfl, WdsIn.grown (WdsIn.grown (WdsIn.grown hI s1 hne) s2 hne) s3 hne, fun _ p hp => ?_, ?_⟩
 ·injection hp with hp; rw [← hp]; have : w1.heap.size = (((w1.setCell ⟨w.heap.size + 1, 0, none⟩ (.int .i64 (a : Int))).setCell ⟨w.heap.size + 1, 1, none⟩ (.int .i64 (k : Int))).setCell ⟨w.heap.size + 1, 2, none⟩ (.slice (some ⟨g1, 0, none⟩) n c1)).heap.size := (by simp); exact ⟨by show w.heap.size ≤ g1; omega, by rw [← this]; exact hgt⟩
 ·have b1 : Below w.heap.size w w1 := below_next hb0 hb1; have hz := b1.size; have b2 := b1.grown s1 hz (fun q hq => by injection hq with hq; omega); have b3 := b2.grown s2 b2.size (fun q hq => by injection hq with hq; omega); exact b3.grown s3 b3.size (fun q hq => by injection hq with hq; omega)
theorem set3_cells {w : World} {g : Nat} {u0 u1 u2 v0 v1 v2 : Value} (h0 : w.cell? ⟨g, 0, none⟩ = some v0) (h1 : w.cell? ⟨g, 1, none⟩ = some v1) (h2 : w.cell? ⟨g, 2, none⟩ = some v2) :
  (w.setCell ⟨g, 0, none⟩ u0).cell? ⟨g, 0, none⟩ = some u0 ∧ ((w.setCell ⟨g, 0, none⟩ u0).setCell ⟨g, 1, none⟩ u1).cell? ⟨g, 1, none⟩ = some u1 ∧ (((w.setCell ⟨g, 0, none⟩ u0).setCell ⟨g, 1, none⟩ u1).setCell ⟨g, 2, none⟩ u2).cell? ⟨g, 2, none⟩ = some u2 := by
 have a0 : (w.setCell ⟨g, 0, none⟩ u0).cell? ⟨g, 0, none⟩ = some u0 := World.cell?_setCell_same _ _ _ h0; have a1 : (w.setCell ⟨g, 0, none⟩ u0).cell? ⟨g, 1, none⟩ = some v1 := (World.cell?_setCell_other _ _ _ _ (by simp)).trans h1; have a2 : (w.setCell ⟨g, 0, none⟩ u0).cell? ⟨g, 2, none⟩ = some v2 := (World.cell?_setCell_other _ _ _ _ (by simp)).trans h2; have b2 : ((w.setCell ⟨g, 0, none⟩ u0).setCell ⟨g, 1, none⟩ u1).cell? ⟨g, 2, none⟩ = some v2 := (World.cell?_setCell_other _ _ _ _ (by simp)).trans a2; exact ⟨a0, World.cell?_setCell_same _ _ _ a1, World.cell?_setCell_same _ _ _ b2⟩
theorem puttingMark (a : Nat) (A : Option Addr) (n c : Nat) (ws : List Wd) (w : World) (hn1 : 1 ≤ n) (hn : n ≤ 1048576) (h : WdsIn w w.heap.size A n c ws) :
  Calls Tryz.prog 286 #[.agg #[.int .i64 (a : Int), .slice A n c]] w fun e w' => MkOf w w' a 0 n ws e := by
 have HC : Hid (∀ W, Below w.heap.size w W → Calls Tryz.prog 210 #[.slice A n c] W fun e w' => ∃ g c', e = .returned (.slice (some ⟨g, 0, none⟩) n c') ∧ w'.ownsRow W.heap.size 9 1 (.slice (some ⟨g, 0, none⟩) n c') n (ws.map strP) ∧ W.heap.size ≤ g ∧ Below W.heap.size W w') := uH (fun W hW => cloneWd1 A n c ws W hn1 hn (h.keep hW)); have HL := uH h.1; have HK : Hid (∀ W, Below (w.heap.size + 2) ((w.alloc (.cells #[.int .i64 (a : Int), .slice A n c] 181)).alloc (.cells #[.int .i64 0, .int .i64 0, .slice none 0 0] 116)).drew W →
  (W.cell? ⟨w.heap.size + 1, 0, none⟩ = some (.int .i64 0) ∧ W.frozen? ⟨w.heap.size + 1, 0, none⟩ = false) ∧ (W.cell? ⟨w.heap.size + 1, 1, none⟩ = some (.int .i64 0) ∧ W.frozen? ⟨w.heap.size + 1, 1, none⟩ = false) ∧ (W.cell? ⟨w.heap.size + 1, 2, none⟩ = some (.slice none 0 0) ∧ W.frozen? ⟨w.heap.size + 1, 2, none⟩ = false) ∧
  W.cell? ⟨w.heap.size, 0, none⟩ = some (.int .i64 (a : Int)) ∧ W.cell? ⟨w.heap.size, 1, none⟩ = some (.slice A n c)) := uH (fun W hW => by
   have h1 : Below ((w.alloc (.cells #[.int .i64 (a : Int), .slice A n c] 181)).alloc (.cells #[.int .i64 0, .int .i64 0, .slice none 0 0] 116)).heap.size ((w.alloc (.cells #[.int .i64 (a : Int), .slice A n c] 181)).alloc (.cells #[.int .i64 0, .int .i64 0, .slice none 0 0] 116)) W := by
    have := ((Below.refl (w.heap.size + 2) _).drew).trans hW; simpa using this
   have h2 : Below (w.alloc (.cells #[.int .i64 (a : Int), .slice A n c] 181)).heap.size (w.alloc (.cells #[.int .i64 (a : Int), .slice A n c] 181)) W := ((Below.refl _ _).alloc (Nat.le_refl _) _).trans (h1.mono (by simp)); have k0 := newKeep (w.alloc _) _ _ h1 0 _ rfl; have k1 := newKeep (w.alloc _) _ _ h1 1 _ rfl; have k2 := newKeep (w.alloc _) _ _ h1 2 _ rfl; simp only [World.size_alloc] at k0 k1 k2; exact ⟨k0, k1, k2, (newKeep w _ _ h2 0 _ rfl).1, (newKeep w _ _ h2 1 _ rfl).1⟩)
 clear h; go_enter Tryz.func286, Tryz.ntmps286
 (go_wp2_with fail); obtain ⟨⟨x0, xf0⟩, ⟨x1, xf1⟩, ⟨x2, xf2⟩, y0, y1⟩ := HK.out _ (Below.refl _ _); go_region_law (go_simp; go_at_call 210; refine (HC.out _ (by go_grown)).mono ?_; rintro e w1 ⟨g1, c1, rfl, hO1, hg1, hb1⟩; have hq1 := hb1; simp only [World.size_drew, World.size_alloc] at hq1; obtain ⟨⟨v0, vf0⟩, ⟨v1, vf1⟩, ⟨v2, vf2⟩, u0, u1⟩ := HK.out _ hq1; dsimp only)
 all_goals
  have HM := uH (MkOf.set3 (a := a) (k := 0) hO1 hg1 (by simp only [World.size_drew, World.size_alloc]; omega) ((((Below.refl _ _).alloc (Nat.le_refl _) _).alloc (by simp) _).drew) hb1 HL.out); rw [show ((0 : Nat) : Int) = 0 from rfl] at HM; obtain ⟨q0, q1, q2⟩ := set3_cells (u0 := .int .i64 (a : Int)) (u1 := .int .i64 0) (u2 := .slice (some ⟨g1, 0, none⟩) n c1) v0 v1 v2; clear HC HK HL hq1 x0 xf0 x1 xf1 x2 xf2 y0 y1 hO1 hg1 hb1; go_wp2; refine bodyPost_ret (v := .agg #[.int .i64 (a : Int), .int .i64 0, .slice (some ⟨g1, 0, none⟩) n c1]) ?_ ?_ HM.out
  ·simp [results, Tryz.results286, go_sem, q0, q1, q2]
  ·rfl
set_option maxHeartbeats 3200000 in
theorem replacingMark (a k : Nat) (A : Option Addr) (n c : Nat) (ws : List Wd) (w : World) (hn1 : 1 ≤ n) (hn : n ≤ 1048576) (h : WdsIn w w.heap.size A n c ws) :
  Calls Tryz.prog 287 #[.agg #[.int .i64 (a : Int), .int .i64 (k : Int), .slice A n c]] w fun e w' => MkOf w w' a k n ws e := by
 have HC : Hid (∀ W, Below w.heap.size w W → Calls Tryz.prog 210 #[.slice A n c] W fun e w' => ∃ g c', e = .returned (.slice (some ⟨g, 0, none⟩) n c') ∧ w'.ownsRow W.heap.size 9 1 (.slice (some ⟨g, 0, none⟩) n c') n (ws.map strP) ∧ W.heap.size ≤ g ∧ Below W.heap.size W w') := uH (fun W hW => cloneWd1 A n c ws W hn1 hn (h.keep hW)); have HL := uH h.1; have HK : Hid (∀ W, Below (w.heap.size + 2) ((w.alloc (.cells #[.int .i64 (a : Int), .int .i64 (k : Int), .slice A n c] 183)).alloc (.cells #[.int .i64 0, .int .i64 0, .slice none 0 0] 116)).drew W →
  (W.cell? ⟨w.heap.size + 1, 0, none⟩ = some (.int .i64 0) ∧ W.frozen? ⟨w.heap.size + 1, 0, none⟩ = false) ∧ (W.cell? ⟨w.heap.size + 1, 1, none⟩ = some (.int .i64 0) ∧ W.frozen? ⟨w.heap.size + 1, 1, none⟩ = false) ∧ (W.cell? ⟨w.heap.size + 1, 2, none⟩ = some (.slice none 0 0) ∧ W.frozen? ⟨w.heap.size + 1, 2, none⟩ = false) ∧
  W.cell? ⟨w.heap.size, 0, none⟩ = some (.int .i64 (a : Int)) ∧ W.cell? ⟨w.heap.size, 1, none⟩ = some (.int .i64 (k : Int)) ∧ W.cell? ⟨w.heap.size, 2, none⟩ = some (.slice A n c)) := uH (fun W hW => by
   have h1 : Below ((w.alloc (.cells #[.int .i64 (a : Int), .int .i64 (k : Int), .slice A n c] 183)).alloc (.cells #[.int .i64 0, .int .i64 0, .slice none 0 0] 116)).heap.size ((w.alloc (.cells #[.int .i64 (a : Int), .int .i64 (k : Int), .slice A n c] 183)).alloc (.cells #[.int .i64 0, .int .i64 0, .slice none 0 0] 116)) W := by
    have := ((Below.refl (w.heap.size + 2) _).drew).trans hW; simpa using this
   have h2 : Below (w.alloc (.cells #[.int .i64 (a : Int), .int .i64 (k : Int), .slice A n c] 183)).heap.size (w.alloc (.cells #[.int .i64 (a : Int), .int .i64 (k : Int), .slice A n c] 183)) W := ((Below.refl _ _).alloc (Nat.le_refl _) _).trans (h1.mono (by simp)); have k0 := newKeep (w.alloc _) _ _ h1 0 _ rfl; have k1 := newKeep (w.alloc _) _ _ h1 1 _ rfl; have k2 := newKeep (w.alloc _) _ _ h1 2 _ rfl; simp only [World.size_alloc] at k0 k1 k2; exact ⟨k0, k1, k2, (newKeep w _ _ h2 0 _ rfl).1, (newKeep w _ _ h2 1 _ rfl).1, (newKeep w _ _ h2 2 _ rfl).1⟩)
 clear h; go_enter Tryz.func287, Tryz.ntmps287
 (go_wp2_with fail); obtain ⟨⟨x0, xf0⟩, ⟨x1, xf1⟩, ⟨x2, xf2⟩, y0, y1, y2⟩ := HK.out _ (Below.refl _ _); go_region_law (go_simp; go_at_call 210; refine (HC.out _ (by go_grown)).mono ?_; rintro e w1 ⟨g1, c1, rfl, hO1, hg1, hb1⟩; have hq1 := hb1; simp only [World.size_drew, World.size_alloc] at hq1; obtain ⟨⟨v0, vf0⟩, ⟨v1, vf1⟩, ⟨v2, vf2⟩, u0, u1, u2⟩ := HK.out _ hq1; dsimp only)
 all_goals
  have HM := uH (MkOf.set3 (a := a) (k := k) hO1 hg1 (by simp only [World.size_drew, World.size_alloc]; omega) ((((Below.refl _ _).alloc (Nat.le_refl _) _).alloc (by simp) _).drew) hb1 HL.out); obtain ⟨q0, q1, q2⟩ := set3_cells (u0 := .int .i64 (a : Int)) (u1 := .int .i64 (k : Int)) (u2 := .slice (some ⟨g1, 0, none⟩) n c1) v0 v1 v2; clear HC HK HL hq1 x0 xf0 x1 xf1 x2 xf2 y0 y1 y2 hO1 hg1 hb1; go_wp2; refine bodyPost_ret (v := .agg #[.int .i64 (a : Int), .int .i64 (k : Int), .slice (some ⟨g1, 0, none⟩) n c1]) (by simp [results, Tryz.results287, go_sem, q0, q1, q2]) rfl HM.out
theorem run_lhS {P : Program} {t : TypeId} {sz : Nat} (ht : P.underlying t = some (.slice (P.elem t))) (hs : ∀ w, (sizeOf (P.elem t)).run P w = .ok sz w) (a : Option Addr) (n c k h : Nat) (hk : k ≤ h) (hh : h ≤ c) (w : World) :
  (Instr.slice t (.slice a n c) (some (.int .i64 (k : Int))) (some (.int .i64 (h : Int))) none).run P w = .ok (.slice (fromB a k c sz) (h - k) (c - k)) w := by
 rw [run_slice_lh w t a n c ht .i64 .i64 (k : Int) (h : Int) (by omega) (by omega) (by omega), hs]; simp [Result.andThen, sliced, fromB]
theorem WdsIn.sub {w : World} {B n c k h : Nat} {A : Option Addr} {ws : List Wd} (H : WdsIn w B A n c ws) (hk : k ≤ h) (hh : h ≤ n) : WdsIn w B (fromB A k c 1) (h - k) (c - k) ((ws.drop k).take (h - k)) :=
 (H.fromS (by omega)).upto (by omega)
theorem keepB2 {W W' : World} {B : Nat} {a : Addr} {u : Value} (hb : Below B W W') (hB : a.block < B) (h : W.cell? a = some u ∧ W.frozen? a = false) : W'.cell? a = some u ∧ W'.frozen? a = false := ⟨(hb.cell hB).trans h.1, (hb.frozen hB).trans h.2⟩
theorem keepRow {W W' : World} {row : Option Nat} {b j : Nat} {u : Value} (hg : W.grownBy W' row) (hr : row ≠ some b) (h : W.cell? ⟨b, j, none⟩ = some u ∧ W.frozen? ⟨b, j, none⟩ = false) : W'.cell? ⟨b, j, none⟩ = some u ∧ W'.frozen? ⟨b, j, none⟩ = false := by
 have hlt : b < W.heap.size := World.block_lt_of_cell? _ _ h.1; have hk := hg.block b hlt (fun e => hr e.symm); exact ⟨by rw [← h.1]; exact World.cell?_of_block hk, by rw [← h.2]; unfold World.frozen?; rw [hk]⟩
def FinAns (w w' : World) (B bm : Nat) (v : Value) (D : List Mr) (op : Prop) (d : Mk) : Prop :=
 (¬ op ∧ Below w.heap.size w w') ∨ (op ∧ ∃ w1 v1 x, x.dat = d ∧ (0 < x.n → ∀ p, x.A = some p → w.heap.size ≤ p.block) ∧ w' = w1.setCell ⟨bm, 0, none⟩ v1 ∧ w.grownBy w1 v.ownBlock ∧ MrOwn w1 B v1 (D ++ [x]) ∧ (v1.ownBlock = v.ownBlock ∨ ∃ q, v1.ownBlock = some q ∧ w.heap.size ≤ q))
def FinRow (w w1 : World) (B : Nat) (v v1 : Value) (D : List Mr) (d : Mk) : Prop :=
 ∃ x, x.dat = d ∧ (0 < x.n → ∀ p, x.A = some p → w.heap.size ≤ p.block) ∧ w.grownBy w1 v.ownBlock ∧ MrOwn w1 B v1 (D ++ [x]) ∧ (v1.ownBlock = v.ownBlock ∨ ∃ q, v1.ownBlock = some q ∧ w.heap.size ≤ q)
theorem FinRow.mk {w W w5 : World} {B fA k m c4 : Nat} {A4 : Option Addr} {ws : List Wd} {v v5 : Value} {D : List Mr} (b4 : Below w.heap.size w W) (hO : MrOwn w B v D) (hI : WdsIn W W.heap.size A4 m c4 ws)
  (hn : 0 < m → ∀ p, A4 = some p → w.heap.size ≤ p.block ∧ p.block < W.heap.size)
  (ho : w5.ownsRow B 116 3 v5 (D.length + 1) (D.flatMap mkC ++ [.int .i64 (fA : Int), .int .i64 (k : Int), .slice A4 m c4]))
  (hg : W.grownBy w5 v.ownBlock) (hat : v5.ownBlock = v.ownBlock ∨ v5.ownBlock = some W.heap.size) : FinRow w w5 B v v5 D ⟨fA, k, ws⟩ := by
 have hg5 : w.grownBy w5 v.ownBlock := ⟨hg.os.trans b4.os, hg.tape.trans b4.tape, hg.output.trans b4.output, Nat.le_trans b4.size hg.size, fun q hq hne => (hg.block q (Nat.lt_of_lt_of_le hq b4.size) hne).trans (b4.block q hq)⟩; have hP : MrOwn w5 B v5 (D ++ [(⟨fA, k, A4, m, c4, ws⟩ : Mr)]) := MrOwn.push (x := ⟨fA, k, A4, m, c4, ws⟩) (hO.keep b4) hI (fun hp p hpA => ⟨fun e => by
  have h1 := (hn hp p hpA).1; have h2 := ownG_lt hO.1 e; omega, (hn hp p hpA).2⟩) ho hg hat
 have hv : v5.ownBlock = v.ownBlock ∨ ∃ q, v5.ownBlock = some q ∧ w.heap.size ≤ q := hat.elim .inl (fun h => .inr ⟨_, h, b4.size⟩); have hx : 0 < (⟨fA, k, A4, m, c4, ws⟩ : Mr).n → ∀ p, (⟨fA, k, A4, m, c4, ws⟩ : Mr).A = some p → w.heap.size ≤ p.block := fun hp p hpA => (hn hp p hpA).1; exact ⟨⟨fA, k, A4, m, c4, ws⟩, rfl, hx, hg5, hP, hv⟩
def NewWd (w W : World) (m : Nat) (ws : List Wd) (A4 : Option Addr) (c4 : Nat) : Prop := WdsIn W W.heap.size A4 m c4 ws ∧ (0 < m → ∀ p, A4 = some p → w.heap.size ≤ p.block ∧ p.block < W.heap.size)
theorem NewWd.keep {w W W' : World} {m c4 : Nat} {ws : List Wd} {A4 : Option Addr} (h : NewWd w W m ws A4 c4) (hb : Below W.heap.size W W') : NewWd w W' m ws A4 c4 :=
 ⟨h.1.keep hb, fun hp p hpA => ⟨(h.2 hp p hpA).1, Nat.lt_of_lt_of_le (h.2 hp p hpA).2 hb.size⟩⟩
structure FinMid (L : Nat → Prop) (w W0 W : World) (v : Value) (fA k m : Nat) (A2 : Option Addr) (c2 : Nat) (ws : List Wd) (v24 v25 v26 v27 v28 : Value) : Prop where
 b : Below W0.heap.size W0 W
 h0 : L 0 → v24 = v
 h1 : L 1 → v25 = .agg #[.int .i64 (fA : Int), .int .i64 (k : Int), .slice A2 m c2]
 h2 : L 2 → v26 = chV fA k A2 m c2
 h3 : L 3 → ∃ A4 c4, v27 = .agg #[.int .i64 (fA : Int), .int .i64 (k : Int), .slice A4 m c4] ∧ NewWd w W m ws A4 c4
 h4 : L 4 → ∃ q A4 c4, v28 = .slice (some ⟨q, 0, none⟩) 1 1 ∧ Row W W.heap.size (some ⟨q, 0, none⟩) 1 3 [.int .i64 (fA : Int), .int .i64 (k : Int), .slice A4 m c4] ∧ NewWd w W m ws A4 c4
 c2 : L 2 → L 1
 c3 : L 3 → L 2
 c4 : L 4 → L 3
def FinInv (w W0 : World) (B bm fA k m c2 : Nat) (A2 : Option Addr) (ws : List Wd) (v : Value) (D : List Mr) (op : Prop) (pre : Array Value) (L : Nat → Prop) (a : Act) (W : World) : Prop :=
 ∃ v24 v25 v26 v27 v28 v29 : Value, a = ⟨pre ++ #[v24, v25, v26, v27, v28, v29], []⟩ ∧
  ((¬ L 5 ∧ ¬ L 6 ∧ FinMid L w W0 W v fA k m A2 c2 ws v24 v25 v26 v27 v28) ∨ ((∀ j, j < 6 → L j) ∧ ¬ L 6 ∧ FinRow w W B v v29 D ⟨fA, k, ws⟩ ∧ W.cell? ⟨bm, 0, none⟩ = some v ∧ W.frozen? ⟨bm, 0, none⟩ = false) ∨ ((∀ j, j < 7 → L j) ∧ FinAns w W B bm v D op ⟨fA, k, ws⟩))
set_option maxHeartbeats 3200000 in
theorem finishC (bi bA bj bB bb bm i fA j fB B : Nat) (A : Option Addr) (n c : Nat) (b : List Wd) (v : Value) (D : List Mr) (w : World)
  (ci : w.cell? ⟨bi, 0, none⟩ = some (.int .i64 (i : Int))) (cA : w.cell? ⟨bA, 0, none⟩ = some (.int .i64 (fA : Int))) (cj : w.cell? ⟨bj, 0, none⟩ = some (.int .i64 (j : Int))) (cB : w.cell? ⟨bB, 0, none⟩ = some (.int .i64 (fB : Int)))
  (cb : w.cell? ⟨bb, 0, none⟩ = some (.slice A n c)) (cm : w.cell? ⟨bm, 0, none⟩ = some v ∧ w.frozen? ⟨bm, 0, none⟩ = false)
  (h : WdsIn w w.heap.size A n c b) (hO : MrOwn w B v D) (hne : v.ownBlock ≠ some bm) (hB : B ≤ w.heap.size) (h1 : fA ≤ i) (h2 : i ≤ 20) (h3 : fB ≤ j) (h4 : j ≤ n) (h5 : n ≤ 20) (hD : D.length ≤ 40) :
  Calls Tryz.prog 68 #[.pointer (some ⟨bi, 0, none⟩), .pointer (some ⟨bA, 0, none⟩), .pointer (some ⟨bj, 0, none⟩), .pointer (some ⟨bB, 0, none⟩), .pointer (some ⟨bb, 0, none⟩), .pointer (some ⟨bm, 0, none⟩)] w fun e w' =>
   e = .returned (.tuple #[]) ∧ FinAns w w' B bm v D (fA < i ∨ fB < j) ⟨fA, i - fA, (b.drop fB).take (j - fB)⟩ := by
 obtain ⟨i0, hi, hz0, hz1, hz2⟩ := info_parts infoMk; have hnc := h.2.1; have hbm : bm < w.heap.size := World.block_lt_of_cell? _ _ cm.1; by_cases hop : fA < i ∨ fB < j
 ·have hlh := fun W => run_lhS (P := Tryz.prog) elemW sizeW A n c fB j h3 (by omega) W; have HS := uH (h.sub h3 h4); have HO := uH hO; clear h hO; go_enter Tryz.func68, Tryz.ntmps68
  go_upto_region 0 with fail
  go_cut [14] (fun c14 wx => w = wx ∧ Value.bool true = c14)
  case first =>
   by_cases e1 : fA < i
   ·have e1' : (fA : Int) < (i : Int) := (by omega); go_wp2
    go_meet
    exact ⟨rfl, rfl⟩
   ·have e1' : ¬ (fA : Int) < (i : Int) := (by omega); have e2' : (fB : Int) < (j : Int) := (by omega); go_wp2
    go_meet
    exact ⟨rfl, rfl⟩
  case rest =>
   obtain ⟨rfl, rfl⟩ := hcut; have r1 : (0 : Int) ≤ (i : Int) - (fA : Int) := (by omega); have r2 : (i : Int) - (fA : Int) ≤ 20 := (by omega); have hk : (i : Int) - (fA : Int) = ((i - fA : Nat) : Int) := (by omega); have hm2 : j - fB ≤ maxLen := (by unfold maxLen; omega); have hm3 : j - fB ≤ 20 := (by omega); have hal : Below w.heap.size w (w.alloc (.cells #[.int .i64 0, .int .i64 0, .slice none 0 0] 116)) := (Below.refl _ _).alloc (Nat.le_refl _) _; have ai := kcell hal ci; have aA := kcell hal cA; have aj := kcell hal cj; have aB := kcell hal cB; have ab := kcell hal cb
   go_upto_region 1 with fail
   go_cut [6] (fun s6 wx => ∃ W0 : World, W0 = wx ∧ s6 = .pointer (some ⟨w.heap.size, 0, none⟩) ∧ Below w.heap.size w W0 ∧ W0.cell? ⟨w.heap.size, 0, none⟩ = some (.int .i64 (fA : Int)) ∧ W0.cell? ⟨w.heap.size, 1, none⟩ = some (.int .i64 ((i - fA : Nat) : Int)) ∧ W0.cell? ⟨w.heap.size, 2, none⟩ = some (.slice (fromB A fB c 1) (j - fB) (c - fB)))
   case first =>
    go_region
    all_goals
     go_wp2_with fail
     go_meet
     exact ⟨_, rfl, rfl, ((Below.refl _ _).alloc (Nat.le_refl _) _).drew, newcell w _ _ 0 _ rfl, newcell w _ _ 1 _ rfl, newcell w _ _ 2 _ rfl⟩
   case rest =>
    obtain ⟨W0, rfl, rfl, hal2, x0, x1, x2⟩ := hcut; have HBx := uH hal2; have HB2 := uH hal2.drew; have cm2 := keepB2 hal2.drew hbm cm
    replace x0 : W0.drew.cell? ⟨w.heap.size, 0, none⟩ = some (.int .i64 (fA : Int)) := x0
    replace x1 : W0.drew.cell? ⟨w.heap.size, 1, none⟩ = some (.int .i64 ((i - fA : Nat) : Int)) := x1
    replace x2 : W0.drew.cell? ⟨w.heap.size, 2, none⟩ = some (.slice (fromB A fB c 1) (j - fB) (c - fB)) := x2
    clear hk r1 r2; have Hfin : Hid (∀ W, FinAns w W B bm v D (fA < i ∨ fB < j) ⟨fA, i - fA, (b.drop fB).take (j - fB)⟩ → FinAns w W B bm v D (fA < i ∨ fB < j) ⟨fA, i - fA, (b.drop fB).take (j - fB)⟩) := uH (fun _ h => h); obtain ⟨k, hk⟩ : ∃ k, k = i - fA := ⟨_, rfl⟩; obtain ⟨m, hm⟩ : ∃ m, m = j - fB := ⟨_, rfl⟩; obtain ⟨ws, hws⟩ : ∃ ws, ws = (b.drop fB).take (j - fB) := ⟨_, rfl⟩; obtain ⟨c2, hc2⟩ : ∃ c2, c2 = c - fB := ⟨_, rfl⟩; obtain ⟨A2, hA2⟩ : ∃ A2, A2 = fromB A fB c 1 := ⟨_, rfl⟩; have HF0 : Hid (∀ W, FinAns w W B bm v D (fA < i ∨ fB < j) ⟨fA, k, ws⟩ → FinAns w W B bm v D (fA < i ∨ fB < j) ⟨fA, i - fA, (b.drop fB).take (j - fB)⟩) := uH (fun _ h => by rw [hk, hws] at h; exact h); rw [← hk] at x1; rw [← hm, ← hc2, ← hA2] at x2 HS; rw [← hm] at hm2 hm3; rw [hm, ← hws, ← hm] at HS; clear Hfin hk hm hws hc2 hA2; have HCh : Hid (∀ W, Calls Tryz.prog 69 #[.agg #[.int .i64 (fA : Int), .int .i64 (k : Int), .slice A2 m c2]] W fun e w' => e = .returned (chV fA k A2 m c2) ∧ Below W.heap.size W w') := uH (fun W => changeOf fA k A2 m c2 W hm2); have HMl : Hid (∀ W, m = 0 → Calls Tryz.prog 285 #[.agg #[.int .i64 (fA : Int), .int .i64 (k : Int)]] W fun e w' => MkOf W w' fA k m ws e) := uH (fun W e => by subst e; rw [List.length_eq_zero_iff.1 HS.out.1]; exact leavingMark fA k W); have HMp : Hid (∀ W, Below w.heap.size w W → 1 ≤ m → Calls Tryz.prog 286 #[.agg #[.int .i64 (fA : Int), .slice A2 m c2]] W fun e w' => MkOf W w' fA 0 m ws e) := uH (fun W hW e => puttingMark fA A2 m c2 ws W e (by omega) (HS.out.keep hW)); have HMr : Hid (∀ W, Below w.heap.size w W → 1 ≤ m → Calls Tryz.prog 287 #[.agg #[.int .i64 (fA : Int), .int .i64 (k : Int), .slice A2 m c2]] W fun e w' => MkOf W w' fA k m ws e) := uH (fun W hW e => replacingMark fA k A2 m c2 ws W e (by omega) (HS.out.keep hW)); clear hlh HS ai aA aj aB ab hal hal2 ci cA cj cB cb HBx; (go_wp2_with fail); have hcb : bm < W0.drew.heap.size := Nat.lt_of_lt_of_le hbm HB2.out.size; refine wp_region_inv (by kernel_rfl) (FinInv w W0.drew B bm fA k m c2 A2 ws v D (fA < i ∨ fB < j) #[.pointer (some ⟨bi, 0, none⟩), .pointer (some ⟨bA, 0, none⟩), .pointer (some ⟨bj, 0, none⟩), .pointer (some ⟨bB, 0, none⟩), .pointer (some ⟨bb, 0, none⟩), .pointer (some ⟨bm, 0, none⟩), .pointer (some ⟨w.heap.size, 0, none⟩), u7, u8, u9, u10, u11, u12, u13, u14, u15, u16, u17, u18, u19, u20, u21, u22, u23]) (by kernel_rfl) ?_ ?_ ?_
    ·exact ⟨u24, u25, u26, u27, u28, u29, rfl, .inl ⟨id, id, ⟨Below.refl _ _, nofun, nofun, nofun, nofun, nofun, nofun, nofun, nofun⟩⟩⟩
    ·rintro L a W hall ⟨v24, v25, v26, v27, v28, v29, rfl, hI⟩; rcases hI with ⟨hn, _⟩ | ⟨_, hn, _⟩ | ⟨_, hF⟩
     ·exact absurd (hall 5 (by decide)) hn
     ·exact absurd (hall 6 (by decide)) hn
     ·have HF := uH hF; clear hF HCh HMl HMp HMr HO HB2 cm2 x0 x1 x2 hall cm; go_wp2; go_returns; exact ⟨rfl, HF0.out _ HF.out⟩
    ·rintro L i7 a W hi7 hn ha ⟨v24, v25, v26, v27, v28, v29, rfl, hI⟩; have hi' : i7 < 7 := hi7; rcases hI with ⟨h5n, h6n, hM⟩ | ⟨hall, h6n, hF, kc, kf⟩ | ⟨hall, _⟩
     ·have hc : i7 = 0 ∨ i7 = 1 ∨ i7 = 2 ∨ i7 = 3 ∨ i7 = 4 ∨ i7 = 5 ∨ i7 = 6 := (by omega); have k0 := kcell hM.b x0; have k1 := kcell hM.b x1; have k2 := kcell hM.b x2; have km := keepB2 hM.b hcb cm2; have km1 := km.1; have hbW := HB2.out.trans (hM.b.mono HB2.out.size); clear hi7 hi'; rcases hc with rfl | rfl | rfl | rfl | rfl | rfl | rfl
      ·refine wpOp_step rfl (fun K hK => ?_); go_simp; refine hK _ _ ?_; exact ⟨_, _, _, _, _, _, rfl, .inl ⟨fun h => h5n (h.resolve_left (by decide)), fun h => h6n (h.resolve_left (by decide)), ⟨hM.b, fun _ => rfl, or_l (by decide) hM.h1, or_l (by decide) hM.h2, or_l (by decide) hM.h3, or_l (by decide) hM.h4, or_l (by decide) fun h => .inr (hM.c2 h), or_l (by decide) fun h => .inr (hM.c3 h), or_l (by decide) fun h => .inr (hM.c4 h)⟩⟩⟩
      ·refine wpOp_step rfl (fun K hK => ?_); go_simp; refine hK _ _ ?_; exact ⟨_, _, _, _, _, _, rfl, .inl ⟨fun h => h5n (h.resolve_left (by decide)), fun h => h6n (h.resolve_left (by decide)), ⟨hM.b, or_l (by decide) hM.h0, fun _ => rfl, or_l (by decide) hM.h2, or_l (by decide) hM.h3, or_l (by decide) hM.h4, or_l (by decide) fun h => .inr (hM.c2 h), or_l (by decide) fun h => .inr (hM.c3 h), or_l (by decide) fun h => .inr (hM.c4 h)⟩⟩⟩
      ·have l1 := ha 1 (by kernel_rfl); obtain rfl := hM.h1 l1; refine wpOp_step rfl (fun K hK => ?_); go_simp; refine (HCh.out _).mono ?_; rintro e W3 ⟨rfl, hb3⟩; refine hK _ _ ?_; exact ⟨_, _, _, _, _, _, rfl, .inl ⟨fun h => h5n (h.resolve_left (by decide)), fun h => h6n (h.resolve_left (by decide)), ⟨below_next hM.b hb3, or_l (by decide) hM.h0, or_l (by decide) hM.h1, fun _ => rfl, or_l (by decide) fun h => absurd (hM.c3 h) hn, or_l (by decide) fun h => absurd (hM.c3 (hM.c4 h)) hn, fun _ => .inr l1, or_l (by decide) fun h => .inr (hM.c3 h), or_l (by decide) fun h => .inr (hM.c4 h)⟩⟩⟩
      ·have l2 := ha 2 (by kernel_rfl); have hv26 := hM.h2 l2; by_cases hm0 : m = 0
       ·have hch : chV fA k A2 m c2 = .iface 179 (.agg #[.int .i64 (fA : Int), .int .i64 (k : Int)]) := if_pos hm0; rw [hch] at hv26; subst hv26; clear x0 x1 x2 cm cm2 km km1 k0 k1 k2; have hv26 := uH hch.symm; clear hch; refine wpOp_step rfl (fun K hK => ?_); go_simp
        go_invoke
        go_simp
        go_at_call 285
        refine (HMl.out _ hm0).mono ?_; rintro e W4 ⟨A4, c4, rfl, hI4, hn4, hb4⟩; refine hK _ _ ?_; have hN : NewWd w W4 m ws A4 c4 := ⟨hI4, fun hp p hpA => ⟨Nat.le_trans hbW.size (hn4 hp p hpA).1, (hn4 hp p hpA).2⟩⟩; exact ⟨_, _, _, _, _, _, rfl, .inl ⟨fun h => h5n (h.resolve_left (by decide)), fun h => h6n (h.resolve_left (by decide)), ⟨below_next hM.b hb4, or_l (by decide) hM.h0, or_l (by decide) hM.h1, or_l (by decide) (fun _ => hv26.out), fun _ => ⟨A4, c4, rfl, hN⟩, or_l (by decide) fun h => absurd (hM.c4 h) hn, or_l (by decide) fun h => .inr (hM.c2 h), fun _ => .inr l2, or_l (by decide) fun h => .inr (hM.c4 h)⟩⟩⟩
       ·by_cases hk0 : k = 0
        ·have hch : chV fA k A2 m c2 = .iface 181 (.agg #[.int .i64 (fA : Int), .slice A2 m c2]) := (by unfold chV; rw [if_neg hm0, if_pos hk0]); rw [hch] at hv26; subst hv26; clear x0 x1 x2 cm cm2 km km1 k0 k1 k2; have hv26 := uH hch.symm; clear hch; have hq := HMp.out W hbW (by omega); rw [← hk0] at hq; refine wpOp_step rfl (fun K hK => ?_); go_simp
         go_invoke
         go_simp
         go_at_call 286
         refine (hq).mono ?_; rintro e W4 ⟨A4, c4, rfl, hI4, hn4, hb4⟩; refine hK _ _ ?_; have hN : NewWd w W4 m ws A4 c4 := ⟨hI4, fun hp p hpA => ⟨Nat.le_trans hbW.size (hn4 hp p hpA).1, (hn4 hp p hpA).2⟩⟩; exact ⟨_, _, _, _, _, _, rfl, .inl ⟨fun h => h5n (h.resolve_left (by decide)), fun h => h6n (h.resolve_left (by decide)), ⟨below_next hM.b hb4, or_l (by decide) hM.h0, or_l (by decide) hM.h1, or_l (by decide) (fun _ => hv26.out), fun _ => ⟨A4, c4, rfl, hN⟩, or_l (by decide) fun h => absurd (hM.c4 h) hn, or_l (by decide) fun h => .inr (hM.c2 h), fun _ => .inr l2, or_l (by decide) fun h => .inr (hM.c4 h)⟩⟩⟩
        ·have hch : chV fA k A2 m c2 = .iface 183 (.agg #[.int .i64 (fA : Int), .int .i64 (k : Int), .slice A2 m c2]) := (by unfold chV; rw [if_neg hm0, if_neg hk0]); rw [hch] at hv26; subst hv26; clear x0 x1 x2 cm cm2 km km1 k0 k1 k2; have hv26 := uH hch.symm; clear hch; refine wpOp_step rfl (fun K hK => ?_); go_simp
         go_invoke
         go_simp
         go_at_call 287
         refine (HMr.out W hbW (by omega)).mono ?_; rintro e W4 ⟨A4, c4, rfl, hI4, hn4, hb4⟩; refine hK _ _ ?_; have hN : NewWd w W4 m ws A4 c4 := ⟨hI4, fun hp p hpA => ⟨Nat.le_trans hbW.size (hn4 hp p hpA).1, (hn4 hp p hpA).2⟩⟩; exact ⟨_, _, _, _, _, _, rfl, .inl ⟨fun h => h5n (h.resolve_left (by decide)), fun h => h6n (h.resolve_left (by decide)), ⟨below_next hM.b hb4, or_l (by decide) hM.h0, or_l (by decide) hM.h1, or_l (by decide) (fun _ => hv26.out), fun _ => ⟨A4, c4, rfl, hN⟩, or_l (by decide) fun h => absurd (hM.c4 h) hn, or_l (by decide) fun h => .inr (hM.c2 h), fun _ => .inr l2, or_l (by decide) fun h => .inr (hM.c4 h)⟩⟩⟩
      ·have l3 := ha 3 (by kernel_rfl); obtain ⟨A4, c4, rfl, hN⟩ := hM.h3 l3; refine wpOp_step rfl (fun K hK => ?_); go_simp; refine hK _ _ ?_; have hb4 : Below W.heap.size W (W.alloc (.cells #[.int .i64 (fA : Int), .int .i64 (k : Int), .slice A4 m c4] 116)) := (Below.refl _ _).alloc (Nat.le_refl _) _; have hr4 := (rowNewMk W (.int .i64 (fA : Int)) (.int .i64 (k : Int)) (.slice A4 m c4) 116).more (show W.heap.size + 1 ≤ (W.alloc (.cells #[.int .i64 (fA : Int), .int .i64 (k : Int), .slice A4 m c4] 116)).heap.size by simp); exact ⟨_, _, _, _, _, _, rfl, .inl ⟨fun h => h5n (h.resolve_left (by decide)), fun h => h6n (h.resolve_left (by decide)), ⟨below_next hM.b hb4, or_l (by decide) hM.h0, or_l (by decide) hM.h1, or_l (by decide) hM.h2, or_l (by decide) (fun _ => ⟨A4, c4, rfl, hN.keep hb4⟩), fun _ => ⟨_, A4, c4, rfl, hr4, hN.keep hb4⟩, or_l (by decide) fun h => .inr (hM.c2 h), or_l (by decide) fun h => .inr (hM.c3 h), fun _ => .inr l3⟩⟩⟩
      ·have l4 := ha 4 (by kernel_rfl); have l0 := ha 0 (by kernel_rfl); obtain ⟨q, A4, c4, rfl, hr4, hN⟩ := hM.h4 l4; obtain rfl := hM.h0 l0; refine wpOp_step rfl (fun K hK => ?_); refine step_append_any _ rfl (.tmp 24) (.tmp 28) 41 rfl B 116 i0 _ 3 40 Tryz.underlying41 hi hz0 hz1 hz2 rfl (by omega) v24 D.length (D.flatMap mkC) rfl (HO.out.keep hbW).1 W.heap.size (some ⟨q, 0, none⟩) 1 1 [.int .i64 (fA : Int), .int .i64 (k : Int), .slice A4 m c4] rfl hr4 (by simp [Value.oneCell']) (by unfold maxLen; omega) (by omega) (Nat.le_trans hB hbW.size) ?_; intro v5 w5 hown5 hg5 hat5; refine hK _ _ ?_; have hF := FinRow.mk hbW HO.out hN.1 hN.2 hown5 hg5 hat5; have km5 := keepRow hg5 hne km; refine ⟨_, _, _, _, _, _, rfl, .inr (.inl ⟨fun j hj => ?_, fun h => h6n (h.resolve_left (by decide)), hF, km5⟩)⟩; have hj' : j = 0 ∨ j = 1 ∨ j = 2 ∨ j = 3 ∨ j = 4 ∨ j = 5 := (by omega); rcases hj' with rfl | rfl | rfl | rfl | rfl | rfl
       ·exact .inr l0
       ·exact .inr (hM.c2 (hM.c3 (hM.c4 l4)))
       ·exact .inr (hM.c3 (hM.c4 l4))
       ·exact .inr (hM.c4 l4)
       ·exact .inr l4
       ·exact .inl rfl
      ·exact absurd (ha 5 (by kernel_rfl)) h5n
     ·have hi6 : i7 = 6 := by
       rcases Nat.lt_or_ge i7 6 with h | h
       ·exact absurd (hall i7 h) hn
       ·omega
      subst hi6; clear hi7 hi'; obtain ⟨x, hd, hx, hg, hO5, hv5⟩ := hF; obtain ⟨A6, c6, rfl, hc6, hm6⟩ := ownG_form hO5.1; have eL : (D ++ [x]).length = D.length + 1 := (by simp); rw [eL] at hO5 hv5; clear eL; refine wpOp_step rfl (fun K hK => ?_); go_simp; refine hK _ _ ?_; refine ⟨_, _, _, _, _, _, rfl, .inr (.inr ⟨fun j hj => ?_,   .inr ⟨hop, W, _, x, hd, hx, rfl, hg, hO5, hv5⟩⟩)⟩; rcases Nat.lt_or_ge j 6 with h | h
      ·exact .inr (hall j h)
      ·exact .inl (by omega)
     ·exact absurd (hall i7 hi') hn
 ·have e1 : ¬ (fA : Int) < (i : Int) := (by omega); have e2 : ¬ (fB : Int) < (j : Int) := (by omega); clear h hO; go_enter Tryz.func68, Tryz.ntmps68
  go_wp2; go_returns; exact ⟨rfl, .inl ⟨by first | exact hop | exact id, by go_grown⟩⟩
theorem WdOwn.keep {w w' : World} {B : Nat} {v : Value} {ws : List Wd} (h : WdOwn w B v ws) (hb : Below w.heap.size w w') : WdOwn w' B v ws := ownG_keep h hb
theorem WdOwn.made (w : World) : WdOwn (w.alloc (.cells #[] 9)) w.heap.size (.slice (some ⟨w.heap.size, 0, none⟩) 0 0) [] := World.ownsRow_made w #[] 0 (Nat.le_refl _) (by simp) (by simp)
theorem specCopyLeast (A : Option Addr) (n c : Nat) (xs : List Br) (A' : Option Addr) (n' c' : Nat) (ws : List Wd) (w : World) (hX : OkBs xs) (hW : ∀ l ∈ ws, l.length ≤ maxLen) (h : BrsIn w w.heap.size A n c xs) (h' : WdsIn w w.heap.size A' n' c' ws) :
  Calls Tryz.prog 178 #[.slice A n c, .slice A' n' c'] w fun e w' => e = .returned (.int .i64 (leastI (xs.map Br.dat) ws)) ∧ Below w.heap.size w w' := by
 have HB := uH (l4Both A n c xs A' n' c' ws w hX hW h h'); cases hv : (brsB (xs.map Br.dat) && spB ws) with
 | false =>
  have HR : Hid (leastI (xs.map Br.dat) ws = -1) := uH (by unfold leastI; rw [hv]; rfl); rw [hv] at HB; clear hv h h' hX hW; go_enter Tryz.func178, Tryz.ntmps178
  (go_wp2_with fail); refine HB.out.mono ?_; rintro e w1 ⟨rfl, hb⟩; go_wp2; go_ret; exact ⟨ret_int HR.out.symm, hb⟩
 | true =>
  have HR : Hid (leastI (xs.map Br.dat) ws = (costOf (xs.map Br.dat) ws : Int)) := uH (by unfold leastI; rw [hv]; rfl); rw [hv] at HB; rw [Bool.and_eq_true] at hv; have HC := uH (fun W (hb : Below w.heap.size w W) => l4Costs A n c xs A' n' c' ws W hv.1 hv.2 (h.keep hb) (h'.keep hb)); clear hv h h' hX hW; go_enter Tryz.func178, Tryz.ntmps178
  (go_wp2_with fail); refine HB.out.mono ?_; rintro e w1 ⟨rfl, hb⟩; have HC1 := uH (HC.out w1 hb); clear HC HB; (go_wp2_with fail); refine HC1.out.mono ?_; rintro e w2 ⟨rfl, hc, hb2⟩; have c0 := hc.cell (j := 0) (Nat.zero_le _); rw [List.drop_zero] at c0; have b2 := below_next hb hb2; clear hc hb2 HC1 hb; go_wp2; go_ret; exact ⟨ret_int HR.out.symm, b2⟩
def stepF (bs : List Bf) (ws : List Wd) (k : Nat) : Wd × Nat := match pickFrom bs ws k with
 | some b => (b.mark, b.words.length)
 | none => (ws.headD [], 1)
theorem stepF_zero (bs : List Bf) (ws : List Wd) : stepF bs ws 0 = stepT bs ws := rfl
theorem stepF_end (bs : List Bf) (ws : List Wd) : stepF bs ws bs.length = (ws.headD [], 1) := by unfold stepF; rw [pickFrom_end]
theorem stepF_yes {bs : List Bf} {ws : List Wd} {k : Nat} (h : k < bs.length) (h1 : hitB ws (bfAt bs k) = true) (h2 : wayD bs ws (bfAt bs k) = costOf bs ws) : stepF bs ws k = ((bfAt bs k).mark, (bfAt bs k).words.length) := by
 unfold stepF; rw [pickFrom_at h, h1, h2, decide_eq_true rfl]; rfl
theorem stepF_no {bs : List Bf} {ws : List Wd} {k : Nat} (h : k < bs.length) (h1 : ¬ (hitB ws (bfAt bs k) = true ∧ wayD bs ws (bfAt bs k) = costOf bs ws)) : stepF bs ws k = stepF bs ws (k + 1) := by
 unfold stepF; rw [pickFrom_at h, if_neg]; intro e; rw [Bool.and_eq_true, decide_eq_true_iff] at e; exact h1 e
def WdsO (w' : World) (B : Nat) (o : Option (List Wd)) (e : Ending) : Prop :=
 ∃ A c, e = .returned (.tuple #[.slice A (o.getD []).length c, .bool o.isSome]) ∧ WdOwn w' B (.slice A (o.getD []).length c) (o.getD [])
theorem WdsO.no {w' : World} {B : Nat} {o : Option (List Wd)} {A : Option Addr} {c : Nat} (ho : o = none) (h : WdOwn w' B (.slice A 0 c) []) : WdsO w' B o (.returned (.tuple #[.slice A 0 c, .bool false])) := by
 subst ho; exact ⟨A, c, rfl, h⟩
theorem WdsO.yes {w' : World} {B n : Nat} {o : Option (List Wd)} {A : Option Addr} {c : Nat} {ws : List Wd} (ho : o = some ws) (hn : n = ws.length) (h : WdOwn w' B (.slice A n c) ws) : WdsO w' B o (.returned (.tuple #[.slice A n c, .bool true])) := by
 subst ho hn; exact ⟨A, c, rfl, h⟩
set_option maxHeartbeats 3200000 in
theorem specCopyBest (A : Option Addr) (n c : Nat) (xs : List Br) (A' : Option Addr) (n' c' : Nat) (ws : List Wd) (w : World) (hX : OkBs xs) (hW : ∀ l ∈ ws, l.length ≤ maxLen) (h : BrsIn w w.heap.size A n c xs) (h' : WdsIn w w.heap.size A' n' c' ws) :
  Calls Tryz.prog 18 #[.slice A n c, .slice A' n' c'] w fun e w' => WdsO w' w.heap.size (bestO (xs.map Br.dat) ws) e ∧ Below w.heap.size w w' := by
 obtain ⟨j0, hj, hy0, hy1, hy2⟩ := info_parts infoWd; have b0 : Below w.heap.size w (w.alloc (.cells #[] 9)) := (Below.refl _ _).alloc (Nat.le_refl _) _; have HB := uH (l4Both A n c xs A' n' c' ws _ hX hW (h.keep b0) (h'.keep b0)); have HO0 := uH (WdOwn.made w); cases hv : (brsB (xs.map Br.dat) && spB ws) with
 | false =>
  have HR : Hid (bestO (xs.map Br.dat) ws = none) := uH (by unfold bestO; rw [hv]; rfl); rw [hv] at HB; clear hv h h' hX hW; go_enter Tryz.func18, Tryz.ntmps18
  (go_wp2_with fail); refine HB.out.mono ?_; rintro e w1 ⟨rfl, hb⟩; have HF := uH (WdsO.no HR.out (HO0.out.keep hb)); have b1 := below_next b0 hb; clear HR HO0 HB hb b0; go_wp2
  go_ret2
  exact ⟨HF.out, b1⟩
 | true =>
  have HR : Hid (bestO (xs.map Br.dat) ws = some (bestT (xs.map Br.dat) ws)) := uH (by unfold bestO; rw [hv]; rfl); rw [hv] at HB; rw [Bool.and_eq_true] at hv; obtain ⟨hv1, hs⟩ := hv; obtain ⟨bs, hbs⟩ : ∃ bs, bs = xs.map Br.dat := ⟨_, rfl⟩; have HC := uH (fun W (hb : Below w.heap.size w W) => l4Costs A n c xs A' n' c' ws W hv1 hs (h.keep hb) (h'.keep hb)); rw [← hbs] at HC HR hv1 ⊢; have hone := valid_one hv1; have hn20 : n' ≤ 20 := (by have := (spB_iff.1 hs).2; rw [h'.1] at this; exact this); have hn8 : n ≤ 8 := (by have := (brsB_iff.1 hv1).1; rw [hbs, List.length_map, h.1] at this; exact this); have HLb : Hid (bs.length = n) := uH (by rw [hbs, List.length_map, h.1]); have HL' := uH h'.1; have HL := uH h.1; have HDat : Hid (∀ k, k < n → bfAt bs k = (brAt xs k).dat) := uH (fun k hk => by rw [hbs]; exact brAt_dat (by rw [HL.out]; exact hk)); have HOne := uH hone; have HBd : Hid (∀ j, costOf bs (ws.drop j) ≤ 240) := uH (fun j => cost240 hone hs j); have HMk : Hid (∀ k, k < n → (brAt xs k).mark.length ≤ 3 ∧ 1 ≤ (brAt xs k).n ∧ (brAt xs k).n ≤ 3) := uH (fun k hk => by
   have h1 := brsB_mem hv1 _ (bfAt_mem (bs := bs) (k := k) (by rw [HLb.out]; exact hk)); rw [HDat.out k hk] at h1; obtain ⟨h2, h3⟩ := bfB_iff.1 h1; have h4 := (h.2.2.2.2 _ (brAt_mem (xs := xs) (k := k) (by rw [HL.out]; exact hk))).1; have h5 := bwB_len h3; exact ⟨(markB_len h2).2, by rw [← h4]; exact h5.1, by rw [← h4]; exact h5.2⟩)
  have HXl : Hid (∀ k, k < n → (brAt xs k).words.length = (brAt xs k).n) := uH (fun k hk => (h.2.2.2.2 _ (brAt_mem (xs := xs) (k := k) (by rw [HL.out]; exact hk))).1); have H := uH h; have H' := uH h'; clear h h' hv1 hs hone hbs hX hW; go_enter Tryz.func18, Tryz.ntmps18
  (go_wp2_with fail); refine HB.out.mono ?_; rintro e w1 ⟨rfl, hb⟩; have b1 := below_next b0 hb; have HC1 := uH (HC.out w1 b1); have HO1 := uH (HO0.out.keep hb); have hg1 : w.heap.size < w1.heap.size := (by have := hb.size; simp at this; omega); clear HC HB HO0 hb b0; (go_wp2_with fail); refine HC1.out.mono ?_; rintro e w2 ⟨rfl, hc, hb2⟩; have b2 := below_next b1 hb2; have HCo := uH hc; have HO2 := uH (HO1.out.keep hb2); have hgg : w1.heap.size < w2.heap.size := (by obtain ⟨cs, h1, _⟩ := hc; exact h1.lt); clear HC1 HO1 hc hb2 b1; obtain ⟨g, hg⟩ : ∃ g, g = w1.heap.size := ⟨_, rfl⟩; rw [← hg] at HCo hgg hg1 ⊢; clear hg; have HW0 : Hid (∀ q, (Value.slice (some ⟨w.heap.size, 0, none⟩) 0 0).ownBlock = some q → q ≠ g) := uH (fun q hq => by have h2 : some w.heap.size = some q := hq; injection h2 with h2; omega); go_wp2; go_loopw [6, 8] (fun s6 s8 wr => ∃ (at_ : Nat) (out : List Wd) (v : Value), at_ ≤ n' ∧ s6 = v ∧ s8 = .int .i64 at_ ∧ out.length ≤ at_ ∧ Hid (bestT bs ws = out ++ bestT bs (ws.drop at_)) ∧ Hid (WdOwn wr w.heap.size v out) ∧ Hid (∀ q, v.ownBlock = some q → q ≠ g) ∧ Hid (CostsIn wr g bs ws) ∧ Below w.heap.size w wr) (fun _ s8 _ => n' - (intOf s8).toNat)
  case atStart => exact ⟨0, [], _, Nat.zero_le _, rfl, rfl, Nat.le_refl _, uH (by rw [List.drop_zero]; rfl), HO2, HW0, HCo, b2⟩
  case round =>
   obtain ⟨i, out, v, hi, rfl, rfl, hol, HT, HO, HW, HC, hb⟩ := hrel; have i1 : (0 : Int) ≤ (i : Int) := (by omega); by_cases hlt : i < n'
   ·have i2 : (i : Int) < (n' : Int) := (by omega); obtain ⟨b, off, rfl, hbB, c0⟩ := (H'.out.keep hb).at_ hlt; have HS0 : Hid (stepF bs (ws.drop i) n = (wdAt ws i, 1)) := uH (by
     have h1 := stepF_end bs (ws.drop i); rw [HLb.out] at h1; have h5 : i < ws.length := (by rw [HL'.out]; exact hlt); have h6 := wdAt_some h5; rw [List.getElem?_eq_getElem h5] at h6; injection h6 with h6; rw [h1, List.drop_eq_getElem_cons h5, h6]; rfl)
    go_wp2; go_loopw [9, 10, 11] (fun s9 s10 s11 wv => ∃ k : Nat, k ≤ n ∧ s9 = .string (mkStr (stepF bs (ws.drop i) k).1) ∧ s10 = .int .i64 ((stepF bs (ws.drop i) k).2 : Int) ∧ s11 = .int .i64 ((k : Int) - 1) ∧ Below wr.heap.size wr wv) (fun _ _ s11 _ => (intOf s11 + 1).toNat)
    case atStart => exact ⟨n, Nat.le_refl _, by rw [HS0.out], by rw [HS0.out]; rfl, rfl, Below.refl _ _⟩
    case round =>
     obtain ⟨k, hk, rfl, rfl, rfl, hb3⟩ := hrel; cases k with
     | zero =>
      obtain ⟨N, S, hNS⟩ : ∃ N S, stepF bs (ws.drop i) 0 = (N, S) := ⟨_, _, rfl⟩; have hbd := stepT_bd HOne.out (ws := ws.drop i) (by rw [List.length_drop, HL'.out]; omega); have HT2 := bestT_step HOne.out (ws := ws.drop i) (by rw [List.length_drop, HL'.out]; omega); rw [← stepF_zero, hNS] at hbd HT2; rw [hNS]; dsimp only at hbd HT2 ⊢; rw [List.length_drop, HL'.out] at hbd; rw [List.drop_drop] at HT2; have HT3 : Hid (bestT bs ws = (out ++ [N]) ++ bestT bs (ws.drop (i + S))) := uH (by rw [HT.out, HT2, List.append_assoc]; rfl); have HOr : Hid (wr.ownsRow w.heap.size 9 1 u6 out.length (out.map strP)) := uH (HO.out.keep hb3); have b4 := below_next hb hb3; have hzb := b4.size; have HCr := uH (HC.out.below hb3); have hgr : g < wr.heap.size := (by obtain ⟨cs, h1, _⟩ := HCr.out; exact h1.lt); obtain ⟨hb5, hb6⟩ := hbd; have hw1 : IntKind.i64.wrap ((i : Int) + (S : Int)) = (i : Int) + (S : Int) := IntWalk.i64_in _ (by omega); clear hNS HT2 HT HO HC hb3 hb HS0; go_wp2_with (at_builtin; refine wpList_append_any _ rfl (.tmp 76) (.tmp 78) _ rfl w.heap.size 9 j0 _ 1 16 Tryz.underlying27 hj hy0 hy1 hy2 rfl (by omega) _ out.length (out.map strP) rfl (HOr.out.alloc _) (wr.heap.size + 1) (some ⟨wr.heap.size, 0, none⟩) 1 1 [strP N] (by simp [Act.eval, Act.put]) (rowNew1 _ _ _) (by simp [strP, Value.oneCell']) (by unfold maxLen; omega) (by omega) (by simp; omega) ?_; intro v4 w4 hown4 hg4 hat4)
      have HO4 : Hid (WdOwn w4 w.heap.size v4 (out ++ [N])) := uH (by unfold WdOwn; rw [List.length_append, List.map_append]; exact hown4); have hBk : ∀ q, u6.ownBlock = some q → w.heap.size ≤ q := fun q hq => ownG_base HOr.out hq; have b5 : Below w.heap.size w w4 := (b4.alloc hzb _).grown hg4 (by simp; omega) hBk; have HW4 : Hid (∀ q, v4.ownBlock = some q → q ≠ g) := uH (fun q hq => by
       rcases hat4 with e | e
       ·rw [e] at hq; exact HW.out q hq
       ·rw [e] at hq; injection hq with hq; simp at hq; omega)
      have HC4 : Hid (CostsIn w4 g bs ws) := uH (by
       obtain ⟨cs, h1, h2, h3⟩ := HCr.out; exact ⟨cs, (hg4.block g (by simp; omega) (fun e => HW.out g e.symm rfl)).trans (h1.alloc _), h2, h3⟩)
      have hol4 : (out ++ [N]).length ≤ i + S := (by rw [List.length_append]; simp; omega); clear hown4 hg4 hat4 HOr HCr HW hBk b4; go_wp2; go_roundw
      case rel => exact ⟨i + S, out ++ [N], v4, by omega, rfl, by go_num, hol4, HT3, HO4, HW4, HC4, b5⟩
      case measure => simp [intOf] <;> omega
     | succ q =>
      have hI : (((q + 1 : Nat) : Int) - 1) = (q : Int) := (by omega); rw [hI]; clear hI; have hqn : q < n := (by omega); have q1 : (0 : Int) ≤ (q : Int) := (by omega); have q2 : (q : Int) < (n : Int) := (by omega); have b4 := below_next hb hb3; obtain ⟨b2, off2, rfl, hbB2, d0, d1, hIq⟩ := (H.out.keep b4).at_ hqn; have HAt : Hid (∀ W, Below wr.heap.size wr W → Calls Tryz.prog 62 #[.slice (some ⟨b, off, none⟩) n' c', .int .i64 (i : Int), .agg #[.string (mkStr (brAt xs q).mark), .slice (brAt xs q).A (brAt xs q).n (brAt xs q).c]] W fun e w' => e = .returned (.bool (hitB (ws.drop i) (brAt xs q).dat)) ∧ Below W.heap.size W w') := uH (fun W hW => l4At _ n' c' ws i (brAt xs q) W (by omega) (by omega) (by have := (HMk.out q hqn).2.2; omega) (H'.out.keep (below_next b4 hW)) ((H.out.keep (below_next b4 hW)).2.2.2.2 _ (brAt_mem (by rw [HL.out]; exact hqn)))); have HYes : Hid (hitB (ws.drop i) (brAt xs q).dat = true → wayD bs (ws.drop i) (brAt xs q).dat = costOf bs (ws.drop i) → stepF bs (ws.drop i) q = ((brAt xs q).mark, (brAt xs q).n)) := uH (fun h1 h2 => by
       have h3 := stepF_yes (bs := bs) (ws := ws.drop i) (k := q) (by rw [HLb.out]; exact hqn) (by rw [HDat.out q hqn]; exact h1) (by rw [HDat.out q hqn]; exact h2); rw [h3, HDat.out q hqn]; exact Prod.ext rfl (HXl.out q hqn))
      have HNo : Hid (¬ (hitB (ws.drop i) (brAt xs q).dat = true ∧ wayD bs (ws.drop i) (brAt xs q).dat = costOf bs (ws.drop i)) → stepF bs (ws.drop i) q = stepF bs (ws.drop i) (q + 1)) := uH (fun h1 => stepF_no (by rw [HLb.out]; exact hqn) (by rw [HDat.out q hqn]; exact h1)); have HCr := uH (HC.out.below hb3); have r0 := qcell d0; have r1 := qcell d1; clear hIq hb; cases hh : hitB (ws.drop i) (brAt xs q).dat with
      | false =>
       rw [hh] at HAt; have HF := uH (HNo.out (fun e => by rw [hh] at e; cases e.1)); clear hh HYes HNo HCr; rw [← HF.out]; generalize brAt xs q = x at *; (go_wp2_with fail); refine region_qb (by kernel_rfl) (by kernel_rfl) ?_; repeat (first | go_big_quiet_step ((go_at_call 62; exact quietB (HAt.out _ (below_regrown _ _ _)))) | quiet_step ((go_at_call 62; exact quietB (HAt.out _ (below_regrown _ _ _)))))
       refine wpQuiet_nil ?_; intro w5 hb5; have b5 := below_next hb3 hb5; clear hb5 hb3 r0 r1 d0 d1 HAt; go_wp2; go_roundw
       case rel => exact ⟨q, by omega, rfl, rfl, by go_num, b5⟩
       case measure => simp [intOf] <;> omega
      | true =>
       rw [hh] at HAt; have HLe : Hid (i + (brAt xs q).n ≤ n') := uH (by
        have := hitB_len hh; unfold Br.dat at this; simp only [HXl.out q hqn, List.length_drop, HL'.out] at this; omega)
       have e1 : wayD bs (ws.drop i) (brAt xs q).dat = costOf bs (ws.drop (i + (brAt xs q).n)) + (brAt xs q).mark.length := by
        unfold wayD
        show costOf bs ((ws.drop i).drop (brAt xs q).words.length) + (brAt xs q).mark.length = _
        rw [HXl.out q hqn, List.drop_drop]
       have hle := HLe.out; have hm3 := HMk.out q hqn; have hc1 := HBd.out i; have hc2 := HBd.out (i + (brAt xs q).n); have x0 := HCr.out.cell (j := i) (by rw [HL'.out]; omega); have x1 := HCr.out.cell (j := i + (brAt xs q).n) (by rw [HL'.out]; exact hle); have y0 := qcell x0; have y1 := qcell x1; have hsz : (mkStr (brAt xs q).mark).size = (brAt xs q).mark.length := mkStr_size _; have hl0 : (mkStr (brAt xs q).mark).size ≤ 3 := (by omega); have l1 : (0 : Int) ≤ (i : Int) + ((brAt xs q).n : Int) := (by omega); have l2 : (i : Int) + ((brAt xs q).n : Int) < (n' : Int) + 1 := (by omega); have l3 : (i : Int) < (n' : Int) + 1 := (by omega); have hw1 : IntKind.i64.wrap ((i : Int) + ((brAt xs q).n : Int)) = (i : Int) + ((brAt xs q).n : Int) := IntWalk.i64_in _ (by omega); have hw2 : IntKind.i64.wrap ((costOf bs (ws.drop (i + (brAt xs q).n)) : Int) + ((mkStr (brAt xs q).mark).size : Int)) = (costOf bs (ws.drop (i + (brAt xs q).n)) : Int) + ((mkStr (brAt xs q).mark).size : Int) := IntWalk.i64_in _ (by omega); have hnn : ((i : Int) + ((brAt xs q).n : Int)).toNat = i + (brAt xs q).n := (by omega); by_cases heq : costOf bs (ws.drop (i + (brAt xs q).n)) + (brAt xs q).mark.length = costOf bs (ws.drop i)
       ·have HF := uH (HYes.out hh (by rw [e1]; exact heq)); have hq0 : ((costOf bs (ws.drop (i + (brAt xs q).n)) : Int) + ((mkStr (brAt xs q).mark).size : Int) == (costOf bs (ws.drop i) : Int)) = true := (by rw [hsz]; simp; omega); clear hh HYes HNo heq e1 hm3 hsz hle HCr HLe; generalize costOf bs (ws.drop (i + (brAt xs q).n)) = C2 at *; generalize costOf bs (ws.drop i) = C1 at *; generalize brAt xs q = x at *; (go_wp2_with fail); refine region_qb (by kernel_rfl) (by kernel_rfl) ?_; repeat (first | go_big_quiet_step ((go_at_call 62; exact quietB (HAt.out _ (below_regrown _ _ _)))) | quiet_step ((go_at_call 62; exact quietB (HAt.out _ (below_regrown _ _ _)))))
        refine wpQuiet_nil ?_; intro w5 hb5; have b5 := below_next hb3 hb5; have z0 := kcell hb5 d0; clear hb5 hb3 r0 r1 d0 d1 x0 x1 y0 y1 HAt hw1 hw2 hnn hq0; go_wp2; go_roundw
        case rel => exact ⟨q, by omega, by rw [HF.out], by rw [HF.out], by go_num, b5⟩
        case measure => simp [intOf] <;> omega
       ·have HF := uH (HNo.out (fun e => heq (by rw [← e1]; exact e.2))); have hq0 : ((costOf bs (ws.drop (i + (brAt xs q).n)) : Int) + ((mkStr (brAt xs q).mark).size : Int) == (costOf bs (ws.drop i) : Int)) = false := (by rw [hsz]; simp; omega); clear hh HYes HNo heq e1 hm3 hsz hle HCr HLe; rw [← HF.out]; generalize costOf bs (ws.drop (i + (brAt xs q).n)) = C2 at *; generalize costOf bs (ws.drop i) = C1 at *; generalize brAt xs q = x at *; (go_wp2_with fail); refine region_qb (by kernel_rfl) (by kernel_rfl) ?_; repeat (first | go_big_quiet_step ((go_at_call 62; exact quietB (HAt.out _ (below_regrown _ _ _)))) | quiet_step ((go_at_call 62; exact quietB (HAt.out _ (below_regrown _ _ _)))))
        refine wpQuiet_nil ?_; intro w5 hb5; have b5 := below_next hb3 hb5; clear hb5 hb3 r0 r1 d0 d1 x0 x1 y0 y1 HAt hw1 hw2 hnn hq0; go_wp2; go_roundw
        case rel => exact ⟨q, by omega, rfl, rfl, by go_num, b5⟩
        case measure => simp [intOf] <;> omega
   ·obtain rfl : i = n' := (by omega); have HF : Hid (bestT bs ws = out) := uH (by rw [HT.out, List.drop_of_length_le (by rw [HL'.out]; exact Nat.le_refl _), bestT_nil, List.append_nil]); obtain ⟨A5, c5, rfl, _, _⟩ := ownG_form HO.out; have HA : Hid (WdsO wr w.heap.size (bestO bs ws) (.returned (.tuple #[.slice A5 out.length c5, .bool true]))) := uH (WdsO.yes (by rw [HR.out, HF.out]) rfl HO.out); clear HT HO HW HC HF; generalize out.length = N at *; go_wp2
    go_ret2
    exact ⟨HA.out, hb⟩
end Go.Proofs.YtbkhnljaajajiaaGreatDoor
