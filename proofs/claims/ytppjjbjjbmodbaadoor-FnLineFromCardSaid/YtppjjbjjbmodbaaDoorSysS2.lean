/-
  Systems, of the reference: the stroke of a letter. Conditions: the list lies in memory.
-/
import Derived.Test.YtppjjbjjbmodbaaDoorSysS
namespace Go.Proofs.YtppjjbjjbmodbaaDoor
open Go.ChangeShapes Go.WideShapes Go.ChangeAt Go.RowKit
set_option maxRecDepth 100000
set_option linter.unusedSimpArgs false

def stAns (o : Option Stroke) : Value := match o with
  | some s => .tuple #[.agg #[.int .i64 s.dir, .int .i64 s.size], .bool true]
  | none => .tuple #[.agg #[.int .i64 0, .int .i64 0], .bool false]
def noneTo (xs : List Sg) (l : List UInt8) (k : Nat) : Prop := ∀ j, j < k → (sgAt xs j).l ≠ l
theorem noneTo_succ {xs : List Sg} {l : List UInt8} {k : Nat} (h : noneTo xs l k) (h2 : (sgAt xs k).l ≠ l) : noneTo xs l (k + 1) := fun j hj => by
  rcases Nat.lt_succ_iff_lt_or_eq.1 hj with h3 | rfl
  · exact h j h3
  · exact h2

set_option maxHeartbeats 800000 in
theorem specSystemStroke (A : Option Addr) (n c : Nat) (xs : List Sg) (l : List UInt8) (w : World) (h : SgsIn w w.heap.size A n c xs) :
    Calls Tryd.prog 79 #[.slice A n c, .string (mkStr l)] w fun e w' => e = .returned (stAns (strokeOf xs l)) ∧ Below w.heap.size w w' := by
  have hm := h.2.2.1; have hnc := h.2.1
  unfold maxLen at hm
  have HL := Lib.hid h.1
  have H := Lib.hid h
  have HV : Hid (∀ W, Below w.heap.size w W → Calls Tryd.prog 76 #[.slice A n c] W fun e w' => e = .returned (.bool (sysB xs)) ∧ Below W.heap.size W w') := Lib.hid (fun W hW => specSystemValid A n c xs W (H.out.keep hW))
  clear h
  cases hb : sysB xs with
  | false =>
    have HR : Hid (strokeOf xs l = none) := Lib.hid (strokeOf_no (fun h => by rw [hb] at h; cases h))
    rw [hb] at HV
    clear hb
    have B1 : Below w.heap.size w (w.alloc (.cells #[.int .i64 0, .int .i64 0] 88)) := (Below.refl _ _).alloc (Nat.le_refl _) _
    have K := Blk.new w 88 #[.int .i64 0, .int .i64 0]
    by_cases h0 : n = 0
    · subst h0
      go_enter Tryd.func79, Tryd.ntmps79
      go_wp2
      go_loopw [6] (fun i wr => i = .int .i64 0 ∧ wr = (w.alloc (.cells #[.int .i64 0, .int .i64 0] 88))) (fun _ _ => 0)
      case atStart => exact ⟨rfl, rfl⟩
      case round =>
        obtain ⟨rfl, rfl⟩ := hrel
        obtain ⟨k0, k1, kf0, kf1⟩ := K.two
        go_wp2
        refine bodyPost_ret (v := .tuple #[.agg #[.int .i64 0, .int .i64 0], .bool false]) (by simp [results, Tryd.results79, go_sem, k0, k1]) rfl ?_
        exact ⟨by rw [HR.out]; rfl, B1⟩
    · have hp : 0 < n := by omega
      go_enter Tryd.func79, Tryd.ntmps79
      go_wp2
      go_loopw [6] (fun i wr => i = .int .i64 0 ∧ wr = (w.alloc (.cells #[.int .i64 0, .int .i64 0] 88))) (fun _ _ => 0)
      case atStart => exact ⟨rfl, rfl⟩
      case round =>
        obtain ⟨rfl, rfl⟩ := hrel
        go_wp2_with fail
        refine (HV.out _ B1).mono ?_
        rintro e w1 ⟨rfl, hb1⟩
        have B2 := below_next B1 hb1
        obtain ⟨k0, k1, kf0, kf1⟩ := (K.below hb1).two
        go_wp2
        refine bodyPost_ret (v := .tuple #[.agg #[.int .i64 0, .int .i64 0], .bool false]) (by simp [results, Tryd.results79, go_sem, k0, k1]) rfl ?_
        exact ⟨by rw [HR.out]; rfl, (B2.setCell (Nat.le_refl _) _).setCell (Nat.le_refl _) _⟩
  | true =>
    rw [hb] at HV
    have HB := Lib.hid hb
    clear hb
    have HN : Hid (noneTo xs l n → strokeOf xs l = none) := Lib.hid (fun h => strokeOf_no (fun _ j hj => h j (by rw [HL.out] at hj; exact hj)))
    have HY : Hid (∀ k, k < n → noneTo xs l k → (sgAt xs k).l = l → strokeOf xs l = some (sgAt xs k).st) := Lib.hid (fun k hk h1 h2 => strokeOf_at HB.out (by rw [HL.out]; exact hk) h1 h2)
    go_enter Tryd.func79, Tryd.ntmps79
    go_wp2
    go_loopw [6] (fun i wr => ∃ k : Nat, k ≤ n ∧ i = .int .i64 k ∧ Hid (noneTo xs l k) ∧ Below (w.alloc (.cells #[.int .i64 0, .int .i64 0] 88)).heap.size (w.alloc (.cells #[.int .i64 0, .int .i64 0] 88)) wr) (fun i _ => n - (intOf i).toNat)
    case atStart => exact ⟨0, Nat.zero_le _, rfl, Lib.hid (fun j hj => absurd hj (by omega)), Below.refl _ _⟩
    case round =>
      obtain ⟨k, hk, rfl, HK, hb⟩ := hrel
      have B1 : Below w.heap.size w (w.alloc (.cells #[.int .i64 0, .int .i64 0] 88)) := (Below.refl _ _).alloc (Nat.le_refl _) _
      have B2 := below_next B1 hb
      have K := (Blk.new w 88 #[.int .i64 0, .int .i64 0]).below hb
      by_cases hlt : k < n
      · have i1 : (0 : Int) ≤ (k : Int) := by omega
        have i2 : (k : Int) < (n : Int) := by omega
        have HYk := Lib.hid (HY.out k hlt HK.out)
        have HK2 : Hid ((sgAt xs k).l ≠ l → noneTo xs l (k + 1)) := Lib.hid (fun h => noneTo_succ HK.out h)
        go_wp2_with fail
        refine (HV.out _ B2).mono ?_
        rintro e w1 ⟨rfl, hb1⟩
        have B3 := below_next B2 hb1
        have K3 := K.below hb1
        have HC3 := below_next hb hb1
        obtain ⟨b, off, rfl, hbB, c0, c1, c2, hg⟩ := (H.out.below B3).at_ hlt
        obtain ⟨k0, k1, kf0, kf1⟩ := K3.two
        generalize sgAt xs k = x at *
        obtain ⟨lx, ⟨d, z⟩⟩ := x
        dsimp only at c0 c1 c2 hg HYk HK2
        have hq : ((mkStr lx).toList == (mkStr l).toList) = decide (lx = l) := by
          rw [Lib.toList_data, Lib.toList_data, mkStr_data, mkStr_data]
          by_cases h : lx = l
          · rw [h, decide_eq_true rfl]; exact beq_self_eq_true _
          · rw [decide_eq_false h]; exact beq_eq_false_iff_ne.2 h
        by_cases he : lx = l
        · rw [decide_eq_true he] at hq
          have HF := Lib.hid (HYk.out he)
          clear he
          go_wp2
          refine bodyPost_ret (v := .tuple #[.agg #[.int .i64 d, .int .i64 z], .bool true]) (by simp [results, Tryd.results79, go_sem, k0, k1]) rfl ?_
          exact ⟨by rw [HF.out]; rfl, (B3.setCell (Nat.le_refl _) _).setCell (Nat.le_refl _) _⟩
        · rw [decide_eq_false he] at hq
          have HK3 := Lib.hid (HK2.out he)
          clear he
          go_wp2
          go_roundw
          case rel => exact ⟨k + 1, by omega, by go_num, HK3, HC3⟩
          case measure => simp [intOf]; omega
      · obtain rfl : k = n := by omega
        have HF := Lib.hid (HN.out HK.out)
        obtain ⟨k0, k1, kf0, kf1⟩ := K.two
        go_wp2
        refine bodyPost_ret (v := .tuple #[.agg #[.int .i64 0, .int .i64 0], .bool false]) (by simp [results, Tryd.results79, go_sem, k0, k1]) rfl ?_
        exact ⟨by rw [HF.out]; rfl, (B2.setCell (Nat.le_refl _) _).setCell (Nat.le_refl _) _⟩
end Go.Proofs.YtppjjbjjbmodbaaDoor
