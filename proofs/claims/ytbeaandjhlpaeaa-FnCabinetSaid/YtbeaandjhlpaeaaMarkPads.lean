/-
  markPadS and heldPadS: marks in a row of the call's own. Conditions: marks no greater than a law's.
-/
import Derived.Test.YtbeaandjhlpaeaaMark
namespace Go.Proofs.Ytbeaandjhlpaeaa
open Go.ChangeShapes Go.WideShapes Go.ChangeAt Go.RowKit
set_option maxRecDepth 100000

def markPad (m : Nat) : Pad := ⟨m, markT (m + 1)⟩
/-- n pads that hold the marks from m on. -/
def marked : Nat → Nat → List Pad
  | _, 0 => []
  | m, n + 1 => markPad m :: marked (m + 2) n
theorem marked_len : ∀ m n, (marked m n).length = n
  | _, 0 => rfl
  | m, n + 1 => by simp [marked, marked_len (m + 2) n]
theorem marked_get : ∀ m n i, i < n → (marked m n)[i]? = some (markPad (m + 2 * i))
  | _, 0, _, h => absurd h (by omega)
  | m, n + 1, 0, _ => rfl
  | m, n + 1, i + 1, h => by
    rw [marked, List.getElem?_cons_succ, marked_get (m + 2) n i (by omega)]
    congr 2; omega

theorem Below.only {w w' : World} {row : Option Nat} (h : Below w.heap.size w w') : w.grownBy w' row := ⟨h.os, h.tape, h.output, h.size, fun i hi _ => h.block i hi⟩
theorem only_set {a w : World} {p : Addr} {g : Nat} (h : a.grownBy w (some g)) (hp : p.block = g) (u : Value) : a.grownBy (w.setCell p u) (some g) :=
  ⟨h.os, h.tape, h.output, by simpa [World.setCell] using h.size, fun i hi hne => (Below.heap_setCell w p u i (by rintro rfl; exact hne (by rw [hp]))).trans (h.block i hi hne)⟩
theorem marked_snoc : ∀ m n, marked m (n + 1) = marked m n ++ [markPad (m + 2 * n)]
  | _, 0 => rfl
  | m, n + 1 => by
    rw [marked, marked_snoc (m + 2) n, marked, List.cons_append]
    congr 4; omega
theorem marked_flat_len (m n : Nat) : ((marked m n).flatMap padC).length = n * 2 := by rw [flat_len padC_len, marked_len]

/-- The first k pads of the block hold marks. -/
def MarkedTo (cur : Array Value) (cap m k : Nat) : Prop := cur.size = cap * 2 ∧ cur.toList.take (k * 2) = (marked m k).flatMap padC
theorem MarkedTo.step {cur : Array Value} {cap m k : Nat} (h : MarkedTo cur cap m k) (hk : k < cap) {x : Int} (hx : x = ((m + 2 * k : Nat) : Int)) :
    MarkedTo ((cur.setIfInBounds (k * 2) (.int .i64 x)).setIfInBounds (k * 2 + 1) (.string (markT (m + 2 * k + 1)))) cap m (k + 1) := by
  subst hx
  refine ⟨by simpa using h.1, ?_⟩
  have h1 := h.1
  rw [marked_snoc, List.flatMap_append, ← h.2]
  apply List.ext_getElem?
  intro j
  have hl : (cur.toList.take (k * 2)).length = k * 2 := by simp; omega
  rcases Nat.lt_trichotomy j (k * 2) with hj | rfl | hj
  · rw [List.getElem?_append_left (by omega), List.getElem?_take_of_lt hj, List.getElem?_take_of_lt (by omega)]
    simp only [Array.getElem?_toList]
    rw [Array.getElem?_setIfInBounds_ne (by omega), Array.getElem?_setIfInBounds_ne (by omega)]
  · rw [List.getElem?_append_right (by omega), hl, List.getElem?_take_of_lt (by omega)]
    simp only [Array.getElem?_toList]
    rw [Array.getElem?_setIfInBounds_ne (by omega), Array.getElem?_setIfInBounds_self_of_lt (by omega)]
    simp [padC, markPad]
  · rcases Nat.lt_or_ge j (k * 2 + 2) with hj2 | hj2
    · obtain rfl : j = k * 2 + 1 := by omega
      rw [List.getElem?_append_right (by omega), hl, List.getElem?_take_of_lt (by omega)]
      simp only [Array.getElem?_toList]
      rw [Array.getElem?_setIfInBounds_self_of_lt (by simp; omega)]
      simp [padC, markPad]
    · rw [List.getElem?_eq_none (by simp; omega), List.getElem?_eq_none (by rw [List.length_append, hl]; simp [padC]; omega)]

theorem markPadS (A : Option Addr) (n c m B : Nat) (ps : List Pad) (w : World) (hm0 : 0 < m) (hm : m ≤ 9000000) (hn : n ≤ 1048576) (hl : ps.length = n) (h : PadsOwn w B (.slice A n c) ps) :
    Calls Try.prog 36 #[.slice A n c, .int .i64 m] w fun e w' => e = .returned (.int .i64 ((m + 2 * n : Nat) : Int)) ∧ w.grownBy w' (Value.slice A n c).ownBlock ∧ PadsOwn w' B (.slice A n c) (marked m n) := by
  unfold PadsOwn at h
  rw [hl] at h
  rcases h.2 with ⟨e, rfl⟩ | ⟨g, cap, cur, e, hg, hB, hnc, hcm, hcs, ht⟩
  · injection e with e1 e2 e3
    subst e1 e3
    clear h hl
    go_enter Try.func36, Try.ntmps36
    go_wp2
    go_loopw [1, 5] (fun a i wr => a = .int .i64 m ∧ i = .int .i64 0 ∧ wr = w) (fun _ i _ => 0)
    case atStart => exact ⟨rfl, rfl, rfl⟩
    case round =>
      obtain ⟨rfl, rfl, rfl⟩ := hrel
      go_wp2
      go_ret
      exact ⟨rfl, World.grownBy.refl _ _, World.ownsRow_nil _ _ _ _⟩
  · injection e with e1 e2 e3
    subst e1 e3
    clear h hl ht
    have hlt : g < w.heap.size := Blk.lt (cs := cur) hB
    have h0 : MarkedTo cur c m 0 := ⟨hcs, by simp [marked]⟩
    go_enter Try.func36, Try.ntmps36
    go_wp2
    go_loopw [1, 5] (fun a i wr => ∃ (k : Nat) (cs : Array Value), k ≤ n ∧ i = .int .i64 k ∧ a = .int .i64 ((m + 2 * k : Nat) : Int) ∧ Hid (Blk wr g 26 cs) ∧ Hid (MarkedTo cs c m k) ∧ Hid (w.grownBy wr (some g))) (fun _ i _ => n - (intOf i).toNat)
    case atStart => exact ⟨0, cur, Nat.zero_le _, rfl, rfl, Lib.hid hB, Lib.hid h0, Lib.hid (World.grownBy.refl _ _)⟩
    case round =>
      obtain ⟨k, cs, hk, rfl, rfl, hC, hM, hG⟩ := hrel
      by_cases hlt2 : k < n
      · have hsz := hM.out.1
        obtain ⟨u0, hu0⟩ : ∃ u, cs[k * 2]? = some u := ⟨_, Array.getElem?_eq_getElem (by omega)⟩
        obtain ⟨u1, hu1⟩ : ∃ u, cs[k * 2 + 1]? = some u := ⟨_, Array.getElem?_eq_getElem (by omega)⟩
        have f0 := (hC.out.cell (k * 2)).trans hu0
        have g0 := hC.out.free (k * 2)
        have HX := Lib.hid hu1
        clear hu0 hu1 hsz
        have HN := Lib.hid (show (m : Int) + 2 * k + 1 = ((m + 2 * k + 1 : Nat) : Int) by omega)
        have HS := Lib.hid (hM.out.step (by omega : k < c) (x := (m : Int) + 2 * k) (by omega))
        go_wp2_with fail
        rw [HN.out]
        refine (markText (m + 2 * k + 1) _ (by omega) (by omega)).mono ?_
        rintro e w1 ⟨rfl, hb1⟩
        have hB1 := (hC.out.set (k * 2) (.int .i64 ((m : Int) + 2 * k))).below hb1
        have hG1 := only_next (only_set hG.out rfl _) (Below.only hb1)
        have f1 : w1.cell? ⟨g, k * 2 + 1, none⟩ = some u1 := by rw [hB1.cell, Array.getElem?_setIfInBounds_ne (by omega)]; exact HX.out
        have g1 := hB1.free (k * 2 + 1)
        have HB2 := Lib.hid (hB1.set (k * 2 + 1) (.string (markT (m + 2 * k + 1))))
        have HG2 := Lib.hid (only_set hG1 rfl (.string (markT (m + 2 * k + 1))) (p := ⟨g, k * 2 + 1, none⟩))
        clear hB1 hG1 hb1 HN hC hM hG f0 g0
        generalize markT (m + 2 * k + 1) = txt at *
        go_wp2
        go_roundw
        case rel => exact ⟨k + 1, _, by omega, by go_num, by go_num, HB2, HS, HG2⟩
        case measure => simp [intOf]; omega
      · obtain rfl : k = n := by omega
        have HP : Hid (PadsOwn wr B (.slice (some ⟨g, 0, none⟩) k c) (marked m k)) := Lib.hid (by
          refine ⟨by rw [marked_len, marked_flat_len], .inr ⟨g, c, cs, by rw [marked_len], hg, hC.out, by rw [marked_len]; exact hnc, hcm, hM.out.1, by rw [marked_len]; exact hM.out.2⟩⟩)
        go_wp2
        go_ret
        exact ⟨rfl, hG.out, HP.out⟩
end Go.Proofs.Ytbeaandjhlpaeaa
