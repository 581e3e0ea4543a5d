/-
  PadOrder of both packages says one number and one answer. Conditions: strings no longer than a Go string can be.
-/
import Derived.Test.YtbeaandjhlpaeaaOrd
import Derived.Test.YtbeaandjhlpaeaaQuiet
namespace Go.Proofs.Ytbeaandjhlpaeaa
open Go.ChangeShapes Go.WideShapes Go.ChangeAt Go.RowKit
set_option maxRecDepth 100000

theorem box2 {w w1 : World} {t t' : TypeId} {a b c d : Value} (hb : Below ((w.alloc (.cells #[a, b] t)).alloc (.cells #[c, d] t')).heap.size ((w.alloc (.cells #[a, b] t)).alloc (.cells #[c, d] t')) w1) :
    w1.cell? ⟨w.heap.size, 0, none⟩ = some a ∧ w1.cell? ⟨w.heap.size, 1, none⟩ = some b ∧ w1.cell? ⟨w.heap.size + 1, 0, none⟩ = some c ∧ w1.cell? ⟨w.heap.size + 1, 1, none⟩ = some d :=
  ⟨kcell hb (by go_simp), kcell hb (by go_simp), kcell hb (by go_simp), kcell hb (by go_simp)⟩
theorem keep4 {w w1 : World} {a b c d : Addr} {p q r s : Value} (hb : Below w.heap.size w w1) (h1 : w.cell? a = some p) (h2 : w.cell? b = some q) (h3 : w.cell? c = some r) (h4 : w.cell? d = some s) :
    w1.cell? a = some p ∧ w1.cell? b = some q ∧ w1.cell? c = some r ∧ w1.cell? d = some s := ⟨kcell hb h1, kcell hb h2, kcell hb h3, kcell hb h4⟩

def poB (d : Int) (c : List UInt8) (d' : Int) (c' : List UInt8) : Bool := padB d c && padB d' c'
def poN (d : Int) (c : List UInt8) (d' : Int) (c' : List UInt8) : Int := if poB d c d' c' = true then ordP d c d' c' else 0

theorem ret_ib {a a' : Int} {b b' : Bool} (h : a = a') (h' : b = b') : Ending.returned (.tuple #[.int .i64 a, .bool b]) = .returned (.tuple #[.int .i64 a', .bool b']) := by rw [h, h']

theorem po_yes {d d' : Int} {c c' : List UInt8} (h1 : padB d c = true) (h2 : padB d' c' = true) : poN d c d' c' = ordP d c d' c' ∧ poB d c d' c' = true := by
  have h : poB d c d' c' = true := by unfold poB; rw [h1, h2]; rfl
  exact ⟨by unfold poN; rw [if_pos h], h⟩
theorem po_no {d d' : Int} {c c' : List UInt8} (h : padB d c = false ∨ padB d' c' = false) : poN d c d' c' = 0 ∧ poB d c d' c' = false := by
  have h : poB d c d' c' = false := by unfold poB; rcases h with h | h <;> simp [h]
  exact ⟨by unfold poN; rw [if_neg (by rw [h]; simp)], h⟩

theorem specPadOrder (d : Int) (c : ByteArray) (d' : Int) (c' : ByteArray) (w : World) (hc : c.size ≤ maxLen) (hc' : c'.size ≤ maxLen) :
    Calls Try.prog 19 #[.agg #[.int .i64 d, .string c], .agg #[.int .i64 d', .string c']] w fun e w' =>
      e = .returned (.tuple #[.int .i64 (poN d c.data.toList d' c'.data.toList), .bool (poB d c.data.toList d' c'.data.toList)]) ∧ Below w.heap.size w w' := by
  by_cases h1 : padB d c.data.toList = true
  · by_cases h2 : padB d' c'.data.toList = true
    · have HR := Lib.hid (po_yes h1 h2)
      go_enter Try.func19, Try.ntmps19
      go_wp2_with fail
      refine (specPadValid _ _ _ hc).mono ?_; rintro e w1 ⟨rfl, hb1⟩
      have b1 : Below w.heap.size w w1 := below_next (by go_grown) hb1
      obtain ⟨p0, p1, q0, q1⟩ := box2 hb1
      go_wp2_with fail
      refine (specPadValid _ _ _ hc').mono ?_; rintro e w2 ⟨rfl, hb2⟩
      have b2 := below_next b1 hb2
      obtain ⟨r0, r1, s0, s1⟩ := keep4 hb2 p0 p1 q0 q1
      go_wp2_with fail
      refine (l8Order _ _ _ _ _).mono ?_; rintro e w3 ⟨rfl, hb3⟩
      have b3 := below_next b2 hb3
      go_wp2
      go_returns
      exact ⟨ret_ib HR.out.1.symm HR.out.2.symm, b3⟩
    · have h2' : padB d' c'.data.toList = false := by simpa using h2
      have HR := Lib.hid (po_no (d := d) (c := c.data.toList) (.inr h2'))
      go_enter Try.func19, Try.ntmps19
      go_wp2_with fail
      refine (specPadValid _ _ _ hc).mono ?_; rintro e w1 ⟨rfl, hb1⟩
      have b1 : Below w.heap.size w w1 := below_next (by go_grown) hb1
      obtain ⟨p0, p1, q0, q1⟩ := box2 hb1
      go_wp2_with fail
      refine (specPadValid _ _ _ hc').mono ?_; rintro e w2 ⟨rfl, hb2⟩
      have b2 := below_next b1 hb2
      go_wp2
      go_returns
      exact ⟨ret_ib HR.out.1.symm HR.out.2.symm, b2⟩
  · have h1' : padB d c.data.toList = false := by simpa using h1
    have HR := Lib.hid (po_no (d' := d') (c' := c'.data.toList) (.inl h1'))
    go_enter Try.func19, Try.ntmps19
    go_wp2_with fail
    refine (specPadValid _ _ _ hc).mono ?_; rintro e w1 ⟨rfl, hb1⟩
    have b1 : Below w.heap.size w w1 := below_next (by go_grown) hb1
    go_wp2
    go_returns
    exact ⟨ret_ib HR.out.1.symm HR.out.2.symm, b1⟩
theorem implPadOrder (d : Int) (c : ByteArray) (d' : Int) (c' : ByteArray) (w : World) (hc : c.size ≤ maxLen) (hc' : c'.size ≤ maxLen) :
    Calls Try.prog 20 #[.agg #[.int .i64 d, .string c], .agg #[.int .i64 d', .string c']] w fun e w' =>
      e = .returned (.tuple #[.int .i64 (poN d c.data.toList d' c'.data.toList), .bool (poB d c.data.toList d' c'.data.toList)]) ∧ Below w.heap.size w w' := by
  by_cases h1 : padB d c.data.toList = true
  · by_cases h2 : padB d' c'.data.toList = true
    · have HR := Lib.hid (po_yes h1 h2)
      go_enter Try.func20, Try.ntmps20
      go_wp2_with fail
      refine (implPadValid _ _ _ hc).mono ?_; rintro e w1 ⟨rfl, hb1⟩
      have b1 : Below w.heap.size w w1 := below_next (by go_grown) hb1
      obtain ⟨p0, p1, q0, q1⟩ := box2 hb1
      go_wp2_with fail
      refine (implPadValid _ _ _ hc').mono ?_; rintro e w2 ⟨rfl, hb2⟩
      have b2 := below_next b1 hb2
      obtain ⟨r0, r1, s0, s1⟩ := keep4 hb2 p0 p1 q0 q1
      go_wp2_with fail
      refine (comparePads _ _ _ _ _).mono ?_; rintro e w3 ⟨rfl, hb3⟩
      have b3 := below_next b2 hb3
      go_wp2
      go_returns
      exact ⟨ret_ib HR.out.1.symm HR.out.2.symm, b3⟩
    · have h2' : padB d' c'.data.toList = false := by simpa using h2
      have HR := Lib.hid (po_no (d := d) (c := c.data.toList) (.inr h2'))
      go_enter Try.func20, Try.ntmps20
      go_wp2_with fail
      refine (implPadValid _ _ _ hc).mono ?_; rintro e w1 ⟨rfl, hb1⟩
      have b1 : Below w.heap.size w w1 := below_next (by go_grown) hb1
      obtain ⟨p0, p1, q0, q1⟩ := box2 hb1
      go_wp2_with fail
      refine (implPadValid _ _ _ hc').mono ?_; rintro e w2 ⟨rfl, hb2⟩
      have b2 := below_next b1 hb2
      go_wp2
      go_returns
      exact ⟨ret_ib HR.out.1.symm HR.out.2.symm, b2⟩
  · have h1' : padB d c.data.toList = false := by simpa using h1
    have HR := Lib.hid (po_no (d' := d') (c' := c'.data.toList) (.inl h1'))
    go_enter Try.func20, Try.ntmps20
    go_wp2_with fail
    refine (implPadValid _ _ _ hc).mono ?_; rintro e w1 ⟨rfl, hb1⟩
    have b1 : Below w.heap.size w w1 := below_next (by go_grown) hb1
    go_wp2
    go_returns
    exact ⟨ret_ib HR.out.1.symm HR.out.2.symm, b1⟩
end Go.Proofs.Ytbeaandjhlpaeaa
