/-
  The laws' own functions on written forms: copies, comparisons, sizes. Conditions: Go's own sizes.
-/
import Derived.Test.YtppjjbjjbmodbaaWritten
import Derived.Test.YtppjjbjjbmodbaaSLaw
namespace Go.Proofs.Ytppjjbjjbmodbaa
open Go.ChangeShapes Go.WideShapes Go.ChangeAt Go.RowKit
set_option maxRecDepth 100000

theorem szWritten (A : Option Addr) (n c : Nat) (p : Int) (left : Int) (w : World) (h0 : 0 ≤ left) (h1 : left ≤ 1048576) (hc : c ≤ maxLen) (hn : n ≤ c) :
    Calls Try.prog 24 #[.agg #[.slice A n c, .int .i64 p], .int .i64 left] w fun e w' => ∃ r, e = .returned (.int .i64 r) ∧ SzL left r n ∧ Below w.heap.size w w' := by
  have HS := Lib.hid (fun w => szStrokeS A n c left w h0 h1 hc hn)
  have p0 := newcell w #[.slice A n c, .int .i64 p] 50 0 _ rfl
  clear hc
  go_enter Try.func24, Try.ntmps24
  go_wp2_with fail
  refine (HS.out _).mono ?_
  rintro e w1 ⟨r, rfl, hr, rfl⟩
  by_cases hneg : r < 0
  · have HR : Hid (SzL left (-1) n) := Lib.hid (.inl rfl)
    go_wp2
    go_returns
    exact ⟨-1, rfl, HR.out, by go_grown⟩
  · have hpos : 0 ≤ r := by omega
    have HR := Lib.hid hr
    clear hneg hr
    go_wp2
    go_returns
    exact ⟨r, rfl, HR.out, by go_grown⟩

set_option maxHeartbeats 800000 in
theorem toWritten (A : Option Addr) (n c : Nat) (ss : List Stroke) (p : Int) (w : World) (hn : n ≤ 1048576) (h : StrokesIn w w.heap.size A n c ss) :
    Calls Try.prog 27 #[.agg #[.slice A n c, .int .i64 p]] w fun e w' => ∃ g, e = .returned (.agg #[.slice (some ⟨g, 0, none⟩) n n, .int .i64 p]) ∧ w.heap.size ≤ g ∧ Blk w' g 99 (ss.flatMap stC).toArray ∧ Below w.heap.size w w' := by
  have ha1 : Below w.heap.size w (w.alloc (.cells #[.slice A n c, .int .i64 p] 50)) := (Below.refl _ _).alloc (Nat.le_refl _) _
  have hal : Below w.heap.size w (((w.alloc (.cells #[.slice A n c, .int .i64 p] 50)).alloc (.cells #[.slice none 0 0, .int .i64 0] 35)).alloc (.cells #[.slice none 0 0, .int .i64 0] 35)) := (ha1.alloc (by simp) _).alloc (by simp; omega) _
  have HS := Lib.hid (toStrokeS A n c ss _ hn (h.keep hal))
  have B0 := ((Blk.new w 50 #[.slice A n c, .int .i64 p]).alloc (.cells #[.slice none 0 0, .int .i64 0] 35)).alloc (.cells #[.slice none 0 0, .int .i64 0] 35)
  have B1 := (Blk.new (w.alloc (.cells #[.slice A n c, .int .i64 p] 50)) 35 #[.slice none 0 0, .int .i64 0]).alloc (.cells #[.slice none 0 0, .int .i64 0] 35)
  have B2 := Blk.new ((w.alloc (.cells #[.slice A n c, .int .i64 p] 50)).alloc (.cells #[.slice none 0 0, .int .i64 0] 35)) 35 #[.slice none 0 0, .int .i64 0]
  have z1 : (w.alloc (.cells #[.slice A n c, .int .i64 p] 50)).heap.size = w.heap.size + 1 := by simp
  have z2 : ((w.alloc (.cells #[.slice A n c, .int .i64 p] 50)).alloc (.cells #[.slice none 0 0, .int .i64 0] 35)).heap.size = w.heap.size + 2 := by simp
  have z3 : (((w.alloc (.cells #[.slice A n c, .int .i64 p] 50)).alloc (.cells #[.slice none 0 0, .int .i64 0] 35)).alloc (.cells #[.slice none 0 0, .int .i64 0] 35)).heap.size = w.heap.size + 3 := by simp
  rw [z1] at B1
  rw [show ((w.alloc (.cells #[.slice A n c, .int .i64 p] 50)).alloc (.cells #[.slice none 0 0, .int .i64 0] 35)).heap.size = w.heap.size + 1 + 1 by simp] at B2
  obtain ⟨c0, c1, _, _⟩ := B0.two
  rw [z3] at HS
  clear h z1 z2
  have HB := Lib.hid (And.intro B0 (And.intro B1 B2)); clear B0 B1 B2
  go_enter Try.func27, Try.ntmps27
  go_wp2_with fail
  refine HS.out.mono ?_
  rintro e w1 ⟨rfl, hG, hb1⟩
  have hb1' : Below (((w.alloc (.cells #[.slice A n c, .int .i64 p] 50)).alloc (.cells #[.slice none 0 0, .int .i64 0] 35)).alloc (.cells #[.slice none 0 0, .int .i64 0] 35)).heap.size (((w.alloc (.cells #[.slice A n c, .int .i64 p] 50)).alloc (.cells #[.slice none 0 0, .int .i64 0] 35)).alloc (.cells #[.slice none 0 0, .int .i64 0] 35)) w1 := by rw [z3]; exact hb1
  have b1 : Below w.heap.size w w1 := below_next hal hb1'
  obtain ⟨B0, B1, B2⟩ := HB.out
  have B0' := B0.below hb1'
  have B1' := B1.below hb1'
  have B2' := B2.below hb1'
  obtain ⟨d0, d1, _, _⟩ := B0'.two
  obtain ⟨e0, e1, f0, f1⟩ := B1'.two
  obtain ⟨g0, g1, k0, k1⟩ := B2'.two
  have HGk := Lib.hid hG
  have HB1 := Lib.hid b1
  clear hG hb1 hb1' b1 B0 B1 B2 B0' B1' B2' HB HS hal ha1 z3 c0 c1
  go_wp2
  refine bodyPost_ret (v := .agg #[.slice (some ⟨w.heap.size + 3, 0, none⟩) n n, .int .i64 p]) (by simp [results, Try.results27, go_sem, e0, e1]) rfl ?_
  refine ⟨w.heap.size + 3, rfl, by omega, ?_, ?_⟩
  · exact (((HGk.out.far (p := ⟨w.heap.size + 1 + 1, 0, none⟩) (by simp) _).far (p := ⟨w.heap.size + 1 + 1, 1, none⟩) (by simp) _).far (p := ⟨w.heap.size + 1, 0, none⟩) (by simp) _).far (p := ⟨w.heap.size + 1, 1, none⟩) (by simp) _
  · exact (((HB1.out.setCell (p := ⟨w.heap.size + 1 + 1, 0, none⟩) (by simp; omega) _).setCell (p := ⟨w.heap.size + 1 + 1, 1, none⟩) (by simp; omega) _).setCell (p := ⟨w.heap.size + 1, 0, none⟩) (by simp) _).setCell (p := ⟨w.heap.size + 1, 1, none⟩) (by simp) _

theorem eqWritten (A A' : Option Addr) (n c c' : Nat) (ss : List Stroke) (p : Int) (w : World) (h : StrokesIn w w.heap.size A n c ss) (h' : StrokesIn w w.heap.size A' n c' ss) :
    Calls Try.prog 31 #[.agg #[.slice A n c, .int .i64 p], .agg #[.slice A' n c', .int .i64 p]] w fun e w' => e = .returned (.bool true) ∧ Below w.heap.size w w' := by
  have hal : Below w.heap.size w ((w.alloc (.cells #[.slice A n c, .int .i64 p] 35)).alloc (.cells #[.slice A' n c', .int .i64 p] 35)) := ((Below.refl _ _).alloc (Nat.le_refl _) _).alloc (by simp) _
  have HE := Lib.hid (eqStrokeS A A' n c c' ss _ (h.keep hal) (h'.keep hal))
  have B0 := (Blk.new w 35 #[.slice A n c, .int .i64 p]).alloc (.cells #[.slice A' n c', .int .i64 p] 35)
  have B1 := Blk.new (w.alloc (.cells #[.slice A n c, .int .i64 p] 35)) 35 #[.slice A' n c', .int .i64 p]
  rw [show (w.alloc (.cells #[.slice A n c, .int .i64 p] 35)).heap.size = w.heap.size + 1 by simp] at B1
  have hpp : (p != p) = false := by simp
  clear h h'
  go_enter Try.func31, Try.ntmps31
  go_wp2_with fail
  refine HE.out.mono ?_
  rintro e w1 ⟨rfl, hb1⟩
  have b1 := below_next hal hb1
  obtain ⟨d0, d1, _, _⟩ := (B0.below hb1).two
  obtain ⟨e0, e1, _, _⟩ := (B1.below hb1).two
  clear hb1 B0 B1
  go_wp2
  go_returns
  exact ⟨rfl, b1⟩
end Go.Proofs.Ytppjjbjjbmodbaa
