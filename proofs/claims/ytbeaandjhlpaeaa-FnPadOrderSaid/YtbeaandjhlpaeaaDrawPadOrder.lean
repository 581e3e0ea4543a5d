/-
  DrawPadOrder draws two pads. Conditions: none but that the code is a list of bytes.
-/
import Derived.Test.YtbeaandjhlpaeaaRdPad
import Derived.Test.YtbeaandjhlpaeaaPadOrder
namespace Go.Proofs.Ytbeaandjhlpaeaa
open Go.ChangeShapes Go.WideShapes Go.ChangeAt Go.RowKit
set_option maxRecDepth 100000

def DrawnTwo (w : World) (e : Ending) (w' : World) : Prop :=
  ∃ (d : Int) (c : ByteArray) (d' : Int) (c' : ByteArray), e = .returned (.tuple #[.agg #[.int .i64 d, .string c], .agg #[.int .i64 d', .string c']]) ∧ SmallPad d c ∧ SmallPad d' c' ∧ Below w.heap.size w w'

theorem undrew {w w' : World} {row : Option Nat} (h : w.drew.grownBy w' row) : w.grownBy w' row := ⟨h.os, h.tape, h.output, h.size, h.block⟩

theorem drawPadOrder (A : Option Addr) (n c : Nat) (bs : List Int) (w : World) (hb : BytesIn w w.heap.size A n c bs) :
    Calls Try.prog 21 #[.slice A n c] w (DrawnTwo w) := by
  go_enter Try.func21, Try.ntmps21
  go_wp2_with fail
  refine (l6Open A n c bs w.heap.size _ (by simp; omega) ((hb.keep (fun q hq => World.cell?_alloc_lt _ _ _ hq)).keep (fun q hq => World.cell?_alloc_lt _ _ _ (by simp; omega)))).mono ?_
  rintro e w1 ⟨rfl, hb1, hr1⟩
  have K1 := ((Blk.new w _ _).alloc _).below hb1
  have L1 := (Blk.new (w.alloc _) _ _).below hb1
  have G1 : Below w.heap.size w w1 := below_next (by go_grown) hb1
  have hgs : w.heap.size + 2 ≤ w1.heap.size := by have := hb1.size; simp at this; omega
  simp only [World.size_alloc] at hr1 L1
  obtain ⟨g, eg⟩ : ∃ g, g = w.heap.size + 1 + 1 := ⟨_, rfl⟩
  simp only [World.size_alloc]
  rw [← eg] at hr1 ⊢
  have hgg : w.heap.size + 1 < g := by omega
  clear eg hb1
  go_wp2_with fail
  refine (l92Pad g w.heap.size 0 w1 (by omega) hr1 (by omega)).mono ?_
  rintro e w2 ⟨d, cc, rfl, hsp, hg2, hr2⟩
  have K2 := K1.only hg2 (by omega)
  have L2 := L1.only hg2 (by omega)
  have G2 := G1.grown hg2 (by omega) (fun k hk => by injection hk with hk; omega)
  have hgs2 := hg2.size
  clear K1 L1 G1 hg2 hr1
  go_wp2_with fail
  refine (pick 6 g w.heap.size (0 + 4) _ (by omega) (by omega) (by omega) (hr2.alloc _)).mono ?_
  rintro e w3 ⟨m, rfl, hm0, hm1, hg3, hr3⟩
  have hr2l := hr2.lt
  have K3 := (K2.alloc _).only hg3 (by omega)
  have L3 := (L2.alloc _).only hg3 (by omega)
  have P3 := (Blk.new w2 _ _).only hg3 (by omega)
  have G3 := (G2.alloc (by omega) (.cells #[.int .i64 d, .string cc] 26)).grown hg3 (by simp; omega) (fun k hk => by injection hk with hk; omega)
  have hgs3 := hg3.size
  simp only [World.size_alloc] at hgs3
  clear K2 L2 G2 hg3 hr2
  obtain ⟨b2, eb⟩ : ∃ b2, b2 = w2.heap.size := ⟨_, rfl⟩
  rw [← eb] at P3
  have hb2 : w.heap.size + 1 < b2 := by omega
  have hgb : g < b2 := by omega
  have hb3 : b2 < w3.heap.size := P3.lt
  have hBw : w.heap.size ≤ w3.heap.size := by omega
  have hB := Lib.hid G3
  obtain ⟨k0, k1, kf0, kf1⟩ := K3.two
  obtain ⟨l0, l1, lf0, lf1⟩ := L3.two
  obtain ⟨p0, p1, pf0, pf1⟩ := P3.two
  rw [← eb]
  clear eb G3 hgs hgs2 hgs3
  by_cases h0 : m = 0
  · subst h0
    go_wp2
    go_region
    go_wp2
    refine bodyPost_ret (v := .tuple #[.agg #[.int .i64 d, .string cc], .agg #[.int .i64 d, .string cc]]) (by simp [results, Try.results21, go_sem, k0, k1, l0, l1]) rfl ?_
    exact ⟨d, cc, d, cc, rfl, hsp, hsp, by have := hB.out; go_grown⟩
  · have h0' : (m == 0) = false := by simpa using h0
    have call : Calls Try.prog 55 #[.pointer (some ⟨g, 0, none⟩)] w3.drew fun e w4 => ∃ (d' : Int) (c' : ByteArray), e = .returned (.agg #[.int .i64 d', .string c']) ∧ SmallPad d' c' ∧ Below w.heap.size w w4 ∧
        (w4.cell? ⟨w.heap.size, 0, none⟩ = some (.int .i64 0) ∧ w4.cell? ⟨w.heap.size, 1, none⟩ = some (.string { data := #[] }) ∧ w4.frozen? ⟨w.heap.size, 0, none⟩ = false ∧ w4.frozen? ⟨w.heap.size, 1, none⟩ = false) ∧
        (w4.cell? ⟨w.heap.size + 1, 0, none⟩ = some (.int .i64 0) ∧ w4.cell? ⟨w.heap.size + 1, 1, none⟩ = some (.string { data := #[] }) ∧ w4.frozen? ⟨w.heap.size + 1, 0, none⟩ = false ∧ w4.frozen? ⟨w.heap.size + 1, 1, none⟩ = false) ∧
        (w4.cell? ⟨b2, 0, none⟩ = some (.int .i64 d) ∧ w4.cell? ⟨b2, 1, none⟩ = some (.string cc) ∧ w4.frozen? ⟨b2, 0, none⟩ = false ∧ w4.frozen? ⟨b2, 1, none⟩ = false) := by
      refine (l92Pad g w.heap.size (0 + 4 + 1) w3.drew (by omega) (by exact hr3) (by exact hBw)).mono ?_
      rintro e w4 ⟨d', c', rfl, hsp', hg4, hr4⟩
      have hg := undrew hg4
      exact ⟨d', c', rfl, hsp', hB.out.grown hg hBw (fun k hk => by injection hk with hk; omega), (K3.only hg (by omega)).two, (L3.only hg (by omega)).two, (P3.only hg (by omega)).two⟩
    clear K3 L3 P3 hr3
    go_wp2
    go_region_with (go_at_call 55; refine call.mono ?_; rintro e w4 ⟨d', c', rfl, hsp', hb4, ⟨q0, q1, qf0, qf1⟩, ⟨r0, r1, rf0, rf1⟩, ⟨s0, s1, sf0, sf1⟩⟩)
    all_goals
      go_wp2
      refine bodyPost_ret (v := .tuple #[.agg #[.int .i64 d, .string cc], .agg #[.int .i64 d', .string c']]) (by simp [results, Try.results21, go_sem, q0, q1, r0, r1]) rfl ?_
      exact ⟨d, cc, d', c', rfl, hsp, hsp', by go_grown⟩
end Go.Proofs.Ytbeaandjhlpaeaa
