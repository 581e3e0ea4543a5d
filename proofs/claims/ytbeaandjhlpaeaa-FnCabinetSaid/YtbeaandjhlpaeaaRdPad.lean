/-
  The reader draws a pad. Conditions: as for pick.
-/
import Derived.Test.YtbeaandjhlpaeaaRdOf
import Derived.Test.YtbeaandjhlpaeaaBlk
namespace Go.Proofs.Ytbeaandjhlpaeaa
open Go.ChangeShapes Go.WideShapes Go.ChangeAt Go.RowKit
set_option maxRecDepth 100000

def SmallPad (d : Int) (c : ByteArray) : Prop := -1 ≤ d ∧ d ≤ 10000 ∧ c.size ≤ 4
def DrawnPad (B g lim : Nat) (w : World) (e : Ending) (w' : World) : Prop :=
  ∃ (d : Int) (c : ByteArray), e = .returned (.agg #[.int .i64 d, .string c]) ∧ SmallPad d c ∧ w.grownBy w' (some g) ∧ RdIn w' B g (lim + 4)

theorem RdIn.alloc {w : World} {B g lim : Nat} (h : RdIn w B g lim) (o : Obj) : RdIn (w.alloc o) B g lim := h.below ((Below.refl _ _).alloc (Nat.le_refl _) o)
theorem RdIn.setCell {w : World} {B g lim : Nat} (h : RdIn w B g lim) {p : Addr} (hp : p.block ≠ g) (hB : B ≤ p.block) (u : Value) : RdIn (w.setCell p u) B g lim := by
  obtain ⟨A, n, c, bs, q, h1, h2, h3, h4, h5⟩ := h
  exact ⟨A, n, c, bs, q, (Below.heap_setCell w p u g (Ne.symm hp)).trans h1, h2, h3, h4.keep (fun x hx => World.cell?_setCell_other w _ x _ (fun e => by subst e; omega)), h5⟩

theorem l92Pad (g B lim : Nat) (w : World) (hl : lim ≤ 900000000) (hr : RdIn w B g lim) (hBw : B ≤ w.heap.size) :
    Calls Try.prog 55 #[.pointer (some ⟨g, 0, none⟩)] w (DrawnPad B g lim w) := by
  have hg := hr.lt
  go_enter Try.func55, Try.ntmps55
  go_wp2_with fail
  refine (pick 9 g B lim _ (by omega) (by omega) (by omega) (hr.alloc _)).mono ?_
  rintro e w1 ⟨m1, rfl, hm10, hm11, hg1, hr1⟩
  have K1 := (Blk.new w _ _).only hg1 (by omega)
  have hz1 := K1.lt
  have G1 := only_next (only_alloc (World.grownBy.refl w (some g)) _) hg1
  clear hg1 hr
  go_wp2_with fail
  refine (pickOf w1.heap.size g B (lim + 1) 3 3 [⟨#[97]⟩, ⟨#[98]⟩, ⟨#[99, 97, 115, 101]⟩] _ rfl (by omega) (by omega) (by omega) (hr1.alloc _) (StrsAt.new w1 _ _ _ rfl) (by omega)).mono ?_
  rintro e w2 ⟨s, hs, rfl, hg2, hr2⟩
  have hs4 : s.size ≤ 4 := by
    simp only [List.mem_cons, List.mem_nil_iff, or_false] at hs
    rcases hs with rfl | rfl | rfl <;> decide
  have K2 := (K1.alloc _).only hg2 (by omega)
  have hz2 := K2.lt
  have G2 := only_next (only_alloc G1 _) hg2
  clear hg2 hr1 hs K1
  go_wp2_with fail
  refine (pick 60 g B (lim + 1 + 1) _ (by omega) (by omega) (by omega) (hr2.alloc _)).mono ?_
  rintro e w3 ⟨m3, rfl, hm30, hm31, hg3, hr3⟩
  have K3 := (K2.alloc _).only hg3 (by omega)
  have P3 := (Blk.new w2 _ _).only hg3 (by omega)
  have hz3 := P3.lt
  have G3 := only_next (only_alloc G2 _) hg3
  clear hg3 hr2 K2 G1 G2
  generalize w2.heap.size = b2 at *
  by_cases h0 : m3 = 0
  · subst h0
    go_wp2_with fail
    refine (pick 3 g B (lim + 1 + 1 + 1) _ (by omega) (by omega) (by omega) (hr3.alloc _)).mono ?_
    rintro e w4 ⟨m4, rfl, hm40, hm41, hg4, hr4⟩
    have K4 := (K3.alloc _).only hg4 (by omega)
    have P4 := (P3.alloc _).only hg4 (by omega)
    have Q4 := (Blk.new w3 _ _).only hg4 (by omega)
    have G4 := only_next (only_alloc G3 _) hg4
    obtain ⟨k, rfl⟩ := Int.eq_ofNat_of_zero_le hm40
    have hk3 : k < 3 := by omega
    obtain ⟨d4, hd4, hd40, hd41⟩ : ∃ d4 : Int, w4.cell? ⟨w3.heap.size, k, none⟩ = some (.int .i64 d4) ∧ -1 ≤ d4 ∧ d4 ≤ 10000 := by
      rw [Q4.cell]
      match k, hk3 with
      | 0, _ => exact ⟨-1, rfl, by omega, by omega⟩
      | 1, _ => exact ⟨10000, rfl, by omega, by omega⟩
      | 2, _ => exact ⟨9999, rfl, by omega, by omega⟩
    clear hg4 hr3 G3 K3 P3 Q4 hm30 hm31 hm41
    obtain ⟨k0, k1, kf0, kf1⟩ := K4.two
    obtain ⟨p0, p1, pf0, pf1⟩ := P4.two
    have G5 := only_setCell (only_setCell (only_setCell G4 (p := ⟨b2, 0, none⟩) (.inr (by simp; omega)) (.int .i64 d4)) (p := ⟨w.heap.size, 0, none⟩) (.inr (by simp)) (.int .i64 d4)) (p := ⟨w.heap.size, 1, none⟩) (.inr (by simp)) (.string s)
    have R5 := ((hr4.setCell (p := ⟨b2, 0, none⟩) (by simp; omega) (by simp; omega) (.int .i64 d4)).setCell (p := ⟨w.heap.size, 0, none⟩) (by simp; omega) (by simp; omega) (.int .i64 d4)).setCell (p := ⟨w.heap.size, 1, none⟩) (by simp; omega) (by simp; omega) (.string s)
    have HG := Lib.hid G5; have HR := Lib.hid R5
    clear G4 G5 R5 hr4 K4 P4
    go_wp2
    refine bodyPost_ret (v := .agg #[.int .i64 d4, .string s]) (by simp [results, Try.results55, go_sem, k0, k1]) rfl ?_
    exact ⟨d4, s, rfl, ⟨hd40, hd41, hs4⟩, HG.out, HR.out⟩
  · have h0' : (m3 == 0) = false := by simpa using h0
    by_cases h1 : m3 = 1
    · subst h1
      go_wp2_with fail
      refine (pickOf w3.heap.size g B (lim + 1 + 1 + 1) 2 2 [⟨#[]⟩, ⟨#[65]⟩] _ rfl (by omega) (by omega) (by omega) (hr3.alloc _) (StrsAt.new w3 _ _ _ rfl) (by omega)).mono ?_
      rintro e w4 ⟨s', hs', rfl, hg4, hr4⟩
      have hs4' : s'.size ≤ 4 := by
        simp only [List.mem_cons, List.mem_nil_iff, or_false] at hs'
        rcases hs' with rfl | rfl <;> decide
      have K4 := (K3.alloc _).only hg4 (by omega)
      have P4 := (P3.alloc _).only hg4 (by omega)
      have G4 := only_next (only_alloc G3 _) hg4
      clear hg4 hr3 G3 K3 P3 hs'
      obtain ⟨k0, k1, kf0, kf1⟩ := K4.two
      obtain ⟨p0, p1, pf0, pf1⟩ := P4.two
      have G5 := only_setCell (only_setCell (only_setCell G4 (p := ⟨b2, 1, none⟩) (.inr (by simp; omega)) (.string s')) (p := ⟨w.heap.size, 0, none⟩) (.inr (by simp)) (.int .i64 m1)) (p := ⟨w.heap.size, 1, none⟩) (.inr (by simp)) (.string s')
      have R5 := ((hr4.setCell (p := ⟨b2, 1, none⟩) (by simp; omega) (by simp; omega) (.string s')).setCell (p := ⟨w.heap.size, 0, none⟩) (by simp; omega) (by simp; omega) (.int .i64 m1)).setCell (p := ⟨w.heap.size, 1, none⟩) (by simp; omega) (by simp; omega) (.string s')
      have HG := Lib.hid G5; have HR := Lib.hid R5
      clear G4 G5 R5 hr4 K4 P4
      go_wp2
      refine bodyPost_ret (v := .agg #[.int .i64 m1, .string s']) (by simp [results, Try.results55, go_sem, k0, k1]) rfl ?_
      exact ⟨m1, s', rfl, ⟨by omega, by omega, hs4'⟩, HG.out, HR.out⟩
    · have h1' : (m3 == 1) = false := by simpa using h1
      obtain ⟨k0, k1, kf0, kf1⟩ := K3.two
      obtain ⟨p0, p1, pf0, pf1⟩ := P3.two
      have G5 := only_setCell (only_setCell G3 (p := ⟨w.heap.size, 0, none⟩) (.inr (by simp)) (.int .i64 m1)) (p := ⟨w.heap.size, 1, none⟩) (.inr (by simp)) (.string s)
      have R5 := ((hr3.setCell (p := ⟨w.heap.size, 0, none⟩) (by simp; omega) (by simp; omega) (.int .i64 m1)).setCell (p := ⟨w.heap.size, 1, none⟩) (by simp; omega) (by simp; omega) (.string s)).more (show lim + 1 + 1 + 1 ≤ lim + 4 by omega)
      have HG := Lib.hid G5; have HR := Lib.hid R5
      clear G3 G5 R5 hr3 K3 P3
      go_wp2
      refine bodyPost_ret (v := .agg #[.int .i64 m1, .string s]) (by simp [results, Try.results55, go_sem, k0, k1]) rfl ?_
      exact ⟨m1, s, rfl, ⟨by omega, by omega, hs4⟩, HG.out, HR.out⟩
end Go.Proofs.Ytbeaandjhlpaeaa
