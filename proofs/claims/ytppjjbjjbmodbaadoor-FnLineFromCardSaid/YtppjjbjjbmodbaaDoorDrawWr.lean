/-
  l91Written draws a written form. Conditions: as for pick.
-/
import Derived.Test.YtppjjbjjbmodbaaDoorDrawO2
namespace Go.Proofs.YtppjjbjjbmodbaaDoor
open Go.ChangeShapes Go.WideShapes Go.ChangeAt Go.RowKit
set_option maxRecDepth 100000

theorem SmOwn.alloc {w : World} {B N : Nat} {v : Value} (h : SmOwn w B N v) (o : Obj) : SmOwn (w.alloc o) B N v := by
  obtain ⟨ss, h1, h2, h3⟩ := h
  exact ⟨ss, h1, ownG_keep h2 ((Below.refl _ _).alloc (Nat.le_refl _) _), h3⟩
theorem SmOwn.lt {w : World} {B N gb : Nat} {v : Value} (h : SmOwn w B N v) (hb : v.ownBlock = some gb) : B ≤ gb ∧ gb < w.heap.size := by
  obtain ⟨ss, h1, h2, h3⟩ := h
  exact ⟨ownG_base h2 hb, ownG_lt h2 hb⟩
theorem SmOwn.farc {w : World} {B N : Nat} {v u : Value} {p : Addr} (h : SmOwn w B N v) (hp : ∀ gb, v.ownBlock = some gb → gb ≠ p.block) : SmOwn (w.setCell p u) B N v := by
  obtain ⟨ss, h1, h2, h3⟩ := h
  exact ⟨ss, h1, ownG_congr h2 fun b hb => Below.heap_setCell w p u b (hp b hb), h3⟩
theorem two3 {m : Nat} (hm : m < 2) : ∃ x : Int, (#[.int .i64 (-1), .int .i64 3] : Array Value)[m]? = some (.int .i64 x) ∧ -1 ≤ x ∧ x ≤ 3 := by
  match m, hm with
  | 0, _ => exact ⟨-1, rfl, by omega, by omega⟩
  | 1, _ => exact ⟨3, rfl, by omega, by omega⟩
def DrawnWr (B g lim : Nat) (w : World) (e : Ending) (w' : World) : Prop :=
  ∃ N v p, N ≤ 4 ∧ e = .returned (.agg #[v, .int .i64 p]) ∧ -1 ≤ p ∧ p ≤ 3 ∧ SmOwn w' w.heap.size N v ∧ w.grownBy w' (some g) ∧ RdIn w' B g (lim + 110)

set_option maxHeartbeats 1600000 in
theorem l91Written (g B lim : Nat) (w : World) (hl : lim ≤ 700000000) (hr : RdIn w B g lim) (hBw : B ≤ w.heap.size) :
    Calls Tryd.prog 44 #[.pointer (some ⟨g, 0, none⟩)] w (DrawnWr B g lim w) := by
  have hg0 := hr.lt
  have HO := Lib.hid (fun o => l91Outline g B lim 4 (w.alloc o) (by omega) (by omega) (hr.alloc' o) (by simp; omega))
  clear hr
  go_enter Tryd.func44, Tryd.ntmps44
  go_wp2_with fail
  refine (HO.out _).mono ?_
  rintro e w2 ⟨N, v, hN, rfl, hO2, hg2, hr2⟩
  obtain ⟨A1, c1, ss1, hl1, rfl, _⟩ := hO2.reads
  have K2 := (Blk.new w _ _).only hg2 (by omega)
  have G2 := only_next (World.grownBy_alloc w _ _) hg2
  have z2 := K2.lt
  simp only [World.size_alloc] at hO2
  have HP := Lib.hid (pickR (n := 3) hr2 (by omega) (by omega) (by omega))
  clear hg2 hr2 HO
  go_wp2_with fail
  refine HP.out.mono ?_
  rintro e w3 ⟨m, rfl, hm, hg3, hr3⟩
  have K3 := K2.only hg3 (by omega)
  have G3 := only_next G2 hg3
  have O3 := hO2.only hg3 (by omega)
  have z3 := K3.lt
  have HP := Lib.hid (fun o => pickR (n := 40) (hr3.alloc' o) (by omega) (by omega) (by omega))
  clear hg3 hr3 K2 G2 hO2
  go_wp2_with fail
  refine (HP.out _).mono ?_
  rintro e w4 ⟨m4, rfl, hm4, hg4, hr4⟩
  have K4 := (K3.alloc _).only hg4 (by omega)
  have L4 := (Blk.new w3 _ _).only hg4 (by omega)
  have G4 := only_next (only_alloc G3 _) hg4
  have O4 := (O3.alloc _).only hg4 (by omega)
  have z4 := L4.lt
  have D3 : ∀ gb, (Value.slice A1 N c1).ownBlock = some gb → w.heap.size + 1 ≤ gb ∧ gb ≠ w3.heap.size := fun gb hb => by have := O3.lt hb; exact ⟨this.1, by omega⟩
  clear hg4 K3 G3 O3
  by_cases h0 : m4 = 0
  · subst h0
    have HP5 := Lib.hid (fun o => pickR (n := 2) (hr4.alloc' o) (by omega) (by omega) (by omega))
    clear hr4
    go_wp2_with fail
    refine (HP5.out _).mono ?_
    rintro e w5 ⟨m5, rfl, hm5, hg5, hr5⟩
    have hm5' : m5 < 2 := by omega
    obtain ⟨x, hx, hx0, hx1⟩ := two3 hm5'
    have T5 := ((Blk.new w4 _ _).only hg5 (by omega) |>.cell m5).trans hx
    have K5 := (K4.alloc _).only hg5 (by omega)
    have L5 := (L4.alloc _).only hg5 (by omega)
    have G5 := only_next (only_alloc G4 _) hg5
    have O5 := (O4.alloc _).only hg5 (by omega)
    obtain ⟨k0, k1, kf0, kf1⟩ := K5.two
    obtain ⟨l0, l1, lf0, lf1⟩ := L5.two
    have HG := Lib.hid (only_setCell (only_setCell (only_setCell G5 (p := ⟨w3.heap.size, 1, none⟩) (.inr (by simp; omega)) (.int .i64 x)) (p := ⟨w.heap.size, 0, none⟩) (.inr (by simp)) (.slice A1 N c1)) (p := ⟨w.heap.size, 1, none⟩) (.inr (by simp)) (.int .i64 x))
    have HR := Lib.hid ((((hr5.set' (p := ⟨w3.heap.size, 1, none⟩) (by simp; omega) (by simp; omega) (.int .i64 x)).set' (p := ⟨w.heap.size, 0, none⟩) (by simp; omega) (by simp; omega) (.slice A1 N c1)).set' (p := ⟨w.heap.size, 1, none⟩) (by simp; omega) (by simp; omega) (.int .i64 x)).more (show lim + 100 + 1 + 1 + 1 ≤ lim + 110 by omega))
    have HS := Lib.hid (((O5.farc (p := ⟨w3.heap.size, 1, none⟩) (u := .int .i64 x) (fun gb hb => (D3 gb hb).2)).farc (p := ⟨w.heap.size, 0, none⟩) (u := .slice A1 N c1) (fun gb hb => by have := (D3 gb hb).1; simp; omega)).farc (p := ⟨w.heap.size, 1, none⟩) (u := .int .i64 x) (fun gb hb => by have := (D3 gb hb).1; simp; omega))
    clear K4 L4 G4 O4 K5 L5 G5 O5 hr5 hg5 HP5 HP
    go_wp2
    refine bodyPost_ret (v := .agg #[.slice A1 N c1, .int .i64 x]) (by simp [results, Tryd.results44, go_sem, k0, k1]) rfl ?_
    obtain ⟨ss, h1, h2, h3⟩ := HS.out
    exact ⟨N, .slice A1 N c1, x, hN, rfl, hx0, hx1, ⟨ss, h1, ownG_mono h2 (by omega), h3⟩, HG.out, HR.out⟩
  · have e0 : ((m4 : Int) == 0) = false := by simpa using h0
    obtain ⟨k0, k1, kf0, kf1⟩ := K4.two
    obtain ⟨l0, l1, lf0, lf1⟩ := L4.two
    have HG := Lib.hid (only_setCell (only_setCell G4 (p := ⟨w.heap.size, 0, none⟩) (.inr (by simp)) (.slice A1 N c1)) (p := ⟨w.heap.size, 1, none⟩) (.inr (by simp)) (.int .i64 m))
    have HR := Lib.hid (((hr4.set' (p := ⟨w.heap.size, 0, none⟩) (by simp; omega) (by simp; omega) (.slice A1 N c1)).set' (p := ⟨w.heap.size, 1, none⟩) (by simp; omega) (by simp; omega) (.int .i64 m)).more (show lim + 100 + 1 + 1 ≤ lim + 110 by omega))
    have HS := Lib.hid ((O4.farc (p := ⟨w.heap.size, 0, none⟩) (u := .slice A1 N c1) (fun gb hb => by have := (D3 gb hb).1; simp; omega)).farc (p := ⟨w.heap.size, 1, none⟩) (u := .int .i64 m) (fun gb hb => by have := (D3 gb hb).1; simp; omega))
    clear K4 L4 G4 O4 hr4 HP
    go_wp2
    refine bodyPost_ret (v := .agg #[.slice A1 N c1, .int .i64 m]) (by simp [results, Tryd.results44, go_sem, k0, k1]) rfl ?_
    obtain ⟨ss, h1, h2, h3⟩ := HS.out
    exact ⟨N, .slice A1 N c1, m, hN, rfl, by omega, by omega, ⟨ss, h1, ownG_mono h2 (by omega), h3⟩, HG.out, HR.out⟩
end Go.Proofs.YtppjjbjjbmodbaaDoor
