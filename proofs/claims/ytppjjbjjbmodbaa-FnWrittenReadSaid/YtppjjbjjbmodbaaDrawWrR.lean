/-
  DrawWrittenRead: a system, a dictionary and a written form. Conditions: the code lies in memory.
-/
import Derived.Test.YtppjjbjjbmodbaaDrwG
import Derived.Test.YtppjjbjjbmodbaaReadT
namespace Go.Proofs.Ytppjjbjjbmodbaa
open Go.ChangeShapes Go.WideShapes Go.ChangeAt Go.RowKit
set_option maxRecDepth 100000
set_option linter.unusedSimpArgs false

theorem set2_grown (W : World) (b : Nat) (u v : Value) : W.grownBy ((W.setCell ⟨b, 0, none⟩ u).setCell ⟨b, 1, none⟩ v) (some b) :=
  only_setCell (g := b) (p := ⟨b, 1, none⟩) (only_setCell (g := b) (p := ⟨b, 0, none⟩) (World.grownBy.refl _ _) (.inl rfl) u) (.inl rfl) v
/-- A system, a dictionary and a form that were drawn. -/
def RdDrawn (w : World) (e : Ending) : Prop := ∃ A n c xs A' n' c' ws A2 n2 c2 ss p, e = .returned (.tuple #[.slice A n c, .slice A' n' c', .agg #[.slice A2 n2 c2, .int .i64 p]]) ∧ n ≤ 7 ∧ n' ≤ 9 ∧ SgsIn w w.heap.size A n c xs ∧ WdsIn w w.heap.size A' n' c' ws ∧ (∀ l ∈ ws, wordB l = true) ∧ StrokesIn w w.heap.size A2 n2 c2 ss

set_option maxHeartbeats 1600000 in
theorem drawWrittenRead (A : Option Addr) (n c : Nat) (bs : List Int) (w : World) (hb : BytesIn w w.heap.size A n c bs) :
    Calls Try.prog 13 #[.slice A n c] w fun e w' => RdDrawn w' e ∧ Below w.heap.size w w' := by
  have hal : ∀ o, Below w.heap.size w (w.alloc o) := fun o => (Below.refl _ _).alloc (Nat.le_refl _) o
  have HO := Lib.hid (fun o => l6Open A n c bs w.heap.size (w.alloc o) (by simp) (hb.keep (fun p hp => (hal o).cell hp)))
  simp only [World.size_alloc] at HO
  have K0 := Blk.new w 35 #[.slice none 0 0, .int .i64 0]
  clear hb
  go_enter Try.func13, Try.ntmps13
  go_wp2_with fail
  refine (HO.out _).mono ?_
  rintro e w1 ⟨rfl, hb1, hr1⟩
  have b1 : Below w.heap.size w w1 := (hal _).trans (hb1.mono (by omega))
  have z1 : w.heap.size + 1 ≤ w1.heap.size := by have := hb1.size; simpa using this
  have K1 := Lib.hid (K0.below (by simpa using hb1))
  have hg1 := hr1.lt
  have HL := Lib.hid (l91Both (w.heap.size + 1) w.heap.size 0 w1 (by omega) hr1 (by omega))
  have HB1 := Lib.hid b1
  clear hr1 HO b1 hb1 K0
  go_wp2_with fail
  refine HL.out.mono ?_
  rintro e w2 ⟨A1, n1, c1, xs, A2, n2, c2, ws, hx, hn1, hx2, hn2, rfl, hS, hD, hg2, hr2⟩
  have b2 := HB1.out.grown hg2 HB1.out.size (fun k hk => by injection hk with hk; omega)
  have hz2' := hg2.size
  have HK2 : Hid (Blk w2 w.heap.size 35 #[.slice none 0 0, .int .i64 0]) := Lib.hid ((hg2.block w.heap.size (by omega) (fun e => by injection e with e; omega)).trans K1.out)
  have HSh := Lib.hid hD.short
  have HDw := Lib.hid (specDictionaryWritten A1 n1 c1 xs A2 n2 c2 ws w2 HSh.out (hS.reads hx) (hD.reads hx2))
  have HS := Lib.hid hS; have HD := Lib.hid hD; have HX := Lib.hid hx; have HX2 := Lib.hid hx2; have HR2 := Lib.hid hr2
  clear hx hx2 hS hD hg2 hr2 HL HB1 K1
  go_wp2_with fail
  refine HDw.out.mono ?_
  rintro e w3 ⟨⟨A3, c3, rfl, hO3⟩, hb3⟩
  have b3 := below_next b2 hb3
  have z3 := hb3.size
  have HI3 := Lib.hid hO3
  have HS3 := Lib.hid (HS.out.keep hb3); have HD3 := Lib.hid (HD.out.keep hb3)
  have HK3 := Lib.hid (HK2.out.below hb3)
  have HR3 := Lib.hid (HR2.out.below hb3)
  have HIl := Lib.hid (fun m (hm : m < (idxOf xs ws).length) => idx_at hm)
  have hil := @idx_len xs ws
  rw [HX2.out] at hil
  clear hO3 hb3 HDw HR2 HS HD HK2
  generalize hI : idxOf xs ws = is at *
  clear hI
  obtain ⟨M, hM⟩ : ∃ M, M = is.length := ⟨_, rfl⟩
  rw [← hM] at HI3 HIl hil
  rw [← hM]
  have HM := Lib.hid hM.symm; clear hM
  have HTail : Hid (∀ (W : World) (lim : Nat), lim ≤ 1000 → Hid (w3.grownBy W (some (w.heap.size + 1))) → Hid (RdIn W w.heap.size (w.heap.size + 1) lim) → Calls Try.prog 54 #[.pointer (some ⟨w.heap.size + 1, 0, none⟩)] W (DrawnWr w.heap.size (w.heap.size + 1) lim W)) :=
    Lib.hid (fun W lim hl hg hr => l91Written (w.heap.size + 1) w.heap.size lim W (by omega) hr.out (by have := hg.out.size; omega))
  have HEnd : Hid (∀ (W : World) (u v : Value), Hid (w3.grownBy W (some (w.heap.size + 1))) → SgsIn ((W.setCell ⟨w.heap.size, 0, none⟩ u).setCell ⟨w.heap.size, 1, none⟩ v) ((W.setCell ⟨w.heap.size, 0, none⟩ u).setCell ⟨w.heap.size, 1, none⟩ v).heap.size A1 n1 c1 xs ∧ WdsIn ((W.setCell ⟨w.heap.size, 0, none⟩ u).setCell ⟨w.heap.size, 1, none⟩ v) ((W.setCell ⟨w.heap.size, 0, none⟩ u).setCell ⟨w.heap.size, 1, none⟩ v).heap.size A2 n2 c2 ws ∧ Below w.heap.size w ((W.setCell ⟨w.heap.size, 0, none⟩ u).setCell ⟨w.heap.size, 1, none⟩ v)) :=
    Lib.hid (fun W u v hg => by
      have hgs : W.grownBy ((W.setCell ⟨w.heap.size, 0, none⟩ u).setCell ⟨w.heap.size, 1, none⟩ v) (some w.heap.size) := set2_grown W w.heap.size u v
      refine ⟨((HS3.out.only hg.out (by omega)).only hgs (by omega)).reads HX.out, ((HD3.out.only hg.out (by omega)).only hgs (by omega)).reads HX2.out, ?_⟩
      exact ((b3.grown hg.out b3.size (fun k hk => by injection hk with hk; omega)).setCell (Nat.le_refl _) _).setCell (Nat.le_refl _) _)
  have HStr : Hid (∀ (W : World) (u v : Value) (B : Nat) (A9 : Option Addr) (n9 c9 : Nat) (s9 : List Stroke), StrokesIn W W.heap.size A9 n9 c9 s9 → (∀ a, A9 = some a → w.heap.size < a.block) → StrokesIn ((W.setCell ⟨w.heap.size, 0, none⟩ u).setCell ⟨w.heap.size, 1, none⟩ v) ((W.setCell ⟨w.heap.size, 0, none⟩ u).setCell ⟨w.heap.size, 1, none⟩ v).heap.size A9 n9 c9 s9) :=
    Lib.hid (fun W u v B A9 n9 c9 s9 h hne => h.grown (set2_grown W w.heap.size u v) (fun _ a ha e => by injection e with e; have := hne a ha; omega))
  have HDv := Lib.hid HD3.out.2
  have HG3 : Hid (w3.grownBy w3 (some (w.heap.size + 1))) := Lib.hid (World.grownBy.refl _ _)
  have HKk : Hid (∀ W, Hid (w3.grownBy W (some (w.heap.size + 1))) → Blk W w.heap.size 35 #[.slice none 0 0, .int .i64 0]) := Lib.hid (fun W hg => (hg.out.block w.heap.size (by omega) (fun e => by injection e with e; omega)).trans HK3.out)
  by_cases hM0 : M = 0
  · subst hM0
    have HW := Lib.hid (HTail.out w3 _ (by omega) HG3 HR3)
    go_wp2_with fail
    refine HW.out.mono ?_
    rintro e w6 ⟨N6, v6, p6, hN6, rfl, hp0, hp1, hO6, hg6, hr6⟩
    obtain ⟨A6, c6, ss6, hl6, rfl, hS6⟩ := hO6.reads
    have HG6 := Lib.hid (only_next HG3.out hg6)
    have HA6 : Hid (∀ a, A6 = some a → w.heap.size < a.block) := Lib.hid (by rintro a rfl; have h1 := hO6.lt (gb := a.block) rfl; omega)
    have HS6 := Lib.hid hS6
    obtain ⟨k0, k1, kf0, kf1⟩ := (HKk.out w6 HG6).two
    clear hO6 hg6 hr6 hS6 HW HG3 HR3
    go_wp2
    refine bodyPost_ret (v := .tuple #[.slice A1 n1 c1, .slice A2 n2 c2, .agg #[.slice A6 N6 c6, .int .i64 p6]]) (by simp [results, Try.results13, go_sem, k0, k1]) rfl ?_
    obtain ⟨r1, r2, r3⟩ := HEnd.out w6 (.slice A6 N6 c6) (.int .i64 p6) HG6
    exact ⟨⟨A1, n1, c1, xs, A2, n2, c2, ws, A6, N6, c6, ss6, p6, rfl, hn1, hn2, r1, r2, HDv.out, HStr.out w6 _ _ 0 _ _ _ _ HS6.out HA6.out⟩, r3⟩
  · have HP5 := Lib.hid (pickR (n := 5) HR3.out (by omega) (by omega) (by omega))
    go_wp2_with fail
    refine HP5.out.mono ?_
    rintro e w4 ⟨m4, rfl, hm4, hg4, hr4⟩
    have HG4 := Lib.hid (only_next HG3.out hg4)
    have HR4 := Lib.hid hr4
    clear hg4 hr4 HP5 HG3 HR3
    by_cases h0 : m4 = 0
    · subst h0
      have HW := Lib.hid (HTail.out w4 _ (by omega) HG4 HR4)
      go_wp2_with fail
      refine HW.out.mono ?_
      rintro e w6 ⟨N6, v6, p6, hN6, rfl, hp0, hp1, hO6, hg6, hr6⟩
      obtain ⟨A6, c6, ss6, hl6, rfl, hS6⟩ := hO6.reads
      have HG6 := Lib.hid (only_next HG4.out hg6)
      have hz4 := HG4.out.size
      have HA6 : Hid (∀ a, A6 = some a → w.heap.size < a.block) := Lib.hid (by rintro a rfl; have h1 := hO6.lt (gb := a.block) rfl; omega)
      have HS6 := Lib.hid hS6
      obtain ⟨k0, k1, kf0, kf1⟩ := (HKk.out w6 HG6).two
      clear hO6 hg6 hr6 hS6 HW HG4 HR4
      go_wp2
      refine bodyPost_ret (v := .tuple #[.slice A1 n1 c1, .slice A2 n2 c2, .agg #[.slice A6 N6 c6, .int .i64 p6]]) (by simp [results, Try.results13, go_sem, k0, k1]) rfl ?_
      obtain ⟨r1, r2, r3⟩ := HEnd.out w6 (.slice A6 N6 c6) (.int .i64 p6) HG6
      exact ⟨⟨A1, n1, c1, xs, A2, n2, c2, ws, A6, N6, c6, ss6, p6, rfl, hn1, hn2, r1, r2, HDv.out, HStr.out w6 _ _ 0 _ _ _ _ HS6.out HA6.out⟩, r3⟩
    · have HP9 := Lib.hid (pickR (n := (M : Int)) HR4.out (by omega) (by omega) (by omega))
      go_wp2_with fail
      refine HP9.out.mono ?_
      rintro e w5 ⟨m5, rfl, hm5, hg5, hr5⟩
      have hm5' : m5 < M := by omega
      have HG5 := Lib.hid (only_next HG4.out hg5)
      have HI5 : Hid (NatOwn w5 w2.heap.size (.slice A3 M c3) is) := Lib.hid (ownG_only HI3.out HG5.out (by omega))
      have HS5 := Lib.hid (HS3.out.only HG5.out (by omega))
      have HD5 := Lib.hid (HD3.out.only HG5.out (by omega))
      have z5 := HG5.out.size
      clear hg5 hr5 HP9 HG4 HR4
      obtain ⟨g2, rfl, y0, hg2a, hg2b⟩ := natOwn_at HI5.out HM.out hm5'
      have hix := HIl.out m5 hm5'
      have hix2 : is.getD m5 0 < n2 := by rw [← HX2.out]; exact hix
      obtain ⟨b, off, rfl, hbB, c0⟩ := (HD5.out.reads HX2.out).at_ hix2
      have HWf := Lib.hid (specWrittenOf A1 n1 c1 xs (wdAt ws (is.getD m5 0)) w5 (HSh.out _ (wdAt_mem hix)) (HS5.out.reads HX.out))
      have hpo := posOf_bd (wdAt ws (is.getD m5 0))
      unfold natP at y0
      clear HD5 HI5 HS5
      generalize wdAt ws (is.getD m5 0) = l at *
      generalize is.getD m5 0 = j5 at *
      have i1 : (0 : Int) ≤ (j5 : Int) := by omega
      have i2 : (j5 : Int) < (n2 : Int) := by omega
      have i3 : (0 : Int) ≤ (m5 : Int) := by omega
      go_wp2_with fail
      refine HWf.out.mono ?_
      rintro e w6 ⟨hA6, hb6⟩
      obtain ⟨x6, ok6, rfl, hW6, hx6⟩ := hA6.any (fun ss p h => by
        obtain ⟨o, _, h⟩ := Option.map_eq_some_iff.1 h
        injection h with _ h
        omega)
      obtain ⟨A6, N6, c6, ss6, p6⟩ := x6
      have HG6 := Lib.hid (grown_below HG5.out hb6)
      have HA6 : Hid (∀ a, A6 = some a → w.heap.size < a.block) := Lib.hid (fun a ha => by have h1 := hx6 a ha; omega)
      have hal6 : Below w6.heap.size w6 (w6.alloc (.cells #[.slice A6 N6 c6, .int .i64 p6] 35)) := (Below.refl _ _).alloc (Nat.le_refl _) _
      have HS6 := Lib.hid (hW6.1.keep hal6)
      have HG7 := Lib.hid (grown_below HG6.out hal6)
      obtain ⟨k0, k1, kf0, kf1⟩ := (HKk.out _ HG7).two
      have K6 := Blk.new w6 35 #[.slice A6 N6 c6, .int .i64 p6]
      obtain ⟨k60, k61, _, _⟩ := K6.two
      have hzw : w.heap.size ≠ w6.heap.size := by have := HG6.out.size; omega
      clear hA6 hb6 hW6 hx6 HWf HG5 y0 c0 K6 hal6
      dsimp only
      go_wp2_with fail
      go_region
      all_goals
        go_wp2
        refine bodyPost_ret (v := .tuple #[.slice A1 n1 c1, .slice (some ⟨b, off, none⟩) n2 c2, .agg #[.slice A6 N6 c6, .int .i64 p6]]) (by simp [results, Try.results13, go_sem, k0, k1, k60, k61]) rfl ?_
        obtain ⟨r1, r2, r3⟩ := HEnd.out _ (.slice A6 N6 c6) (.int .i64 p6) HG7
        have r4 := HStr.out _ (.slice A6 N6 c6) (.int .i64 p6) 0 _ _ _ _ HS6.out HA6.out
        exact ⟨⟨A1, n1, c1, xs, _, n2, c2, ws, A6, N6, c6, ss6, p6, rfl, hn1, hn2, r1, r2, HDv.out, r4⟩, r3.drew⟩
end Go.Proofs.Ytppjjbjjbmodbaa
