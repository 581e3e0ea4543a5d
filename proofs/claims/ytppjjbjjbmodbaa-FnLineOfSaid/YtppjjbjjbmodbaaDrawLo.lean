/-
  DrawLineOf: a system and words that are often written. Conditions: the code lies in memory.
-/
import Derived.Test.YtppjjbjjbmodbaaDrwG
namespace Go.Proofs.Ytppjjbjjbmodbaa
open Go.ChangeShapes Go.WideShapes Go.ChangeAt Go.RowKit
set_option maxRecDepth 100000
set_option linter.unusedSimpArgs false

/-- Words of the call's own, none of them long. -/
def LoOwn (w : World) (B : Nat) (v : Value) (os : List (List UInt8)) : Prop := WdOwn w B v os ∧ ∀ l ∈ os, l.length ≤ 1000
theorem LoOwn.only {w w' : World} {B g : Nat} {v : Value} {ws : List (List UInt8)} (h : LoOwn w B v ws) (hg : w.grownBy w' (some g)) (hB : g < B) : LoOwn w' B v ws := ⟨ownG_only h.1 hg hB, h.2⟩
theorem LoOwn.push {w' : World} {B : Nat} {v' : Value} {os : List (List UInt8)} {l : List UInt8} {M : Nat} (h2 : ∀ l ∈ os, l.length ≤ 1000) (hl : l.length ≤ 1000) (hM : os.length = M)
    (ho : w'.ownsRow B 9 1 v' (M + 1) (os.map strP ++ [.string (mkStr l)])) : LoOwn w' B v' (os ++ [l]) :=
  ⟨by unfold WdOwn; rw [List.length_append, hM, List.map_append]; exact ho, fun y hy => by
    rcases List.mem_append.1 hy with h | h
    · exact h2 y h
    · rw [List.mem_singleton] at h; subst h; exact hl⟩
theorem LoOwn.reads {w : World} {B n c : Nat} {A : Option Addr} {ws : List (List UInt8)} (h : LoOwn w B (.slice A n c) ws) (hn : ws.length = n) : WdsIn w w.heap.size A n c ws := WdOwn.reads h.1 hn
/-- A system and words that were drawn. -/
def LoDrawn (w : World) (e : Ending) : Prop := ∃ A n c xs A' n' c' ws, e = .returned (.tuple #[.slice A n c, .slice A' n' c']) ∧ n' ≤ 6 ∧ SgsIn w w.heap.size A n c xs ∧ WdsIn w w.heap.size A' n' c' ws ∧ ∀ l ∈ ws, l.length ≤ 1000

set_option maxHeartbeats 1600000 in
theorem drawLineOf (A : Option Addr) (n c : Nat) (bs : List Int) (w : World) (hb : BytesIn w w.heap.size A n c bs) :
    Calls Try.prog 8 #[.slice A n c] w fun e w' => LoDrawn w' e ∧ Below w.heap.size w w' := by
  obtain ⟨i0, hi, hz0, hz1, hz2⟩ := info_parts infoWd
  have HO := Lib.hid (l6Open A n c bs w.heap.size w (Nat.le_refl _) hb)
  clear hb
  go_enter Try.func8, Try.ntmps8
  go_wp2_with fail
  refine HO.out.mono ?_
  rintro e w1 ⟨rfl, b1, hr1⟩
  have hg1 := hr1.lt
  have HL := Lib.hid (l91Both w.heap.size w.heap.size 0 w1 (by omega) hr1 b1.size)
  have HB1 := Lib.hid b1
  clear hr1 HO b1
  go_wp2_with fail
  refine HL.out.mono ?_
  rintro e w2 ⟨A1, n1, c1, xs, A2, n2, c2, ws, hx, hn1, hx2, hn2, rfl, hS, hD, hg2, hr2⟩
  have b2 := HB1.out.grown hg2 HB1.out.size (fun k hk => by injection hk with hk; omega)
  have hz2' := hg2.size
  have HSh := Lib.hid hD.short
  have HDw := Lib.hid (specDictionaryWritten A1 n1 c1 xs A2 n2 c2 ws w2 HSh.out (hS.reads hx) (hD.reads hx2))
  have HS := Lib.hid hS; have HD := Lib.hid hD; have HX := Lib.hid hx; have HX2 := Lib.hid hx2; have HR2 := Lib.hid hr2
  clear hx hx2 hS hD hg2 hr2 HL HB1
  go_wp2_with fail
  refine HDw.out.mono ?_
  rintro e w3 ⟨⟨A3, c3, rfl, hO3⟩, hb3⟩
  have b3 := below_next b2 hb3
  have z3 := hb3.size
  have HI3 := Lib.hid hO3
  have HS3 := Lib.hid (HS.out.keep hb3); have HD3 := Lib.hid (HD.out.keep hb3)
  have HP := Lib.hid (fun o => pickR (n := 6) ((HR2.out.below hb3).alloc' o) (by omega) (by omega) (by omega))
  have HIl := Lib.hid (fun m (hm : m < (idxOf xs ws).length) => idx_at hm)
  have hil := @idx_len xs ws
  rw [HX2.out] at hil
  clear hO3 hb3 HDw HR2 HS HD
  generalize hI : idxOf xs ws = is at *
  clear hI
  obtain ⟨M, hM⟩ : ∃ M, M = is.length := ⟨_, rfl⟩
  rw [← hM] at HI3 HIl hil
  rw [← hM]
  have HM := Lib.hid hM.symm; clear hM
  go_wp2_with fail
  refine (HP.out _).mono ?_
  rintro e w4 ⟨N, rfl, hN', hg4, hr4⟩
  have hN : N ≤ 5 := by omega
  have HG4 := Lib.hid (only_next (World.grownBy_alloc w3 _ _) hg4)
  have HO4 : Hid (LoOwn w4 w3.heap.size (.slice (some ⟨w3.heap.size, 0, none⟩) 0 0) []) := Lib.hid (LoOwn.only ⟨World.ownsRow_made w3 #[] 0 (Nat.le_refl _) (by simp) (by simp), by simp⟩ hg4 (by omega))
  have HR4 := Lib.hid hr4
  clear hN' hg4 hr4 HP
  go_wp2
  go_loopw [8, 10] (fun v0 i wr => ∃ (k : Nat) (os : List (List UInt8)) (v : Value), k ≤ N ∧ i = .int .i64 k ∧ v = v0 ∧ Hid (os.length ≤ k) ∧ Hid (LoOwn wr w3.heap.size v os) ∧ Hid (w3.grownBy wr (some w.heap.size)) ∧ Hid (RdIn wr w.heap.size w.heap.size (0 + 220 + 1 + k))) (fun _ i _ => N - (intOf i).toNat)
  case atStart => exact ⟨0, [], _, Nat.zero_le _, rfl, rfl, Lib.hid (Nat.le_refl _), HO4, HG4, HR4⟩
  case round =>
    obtain ⟨k, os, v, hk, rfl, rfl, HY, HO, HG, HR⟩ := hrel
    have hY5 : os.length ≤ 5 := by have := HY.out; omega
    have hz := HG.out.size
    by_cases hgo : k < N ∧ 0 < M
    · obtain ⟨hlt, hMp⟩ := hgo
      have HP9 := Lib.hid (pickR (n := (M : Int)) HR.out (by omega) (by omega) (by omega))
      go_wp2_with fail
      refine HP9.out.mono ?_
      rintro e w5 ⟨m5, rfl, hm5, hg5, hr5⟩
      have hm5' : m5 < M := by omega
      have HG5 := Lib.hid (only_next HG.out hg5)
      have HO5 := Lib.hid (HO.out.only hg5 (by omega))
      have HR5 := Lib.hid hr5
      have HI5 : Hid (NatOwn w5 w2.heap.size (.slice A3 M c3) is) := Lib.hid (ownG_only HI3.out HG5.out (by omega))
      have HD5 := Lib.hid (HD3.out.only HG5.out (by omega))
      have z5 := HG5.out.size
      clear hg5 hr5 HP9 HO HG HR
      obtain ⟨g2, rfl, y0, hg2a, hg2b⟩ := natOwn_at HI5.out HM.out hm5'
      have hix := HIl.out m5 hm5'
      have hix2 : is.getD m5 0 < n2 := by rw [← HX2.out]; exact hix
      obtain ⟨b, off, rfl, hbB, c0⟩ := (HD5.out.reads HX2.out).at_ hix2
      have hl12 : (wdAt ws (is.getD m5 0)).length ≤ 1000 := by have := word_len (HD5.out.2 _ (wdAt_mem hix)); omega
      unfold natP at y0
      clear HD5 HI5
      generalize wdAt ws (is.getD m5 0) = l at *
      generalize is.getD m5 0 = j5 at *
      have i1 : (0 : Int) ≤ (j5 : Int) := by omega
      have i2 : (j5 : Int) < (n2 : Int) := by omega
      have i3 : (0 : Int) ≤ (m5 : Int) := by omega
      obtain ⟨A6, c6, rfl, hc6, hm6⟩ := ownG_form HO5.out.1
      have HO6 : Hid (LoOwn w5 w3.heap.size (.slice A6 os.length c6) os) := HO5
      clear HO5
      generalize hL : os.length = L at *
      have HLl := Lib.hid hL; clear hL
      have HOw : Hid (w5.ownsRow w3.heap.size 9 1 (.slice A6 L c6) L (os.map strP)) := Lib.hid (by have := HO6.out.1; unfold WdOwn at this; rw [HLl.out] at this; exact this)
      go_wp2_with (at_builtin; refine wpList_append_any _ rfl (.tmp 34) (.tmp 45) _ rfl w3.heap.size 9 i0 _ 1 16 Try.underlying24 hi hz0 hz1 hz2 rfl (by omega) _ L (os.map strP) rfl (HOw.out.alloc _) (w5.heap.size + 1) (some ⟨w5.heap.size, 0, none⟩) 1 1 [.string (mkStr l)] rfl (rowNew1 _ _ _) (by simp [Value.oneCell']) (by unfold maxLen; omega) (by omega) (by simp; omega) ?_; intro v7 w7 hown7 hg7 hat7)
      have HO7 : Hid (LoOwn w7 w3.heap.size v7 (os ++ [l])) := Lib.hid (LoOwn.push HO6.out.2 hl12 HLl.out hown7)
      have HG7 := Lib.hid (own_after' (only_next HG5.out (World.grownBy_alloc w5 _ _)) hg7 (fun q hq => ownG_base HOw.out hq))
      have HR7 : Hid (RdIn w7 w.heap.size w.heap.size (0 + 220 + 1 + (k + 1))) := Lib.hid ((HR5.out.alloc' _).far hg7 (fun q hq => by have := ownG_base HOw.out hq; exact ⟨by omega, by omega⟩) (by simp; omega))
      clear hown7 hg7 hat7
      go_wp2
      go_roundw
      case rel => exact ⟨k + 1, _, _, by omega, by go_num, rfl, Lib.hid (by have := HY.out; rw [List.length_append, HLl.out]; simp; omega), HO7, HG7, HR7⟩
      case measure => simp [intOf]; omega
    · have HR1 := Lib.hid (HR.out.more (show 0 + 220 + 1 + k ≤ 300 by omega))
      have HPt := Lib.hid (pickR (n := 12) HR1.out (by omega) (by omega) (by omega))
      obtain ⟨A6, c6, rfl, hc6, hm6⟩ := ownG_form HO.out.1
      clear HR
      rcases (show ¬ k < N ∨ (k < N ∧ M = 0) by omega) with hlt | ⟨hlt, hM0⟩
      all_goals first | subst hM0 | skip
      all_goals
        clear hgo
        go_wp2_with fail
        refine HPt.out.mono ?_
        rintro e w6 ⟨m6, rfl, hm6', hg6, hr6⟩
        have HG6 := Lib.hid (only_next HG.out hg6)
        have HO6 : Hid (LoOwn w6 w3.heap.size (.slice A6 os.length c6) os) := Lib.hid (HO.out.only hg6 (by omega))
        have HR6 := Lib.hid hr6
        clear hg6 hr6 HPt HO HG
        by_cases h0 : m6 = 0
        · subst h0
          have HWd := Lib.hid (l91Word w.heap.size w.heap.size (300 + 1) w6 (by omega) HR6.out)
          go_wp2_with fail
          refine HWd.out.mono ?_
          rintro e w7 ⟨l, hll, rfl, hg7, _⟩
          have HG7 := Lib.hid (only_next HG6.out hg7)
          have HO7 := Lib.hid (HO6.out.only hg7 (by omega))
          have z7 := HG7.out.size
          clear hg7 HWd HO6 HG6
          generalize hL : os.length = L at *
          have HLl := Lib.hid hL; clear hL
          have HOw : Hid (w7.ownsRow w3.heap.size 9 1 (.slice A6 L c6) L (os.map strP)) := Lib.hid (by have := HO7.out.1; unfold WdOwn at this; rw [HLl.out] at this; exact this)
          go_wp2_with (at_builtin; refine wpList_append_any _ rfl (.tmp 50) (.tmp 53) _ rfl w3.heap.size 9 i0 _ 1 16 Try.underlying24 hi hz0 hz1 hz2 rfl (by omega) _ L (os.map strP) rfl (HOw.out.alloc _) (w7.heap.size + 1) (some ⟨w7.heap.size, 0, none⟩) 1 1 [.string (mkStr l)] rfl (rowNew1 _ _ _) (by simp [Value.oneCell']) (by unfold maxLen; omega) (by omega) (by simp; omega) ?_; intro v8 w8 hown8 hg8 hat8)
          have HG8 := Lib.hid (own_after' (only_next HG7.out (World.grownBy_alloc w7 _ _)) hg8 (fun q hq => ownG_base HOw.out hq))
          have HO8 : Hid (LoOwn w8 w3.heap.size v8 (os ++ [l])) := Lib.hid (LoOwn.push HO7.out.2 hll HLl.out hown8)
          clear hown8 hg8 hat8 HOw HO7
          obtain ⟨A9, c9, rfl, hc9, hm9⟩ := ownG_form HO8.out.1
          have hl9 : (os ++ [l]).length ≤ 6 := by rw [List.length_append, HLl.out]; simp; omega
          have HRd := Lib.hid (HO8.out.reads rfl)
          have HSr := Lib.hid ((HS3.out.only HG8.out (by omega)).reads HX.out)
          have b8 := b3.grown HG8.out b3.size (fun k hk => by injection hk with hk; omega)
          have HO82 := Lib.hid HO8.out.2
          clear HO8
          go_wp2
          go_returns
          exact ⟨⟨A1, n1, c1, xs, A9, _, c9, _, rfl, hl9, HSr.out, HRd.out, HO82.out⟩, b8⟩
        · have e0 : ((m6 : Int) == 0) = false := by simpa using h0
          have HRd := Lib.hid (HO6.out.reads rfl)
          have HSr := Lib.hid ((HS3.out.only HG6.out (by omega)).reads HX.out)
          have b8 := b3.grown HG6.out b3.size (fun k hk => by injection hk with hk; omega)
          have HO82 := Lib.hid HO6.out.2
          clear HO6
          go_wp2
          go_returns
          exact ⟨⟨A1, n1, c1, xs, A6, _, c6, os, rfl, by omega, HSr.out, HRd.out, HO82.out⟩, b8⟩
end Go.Proofs.Ytppjjbjjbmodbaa
