/-
  The reader draws a speech. Conditions: as for pick.
-/
import Derived.Test.YtlfhgmbmgbbnjaaRdMore
import Derived.Test.YtlfhgmbmgbbnjaaWds
import Derived.Test.YtlfhgmbmgbbnjaaOwnG2
namespace Go.Proofs.Ytlfhgmbmgbbnjaa
open Go.ChangeShapes Go.WideShapes Go.ChangeAt Go.RowKit
set_option maxRecDepth 100000
set_option linter.unusedSimpArgs false
set_option linter.unusedVariables false

/-- What l91Speech answers. -/
def DrawnSp (B g lim most : Nat) (w : World) (e : Ending) (w' : World) : Prop :=
  ∃ (v : Value) (ws : List (List UInt8)), e = .returned v ∧ ws.length ≤ most ∧ (∀ l ∈ ws, l.length ≤ 40) ∧ WdOwn w' w.heap.size v ws ∧ w.grownBy w' (some g) ∧ RdIn w' B g (lim + 30)
theorem rowStr1 (w : World) (u : Value) (t : TypeId) : Row (w.alloc (.cells #[u] t)) (w.heap.size + 1) (some ⟨w.heap.size, 0, none⟩) 1 1 [u] := rowNew1 w u t
set_option maxHeartbeats 1600000 in
theorem l91Speech (g B lim most : Nat) (w : World) (hmost : most ≤ 12) (hl : lim ≤ 800000000) (hr : RdIn w B g lim) (hBw : B ≤ w.heap.size) :
    Calls Try.prog 26 #[.pointer (some ⟨g, 0, none⟩), .int .i64 (most : Int)] w (DrawnSp B g lim most w) := by
  obtain ⟨j0, hj, hy0, hy1, hy2⟩ := info_parts infoWd
  have hg := hr.lt
  have HP := Lib.hid (pickR (n := (most : Int) + 1) (hr.alloc' (.cells #[] 9)) (by omega) (by omega) (by omega))
  have hO0 : WdOwn (w.alloc (.cells #[] 9)) w.heap.size (.slice (some ⟨w.heap.size, 0, none⟩) 0 0) [] := World.ownsRow_made w #[] 0 (Nat.le_refl _) (by simp) (by simp)
  have hG0 : w.grownBy (w.alloc (.cells #[] 9)) (some g) := only_alloc (World.grownBy.refl w (some g)) _
  clear hr
  go_enter Try.func26, Try.ntmps26
  go_wp2_with fail
  refine HP.out.mono ?_
  rintro e w1 ⟨N, rfl, hN, hg1, hr1⟩
  have hNm : N ≤ most := by omega
  have HO1 : Hid (WdOwn w1 w.heap.size (.slice (some ⟨w.heap.size, 0, none⟩) 0 0) []) := Lib.hid (ownG_only hO0 hg1 hg)
  have HG1 := Lib.hid (only_next hG0 hg1)
  have HR1 := Lib.hid hr1
  clear hO0 hG0 hg1 hr1 HP hN
  go_wp2
  go_loopw [5, 7] (fun s5 s7 wr => ∃ (k : Nat) (ws : List (List UInt8)) (A : Option Addr) (c : Nat), k ≤ N ∧ s5 = .slice A k c ∧ s7 = .int .i64 k ∧ Hid (ws.length = k) ∧ Hid (∀ l ∈ ws, l.length ≤ 40) ∧ Hid (WdOwn wr w.heap.size (.slice A k c) ws) ∧ Hid (w.grownBy wr (some g)) ∧ Hid (RdIn wr B g (lim + 1 + k))) (fun _ i _ => N - (intOf i).toNat)
  case atStart => exact ⟨0, [], _, 0, Nat.zero_le _, rfl, rfl, Lib.hid rfl, Lib.hid (by simp), HO1, HG1, HR1⟩
  case round =>
    obtain ⟨k, ws, A, c, hk, rfl, rfl, HL, HS, HO, HG, HR⟩ := hrel
    have k0 : (0 : Int) ≤ (k : Int) := by omega
    have hzw := HG.out.size
    by_cases hlt : k < N
    · have k1 : (k : Int) < (N : Int) := by omega
      have HOf := Lib.hid (fun cs t h => ofNew g B (lim + 1 + k) 5 [⟨#[119, 101]⟩, ⟨#[97, 114, 101]⟩, ⟨#[110, 111, 116]⟩, ⟨#[104, 101, 114, 101]⟩, ⟨#[110, 111, 119]⟩] cs t wr h rfl (by omega) (by omega) (by decide) (by omega) HR.out)
      go_wp2_with fail
      refine (HOf.out _ _ rfl).mono ?_
      rintro e w3 ⟨l, hl3, rfl, hg3, hr3⟩
      have HO3 : Hid (w3.ownsRow w.heap.size 9 1 (.slice A k c) k (ws.map strP)) := Lib.hid (by have := ownG_only HO.out hg3 hg; rwa [HL.out] at this)
      have HG3 := Lib.hid (only_alloc (only_next HG.out hg3) (.cells #[.string (mkStr l)] 9))
      have HR3 := Lib.hid (hr3.alloc' (.cells #[.string (mkStr l)] 9))
      have hbs : w.heap.size ≤ (w3.alloc (.cells #[.string (mkStr l)] 9)).heap.size := HG3.out.size
      have hrow := rowStr1 w3 (.string (mkStr l)) 9
      clear hg3 hr3 HOf HG HR HO
      go_wp2_with (at_builtin; refine wpList_append_any _ rfl (.tmp 18) (.tmp 22) _ rfl w.heap.size 9 j0 _ 1 16 Try.underlying22 hj hy0 hy1 hy2 rfl (by omega) _ k (ws.map strP) rfl (World.ownsRow.alloc HO3.out _) (w3.heap.size + 1) (some ⟨w3.heap.size, 0, none⟩) 1 1 [.string (mkStr l)] rfl hrow (by simp [Value.oneCell']) (by unfold maxLen; omega) (by omega) hbs ?_; intro v4 w4 hown4 hg4 hat4)
      obtain ⟨A4, c4, rfl, _, _⟩ := ownG_form hown4
      have HO4 : Hid (WdOwn w4 w.heap.size (.slice A4 (k + 1) c4) (ws ++ [l])) := Lib.hid (by unfold WdOwn; rw [List.length_append, HL.out, List.map_append]; exact hown4)
      have hBk : ∀ q, (Value.slice A k c).ownBlock = some q → w.heap.size ≤ q := fun q hq => ownG_base HO3.out hq
      have HG4 := Lib.hid (own_after' HG3.out hg4 hBk)
      have HR4 : Hid (RdIn w4 B g (lim + 1 + (k + 1))) := Lib.hid (HR3.out.far hg4 (fun q hq => ⟨by have := hBk q hq; omega, by have := hBk q hq; omega⟩) (by omega))
      have HL4 : Hid ((ws ++ [l]).length = k + 1) := Lib.hid (by rw [List.length_append, HL.out]; rfl)
      have HS4 : Hid (∀ x ∈ ws ++ [l], x.length ≤ 40) := Lib.hid (fun x hx => by
        rcases List.mem_append.1 hx with h | h
        · exact HS.out x h
        · rw [List.mem_singleton] at h; rw [h]; exact hl3)
      clear hown4 hg4 hat4 HO3 HG3 HR3 hrow hbs hBk HL HS
      go_wp2
      go_roundw
      case rel => exact ⟨k + 1, ws ++ [l], A4, c4, by omega, rfl, by go_num, HL4, HS4, HO4, HG4, HR4⟩
      case measure => simp [intOf]; omega
    · obtain rfl : k = N := by omega
      by_cases h0 : k = 0
      · have hF : DrawnSp B g lim most w (.returned (.slice A k c)) wr := ⟨_, ws, rfl, by rw [HL.out]; omega, HS.out, HO.out, HG.out, HR.out.more (by omega)⟩
        have HF := Lib.hid hF
        have z0 : decide (0 < k) = false := decide_eq_false (by omega)
        clear hF HL HS HO HG HR
        go_wp2
        go_ret
        exact HF.out
      · have z0 : decide (0 < k) = true := decide_eq_true (by omega)
        have z1 : (0 : Int) < (k : Int) := by omega
        have HP := Lib.hid (pickR (n := 40) HR.out (by omega) (by omega) (by omega))
        obtain ⟨gb, cap, hA, hgb, _, _, hob⟩ := own_some HO.out (by rw [HL.out]; omega)
        injection hA with hA hkk hc
        clear hkk
        subst hA hc
        go_wp2_with fail
        refine HP.out.mono ?_
        rintro e w1 ⟨m, rfl, hm, hg1, hr1⟩
        have HO1 := Lib.hid (ownG_only HO.out hg1 hg)
        have HG1 := Lib.hid (only_next HG.out hg1)
        by_cases hm0 : m = 0
        · subst hm0
          have HOf := Lib.hid (fun cs t h => ofNew g B (lim + 1 + k + 1) 3 [⟨#[]⟩, ⟨#[65]⟩, ⟨#[97, 49]⟩] cs t w1 h rfl (by omega) (by omega) (by decide) (by omega) hr1)
          clear hr1 HP HG HR HO hg1
          go_wp2_with fail
          refine (HOf.out _ _ rfl).mono ?_
          rintro e w3 ⟨l, hl3, rfl, hg3, hr3⟩
          have hO3 := ownG_only HO1.out hg3 hg
          have hk1 : 0 < ws.length := by rw [HL.out]; omega
          obtain ⟨x0, hx0⟩ : ∃ x, (ws.map strP)[0]? = some x := ⟨_, List.getElem?_eq_getElem (by rw [List.length_map]; exact hk1)⟩
          obtain ⟨d0, f0⟩ := own_cell (j := 0) hO3 rfl hx0
          have hS := own_set (j := 0) (u := .string (mkStr l)) hO3 rfl
          have hset : (ws.map strP).set 0 (.string (mkStr l)) = (ws.set 0 l).map strP := by rw [List.map_set]; rfl
          have hF : DrawnSp B g lim most w (.returned (.slice (some ⟨gb, 0, none⟩) k c)) (w3.setCell ⟨gb, 0, none⟩ (.string (mkStr l))) := by
            refine ⟨_, ws.set 0 l, rfl, by rw [List.length_set, HL.out]; omega, fun x hx => ?_, ?_, only_setCell (only_next HG1.out hg3) (p := ⟨gb, 0, none⟩) (.inr (by simpa using hgb)) _, (hr3.set' (p := ⟨gb, 0, none⟩) (by simp; omega) (by simp; omega) _).more (by omega)⟩
            · rcases List.mem_or_eq_of_mem_set hx with h | h
              · exact HS.out x h
              · rw [h]; exact hl3
            · unfold WdOwn
              rw [List.length_set, ← hset]; exact hS
          have HF := Lib.hid hF
          clear hF hS hset hO3 HO1 HG1 hg3 hr3 HOf hx0 HL HS hk1
          go_wp2
          go_ret
          exact HF.out
        · have e0 : ((m : Int) == 0) = false := by simpa using hm0
          have hF : DrawnSp B g lim most w (.returned (.slice (some ⟨gb, 0, none⟩) k c)) w1 := ⟨_, ws, rfl, by rw [HL.out]; omega, HS.out, HO1.out, HG1.out, hr1.more (by omega)⟩
          have HF := Lib.hid hF
          clear hF HL HS HO HG HR HO1 HG1 hg1 hr1 HP hm0
          go_wp2
          go_ret
          exact HF.out
end Go.Proofs.Ytlfhgmbmgbbnjaa
