/-
  The reader draws words. Conditions: as for pick.
-/
import Derived.Test.YtppjjbjjbmodbaaDoorDrawO2
import Derived.Test.YtppjjbjjbmodbaaDoorSysO
namespace Go.Proofs.YtppjjbjjbmodbaaDoor
open Go.ChangeShapes Go.WideShapes Go.ChangeAt Go.RowKit
set_option maxRecDepth 100000
set_option linter.unusedSimpArgs false

/-- A text of a fresh table. -/
theorem ofNew (g B lim n : Nat) (ss : List ByteArray) (cs : Array Value) (t : TypeId) (w : World) (hcs : cs = (ss.map Value.string).toArray) (hn : n = ss.length) (hn0 : 0 < n) (hn1 : n ≤ 1000) (hss : ∀ s ∈ ss, s.size ≤ 40) (hl : lim ≤ 1000000000) (hr : RdIn w B g lim) :
    Calls Tryd.prog 26 #[.pointer (some ⟨g, 0, none⟩), .slice (some ⟨w.heap.size, 0, none⟩) n n] (w.alloc (.cells cs t)) fun e w' => ∃ l : List UInt8, l.length ≤ 40 ∧ e = .returned (.string (mkStr l)) ∧ w.grownBy w' (some g) ∧ RdIn w' B g (lim + 1) := by
  have hg := hr.lt
  refine (pickOf w.heap.size g B lim n n ss _ hn hn0 hn1 hl (hr.alloc' _) (StrsAt.new w _ _ _ hcs) (by omega)).mono ?_
  rintro e w' ⟨s, hs, rfl, h1, h2⟩
  exact ⟨s.data.toList, by have := hss s hs; simpa using this, by rw [mkStr_self], only_next (World.grownBy_alloc w _ _) h1, h2⟩

/-- What l91Word answers. -/
def DrawnWord (B g lim : Nat) (w : World) (e : Ending) (w' : World) : Prop :=
  ∃ l : List UInt8, l.length ≤ 1000 ∧ e = .returned (.string (mkStr l)) ∧ w.grownBy w' (some g) ∧ RdIn w' B g (lim + 20)

set_option maxHeartbeats 800000 in
theorem l91Word (g B lim : Nat) (w : World) (hl : lim ≤ 800000000) (hr : RdIn w B g lim) :
    Calls Tryd.prog 59 #[.pointer (some ⟨g, 0, none⟩)] w (DrawnWord B g lim w) := by
  have HP := Lib.hid (pickR (n := 40) hr (by omega) (by omega) (by omega))
  clear hr
  go_enter Tryd.func59, Tryd.ntmps59
  go_wp2_with fail
  refine HP.out.mono ?_
  rintro e w1 ⟨m, rfl, hm, hg1, hr1⟩
  clear HP
  by_cases h0 : m = 0
  · subst h0
    have HO := Lib.hid (fun cs t h => ofNew g B (lim + 1) 4 [⟨#[]⟩, ⟨#[65]⟩, ⟨#[97, 49]⟩, ⟨#[97, 98, 99, 100, 101, 102, 103, 104, 105, 106, 107, 108, 109]⟩] cs t w1 h rfl (by omega) (by omega) (by decide) (by omega) hr1)
    have HG1 := Lib.hid hg1
    clear hr1 hg1
    go_wp2_with fail
    refine (HO.out _ _ rfl).mono ?_
    rintro e w2 ⟨l, hl2, rfl, hg2, hr2⟩
    have HG := Lib.hid (only_next HG1.out hg2)
    have HR := Lib.hid (hr2.more (show lim + 1 + 1 ≤ lim + 20 by omega))
    clear hg2 hr2 HO HG1
    go_wp2
    go_ret
    exact ⟨l, by omega, rfl, HG.out, HR.out⟩
  · have e0 : ((m : Int) == 0) = false := by simpa using h0
    have HP := Lib.hid (pickR (n := 3) hr1 (by omega) (by omega) (by omega))
    have HG1 := Lib.hid hg1
    clear hr1 hg1
    go_wp2_with fail
    refine HP.out.mono ?_
    rintro e w2 ⟨N, rfl, hN, hg2, hr2⟩
    have HG := Lib.hid (only_next HG1.out hg2)
    have HR := Lib.hid hr2
    clear hg2 hr2 HP HG1 e0
    go_wp2
    go_loopw [3, 5] (fun s i wr => ∃ (k : Nat) (l : List UInt8), k ≤ 1 + N ∧ i = .int .i64 k ∧ s = .string (mkStr l) ∧ l.length ≤ 80 * k ∧ Hid (w.grownBy wr (some g)) ∧ Hid (RdIn wr B g (lim + 2 + 2 * k))) (fun _ i _ => 1 + N - (intOf i).toNat)
    case atStart => exact ⟨0, [], Nat.zero_le _, rfl, rfl, by simp, HG, HR⟩
    case round =>
      obtain ⟨k, l, hk, rfl, rfl, hll, hG, hR⟩ := hrel
      by_cases hlt : k < 1 + N
      · have hlt' : (k : Int) < 1 + (N : Int) := by omega
        have HO := Lib.hid (fun cs t h => ofNew g B (lim + 2 + 2 * k) 6 [⟨#[98]⟩, ⟨#[100]⟩, ⟨#[116]⟩, ⟨#[110]⟩, ⟨#[110, 110]⟩, ⟨#[115]⟩] cs t wr h rfl (by omega) (by omega) (by decide) (by omega) hR.out)
        go_wp2_with fail
        refine (HO.out _ _ rfl).mono ?_
        rintro e w3 ⟨l3, hl3, rfl, hg3, hr3⟩
        have HG3 := Lib.hid (only_next hG.out hg3)
        have HO := Lib.hid (fun cs t h => ofNew g B (lim + 2 + 2 * k + 1) 5 [⟨#[97]⟩, ⟨#[101]⟩, ⟨#[105]⟩, ⟨#[]⟩, ⟨#[111]⟩] cs t w3 h rfl (by omega) (by omega) (by decide) (by omega) hr3)
        have ha1 := fun W => run_add (P := Tryd.prog) l l3 (by omega) W
        clear hg3 hr3 hG hR
        go_wp2_with fail
        refine (HO.out _ _ rfl).mono ?_
        rintro e w4 ⟨l4, hl4, rfl, hg4, hr4⟩
        have HG4 := Lib.hid (only_next HG3.out hg4)
        have HR4 : Hid (RdIn w4 B g (lim + 2 + 2 * (k + 1))) := Lib.hid hr4
        have ha2 := fun W => run_add (P := Tryd.prog) (l ++ l3) l4 (by rw [List.length_append]; omega) W
        clear hg4 hr4 HG3 HO ha1
        go_wp2
        go_roundw
        case rel => exact ⟨k + 1, l ++ (l3 ++ l4), by omega, by go_num, rfl, by rw [List.length_append, List.length_append]; omega, HG4, HR4⟩
        case measure => simp [intOf]; omega
      · obtain rfl : k = 1 + N := by omega
        have hlt' : ¬ (((1 + N : Nat) : Int) < 1 + (N : Int)) := by omega
        have HO := Lib.hid (fun cs t h => ofNew g B (lim + 2 + 2 * (1 + N)) 4 [⟨#[]⟩, ⟨#[97]⟩, ⟨#[]⟩, ⟨#[101]⟩] cs t wr h rfl (by omega) (by omega) (by decide) (by omega) hR.out)
        go_wp2_with fail
        refine (HO.out _ _ rfl).mono ?_
        rintro e w3 ⟨l3, hl3, rfl, hg3, hr3⟩
        have HG3 := Lib.hid (only_next hG.out hg3)
        have HR3 := Lib.hid (hr3.more (show lim + 2 + 2 * (1 + N) + 1 ≤ lim + 20 by omega))
        have ha1 := fun W => run_add (P := Tryd.prog) l3 l (by omega) W
        clear hg3 hr3 hG hR HO
        go_wp2
        go_ret
        exact ⟨l3 ++ l, by rw [List.length_append]; omega, rfl, HG3.out, HR3.out⟩

def IsBool (e : Ending) : Prop := ∃ b, e = .returned (.bool b)
set_option maxHeartbeats 400000 in
theorem l3Is (A : Option Addr) (n c : Nat) (ws : List (List UInt8)) (l : List UInt8) (w : World) (h : WdsIn w w.heap.size A n c ws) :
    Calls Tryd.prog 61 #[.slice A n c, .string (mkStr l)] w fun e w' => IsBool e ∧ w = w' := by
  have hm := h.2.2.1; have hnc := h.2.1
  unfold maxLen at hm
  have H := Lib.hid h
  clear h
  go_enter Tryd.func61, Tryd.ntmps61
  go_wp2
  go_loop [5] (fun i => ∃ k : Nat, k ≤ n ∧ i = .int .i64 k) (fun i => n - (intOf i).toNat)
  case atStart => exact ⟨0, Nat.zero_le _, rfl⟩
  case round =>
    obtain ⟨k, hk, rfl⟩ := hrel
    by_cases hlt : k < n
    · obtain ⟨b, off, rfl, hbB, c0⟩ := H.out.at_ hlt
      go_wp2
      · go_ret
        exact ⟨⟨true, rfl⟩, rfl⟩
      · go_round
        case rel => exact ⟨k + 1, by omega, by go_num⟩
        case measure => simp [intOf]; omega
    · go_wp2
      go_ret
      exact ⟨⟨false, rfl⟩, rfl⟩
end Go.Proofs.YtppjjbjjbmodbaaDoor
