/-
  l92Pads draws a list of small pads in new memory. Conditions: the reader has not been asked too often.
-/
import Derived.Test.YtbeaandjhlpaeaaRdPad
import Derived.Test.YtbeaandjhlpaeaaRowAns
import Derived.Maps.Range
namespace Go.Proofs.Ytbeaandjhlpaeaa
open Go.ChangeShapes Go.WideShapes Go.ChangeAt Go.RowKit
set_option maxRecDepth 100000

theorem small_good {d : Int} {c : ByteArray} (h : SmallPad d c) : (⟨d, c⟩ : Pad).good := by
  obtain ⟨h1, h2, h3⟩ := h
  refine ⟨?_, by show c.size ≤ maxLen; unfold maxLen; omega⟩
  show (decide (IntKind.i64.min ≤ d) && decide (d ≤ IntKind.i64.max)) = true
  rw [show IntKind.i64.min = -9223372036854775808 from rfl, show IntKind.i64.max = 9223372036854775807 from rfl, decide_eq_true (by omega), decide_eq_true (by omega)]; rfl
theorem RdIn.ne_own {w : World} {B g lim : Nat} (h : RdIn w B g lim) {B' n sz : Nat} {e : TypeId} {v : Value} {xs : List Value} (ho : w.ownsRow B' e sz v n xs) (hne : e ≠ 92) : ∀ b, v.ownBlock = some b → some g ≠ some b := by
  intro b hb e
  injection e with e
  subst e
  obtain ⟨A, n, c, bs, p, h1, _⟩ := h
  obtain ⟨cur, h2⟩ := own_obj ho hb
  rw [h1] at h2
  injection h2 with h2; injection h2 with _ h2
  exact hne h2.symm
theorem RdIn.only {w w' : World} {B g lim : Nat} {row : Option Nat} (h : RdIn w B g lim) (hg : w.grownBy w' row) (h1 : ∀ q, row = some q → some g ≠ some q) (h2 : ∀ q, row = some q → B ≤ q) (hB : B ≤ w.heap.size) : RdIn w' B g lim := by
  obtain ⟨A, n, c, bs, p, e1, e2, e3, e4, e5⟩ := h
  refine ⟨A, n, c, bs, p, ?_, e2, e3, e4.keep (fun q hq => ?_), e5⟩
  · have hlt : g < w.heap.size := by
      rcases Nat.lt_or_ge g w.heap.size with hlt | hge
      · exact hlt
      · rw [Array.getElem?_eq_none hge] at e1; cases e1
    exact (hg.block g hlt (fun e => h1 g e.symm rfl)).trans e1
  · exact World.cell?_of_block (hg.block q.block (by omega) (fun e => by have := h2 q.block e.symm; omega))
theorem own_after {a w w' : World} {g : Nat} {v : Value} (h : a.grownBy w (some g)) (hg : w.grownBy w' v.ownBlock) (hb : ∀ q, v.ownBlock = some q → a.heap.size ≤ q) : a.grownBy w' (some g) :=
  h.andThen hg (fun j hj => .inl (hb j hj))

/-- What l92Pads answers. -/
def DrawnPads (B g lim : Nat) (w : World) (e : Ending) (w' : World) : Prop :=
  ∃ A c ps, e = .returned (.slice A ps.length c) ∧ PadsOwn w' w.heap.size (.slice A ps.length c) ps ∧ ps.length ≤ 15 ∧ (∀ p ∈ ps, SmallPad p.day p.case) ∧ w.grownBy w' (some g) ∧ RdIn w' B g (lim + 100)

theorem l92Pads (g B lim : Nat) (w : World) (hl : lim ≤ 800000000) (hr : RdIn w B g lim) (hBw : B ≤ w.heap.size) :
    Calls Try.prog 75 #[.pointer (some ⟨g, 0, none⟩)] w (DrawnPads B g lim w) := by
  obtain ⟨i0, hi, hz0, hz1, hz2⟩ := info_parts infoPad
  have hg0 := hr.lt
  go_enter Try.func75, Try.ntmps75
  go_wp2_with fail
  refine (pick 16 g B lim _ (by omega) (by omega) (by omega) (hr.alloc _)).mono ?_
  rintro e w1 ⟨m, rfl, hm0, hm1, hg1, hr1⟩
  obtain ⟨N, rfl⟩ := Int.eq_ofNat_of_zero_le hm0
  have hN : N ≤ 15 := by omega
  have G1 : w.grownBy w1 (some g) := only_next (World.grownBy_alloc w _ _) hg1
  have hO1 : PadsOwn w1 w.heap.size (.slice (some ⟨w.heap.size, 0, none⟩) 0 0) [] := by
    have h0 : (w.alloc (.cells #[] 26)).ownsRow w.heap.size 26 2 (.slice (some ⟨w.heap.size, 0, none⟩) 0 0) 0 [] := World.ownsRow_made w #[] 0 (Nat.le_refl _) (by simp) (by simp)
    exact own_only h0 hg1 (fun b hb e => by injection hb with hb; injection e with e; simp only at hb; omega)
  have HG := Lib.hid G1; have HR := Lib.hid hr1; have HO := Lib.hid hO1
  clear G1 hr1 hO1 hg1 hm0 hm1 hr
  go_wp2
  go_loopw [3, 5] (fun v i wr => ∃ (k : Nat) (ps : List Pad), k ≤ N ∧ i = .int .i64 k ∧ ps.length = k ∧ Hid (PadsOwn wr w.heap.size v ps) ∧ Hid (∀ p ∈ ps, SmallPad p.day p.case) ∧ Hid (w.grownBy wr (some g)) ∧ Hid (RdIn wr B g (lim + 1 + 4 * k))) (fun _ i _ => N - (intOf i).toNat)
  case atStart => exact ⟨0, [], Nat.zero_le _, rfl, rfl, HO, Lib.hid (by simp), HG, HR⟩
  case round =>
    obtain ⟨k, ps, hk, rfl, hpl, hO, hS, hG, hR⟩ := hrel
    by_cases hlt : k < N
    · have HPL := Lib.hid hpl
      have hz := hG.out.size
      have HPad := Lib.hid (l92Pad g B (lim + 1 + 4 * k) wr (by omega) hR.out (by omega))
      go_wp2_with fail
      refine HPad.out.mono ?_
      rintro e w2 ⟨d, s, rfl, hs, hg2, hr2⟩
      have hO2 := PadsOwn.only hO.out hg2 (fun b hb => hR.out.ne_own hO.out (by decide) b hb)
      have hG2 := only_next hG.out hg2
      have HO2 := Lib.hid hO2; have HG2 := Lib.hid hG2; have HR2 := Lib.hid hr2; have HS2 := Lib.hid hs
      have hz2' := hG2.size
      clear hO2 hG2 hr2 hs hg2 HPad hpl
      go_wp2_with (at_builtin; refine wpList_append_any _ rfl (.tmp 14) (.tmp 17) _ rfl w.heap.size 26 i0 _ 2 24 Try.underlying49 hi hz0 hz1 hz2 rfl (by omega) _ ps.length (ps.flatMap padC) rfl (HO2.out.alloc _) (w2.heap.size + 1) (some ⟨w2.heap.size, 0, none⟩) 1 1 [.int .i64 d, .string s] rfl (rowNewPad _ _ _ _) (by simp [Value.oneCell']) (by have := HPL.out; unfold maxLen; omega) (by have := HPL.out; omega) (by simp; omega) ?_; intro v3 w3 hown3 hg3 hat3)
      have HO3 : Hid (PadsOwn w3 w.heap.size v3 (ps ++ [⟨d, s⟩])) := Lib.hid (by unfold PadsOwn; rw [List.length_append, List.flatMap_append]; exact hown3)
      have HS3 : Hid (∀ p ∈ ps ++ [(⟨d, s⟩ : Pad)], SmallPad p.day p.case) := Lib.hid (fun p hp => by
        rcases List.mem_append.1 hp with hp | hp
        · exact hS.out p hp
        · simp at hp; subst hp; exact HS2.out)
      have HG3 := Lib.hid (own_after (only_next HG2.out (World.grownBy_alloc w2 _ _)) hg3 (fun q hq => own_base HO2.out hq))
      have HR3 : Hid (RdIn w3 B g (lim + 1 + 4 * (k + 1))) := Lib.hid (by
        have h1 := HR2.out.alloc (.cells #[.int .i64 d, .string s] 26)
        exact h1.only hg3 (fun q hq => h1.ne_own (HO2.out.alloc _) (by decide) q hq) (fun q hq => by have := own_base HO2.out hq; omega) (by simp; omega))
      clear hown3 hg3 hat3
      go_wp2
      go_roundw
      case rel => exact ⟨k + 1, _, by omega, by go_num, by rw [List.length_append, HPL.out]; rfl, HO3, HS3, HG3, HR3⟩
      case measure => simp [intOf]; omega
    · obtain rfl : k = N := by omega
      have HPL := Lib.hid hpl; clear hpl
      have HR3 := Lib.hid (hR.out.more (show lim + 1 + 4 * k ≤ lim + 100 by omega))
      have HF := Lib.hid (own_form hO.out)
      go_wp2
      go_ret
      obtain ⟨A, c, rfl, _⟩ := HF.out
      exact ⟨A, c, ps, rfl, hO.out, by rw [HPL.out]; exact hN, hS.out, hG.out, HR3.out⟩
end Go.Proofs.Ytbeaandjhlpaeaa
