/-
  markPadSS and heldPadSS at a list of drawers of the call's own. Conditions: marks no greater than a law's.
-/
import Derived.Test.YtlphefpgnfogfaaTreeB
namespace Go.Proofs.Ytlphefpgnfogfaa
open Go.ChangeShapes Go.WideShapes Go.ChangeAt Go.RowKit
set_option maxRecDepth 100000

/-- The drawers with marks from m on. -/
def markDs : Nat → List Drawer → List Drawer
  | _, [] => []
  | m, d :: r => ⟨d.A, d.n, d.c, marked m d.n⟩ :: markDs (m + 2 * d.n) r
def totN : List Drawer → Nat
  | [] => 0
  | d :: r => d.n + totN r
theorem totN_append : ∀ a b : List Drawer, totN (a ++ b) = totN a + totN b
  | [], b => by simp [totN]
  | d :: a, b => by simp only [List.cons_append, totN, totN_append a b]; omega
theorem markDs_append : ∀ (m : Nat) (a b : List Drawer), markDs m (a ++ b) = markDs m a ++ markDs (m + 2 * totN a) b
  | m, [], b => by simp [markDs, totN]
  | m, d :: a, b => by
    simp only [List.cons_append, markDs, totN]
    rw [markDs_append, show m + 2 * d.n + 2 * totN a = m + 2 * (d.n + totN a) by omega]
theorem markDs_len : ∀ (m : Nat) (ds : List Drawer), (markDs m ds).length = ds.length
  | _, [] => rfl
  | m, d :: r => by simp [markDs, markDs_len]
theorem markDs_flat : ∀ (m : Nat) (ds : List Drawer), (markDs m ds).flatMap drawerC = ds.flatMap drawerC
  | _, [] => rfl
  | m, d :: r => by simp only [markDs, List.flatMap_cons, markDs_flat (m + 2 * d.n) r]; rfl
theorem totN_take {ds : List Drawer} (k : Nat) : totN (ds.take k) ≤ totN ds := by
  have := totN_append (ds.take k) (ds.drop k)
  rw [List.take_append_drop] at this; omega
theorem CabOwn.turnAt {w w1 : World} {B : Nat} {v : Value} {l1 l2 : List Drawer} {d : Drawer} {ps : List Pad} (h : CabOwn w B v (l1 ++ d :: l2)) (hg : w.grownBy w1 d.v.ownBlock) (hO : DrIn w1 B ⟨d.A, d.n, d.c, ps⟩) : CabOwn w1 B v (l1 ++ ⟨d.A, d.n, d.c, ps⟩ :: l2) := by
  have hd := h.2.1 d (by simp)
  have hnd := h.2.2
  rw [List.filterMap_append, List.filterMap_cons] at hnd
  have key : ∀ m ∈ l1 ++ l2, ∀ b, m.v.ownBlock = some b → d.v.ownBlock ≠ some b := by
    intro m hm b hb e
    rw [e] at hnd
    rcases List.mem_append.1 hm with hm | hm
    · rw [List.nodup_append] at hnd
      exact hnd.2.2 b (List.mem_filterMap.2 ⟨m, hm, hb⟩) b (by simp) rfl
    · rw [List.nodup_append] at hnd
      exact (List.nodup_cons.1 hnd.2.1).1 (List.mem_filterMap.2 ⟨m, hm, hb⟩)
  refine ⟨?_, fun m hm => ?_, ?_⟩
  · have h1 := h.1
    have h2 : w1.ownsRow B 33 1 v (l1 ++ d :: l2).length ((l1 ++ d :: l2).flatMap drawerC) := own_only h1 hg (fun b hb e => by
      obtain ⟨cur2, q2⟩ := own_obj hd.2.1 e
      obtain ⟨cur3, q3⟩ := own_obj h1 hb
      rw [q2] at q3; injection q3 with q3; injection q3 with _ q3; exact absurd q3 (by decide))
    simpa [drawerC] using h2
  · have hkeep : ∀ m ∈ l1 ++ l2, DrIn w1 B m := fun m hm => by
      have hmI := h.2.1 m (by
        rcases List.mem_append.1 hm with hm | hm
        · exact List.mem_append.2 (.inl hm)
        · exact List.mem_append.2 (.inr (List.mem_cons.2 (.inr hm))))
      exact hmI.congr (fun b hb => hg.block b (own_lt hmI.2.1 hb) (fun e => key m hm b hb e.symm))
    rcases List.mem_append.1 hm with hm | hm
    · exact hkeep m (List.mem_append.2 (.inl hm))
    · rcases List.mem_cons.1 hm with rfl | hm
      · exact hO
      · exact hkeep m (List.mem_append.2 (.inr hm))
  · have h3 := h.2.2
    rw [List.filterMap_append, List.filterMap_cons] at h3 ⊢
    exact h3

theorem markCab (A : Option Addr) (n c m B lo hi : Nat) (ds : List Drawer) (w : World) (hm0 : 0 < m) (hm : m ≤ 1000) (hn : n ≤ 1048576) (ht : totN ds ≤ 1048576) (hl : ds.length = n) (hlo : lo ≤ B) (hhi : w.heap.size ≤ hi) (h : CabOwn w B (.slice A n c) ds) :
    Calls Try.prog 10 #[.slice A n c, .int .i64 m] w fun e w' => e = .returned (.int .i64 ((m + 2 * totN ds : Nat) : Int)) ∧ Within lo hi w w' ∧ CabOwn w' B (.slice A n c) (markDs m ds) := by
  have HL := Lib.hid hl; clear hl
  have hR := h.reads HL.out
  have hcm := hR.2.2.1; have hnc := hR.2.1
  unfold maxLen at hcm
  clear hR
  have HC := Lib.hid h; clear h
  go_enter Try.func10, Try.ntmps10
  go_wp2
  go_loopw [1, 5] (fun a i wr => ∃ (k q : Nat), k ≤ n ∧ i = .int .i64 k ∧ a = .int .i64 q ∧ Hid (q = m + 2 * totN (ds.take k)) ∧ Hid (CabOwn wr B (.slice A n c) (markDs m (ds.take k) ++ ds.drop k)) ∧ Hid (Within lo hi w wr)) (fun _ i _ => n - (intOf i).toNat)
  case atStart => exact ⟨0, m, Nat.zero_le _, rfl, rfl, Lib.hid (by simp [totN]), Lib.hid (by simpa [markDs] using HC.out), Lib.hid (Within.refl _ _ _)⟩
  case round =>
    obtain ⟨k, q, hk, rfl, rfl, hq, hO, hW⟩ := hrel
    by_cases hlt : k < n
    · have hkl : k < ds.length := by rw [HL.out]; exact hlt
      have hln : (markDs m (ds.take k) ++ ds.drop k).length = n := by rw [List.length_append, markDs_len, List.length_take, List.length_drop, HL.out]; omega
      obtain ⟨b, off, eA, hbB, c0, hP⟩ := (hO.out.reads hln).at_ hlt
      have hdk : drAt (markDs m (ds.take k) ++ ds.drop k) k = drAt ds k := by
        unfold drAt
        rw [List.getD, List.getD, List.getElem?_append_right (by rw [markDs_len, List.length_take]; omega), markDs_len, List.length_take, List.getElem?_drop]
        congr 2; omega
      rw [hdk] at c0 hP
      have hsp : ds.drop k = drAt ds k :: ds.drop (k + 1) := by
        have h1 := List.drop_eq_getElem_cons hkl
        have h2 : ds[k] = drAt ds k := by unfold drAt; simp [List.getD, List.getElem?_eq_getElem hkl]
        rw [h2] at h1; exact h1
      have hO2 := hO.out
      rw [hsp] at hO2
      have hdI := hO2.2.1 (drAt ds k) (by simp)
      have hq2 : q + 2 * (drAt ds k).n = m + 2 * totN (ds.take (k + 1)) := by
        rw [take_step (drAt_some hkl), totN_append, hq.out]; simp [totN]; omega
      have htt := totN_take (ds := ds) (k + 1)
      have hq0 := hq.out
      have hqb : q ≤ 2100000 := by have := totN_take (ds := ds) k; omega
      have hdn : (drAt ds k).n ≤ 1048576 := by
        have : totN (ds.take (k + 1)) = totN (ds.take k) + (drAt ds k).n := by rw [take_step (drAt_some hkl), totN_append]; simp [totN]
        omega
      have HMk := Lib.hid (markPadS (drAt ds k).A (drAt ds k).n (drAt ds k).c q B (drAt ds k).ps wr (by omega) (by omega) hdn hdI.1 hdI.2.1)
      have HMD : Hid (markDs m (ds.take (k + 1)) ++ ds.drop (k + 1) = markDs m (ds.take k) ++ (⟨(drAt ds k).A, (drAt ds k).n, (drAt ds k).c, marked q (drAt ds k).n⟩ :: ds.drop (k + 1))) := Lib.hid (by
        rw [take_step (drAt_some hkl), markDs_append, ← hq.out]; simp [markDs])
      have HO2 := Lib.hid hO2
      have HDI := Lib.hid hdI
      have hlow : Hid (∀ b, (drAt ds k).v.ownBlock = some b → lo ≤ b ∧ b < hi) := Lib.hid (fun b hb => ⟨Nat.le_trans hlo (own_base hdI.2.1 hb), Nat.lt_of_lt_of_le (own_lt (HC.out.2.1 _ (drAt_mem hkl)).2.1 hb) hhi⟩)
      have HQ2 := Lib.hid hq2
      have HGm : Hid (∀ p ∈ marked q (drAt ds k).n, p.good) := Lib.hid (marked_good q _ (by omega))
      subst eA
      clear hkl hln hdk hsp hO2 hdI hq hP hq2 htt hq0 hO
      go_wp2_with fail
      refine HMk.out.mono ?_
      rintro e w1 ⟨rfl, hg1, hO1⟩
      have HC1 : Hid (CabOwn w1 B (.slice (some ⟨b, off, none⟩) n c) (markDs m (ds.take (k + 1)) ++ ds.drop (k + 1))) := Lib.hid (by
        rw [HMD.out]
        exact HO2.out.turnAt hg1 ⟨marked_len _ _, hO1, HGm.out⟩)
      have HW1 : Hid (Within lo hi w w1) := Lib.hid (hW.out.trans ⟨hg1.os, hg1.tape, hg1.output, hg1.size, fun b hb hr => hg1.block b hb (fun e => by
        have h1 := hlow.out b e.symm
        omega)⟩)
      clear hg1 hO1 HMk HO2 HDI hlow
      generalize (drAt ds k).n = dn at *
      go_wp2
      go_roundw
      case rel => exact ⟨k + 1, q + 2 * dn, by omega, by go_num, by go_num, HQ2, HC1, HW1⟩
      case measure => simp [intOf]; omega
    · obtain rfl : k = n := by omega
      have hq2 := hq.out
      rw [List.take_of_length_le (by rw [HL.out]; exact Nat.le_refl _)] at hq2
      have HC1 : Hid (CabOwn wr B (.slice A k c) (markDs m ds)) := Lib.hid (by
        have h1 := hO.out
        rwa [List.take_of_length_le (by rw [HL.out]; exact Nat.le_refl _), List.drop_of_length_le (by rw [HL.out]; exact Nat.le_refl _), List.append_nil] at h1)
      have HQ := Lib.hid hq2; clear hq2 hq
      go_wp2
      go_ret
      exact ⟨ret_int (by rw [HQ.out]), hW.out, HC1.out⟩

theorem heldCab (A : Option Addr) (n c m : Nat) (ds : List Drawer) (w : World) (hm0 : 0 < m) (hm : m ≤ 1000) (ht : totN ds ≤ 1048576) (h : DrawersIn w w.heap.size A n c (markDs m ds)) :
    Calls Try.prog 11 #[.slice A n c, .int .i64 m] w fun e w' => e = .returned (.int .i64 ((m + 2 * totN ds : Nat) : Int)) ∧ Below w.heap.size w w' := by
  have hln : ds.length = n := by have := h.1; rwa [markDs_len] at this
  have HL := Lib.hid hln; clear hln
  have hcm := h.2.2.1; have hnc := h.2.1
  unfold maxLen at hcm
  have HC := Lib.hid h; clear h
  go_enter Try.func11, Try.ntmps11
  go_wp2
  go_loopw [1, 5] (fun a i wr => ∃ (k q : Nat), k ≤ n ∧ i = .int .i64 k ∧ a = .int .i64 q ∧ Hid (q = m + 2 * totN (ds.take k)) ∧ Below w.heap.size w wr) (fun _ i _ => n - (intOf i).toNat)
  case atStart => exact ⟨0, m, Nat.zero_le _, rfl, rfl, Lib.hid (by simp [totN]), Below.refl _ _⟩
  case round =>
    obtain ⟨k, q, hk, rfl, rfl, hq, hb⟩ := hrel
    by_cases hlt : k < n
    · have hkl : k < ds.length := by rw [HL.out]; exact hlt
      obtain ⟨b, off, eA, hbB, c0, hP⟩ := (HC.out.below hb).at_ hlt
      have hdk : drAt (markDs m ds) k = ⟨(drAt ds k).A, (drAt ds k).n, (drAt ds k).c, marked q (drAt ds k).n⟩ := by
        have hsp : ds = ds.take k ++ drAt ds k :: ds.drop (k + 1) := by
          have h1 := List.drop_eq_getElem_cons hkl
          have h2 : ds[k] = drAt ds k := by unfold drAt; simp [List.getD, List.getElem?_eq_getElem hkl]
          rw [h2] at h1; rw [← h1]; exact (List.take_append_drop k ds).symm
        have h3 : markDs m ds = markDs m (ds.take k) ++ (⟨(drAt ds k).A, (drAt ds k).n, (drAt ds k).c, marked q (drAt ds k).n⟩ :: markDs (q + 2 * (drAt ds k).n) (ds.drop (k + 1))) := by
          have h4 := congrArg (markDs m) hsp
          rw [markDs_append, ← hq.out] at h4
          exact h4
        rw [h3]
        generalize (⟨(drAt ds k).A, (drAt ds k).n, (drAt ds k).c, marked q (drAt ds k).n⟩ : Drawer) = dd
        unfold drAt
        rw [List.getD, List.getElem?_append_right (by rw [markDs_len, List.length_take]; omega), markDs_len, List.length_take, show k - min k ds.length = 0 by omega]; rfl
      rw [hdk] at c0 hP
      have hq2 : q + 2 * (drAt ds k).n = m + 2 * totN (ds.take (k + 1)) := by
        rw [take_step (drAt_some hkl), totN_append, hq.out]; simp [totN]; omega
      have htt := totN_take (ds := ds) (k + 1)
      have hq0 := hq.out
      have hqb : q ≤ 2100000 := by have := totN_take (ds := ds) k; omega
      have hdn : (drAt ds k).n ≤ 1048576 := by
        have : totN (ds.take (k + 1)) = totN (ds.take k) + (drAt ds k).n := by rw [take_step (drAt_some hkl), totN_append]; simp [totN]
        omega
      have HHd := Lib.hid (heldPadS (drAt ds k).A (drAt ds k).n (drAt ds k).c q wr (by omega) (by omega) hdn ((hP.more hb.size)))
      have HQ2 := Lib.hid hq2
      subst eA
      clear hkl hdk hP hq hq2 htt hq0
      go_wp2_with fail
      refine HHd.out.mono ?_
      rintro e w1 ⟨rfl, hb1⟩
      have b1 := hb.trans (hb1.mono hb.size)
      clear hb1 HHd
      generalize (drAt ds k).n = dn at *
      go_wp2
      go_roundw
      case rel => exact ⟨k + 1, q + 2 * dn, by omega, by go_num, by go_num, HQ2, b1⟩
      case measure => simp [intOf]; omega
    · obtain rfl : k = n := by omega
      have hq2 := hq.out
      rw [List.take_of_length_le (by rw [HL.out]; exact Nat.le_refl _)] at hq2
      have HQ := Lib.hid hq2; clear hq2 hq
      go_wp2
      go_ret
      exact ⟨ret_int (by rw [HQ.out]), hb⟩
end Go.Proofs.Ytlphefpgnfogfaa
