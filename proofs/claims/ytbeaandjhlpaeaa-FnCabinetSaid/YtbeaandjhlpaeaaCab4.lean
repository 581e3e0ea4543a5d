/-
  All pads of some drawers, in one list of new memory: l8Pads. Conditions: the drawers hold no more than a law lets by.
-/
import Derived.Test.YtbeaandjhlpaeaaCab3
import Derived.Test.YtbeaandjhlpaeaaApp
namespace Go.Proofs.Ytbeaandjhlpaeaa
open Go.ChangeShapes Go.WideShapes Go.ChangeAt Go.RowKit
set_option maxRecDepth 100000

def allPads (ds : List Drawer) : List Pad := ds.flatMap (·.ps)
theorem allPads_step {ds : List Drawer} {k : Nat} (h : k < ds.length) : allPads (ds.take (k + 1)) = allPads (ds.take k) ++ (drAt ds k).ps := by
  rw [take_step (drAt_some h)]; simp [allPads]
theorem allPads_len : ∀ ds : List Drawer, (allPads ds).length ≤ cabSz ds
  | [] => by simp [allPads]
  | d :: r => by
    have h1 := allPads_len r
    have h2 := padsSz_len d.ps
    simp only [allPads, List.flatMap_cons, List.length_append, cabSz] at h1 ⊢; omega
theorem padC_one {ps : List Pad} : ∀ u ∈ ps.flatMap padC, u.oneCell' = true := by
  intro u hu
  obtain ⟨p, _, hu⟩ := List.mem_flatMap.1 hu
  simp only [padC, List.mem_cons, List.mem_nil_iff, or_false] at hu
  rcases hu with rfl | rfl <;> rfl

theorem own_form {w : World} {B n sz : Nat} {e : TypeId} {v : Value} {xs : List Value} (h : w.ownsRow B e sz v n xs) : ∃ A c, v = .slice A n c ∧ n ≤ c ∧ c ≤ maxLen := by
  rcases h.2 with ⟨rfl, rfl⟩ | ⟨g, cap, cur, rfl, _, _, h1, h2, _⟩
  · exact ⟨none, 0, rfl, Nat.le_refl _, Nat.zero_le _⟩
  · exact ⟨_, cap, rfl, h1, h2⟩

theorem own_base {w : World} {B n sz k : Nat} {e : TypeId} {v : Value} {xs : List Value} (h : w.ownsRow B e sz v n xs) (hk : v.ownBlock = some k) : B ≤ k := by
  rcases h.2 with ⟨rfl, rfl⟩ | ⟨g, cap, cur, rfl, hg, _⟩
  · cases hk
  · injection hk with hk; simp at hk; omega

/-- A list of pads in a row of the call's own. -/
def PadsOwn (w : World) (B : Nat) (v : Value) (ps : List Pad) : Prop := w.ownsRow B 26 2 v ps.length (ps.flatMap padC)
theorem PadsOwn.reads {w : World} {B n c : Nat} {A : Option Addr} {ps : List Pad} (h : PadsOwn w B (.slice A n c) ps) (hn : ps.length = n) (hg : ∀ p ∈ ps, p.good) : PadsIn w w.heap.size A n c ps := by
  unfold PadsOwn at h
  rw [hn] at h
  obtain ⟨A', c', e, h1, h2⟩ := own_form h
  injection e with e1 e2 e3
  subst e1 e3
  exact ⟨hn, h1, h2, Row.of_own h, hg⟩

theorem l8Pads (A : Option Addr) (n c : Nat) (ds : List Drawer) (w : World) (hsz : cabSz ds ≤ 1048576) (h : DrawersIn w w.heap.size A n c ds) :
    Calls Try.prog 58 #[.slice A n c] w fun e w' => ∃ A' c', e = .returned (.slice A' (allPads ds).length c') ∧ PadsOwn w' w.heap.size (.slice A' (allPads ds).length c') (allPads ds) ∧ Below w.heap.size w w' := by
  have hm := h.2.2.1; have hnc := h.2.1
  have HL : Hid (ds.length = n) := Lib.hid h.1
  unfold maxLen at hm
  have H := Lib.hid h; clear h
  obtain ⟨i0, hi, hz0, hz1, hz2⟩ := info_parts infoPad
  go_enter Try.func58, Try.ntmps58
  go_wp2
  go_loopw [3, 4] (fun v i wr => ∃ (k : Nat), k ≤ n ∧ i = .int .i64 k ∧ Hid (PadsOwn wr w.heap.size v (allPads (ds.take k))) ∧ Below w.heap.size w wr) (fun _ i _ => n - (intOf i).toNat)
  case atStart => exact ⟨0, Nat.zero_le _, rfl, Lib.hid ⟨by simp [allPads], .inr ⟨w.heap.size, 0, #[], rfl, Nat.le_refl _, heap_alloc_new _ _, Nat.le_refl _, Nat.zero_le _, rfl, by simp [allPads]⟩⟩, (Below.refl _ _).alloc (Nat.le_refl _) _⟩
  case round =>
    obtain ⟨k, hk, rfl, hO, hb⟩ := hrel
    by_cases hlt : k < n
    · obtain ⟨b, off, eA, hbB, c0, hP⟩ := (H.out.below hb).at_ hlt
      have hkl : k < ds.length := by have := HL.out; omega
      have HS := Lib.hid (allPads_step hkl)
      have hlen : (allPads (ds.take k)).length + (drAt ds k).ps.length ≤ 1048576 := by
        have h1 := allPads_len (ds.take (k + 1))
        rw [HS.out, List.length_append] at h1
        have h2 : cabSz (ds.take (k + 1)) ≤ cabSz ds := by
          have := cabSz_append (ds.take (k + 1)) (ds.drop (k + 1))
          rw [List.take_append_drop] at this; omega
        omega
      subst eA
      have hdl := hP.1
      have HR := Lib.hid hP.2.2.2.1
      clear hkl hP
      generalize drAt ds k = d at *
      rw [hdl] at hlen
      have HDL := Lib.hid hdl; clear hdl
      generalize hap : allPads (ds.take k) = pk at *
      clear hap
      go_wp2_with (at_builtin; refine wpList_append_any _ rfl (.tmp 12) (.tmp 16) _ rfl w.heap.size 26 i0 _ 2 24 Try.underlying49 hi hz0 hz1 hz2 rfl (by omega) _ pk.length (pk.flatMap padC) rfl hO.out w.heap.size d.A d.n d.c (d.ps.flatMap padC) rfl HR.out padC_one (by unfold maxLen; omega) (by omega) hb.size ?_; intro v1 w1 hown1 hg1 hat1)
      have b1 := hb.grown hg1 hb.size (fun q hq => own_base hO.out hq)
      have HO1 : Hid (PadsOwn w1 w.heap.size v1 (allPads (ds.take (k + 1)))) := Lib.hid (by
        rw [HS.out]
        unfold PadsOwn
        rw [List.length_append, List.flatMap_append, HDL.out]
        exact hown1)
      go_roundw
      case rel => exact ⟨k + 1, by omega, by go_num, HO1, b1⟩
      case measure => simp [intOf]; omega
    · have hkn : ds.take k = ds := List.take_of_length_le (by have := HL.out; omega)
      rw [hkn] at hO
      have hF := Lib.hid (own_form hO.out)
      clear hkn
      go_wp2
      go_ret
      obtain ⟨A', c', rfl, _⟩ := hF.out
      exact ⟨A', c', rfl, hO.out, hb⟩
end Go.Proofs.Ytbeaandjhlpaeaa
