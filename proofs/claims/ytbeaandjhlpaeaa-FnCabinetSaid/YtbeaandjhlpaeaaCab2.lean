/-
  How much a list of pads, or of drawers, holds: szPadS, szPadSS. Conditions: none but those of Go's own sizes.
-/
import Derived.Test.YtbeaandjhlpaeaaCab1
namespace Go.Proofs.Ytbeaandjhlpaeaa
open Go.ChangeShapes Go.WideShapes Go.ChangeAt Go.RowKit
set_option maxRecDepth 100000

def padsSz : List Pad → Nat
  | [] => 0
  | p :: r => p.case.size + 1 + padsSz r
theorem padsSz_append : ∀ a b : List Pad, padsSz (a ++ b) = padsSz a + padsSz b
  | [], b => by simp [padsSz]
  | p :: a, b => by simp only [List.cons_append, padsSz, padsSz_append a b]; omega
theorem take_step {α : Type} {l : List α} {k : Nat} {x : α} (h : l[k]? = some x) : l.take (k + 1) = l.take k ++ [x] := by
  rw [List.take_add_one, h]; rfl
theorem padsSz_step {ps : List Pad} {k : Nat} (h : k < ps.length) : padsSz (ps.take (k + 1)) = padsSz (ps.take k) + (padAt ps k).case.size + 1 := by
  rw [take_step (padAt_some h), padsSz_append]; simp [padsSz]; omega
theorem padsSz_len : ∀ ps : List Pad, ps.length ≤ padsSz ps
  | [] => by simp [padsSz]
  | p :: r => by have := padsSz_len r; simp only [padsSz, List.length_cons]; omega
theorem padsSz_mem {p : Pad} : ∀ {ps : List Pad}, p ∈ ps → p.case.size + 1 ≤ padsSz ps
  | [], h => by cases h
  | q :: r, h => by
    simp only [padsSz]
    rcases List.mem_cons.1 h with rfl | h
    · omega
    · have := padsSz_mem h; omega

/-- What a measure leaves: nothing, or as much as it says. -/
def SzR (left r : Int) (tot : Nat) : Prop := r = -1 ∨ (0 ≤ r ∧ r + tot ≤ left)

theorem szPadS (A : Option Addr) (n c : Nat) (ps : List Pad) (left : Int) (w : World) (h0 : 0 ≤ left) (h1 : left ≤ 1048576) (h : PadsIn w w.heap.size A n c ps) :
    Calls Try.prog 57 #[.slice A n c, .int .i64 left] w fun e w' => ∃ r, e = .returned (.int .i64 r) ∧ SzR left r (padsSz ps) ∧ Below w.heap.size w w' := by
  have hm := h.2.2.1; have hnc := h.2.1
  have HL : Hid (ps.length = n) := Lib.hid h.1
  unfold maxLen at hm
  have H := Lib.hid h; clear h
  by_cases hneg : left - n < 0
  · go_enter Try.func57, Try.ntmps57
    go_wp2
    go_ret
    exact ⟨-1, rfl, .inl rfl, Below.refl _ _⟩
  have hpos : 0 ≤ left - (n : Int) := by omega
  clear hneg
  go_enter Try.func57, Try.ntmps57
  go_wp2
  go_loopw [1, 5] (fun l i wr => ∃ (k : Nat) (z : Int), k ≤ n ∧ i = .int .i64 k ∧ l = .int .i64 z ∧ 0 ≤ z ∧ z + padsSz (ps.take k) + (n - k : Nat) ≤ left ∧ Below w.heap.size w wr) (fun _ i _ => n - (intOf i).toNat)
  case atStart => exact ⟨0, left - n, Nat.zero_le _, rfl, rfl, by omega, by simp [padsSz], Below.refl _ _⟩
  case round =>
    obtain ⟨k, z, hk, rfl, rfl, hz0, hz1, hb⟩ := hrel
    by_cases hlt : k < n
    · obtain ⟨b, off, eA, hbB, c0, c1, hg⟩ := (H.out.below hb).at_ hlt
      have HS := Lib.hid (padsSz_step (ps := ps) (k := k) (by have := HL.out; omega))
      subst eA
      generalize padAt ps k = p at *
      have hzl : z ≤ 1048576 := by omega
      by_cases hn : z - (p.case.size : Int) < 0
      · have HN := Lib.hid (subL_neg hn)
        go_wp2_with fail
        refine (szPad _ _ _ _ hz0 hzl hg.2).mono ?_; rintro e w1 ⟨rfl, hb1⟩; rw [HN.out]
        have b1 := hb.trans (hb1.mono hb.size)
        clear hb1 c0 c1
        go_wp2
        go_ret
        exact ⟨-1, rfl, .inl rfl, b1⟩
      · have hn' : 0 ≤ z - (p.case.size : Int) := by omega
        have HN := Lib.hid (subL_pos hn')
        clear hn
        go_wp2_with fail
        refine (szPad _ _ _ _ hz0 hzl hg.2).mono ?_; rintro e w1 ⟨rfl, hb1⟩; rw [HN.out]
        have b1 := hb.trans (hb1.mono hb.size)
        clear hb1 c0 c1
        go_wp2
        go_roundw
        case rel => exact ⟨k + 1, z - p.case.size, by omega, by go_num, rfl, by omega, by have := HS.out; omega, b1⟩
        case measure => simp [intOf]; omega
    · have hkn : ps.take k = ps := List.take_of_length_le (by have := HL.out; omega)
      rw [hkn] at hz1
      clear hkn
      go_wp2
      go_ret
      exact ⟨z, rfl, .inr ⟨hz0, by omega⟩, hb⟩

/-- The k-th drawer of a list. -/
def drAt (ds : List Drawer) (k : Nat) : Drawer := ds.getD k ⟨none, 0, 0, []⟩
theorem drAt_some {ds : List Drawer} {k : Nat} (h : k < ds.length) : ds[k]? = some (drAt ds k) := by
  unfold drAt; simp [List.getD, List.getElem?_eq_getElem h]
theorem drAt_mem {ds : List Drawer} {k : Nat} (h : k < ds.length) : drAt ds k ∈ ds := List.mem_of_getElem? (drAt_some h)
theorem DrawersIn.below {w w' : World} {B n c : Nat} {A : Option Addr} {ds : List Drawer} (h : DrawersIn w B A n c ds) (hb : Below B w w') : DrawersIn w' B A n c ds :=
  ⟨h.1, h.2.1, h.2.2.1, h.2.2.2.1.below hb, fun d hd => (h.2.2.2.2 d hd).below hb⟩
theorem DrawersIn.more {w : World} {B B' n c : Nat} {A : Option Addr} {ds : List Drawer} (h : DrawersIn w B A n c ds) (hb : B ≤ B') : DrawersIn w B' A n c ds :=
  ⟨h.1, h.2.1, h.2.2.1, h.2.2.2.1.more hb, fun d hd => (h.2.2.2.2 d hd).more hb⟩
theorem DrawersIn.at_ {w : World} {B n c k : Nat} {A : Option Addr} {ds : List Drawer} (h : DrawersIn w B A n c ds) (hk : k < n) :
    ∃ b off, A = some ⟨b, off, none⟩ ∧ b < B ∧ w.cell? ⟨b, off + k, none⟩ = some (.slice (drAt ds k).A (drAt ds k).n (drAt ds k).c) ∧ PadsIn w B (drAt ds k).A (drAt ds k).n (drAt ds k).c (drAt ds k).ps := by
  obtain ⟨h1, h2, h3, h4, h5⟩ := h
  obtain ⟨b, off, e, hb, hc⟩ := h4.2 (by omega)
  have hk' := drAt_some (ds := ds) (k := k) (by omega)
  refine ⟨b, off, e, hb, ?_, h5 _ (drAt_mem (by omega))⟩
  have := hc _ _ (flat_at drawerC_len ds k _ 0 _ hk' rfl)
  simpa using this

def cabSz : List Drawer → Nat
  | [] => 0
  | d :: r => padsSz d.ps + 1 + cabSz r
theorem cabSz_append : ∀ a b : List Drawer, cabSz (a ++ b) = cabSz a + cabSz b
  | [], b => by simp [cabSz]
  | p :: a, b => by simp only [List.cons_append, cabSz, cabSz_append a b]; omega
theorem cabSz_step {ds : List Drawer} {k : Nat} (h : k < ds.length) : cabSz (ds.take (k + 1)) = cabSz (ds.take k) + padsSz (drAt ds k).ps + 1 := by
  rw [take_step (drAt_some h), cabSz_append]; simp [cabSz]; omega

theorem szPadSS (A : Option Addr) (n c : Nat) (ds : List Drawer) (left : Int) (w : World) (h0 : 0 ≤ left) (h1 : left ≤ 1048576) (h : DrawersIn w w.heap.size A n c ds) :
    Calls Try.prog 22 #[.slice A n c, .int .i64 left] w fun e w' => ∃ r, e = .returned (.int .i64 r) ∧ SzR left r (cabSz ds) ∧ Below w.heap.size w w' := by
  have hm := h.2.2.1; have hnc := h.2.1
  have HL : Hid (ds.length = n) := Lib.hid h.1
  unfold maxLen at hm
  have H := Lib.hid h; clear h
  by_cases hneg : left - n < 0
  · go_enter Try.func22, Try.ntmps22
    go_wp2
    go_ret
    exact ⟨-1, rfl, .inl rfl, Below.refl _ _⟩
  have hpos : 0 ≤ left - (n : Int) := by omega
  clear hneg
  go_enter Try.func22, Try.ntmps22
  go_wp2
  go_loopw [1, 5] (fun l i wr => ∃ (k : Nat) (z : Int), k ≤ n ∧ i = .int .i64 k ∧ l = .int .i64 z ∧ 0 ≤ z ∧ z + cabSz (ds.take k) + (n - k : Nat) ≤ left ∧ Below w.heap.size w wr) (fun _ i _ => n - (intOf i).toNat)
  case atStart => exact ⟨0, left - n, Nat.zero_le _, rfl, rfl, by omega, by simp [cabSz], Below.refl _ _⟩
  case round =>
    obtain ⟨k, z, hk, rfl, rfl, hz0, hz1, hb⟩ := hrel
    by_cases hlt : k < n
    · obtain ⟨b, off, eA, hbB, c0, hP⟩ := (H.out.below hb).at_ hlt
      have HS := Lib.hid (cabSz_step (ds := ds) (k := k) (by have := HL.out; omega))
      subst eA
      generalize drAt ds k = d at *
      have hzl : z ≤ 1048576 := by omega
      have HP := Lib.hid (hP.more hb.size); clear hP
      go_wp2_with fail
      refine (szPadS _ _ _ _ _ _ hz0 hzl HP.out).mono ?_; rintro e w1 ⟨r, rfl, hr, hb1⟩
      have b1 := hb.trans (hb1.mono hb.size)
      clear hb1 c0
      rcases hr with rfl | ⟨hr0, hr1⟩
      · go_wp2
        go_ret
        exact ⟨-1, rfl, .inl rfl, b1⟩
      · go_wp2
        go_roundw
        case rel => exact ⟨k + 1, r, by omega, by go_num, rfl, by omega, by have := HS.out; omega, b1⟩
        case measure => simp [intOf]; omega
    · have hkn : ds.take k = ds := List.take_of_length_le (by have := HL.out; omega)
      rw [hkn] at hz1
      clear hkn
      go_wp2
      go_ret
      exact ⟨z, rfl, .inr ⟨hz0, by omega⟩, hb⟩
end Go.Proofs.Ytbeaandjhlpaeaa
