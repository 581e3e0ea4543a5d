/-
  slices.Grow of nothing and slices.Concat of two lists of marks. Conditions: the lists are short.
-/
import Derived.Test.YtlfhgmbmgbbnjaaMkCl
import Derived.Lib.AppendZerosOnto
import Derived.Lib.SliceRun
import Derived.Lib.Walk
namespace Go.Proofs.Ytlfhgmbmgbbnjaa
open Go.ChangeShapes Go.WideShapes Go.ChangeAt Go.RowKit
set_option maxRecDepth 100000
set_option linter.unusedSimpArgs false
set_option linter.unusedVariables false

theorem growRun (w : World) (n : Nat) (h0 : 0 < n) (hn : n ≤ 1000) : ∃ G w', (∀ ty, (Builtin.append_ #[32, 3] ty #[.slice none 0 0, .int .i64 (n : Int)]).run Try.prog w = .ok (.slice (some ⟨w.heap.size, 0, none⟩) n G) w') ∧ G ≤ maxLen ∧ n ≤ G ∧ w'.ownsRow w.heap.size 37 3 (.slice (some ⟨w.heap.size, 0, none⟩) 0 G) 0 [] ∧ Below w.heap.size w w' := by
  obtain ⟨i0, hi, hz0, hz1, hz2⟩ := info_parts infoMk
  have hold : (Builtin.firstCells i0.size 0 (.slice none 0 0)).run Try.prog w.drew = .ok ([] : List Value).toArray w.drew := run_firstCells_none w.drew i0.size 0 0 0
  have hr := fun ty => Lib.run_append_grow_zeros (P := Try.prog) w 32 3 ty 37 i0 _ .i64 .i64 Try.underlying32 Try.underlying3 hi hz0 none 0 0 [] hold n h0 (by omega) (by omega) (by omega) (by rw [hz2]; omega) (growslice_fits (by omega) (by rw [hz2]; omega))
  simp only [Nat.zero_add] at hr
  have g1 := grownCap_ge w n 0 37
  have g2 := grownCap_le_maxLen w n 0 37 (by unfold maxLen; omega)
  refine ⟨_, _, hr, g2, g1, ?_, ?_⟩
  · refine World.ownsRow_made w.drew _ _ (Nat.le_refl _) g2 ?_
    simp [Builtin.zeroCells, Value.cells]
    omega
  · exact (Below.refl _ _).drew.alloc (Nat.le_refl _) _
set_option maxHeartbeats 800000 in
theorem growMk (n : Nat) (hn : n ≤ 1000) (w : World) : Calls Try.prog 53 #[.slice none 0 0, .int .i64 (n : Int)] w fun e w' => ∃ v, e = .returned v ∧ w'.ownsRow w.heap.size 37 3 v 0 [] ∧ Below w.heap.size w w' := by
  rcases Nat.eq_zero_or_pos n with h0 | h0
  · subst h0
    go_enter Try.func53, Try.ntmps53
    go_wp2
    go_ret
    exact ⟨_, rfl, ⟨rfl, .inl ⟨rfl, rfl⟩⟩, Below.refl _ _⟩
  · obtain ⟨G, w1, hr, hG, hnG, ho, hb⟩ := growRun w n h0 hn
    have h1 : (0 : Int) < (n : Int) := by omega
    have h2 : ¬ ((n : Int) < 0) := by omega
    have HO := Lib.hid ho
    unfold maxLen at hG
    clear ho
    go_enter Try.func53, Try.ntmps53
    go_wp2_with (at_builtin; refine Lib.wpList_append_run _ rfl _ _ _ _ rfl _ _ rfl rfl _ _ (hr _) ?_)
    go_ret
    exact ⟨_, rfl, HO.out, hb⟩
theorem mrs_one (xs : List Mr) : ∀ v ∈ xs.flatMap mkC, v.oneCell' = true := by
  intro v hv
  obtain ⟨x, _, h⟩ := List.mem_flatMap.1 hv
  simp only [mkC, List.mem_cons, List.not_mem_nil, or_false] at h
  rcases h with rfl | rfl | rfl <;> rfl
theorem zeroMk {w : World} {B : Nat} {v : Value} (h : w.ownsRow B 37 3 v 0 []) : w.ownsRow B 37 3 v ([] : List Mr).length (([] : List Mr).flatMap mkC) := h
/-- What has been put together. -/
def CatRow (w wr : World) (v : Value) (zs : List Mr) : Prop := wr.ownsRow w.heap.size 37 3 v zs.length (zs.flatMap mkC) ∧ Below w.heap.size w wr
def CatSt (n n' : Nat) (w wr : World) (s3 s11 : Value) : Prop := w = wr ∧ ((s3 = .int .i64 0 ∧ s11 = .int .i64 0) ∨ (s3 = .int .i64 (n : Int) ∧ s11 = .int .i64 1) ∨ (s3 = .int .i64 ((n : Int) + (n' : Int)) ∧ s11 = .int .i64 2))
def CatSt2 (w wr : World) (xs ys : List Mr) (v s27 : Value) : Prop := (s27 = .int .i64 0 ∧ CatRow w wr v []) ∨ (s27 = .int .i64 1 ∧ CatRow w wr v xs) ∨ (s27 = .int .i64 2 ∧ CatRow w wr v (xs ++ ys))
set_option maxHeartbeats 1600000 in
theorem catMk (p : Nat) (A : Option Addr) (n c : Nat) (xs : List Mr) (A' : Option Addr) (n' c' : Nat) (ys : List Mr) (w : World) (hp0 : w.cell? ⟨p, 0, none⟩ = some (.slice A n c)) (hp1 : w.cell? ⟨p, 1, none⟩ = some (.slice A' n' c')) (h1 : n ≤ 100) (h2 : n' ≤ 100) (h : MrsIn w w.heap.size A n c xs) (h' : MrsIn w w.heap.size A' n' c' ys) :
    Calls Try.prog 39 #[.slice (some ⟨p, 0, none⟩) 2 2] w fun e w' => ∃ A3 c3, e = .returned (.slice A3 (n + n') c3) ∧ MrsIn w' w'.heap.size A3 (n + n') c3 (xs ++ ys) ∧ (∀ p, A3 = some p → w.heap.size ≤ p.block) ∧ Below w.heap.size w w' := by
  obtain ⟨i0, hi, hz0, hz1, hz2⟩ := info_parts infoMk
  have HL := Lib.hid h.1; have HL' := Lib.hid h'.1
  have H := Lib.hid h; have H' := Lib.hid h'
  clear h h'
  have hG := growMk (n + n') (by omega) w
  rw [show ((n + n' : Nat) : Int) = (n : Int) + (n' : Int) by omega] at hG
  have HG := Lib.hid hG
  clear hG
  have n0 : (0 : Int) ≤ (n : Int) := by omega
  have n0' : (0 : Int) ≤ (n' : Int) := by omega
  go_enter Try.func39, Try.ntmps39
  go_wp2
  go_loopw [3, 11] (fun s3 s11 wr => CatSt n n' w wr s3 s11) (fun _ s11 _ => 2 - (intOf s11).toNat)
  case atStart => exact ⟨rfl, .inl ⟨rfl, rfl⟩⟩
  case round =>
    obtain ⟨rfl, ⟨rfl, rfl⟩ | ⟨rfl, rfl⟩ | ⟨rfl, rfl⟩⟩ := hrel
    · go_wp2
      go_roundw
      case rel => exact ⟨rfl, .inr (.inl ⟨rfl, rfl⟩)⟩
      case measure => simp [intOf] <;> omega
    · go_wp2
      go_roundw
      case rel => exact ⟨rfl, .inr (.inr ⟨rfl, rfl⟩)⟩
      case measure => simp [intOf] <;> omega
    · go_wp2_with fail
      refine HG.out.mono ?_
      rintro e w1 ⟨v1, rfl, ho1, hb1⟩
      have HC0 : Hid (CatRow w w1 v1 []) := Lib.hid ⟨ho1, hb1⟩
      have q0 := kcell hb1 hp0; have q1 := kcell hb1 hp1
      clear ho1 hb1 HG
      go_wp2
      go_loopw [6, 27] (fun s6 s27 wr => CatSt2 w wr xs ys s6 s27) (fun _ s27 _ => 2 - (intOf s27).toNat)
      case atStart => exact .inl ⟨rfl, HC0.out⟩
      case round =>
        rcases hrel with ⟨rfl, HC⟩ | ⟨rfl, HC⟩ | ⟨rfl, HC⟩ <;> replace HC := Lib.hid HC
        · have r0 := kcell HC.out.2 hp0
          have HR := Lib.hid (H.out.keep HC.out.2)
          have hs := HC.out.2.size
          go_wp2_with (at_builtin; refine wpList_append_any _ rfl (.tmp 31) (.tmp 32) _ rfl w.heap.size 37 i0 _ 3 40 Try.underlying32 hi hz0 hz1 hz2 rfl (by omega) _ 0 [] rfl HC.out.1 wr.heap.size A n c (xs.flatMap mkC) rfl HR.out.2.2.2.1 (mrs_one xs) (by unfold maxLen; omega) (by omega) hs ?_; intro v7 w7 hown7 hg7 hat7)
          have HC2 : Hid (CatRow w w7 v7 xs) := Lib.hid ⟨by rw [Nat.zero_add, List.nil_append] at hown7; rw [HL.out]; exact hown7, HC.out.2.grown hg7 hs (fun q hq => ownG_base HC.out.1 hq)⟩
          clear hown7 hg7 hat7 HR HC
          go_wp2
          go_roundw
          case rel => exact .inr (.inl ⟨rfl, HC2.out⟩)
          case measure => simp [intOf] <;> omega
        · have r0 := kcell HC.out.2 hp1
          have HR := Lib.hid (H'.out.keep HC.out.2)
          have hs := HC.out.2.size
          have HO : Hid (wr.ownsRow w.heap.size 37 3 u6 n (xs.flatMap mkC)) := Lib.hid (by have := HC.out.1; rwa [HL.out] at this)
          go_wp2_with (at_builtin; refine wpList_append_any _ rfl (.tmp 31) (.tmp 32) _ rfl w.heap.size 37 i0 _ 3 40 Try.underlying32 hi hz0 hz1 hz2 rfl (by omega) _ n (xs.flatMap mkC) rfl HO.out wr.heap.size A' n' c' (ys.flatMap mkC) rfl HR.out.2.2.2.1 (mrs_one ys) (by unfold maxLen; omega) (by omega) hs ?_; intro v7 w7 hown7 hg7 hat7)
          have HC2 : Hid (CatRow w w7 v7 (xs ++ ys)) := Lib.hid ⟨by rw [List.length_append, HL.out, HL'.out, List.flatMap_append]; exact hown7, HC.out.2.grown hg7 hs (fun q hq => ownG_base HC.out.1 hq)⟩
          clear hown7 hg7 hat7 HR HC HO
          go_wp2
          go_roundw
          case rel => exact .inr (.inr ⟨rfl, HC2.out⟩)
          case measure => simp [intOf] <;> omega
        · have HO : Hid (wr.ownsRow w.heap.size 37 3 u6 (n + n') ((xs ++ ys).flatMap mkC)) := Lib.hid (by have := HC.out.1; rwa [List.length_append, HL.out, HL'.out] at this)
          have HI : Hid (∀ x ∈ xs ++ ys, MrIn wr wr.heap.size x) := Lib.hid (fun x hx => by
            rcases List.mem_append.1 hx with h | h
            · exact (H.out.keep HC.out.2).2.2.2.2 x h
            · exact (H'.out.keep HC.out.2).2.2.2.2 x h)
          obtain ⟨A3, c3, rfl, hc3, hm3⟩ := ownG_form HO.out
          have HM : Hid (MrsIn wr wr.heap.size A3 (n + n') c3 (xs ++ ys)) := Lib.hid ⟨by rw [List.length_append, HL.out, HL'.out], hc3, hm3, Row.of_own HO.out, HI.out⟩
          have hb := HC.out.2
          have HP : Hid (∀ p, A3 = some p → w.heap.size ≤ p.block) := Lib.hid (fun p hp => by subst hp; exact ownG_base HO.out rfl)
          clear HO HI HC
          go_wp2
          go_ret
          exact ⟨A3, c3, rfl, HM.out, HP.out, hb⟩
end Go.Proofs.Ytlfhgmbmgbbnjaa
