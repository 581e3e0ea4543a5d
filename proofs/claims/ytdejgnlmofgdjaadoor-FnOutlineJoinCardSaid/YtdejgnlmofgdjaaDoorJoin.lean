/-
  OutlineJoin of both. Conditions: none.
-/
import Derived.Test.YtdejgnlmofgdjaaDoorOutText
import Derived.Test.YtdejgnlmofgdjaaDoorFrom
import Derived.Test.YtdejgnlmofgdjaaDoorFill
namespace Go.Proofs.YtdejgnlmofgdjaaDoor
open Go.ChangeShapes Go.WideShapes Go.ChangeAt Go.RowKit
set_option maxRecDepth 100000

theorem stC_one {ss : List Stroke} : ∀ u ∈ ss.flatMap stC, u.oneCell' = true := by
  intro u hu
  obtain ⟨s, _, h⟩ := List.mem_flatMap.1 hu
  simp [stC] at h
  rcases h with rfl | rfl <;> rfl
/-- The answer of joining. -/
def JoinAns (w' : World) (B : Nat) (a b : List Stroke) (e : Ending) : Prop :=
  (¬ (outB a = true ∧ outB b = true ∧ outB (a ++ b) = true) ∧ ∃ A c, e = .returned (.tuple #[.slice A 0 c, .bool false]) ∧ StrOwn w' B (.slice A 0 c) []) ∨
  ∃ A c, outB a = true ∧ outB b = true ∧ outB (a ++ b) = true ∧ e = .returned (.tuple #[.slice A (a ++ b).length c, .bool true]) ∧ StrokesIn w' w'.heap.size A (a ++ b).length c (a ++ b)

set_option maxHeartbeats 800000 in
theorem implOutlineJoin (A : Option Addr) (n c : Nat) (A' : Option Addr) (n' c' : Nat) (a b : List Stroke) (w : World) (h : StrokesIn w w.heap.size A n c a) (h' : StrokesIn w w.heap.size A' n' c' b) :
    Calls Tryd.prog 7 #[.slice A n c, .slice A' n' c'] w fun e w' => JoinAns w' w.heap.size a b e ∧ Below w.heap.size w w' := by
  obtain ⟨i0, hi, hz0, hz1, hz2⟩ := info_parts infoSt
  have hnc := h.2.1; have hnc' := h'.2.1
  have HL := Lib.hid h.1; have HL' := Lib.hid h'.1
  have H := Lib.hid h; have H' := Lib.hid h'; clear h h'
  have hV := implOutlineValid A n c a w H.out
  have HN : Hid (∀ W B, StrOwn W B (.slice none 0 0) []) := Lib.hid (fun W B => World.ownsRow_nil _ _ _ _)
  cases ho : outB a with
  | false =>
    rw [ho] at hV
    have HV := Lib.hid hV; have HO := Lib.hid ho; clear hV ho
    go_enter Tryd.func7, Tryd.ntmps7
    go_wp2_with fail
    refine HV.out.mono ?_
    rintro e w1 ⟨rfl, b1⟩
    go_wp2
    go_returns
    exact ⟨.inl ⟨fun h => (by rw [HO.out] at h; cases h.1), _, _, rfl, HN.out _ _⟩, b1⟩
  | true =>
  rw [ho] at hV
  have HV := Lib.hid hV; have HO := Lib.hid ho
  have h8 := outB_len ho; rw [HL.out] at h8; clear hV ho
  have HV' : Hid (∀ W, Below w.heap.size w W → Calls Tryd.prog 25 #[.slice A' n' c'] W fun e w' => e = .returned (.bool (outB b)) ∧ Below W.heap.size W w') := Lib.hid (fun W hW => implOutlineValid A' n' c' b W (H'.out.keep hW))
  cases ho' : outB b with
  | false =>
    rw [ho'] at HV'
    have HO' := Lib.hid ho'; clear ho'
    go_enter Tryd.func7, Tryd.ntmps7
    go_wp2_with fail
    refine HV.out.mono ?_
    rintro e w1 ⟨rfl, b1⟩
    go_wp2_with fail
    refine (HV'.out _ b1).mono ?_
    rintro e w2 ⟨rfl, hb2⟩
    have b2 := below_next b1 hb2
    go_wp2
    go_returns
    exact ⟨.inl ⟨fun h => (by rw [HO'.out] at h; cases h.2.1), _, _, rfl, HN.out _ _⟩, b2⟩
  | true =>
  rw [ho'] at HV'
  have HO' := Lib.hid ho'
  have h8' := outB_len ho'; rw [HL'.out] at h8'; clear ho'
  have hw : IntKind.i64.wrap ((n : Int) + (n' : Int)) = (n : Int) + (n' : Int) := IntWalk.i64_in _ (by omega)
  obtain ⟨cs, hcs, hmk⟩ : ∃ cs : Array Value, cs.size = (n + n') * 2 ∧ ∀ W, (Instr.makeSlice 23 (.int .i64 0) (.int .i64 ((n : Int) + (n' : Int)))).run Tryd.prog W = .ok (.slice (some ⟨W.heap.size, 0, none⟩) 0 (n + n')) (W.alloc (.cells cs 48)) := ⟨_, (madeCells_size (Value.agg #[.int .i64 0, .int .i64 0]).cells ((n + n') * 2)), fun W => by
    have h := run_make_rowN (P := Tryd.prog) 23 48 i0 _ Tryd.underlying23 hi hz0 .i64 .i64 0 (n + n') (by omega) (by rw [hz2]; omega) (by omega) W
    rw [hz1] at h
    push_cast at h
    exact h⟩
  have HF : Hid (∀ W, Below w.heap.size w W → outB (a ++ b) = true ∨ outB (a ++ b) = false) := Lib.hid (fun _ _ => by cases outB (a ++ b) <;> simp)
  go_enter Tryd.func7, Tryd.ntmps7
  go_wp2_with fail
  refine HV.out.mono ?_
  rintro e w1 ⟨rfl, b1⟩
  go_wp2_with fail
  refine (HV'.out _ b1).mono ?_
  rintro e w2 ⟨rfl, hb2⟩
  have b2 := below_next b1 hb2
  have z2 := b2.size
  have b3 := b2.alloc z2 (.cells cs 48)
  have HO3 := Lib.hid (World.ownsRow_made (base := w.heap.size) (e := 48) (size := 2) w2 cs (n + n') z2 (by unfold maxLen; omega) hcs)
  clear hb2 b1 HV HV' hcs
  go_wp2_with (first
    | (at_builtin; refine wpList_append_any _ rfl (.tmp 21) (.tmp 22) _ rfl w.heap.size 48 i0 _ 2 16 Tryd.underlying23 hi hz0 hz1 hz2 rfl (by omega) _ 0 [] rfl HO3.out _ A n c (a.flatMap stC) rfl (H.out.keep b3).2.2.2.1 stC_one (by unfold maxLen; omega) (by omega) b3.size ?_; intro v4 w4 hown4 hg4 hat4; have b4 := b3.grown hg4 b3.size (fun q hq => ownG_base HO3.out hq); simp only [Nat.zero_add, List.nil_append] at hown4; have HO4 := Lib.hid hown4; clear hown4 hg4 hat4)
    | (at_builtin; refine wpList_append_any _ rfl (.tmp 24) (.tmp 25) _ rfl w.heap.size 48 i0 _ 2 16 Tryd.underlying23 hi hz0 hz1 hz2 rfl (by omega) _ n (a.flatMap stC) rfl HO4.out _ A' n' c' (b.flatMap stC) rfl (H'.out.keep b4).2.2.2.1 stC_one (by unfold maxLen; omega) (by omega) b4.size ?_; intro v5 w5 hown5 hg5 hat5; have b5 := b4.grown hg5 b4.size (fun q hq => ownG_base HO4.out hq); have HO5 := Lib.hid hown5; clear hown5 hg5 hat5; obtain ⟨A5, c5, rfl, hc5, hm5⟩ := ownG_form HO5.out)
    | fail)
  have HR5 : Hid (StrokesIn w5 w5.heap.size A5 (n + n') c5 (a ++ b)) := Lib.hid ⟨by rw [List.length_append, HL.out, HL'.out], hc5, hm5, by
    have h := Row.of_own HO5.out
    rw [← List.flatMap_append] at h
    exact h, fun s hs => by
      rcases List.mem_append.1 hs with h | h
      · exact H.out.2.2.2.2 s h
      · exact H'.out.2.2.2.2 s h⟩
  have HV5 := Lib.hid (implOutlineValid A5 (n + n') c5 (a ++ b) w5 HR5.out)
  clear HO3 HO4 HO5
  cases ho3 : outB (a ++ b) with
  | false =>
    rw [ho3] at HV5
    have HO6 := Lib.hid ho3; clear ho3
    go_wp2_with fail
    refine HV5.out.mono ?_
    rintro e w6 ⟨rfl, hb6⟩
    have b6 := below_next b5 hb6
    go_wp2
    go_returns
    exact ⟨.inl ⟨fun h => (by rw [HO6.out] at h; cases h.2.2), _, _, rfl, HN.out _ _⟩, b6⟩
  | true =>
    rw [ho3] at HV5
    have HO6 := Lib.hid ho3; clear ho3
    go_wp2_with fail
    refine HV5.out.mono ?_
    rintro e w6 ⟨rfl, hb6⟩
    have b6 := below_next b5 hb6
    have HR6 := Lib.hid (HR5.out.keep hb6)
    have HE : Hid (n + n' = (a ++ b).length) := Lib.hid (by rw [List.length_append, HL.out, HL'.out])
    clear hb6
    go_wp2
    go_returns
    refine ⟨.inr ⟨A5, c5, HO.out, HO'.out, HO6.out, ?_, ?_⟩, b6⟩
    · rw [← HE.out]; rfl
    · rw [← HE.out]; exact HR6.out

set_option maxHeartbeats 800000 in
theorem specOutlineJoin (A : Option Addr) (n c : Nat) (A' : Option Addr) (n' c' : Nat) (a b : List Stroke) (w : World) (h8 : n ≤ 5) (h8' : n' ≤ 5) (h : StrokesIn w w.heap.size A n c a) (h' : StrokesIn w w.heap.size A' n' c' b) :
    Calls Tryd.prog 8 #[.slice A n c, .slice A' n' c'] w fun e w' => JoinAns w' w.heap.size a b e ∧ Below w.heap.size w w' := by
  obtain ⟨i0, hi, hz0, hz1, hz2⟩ := info_parts infoSt
  have hnc := h.2.1; have hnc' := h'.2.1
  have HL := Lib.hid h.1; have HL' := Lib.hid h'.1
  have H := Lib.hid h; have H' := Lib.hid h'; clear h h'
  have b3 : Below w.heap.size w (w.alloc (.cells #[] 48)) := (Below.refl _ _).alloc (Nat.le_refl _) _
  have HO3 := Lib.hid (World.ownsRow_made (base := w.heap.size) (e := 48) (size := 2) w #[] 0 (Nat.le_refl _) (by unfold maxLen; omega) rfl)
  have HV : Hid (∀ W, Below w.heap.size w W → Calls Tryd.prog 26 #[.slice A n c] W fun e w' => e = .returned (.bool (outB a)) ∧ Below W.heap.size W w') := Lib.hid (fun W hW => specOutlineValid A n c a W (H.out.keep hW))
  have HV' : Hid (∀ W, Below w.heap.size w W → Calls Tryd.prog 26 #[.slice A' n' c'] W fun e w' => e = .returned (.bool (outB b)) ∧ Below W.heap.size W w') := Lib.hid (fun W hW => specOutlineValid A' n' c' b W (H'.out.keep hW))
  go_enter Tryd.func8, Tryd.ntmps8
  go_wp2_with (first
    | (at_builtin; refine wpList_append_any _ rfl (.tmp 7) (.tmp 8) _ rfl w.heap.size 48 i0 _ 2 16 Tryd.underlying23 hi hz0 hz1 hz2 rfl (by omega) _ 0 [] rfl HO3.out _ A n c (a.flatMap stC) rfl (H.out.keep b3).2.2.2.1 stC_one (by unfold maxLen; omega) (by omega) b3.size ?_; intro v4 w4 hown4 hg4 hat4; have b4 := b3.grown hg4 b3.size (fun q hq => ownG_base HO3.out hq); simp only [Nat.zero_add, List.nil_append] at hown4; have HO4 := Lib.hid hown4; clear hown4 hg4 hat4)
    | (at_builtin; refine wpList_append_any _ rfl (.tmp 9) (.tmp 10) _ rfl w.heap.size 48 i0 _ 2 16 Tryd.underlying23 hi hz0 hz1 hz2 rfl (by omega) _ n (a.flatMap stC) rfl HO4.out _ A' n' c' (b.flatMap stC) rfl (H'.out.keep b4).2.2.2.1 stC_one (by unfold maxLen; omega) (by omega) b4.size ?_; intro v5 w5 hown5 hg5 hat5; have b5 := b4.grown hg5 b4.size (fun q hq => ownG_base HO4.out hq); have HO5 := Lib.hid hown5; clear hown5 hg5 hat5; obtain ⟨A5, c5, rfl, hc5, hm5⟩ := ownG_form HO5.out)
    | fail)
  have HR5 : Hid (StrokesIn w5 w5.heap.size A5 (n + n') c5 (a ++ b)) := Lib.hid ⟨by rw [List.length_append, HL.out, HL'.out], hc5, hm5, by
    have h := Row.of_own HO5.out
    rw [← List.flatMap_append] at h
    exact h, fun s hs => by
      rcases List.mem_append.1 hs with h | h
      · exact H.out.2.2.2.2 s h
      · exact H'.out.2.2.2.2 s h⟩
  have HV5 : Hid (∀ W, Below w5.heap.size w5 W → Calls Tryd.prog 26 #[.slice A5 (n + n') c5] W fun e w' => e = .returned (.bool (outB (a ++ b))) ∧ Below W.heap.size W w') := Lib.hid (fun W hW => specOutlineValid A5 (n + n') c5 (a ++ b) W (HR5.out.keep hW))
  have HE : Hid (n + n' = (a ++ b).length) := Lib.hid (by rw [List.length_append, HL.out, HL'.out])
  have HN : Hid (∀ W, Below w.heap.size w W → StrOwn (W.alloc (.cells #[] 48)) w.heap.size (.slice (some ⟨W.heap.size, 0, none⟩) 0 0) []) := Lib.hid (fun W hW => own_mono0 (StrOwn.made W) hW.size)
  clear HO3 HO4 HO5 b3 b4
  cases ho : outB a with
  | false =>
    have HO := Lib.hid ho
    rw [ho] at HV
    clear ho
    go_wp2_with fail
    refine (HV.out _ b5).mono ?_
    rintro e w6 ⟨rfl, hb6⟩
    have b6 := below_next b5 hb6
    have b7 := b6.alloc b6.size (.cells #[] 48)
    go_wp2
    go_returns
    exact ⟨.inl ⟨fun h => (by rw [HO.out] at h; cases h.1), _, _, rfl, HN.out _ b6⟩, b7⟩
  | true =>
  have HO := Lib.hid ho
  rw [ho] at HV
  clear ho
  go_wp2_with fail
  refine (HV.out _ b5).mono ?_
  rintro e w6 ⟨rfl, hb6⟩
  have b6 := below_next b5 hb6
  have k6 := hb6
  clear hb6 HV
  cases ho : outB b with
  | false =>
    have HO' := Lib.hid ho
    rw [ho] at HV'
    clear ho
    go_wp2_with fail
    refine (HV'.out _ b6).mono ?_
    rintro e w7 ⟨rfl, hb7⟩
    have b7 := below_next b6 hb7
    have b8 := b7.alloc b7.size (.cells #[] 48)
    go_wp2
    go_returns
    exact ⟨.inl ⟨fun h => (by rw [HO'.out] at h; cases h.2.1), _, _, rfl, HN.out _ b7⟩, b8⟩
  | true =>
  have HO' := Lib.hid ho
  rw [ho] at HV'
  clear ho
  go_wp2_with fail
  refine (HV'.out _ b6).mono ?_
  rintro e w7 ⟨rfl, hb7⟩
  have b7 := below_next b6 hb7
  have k7 := below_next k6 hb7
  clear hb7 HV'
  cases ho : outB (a ++ b) with
  | false =>
    have HO3 := Lib.hid ho
    rw [ho] at HV5
    clear ho
    go_wp2_with fail
    refine (HV5.out _ k7).mono ?_
    rintro e w8 ⟨rfl, hb8⟩
    have b8 := below_next b7 hb8
    have b9 := b8.alloc b8.size (.cells #[] 48)
    go_wp2
    go_returns
    exact ⟨.inl ⟨fun h => (by rw [HO3.out] at h; cases h.2.2), _, _, rfl, HN.out _ b8⟩, b9⟩
  | true =>
    have HO3 := Lib.hid ho
    rw [ho] at HV5
    clear ho
    go_wp2_with fail
    refine (HV5.out _ k7).mono ?_
    rintro e w8 ⟨rfl, hb8⟩
    have b8 := below_next b7 hb8
    have HR8 := Lib.hid (HR5.out.keep (below_next k7 hb8))
    clear hb8
    go_wp2
    go_returns
    refine ⟨.inr ⟨A5, c5, HO.out, HO'.out, HO3.out, ?_, ?_⟩, b8⟩
    · rw [← HE.out]; rfl
    · rw [← HE.out]; exact HR8.out
end Go.Proofs.YtdejgnlmofgdjaaDoor
