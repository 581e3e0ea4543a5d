/-
  A text cut at its spaces: l3Cut; spaces counted. Conditions: the text is no longer than a law's texts.
-/
import Derived.Test.YtppjjbjjbmodbaaDoorLine
import Derived.Test.YtppjjbjjbmodbaaDoorWrFrom
namespace Go.Proofs.YtppjjbjjbmodbaaDoor
open Go.ChangeShapes Go.WideShapes Go.ChangeAt Go.RowKit
set_option maxRecDepth 100000
set_option linter.unusedSimpArgs false

/-- The pieces of a text between its spaces, behind a piece that has begun. -/
def cutP : List UInt8 → List UInt8 → List (List UInt8)
  | cur, [] => [cur]
  | cur, c :: r => if c = 32 then cur :: cutP [] r else cutP (cur ++ [c]) r
def cutS (l : List UInt8) : List (List UInt8) := cutP [] l
theorem cutP_len (cur l : List UInt8) : (cutP cur l).length ≤ l.length + 1 := by
  induction l generalizing cur with
  | nil => simp [cutP]
  | cons c r ih =>
    unfold cutP
    split
    · have := ih []; simp; omega
    · have := ih (cur ++ [c]); simp; omega
theorem cutP_bd (cur l : List UInt8) : ∀ p ∈ cutP cur l, p.length ≤ cur.length + l.length := by
  induction l generalizing cur with
  | nil => intro p hp; simp [cutP] at hp; subst hp; simp
  | cons c r ih =>
    intro p hp
    unfold cutP at hp
    split at hp
    · rcases List.mem_cons.1 hp with rfl | hp
      · simp
      · have := ih [] p hp; simp at this ⊢; omega
    · have := ih _ p hp; simp at this ⊢; omega
theorem cut_go {l : List UInt8} {k f : Nat} (hk : k < l.length) (hf : f ≤ k) (h : l[k] ≠ 32) : cutP ((l.take k).drop f) (l.drop k) = cutP ((l.take (k + 1)).drop f) (l.drop (k + 1)) := by
  rw [List.drop_eq_getElem_cons hk, cutP, if_neg h, List.take_succ_eq_append_getElem hk, List.drop_append_of_le_length (by rw [List.length_take]; omega)]
theorem cut_at {l : List UInt8} {k f : Nat} (hk : k < l.length) (h : l[k] = 32) : cutP ((l.take k).drop f) (l.drop k) = (l.take k).drop f :: cutP ((l.take (k + 1)).drop (k + 1)) (l.drop (k + 1)) := by
  have e : (l.take (k + 1)).drop (k + 1) = [] := List.drop_of_length_le (by rw [List.length_take]; omega)
  rw [List.drop_eq_getElem_cons hk, cutP, if_pos h, e]
theorem cut_end {l : List UInt8} {f : Nat} : cutP ((l.take l.length).drop f) (l.drop l.length) = [l.drop f] := by
  rw [List.drop_length, List.take_length, cutP]
def strP (p : List UInt8) : Value := .string (mkStr p)
theorem ext_mid (s : ByteArray) (f k : Nat) : s.extract f k = mkStr ((s.data.toList.take k).drop f) := by
  apply ByteArray.ext
  apply Array.toList_inj.1
  simp [mkStr, List.extract_eq_take_drop, List.drop_take]
theorem ext_end (s : ByteArray) (f : Nat) : s.extract f s.size = mkStr (s.data.toList.drop f) := by
  rw [ext_mid]
  congr 2
  exact List.take_of_length_le (by simp)

set_option maxHeartbeats 800000 in
theorem l3Cut (s : ByteArray) (w : World) (hs : s.size ≤ 4096) :
    Calls Tryd.prog 27 #[.string s, .int .u8 32] w fun e w' => (∃ A c, e = .returned (.slice A (cutS s.data.toList).length c) ∧ w'.ownsRow w.heap.size 9 1 (.slice A (cutS s.data.toList).length c) (cutS s.data.toList).length ((cutS s.data.toList).map strP)) ∧ Below w.heap.size w w' := by
  obtain ⟨i0, hi, hz0, hz1, hz2⟩ := info_parts infoStr
  have HL : Hid (s.data.toList.length = s.size) := Lib.hid (by simp)
  have hcl := cutP_len [] s.data.toList
  rw [HL.out] at hcl
  have HCl : Hid ((cutS s.data.toList).length ≤ s.size + 1) := Lib.hid hcl
  clear hcl
  go_enter Tryd.func27, Tryd.ntmps27
  go_wp2
  go_loopw [5, 6, 7] (fun v f i wr => ∃ (k f0 : Nat) (P : List (List UInt8)), k ≤ s.size ∧ f0 ≤ k ∧ f = .int .i64 f0 ∧ i = .int .i64 k ∧ Hid (cutS s.data.toList = P ++ cutP ((s.data.toList.take k).drop f0) (s.data.toList.drop k)) ∧ Hid (wr.ownsRow w.heap.size 9 1 v P.length (P.map strP)) ∧ Below w.heap.size w wr) (fun _ _ i _ => s.size - (intOf i).toNat)
  case atStart =>
    refine ⟨0, 0, [], Nat.zero_le _, Nat.le_refl _, rfl, rfl, Lib.hid rfl, Lib.hid ?_, (Below.refl _ _).alloc (Nat.le_refl _) _⟩
    exact World.ownsRow_made w #[] 0 (Nat.le_refl _) (by simp) (by simp)
  case round =>
    obtain ⟨k, f0, P, hk, hf, rfl, rfl, HC, HO, hb⟩ := hrel
    have hz := hb.size
    have hPl : P.length ≤ s.size + 1 := by
      have h1 := HCl.out
      rw [HC.out, List.length_append] at h1
      omega
    by_cases hlt : k < s.size
    · have hkl : k < s.data.toList.length := by rw [HL.out]; exact hlt
      have hge : s.data.toList[k] = s[k] := by simp [ByteArray.getElem_eq_getElem_data]
      by_cases e : s[k] = 32
      · have hbq : ((s[k].toNat : Int) == 32) = true := by rw [e]; rfl
        have HC2 : Hid (cutS s.data.toList = (P ++ [(s.data.toList.take k).drop f0]) ++ cutP ((s.data.toList.take (k + 1)).drop (k + 1)) (s.data.toList.drop (k + 1))) := Lib.hid (by
          rw [HC.out, cut_at hkl (by rw [hge, e]), List.append_assoc]; rfl)
        have hx := ext_mid s f0 k
        have hi1 : (0 : Int) ≤ (f0 : Int) := by omega
        have hi2 : (f0 : Int) ≤ (k : Int) := by omega
        have hi3 : (k : Int) ≤ (s.size : Int) := by omega
        clear e hge
        generalize (s.data.toList.take k).drop f0 = cur at *
        go_wp2_with (at_builtin; refine wpList_append_any _ rfl (.tmp 20) (.tmp 25) _ rfl w.heap.size 9 i0 _ 1 16 Tryd.underlying33 hi hz0 hz1 hz2 rfl (by omega) _ P.length (P.map strP) rfl (HO.out.alloc _) (wr.heap.size + 1) (some ⟨wr.heap.size, 0, none⟩) 1 1 [strP cur] (by simp [Act.eval, Act.put]) (rowStr _ _ _) (by simp [strP, Value.oneCell']) (by unfold maxLen; omega) (by omega) (by simp; omega) ?_; intro v4 w4 hown4 hg4 hat4)
        have HO4 : Hid (w4.ownsRow w.heap.size 9 1 v4 (P ++ [cur]).length ((P ++ [cur]).map strP)) := Lib.hid (by rw [List.length_append, List.map_append]; exact hown4)
        have b4 : Below w.heap.size w w4 := (hb.alloc hz _).grown hg4 (by simp; omega) (fun q hq => ownG_base HO.out hq)
        clear hown4 hg4 hat4 HC HO hx
        go_wp2
        go_roundw
        case rel => exact ⟨k + 1, k + 1, P ++ [cur], by omega, Nat.le_refl _, by go_num, by go_num, HC2, HO4, b4⟩
        case measure => simp [intOf]; omega
      · have hbq : ((s[k].toNat : Int) == 32) = false := beq_eq_false_iff_ne.2 (fun h => e (UInt8.toNat_inj.1 (by have h32 : (32 : UInt8).toNat = 32 := rfl; omega)))
        have HC2 : Hid (cutS s.data.toList = P ++ cutP ((s.data.toList.take (k + 1)).drop f0) (s.data.toList.drop (k + 1))) := Lib.hid (by
          rw [HC.out, cut_go hkl hf (by rw [hge]; exact e)])
        clear e hge HC
        go_wp2
        go_roundw
        case rel => exact ⟨k + 1, f0, P, by omega, by omega, rfl, by go_num, HC2, HO, hb⟩
        case measure => simp [intOf]; omega
    · obtain rfl : k = s.size := by omega
      have HC2 : Hid (cutS s.data.toList = P ++ [s.data.toList.drop f0]) := Lib.hid (by
        rw [HC.out, ← HL.out, cut_end])
      have hx := ext_end s f0
      have hi1 : (0 : Int) ≤ (f0 : Int) := by omega
      have hi2 : (f0 : Int) ≤ (s.size : Int) := by omega
      clear HC
      generalize s.data.toList.drop f0 = cur at *
      go_wp2_with (at_builtin; refine wpList_append_any _ rfl (.tmp 29) (.tmp 33) _ rfl w.heap.size 9 i0 _ 1 16 Tryd.underlying33 hi hz0 hz1 hz2 rfl (by omega) _ P.length (P.map strP) rfl (HO.out.alloc _) (wr.heap.size + 1) (some ⟨wr.heap.size, 0, none⟩) 1 1 [strP cur] (by simp [Act.eval, Act.put]) (rowStr _ _ _) (by simp [strP, Value.oneCell']) (by unfold maxLen; omega) (by omega) (by simp; omega) ?_; intro v4 w4 hown4 hg4 hat4)
      have HO4 : Hid (w4.ownsRow w.heap.size 9 1 v4 (cutS s.data.toList).length ((cutS s.data.toList).map strP)) := Lib.hid (by rw [HC2.out, List.length_append, List.map_append]; exact hown4)
      have b4 : Below w.heap.size w w4 := (hb.alloc hz _).grown hg4 (by simp; omega) (fun q hq => ownG_base HO.out hq)
      clear hown4 hg4 hat4 HC2 HO hx
      obtain ⟨A5, c5, rfl, _, _⟩ := ownG_form HO4.out
      go_wp2
      go_returns
      exact ⟨⟨A5, c5, rfl, HO4.out⟩, b4⟩

/-- The count of spaces. -/
theorem spacesOf (s : ByteArray) (w : World) (hs : s.size ≤ 1000000) : Calls Tryd.prog 10 #[.string s] w fun e w' => e = .returned (.int .i64 ((s.data.toList.count 32 : Nat) : Int)) ∧ w = w' := by
  go_enter Tryd.func10, Tryd.ntmps10
  go_wp2
  go_loop [3, 4] (fun n i => ∃ k : Nat, k ≤ s.size ∧ i = .int .i64 k ∧ n = .int .i64 (((s.data.toList.take k).count 32 : Nat) : Int)) (fun _ i => s.size - (intOf i).toNat)
  case atStart => exact ⟨0, Nat.zero_le _, rfl, rfl⟩
  case round =>
    obtain ⟨k, hk, rfl, rfl⟩ := hrel
    by_cases hlt : k < s.size
    · have hcl : (s.data.toList.take k).count 32 ≤ k := Nat.le_trans List.count_le_length (List.length_take_le _ _)
      have HT : Hid ((s.data.toList.take (k + 1)).count 32 = (s.data.toList.take k).count 32 + (if s[k] = 32 then 1 else 0)) := Lib.hid (by
        rw [take_snoc s k hlt, List.count_append]
        congr 1
        by_cases e : s[k] = 32
        · rw [if_pos e, e]; simp
        · rw [if_neg e]; exact List.count_eq_zero.2 (by simp; exact fun h => e h.symm))
      by_cases e : s[k] = 32
      · have hb : ((s[k].toNat : Int) == 32) = true := by rw [e]; rfl
        have HT2 : Hid ((s.data.toList.take (k + 1)).count 32 = (s.data.toList.take k).count 32 + 1) := Lib.hid (by rw [HT.out, if_pos e])
        clear e HT
        generalize (s.data.toList.take k).count 32 = q at *
        go_wp2
        go_round
        case rel => exact ⟨k + 1, by omega, by go_num, by rw [HT2.out]; go_num⟩
        case measure => simp [intOf]; omega
      · have hb : ((s[k].toNat : Int) == 32) = false := beq_eq_false_iff_ne.2 (fun h => e (UInt8.toNat_inj.1 (by have h32 : (32 : UInt8).toNat = 32 := rfl; omega)))
        have HT2 : Hid ((s.data.toList.take (k + 1)).count 32 = (s.data.toList.take k).count 32) := Lib.hid (by rw [HT.out, if_neg e]; rfl)
        clear e HT
        generalize (s.data.toList.take k).count 32 = q at *
        go_wp2
        go_round
        case rel => exact ⟨k + 1, by omega, by go_num, by rw [HT2.out]⟩
        case measure => simp [intOf]; omega
    · have e2 : s.data.toList.take k = s.data.toList := List.take_of_length_le (by simp; omega)
      rw [e2]
      go_wp2
      go_ret
      exact ⟨rfl, rfl⟩
end Go.Proofs.YtppjjbjjbmodbaaDoor
