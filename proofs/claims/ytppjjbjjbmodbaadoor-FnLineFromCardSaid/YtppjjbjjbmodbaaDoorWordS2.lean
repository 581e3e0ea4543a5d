/-
  The bare form and the position of a word, of the reference. Conditions: the text is not absurdly long.
-/
import Derived.Test.YtppjjbjjbmodbaaDoorWordS
namespace Go.Proofs.YtppjjbjjbmodbaaDoor
open Go.ChangeShapes Go.WideShapes Go.ChangeAt Go.RowKit
set_option maxRecDepth 100000
set_option linter.unusedSimpArgs false

theorem l2VowelB (c : UInt8) {b : Bool} (h : isVow c = b) (w : World) : Calls Tryd.prog 89 #[.int .u8 (c.toNat : Int)] w fun e w' => e = .returned (.bool b) ∧ Below w.heap.size w w' :=
  (l2Vowel c w).mono (by rintro e w' ⟨rfl, rfl⟩; exact ⟨by rw [h], Below.refl _ _⟩)

set_option maxHeartbeats 1600000 in
theorem specWordBare (s : ByteArray) (w : World) (hs : s.size ≤ maxLen) :
    Calls Tryd.prog 78 #[.string s] w fun e w' => e = .returned (.string (mkStr (bareOf s.data.toList))) ∧ Below w.heap.size w w' := by
  have HL : Hid (s.data.toList.length = s.size) := Lib.hid (by simp)
  have HW := Lib.hid (fun w => specWordValid s w hs)
  by_cases h0 : s.size = 0
  · have HR : Hid (bareOf s.data.toList = []) := Lib.hid (bareOf_no (wordB_size (by rw [HL.out]; omega)))
    go_enter Tryd.func78, Tryd.ntmps78
    go_wp2
    go_loop [3, 4] (fun o i => o = .string { data := #[] } ∧ i = .int .i64 0) (fun _ _ => 0)
    case atStart => exact ⟨rfl, rfl⟩
    case round =>
      obtain ⟨rfl, rfl⟩ := hrel
      go_wp2
      go_ret
      exact ⟨by rw [HR.out]; rfl, Below.refl _ _⟩
  cases hw : wordB s.data.toList with
  | false =>
    have HR : Hid (bareOf s.data.toList = []) := Lib.hid (bareOf_no hw)
    have HN := Lib.hid hw
    have hp : 0 < s.size := by omega
    clear hw
    go_enter Tryd.func78, Tryd.ntmps78
    go_wp2
    go_loop [3, 4] (fun o i => o = .string { data := #[] } ∧ i = .int .i64 0) (fun _ _ => 0)
    case atStart => exact ⟨rfl, rfl⟩
    case round =>
      obtain ⟨rfl, rfl⟩ := hrel
      go_wp2_with fail
      refine (HW.out _).mono ?_
      rintro e w1 ⟨rfl, rfl⟩
      rw [HN.out]
      go_wp2
      go_ret
      exact ⟨by rw [HR.out]; rfl, Below.refl _ _⟩
  | true =>
    have HR : Hid (bareOf s.data.toList = bareK s.data.toList s.size) := Lib.hid (by rw [bareOf_yes hw, HL.out])
    have HN := Lib.hid hw
    have h12 : s.size ≤ 12 := by have := (wordB_iff.1 hw).1; rw [HL.out] at this; omega
    clear hw
    go_enter Tryd.func78, Tryd.ntmps78
    go_wp2
    go_loopw [3, 4] (fun o i wr => ∃ k : Nat, k ≤ s.size ∧ i = .int .i64 k ∧ o = .string (mkStr (bareK s.data.toList k)) ∧ Below w.heap.size w wr) (fun _ i _ => s.size - (intOf i).toNat)
    case atStart => exact ⟨0, Nat.zero_le _, rfl, rfl, Below.refl _ _⟩
    case round =>
      obtain ⟨k, hk, rfl, rfl, hb⟩ := hrel
      by_cases hlt : k < s.size
      · have he := at8_str hlt
        have HT : Hid (bareK s.data.toList (k + 1) = bareK s.data.toList k ++ if isVow s[k] = false ∧ (k = 0 ∨ at8 s.data.toList (k - 1) ≠ s[k]) then [s[k]] else []) := Lib.hid (by rw [bareK_succ]; unfold barePick; rw [he])
        have hl := bareK_len s.data.toList k
        have hx : s.extract k (k + 1) = mkStr [s[k]] := by
          rw [ext_mid, take_snoc s k hlt, List.drop_append_of_le_length (by rw [List.length_take]; simp; omega), List.drop_of_length_le (by rw [List.length_take]; simp; omega)]; rfl
        have i1 : (0 : Int) ≤ (k : Int) := by omega
        have i2 : (k : Int) < (s.size : Int) := by omega
        by_cases hk0 : k = 0
        · subst hk0
          clear he
          generalize bareK s.data.toList 0 = t at *
          generalize hc : s[0] = c at *
          go_wp2_with fail
          refine (HW.out _).mono ?_
          rintro e w1 ⟨rfl, rfl⟩
          rw [HN.out]
          cases hv : isVow c with
          | true =>
            have HT2 : Hid (bareK s.data.toList (0 + 1) = t) := Lib.hid (by rw [HT.out, if_neg (by rw [hv]; simp), List.append_nil])
            have HV2 := Lib.hid (fun w => l2VowelB c hv w)
            go_wp2_with fail
            refine region_qb (by kernel_rfl) (by kernel_rfl) ?_
            repeat (first | go_big_quiet_step ((go_at_call 89; exact quietB (HV2.out _))) | quiet_step ((go_at_call 89; exact quietB (HV2.out _))))
            refine wpQuiet_nil ?_
            intro w1 hb1; have b1 := below_next hb hb1
            clear hb1
            go_wp2
            go_roundw
            case rel => exact ⟨0 + 1, by omega, by go_num, by rw [HT2.out], b1⟩
            case measure => simp [intOf]; omega
          | false =>
            have HT2 : Hid (bareK s.data.toList (0 + 1) = t ++ [c]) := Lib.hid (by rw [HT.out, if_pos ⟨hv, Or.inl (by trivial)⟩])
            have hadd := fun W => run_add (P := Tryd.prog) t [c] (by simp; omega) W
            have HV2 := Lib.hid (fun w => l2VowelB c hv w)
            go_wp2_with fail
            refine region_qb (by kernel_rfl) (by kernel_rfl) ?_
            repeat (first | go_big_quiet_step ((go_at_call 89; exact quietB (HV2.out _))) | quiet_step ((go_at_call 89; exact quietB (HV2.out _))))
            refine wpQuiet_nil ?_
            intro w1 hb1; have b1 := below_next hb hb1
            clear hb1
            go_wp2
            go_roundw
            case rel => exact ⟨0 + 1, by omega, by go_num, by rw [HT2.out], b1⟩
            case measure => simp [intOf]; omega
        · obtain ⟨m, rfl⟩ : ∃ m, k = m + 1 := ⟨k - 1, by omega⟩
          have hm : m < s.size := by omega
          have hem := at8_str hm
          rw [Nat.add_sub_cancel, ← hem] at HT
          have e0 : (((m + 1 : Nat) : Int) == 0) = false := by simp; omega
          have e1 : ((m + 1 : Nat) : Int) - 1 = (m : Int) := by omega
          have i3 : (m : Int) < (s.size : Int) := by omega
          have i4 : (0 : Int) ≤ (m : Int) := by omega
          have hwr : IntKind.i64.wrap (m : Int) = (m : Int) := IntWalk.i64_in _ (by omega)
          have e0' : ((m : Int) + 1 == 0) = false := by simp; omega
          clear he hem
          generalize bareK s.data.toList (m + 1) = t at *
          have hcc : ((s[m].toNat : Int) == (s[m + 1].toNat : Int)) = decide (s[m] = s[m + 1]) := by
            by_cases h : s[m] = s[m + 1]
            · rw [h]; simp
            · rw [decide_eq_false h]
              exact beq_eq_false_iff_ne.2 (fun e => h (UInt8.toNat_inj.1 (by omega)))
          generalize hc : s[m + 1] = c at *
          generalize hd : s[m] = d at *
          go_wp2_with fail
          refine (HW.out _).mono ?_
          rintro e w1 ⟨rfl, rfl⟩
          rw [HN.out]
          cases hv : isVow c with
          | true =>
            have HT2 : Hid (bareK s.data.toList (m + 1 + 1) = t) := Lib.hid (by rw [HT.out, if_neg (by rw [hv]; simp), List.append_nil])
            have HV2 := Lib.hid (fun w => l2VowelB c hv w)
            go_wp2_with fail
            refine region_qb (by kernel_rfl) (by kernel_rfl) ?_
            repeat (first | go_big_quiet_step ((go_at_call 89; exact quietB (HV2.out _))) | quiet_step ((go_at_call 89; exact quietB (HV2.out _))))
            refine wpQuiet_nil ?_
            intro w1 hb1; have b1 := below_next hb hb1
            clear hb1
            go_wp2
            go_roundw
            case rel => exact ⟨m + 1 + 1, by omega, by go_num, by rw [HT2.out], b1⟩
            case measure => simp [intOf]; omega
          | false =>
            have HV2 := Lib.hid (fun w => l2VowelB c hv w)
            by_cases hdc : d = c
            · have HT2 : Hid (bareK s.data.toList (m + 1 + 1) = t) := Lib.hid (by rw [HT.out, if_neg (by rintro ⟨_, h | h⟩; (omega); (exact h hdc)), List.append_nil])
              rw [decide_eq_true hdc] at hcc
              go_wp2_with fail
              refine region_qb (by kernel_rfl) (by kernel_rfl) ?_
              repeat (first | go_big_quiet_step ((go_at_call 89; exact quietB (HV2.out _))) | quiet_step ((go_at_call 89; exact quietB (HV2.out _))))
              refine wpQuiet_nil ?_
              intro w1 hb1; have b1 := below_next hb hb1
              clear hb1
              go_wp2
              go_roundw
              case rel => exact ⟨m + 1 + 1, by omega, by go_num, by rw [HT2.out], b1⟩
              case measure => simp [intOf]; omega
            · have HT2 : Hid (bareK s.data.toList (m + 1 + 1) = t ++ [c]) := Lib.hid (by rw [HT.out, if_pos ⟨hv, .inr hdc⟩])
              rw [decide_eq_false hdc] at hcc
              have hadd := fun W => run_add (P := Tryd.prog) t [c] (by simp; omega) W
              go_wp2_with fail
              refine region_qb (by kernel_rfl) (by kernel_rfl) ?_
              repeat (first | go_big_quiet_step ((go_at_call 89; exact quietB (HV2.out _))) | quiet_step ((go_at_call 89; exact quietB (HV2.out _))))
              refine wpQuiet_nil ?_
              intro w1 hb1; have b1 := below_next hb hb1
              clear hb1
              go_wp2
              go_roundw
              case rel => exact ⟨m + 1 + 1, by omega, by go_num, by rw [HT2.out], b1⟩
              case measure => simp [intOf]; omega
      · obtain rfl : k = s.size := by omega
        go_wp2
        go_ret
        exact ⟨ret_strW (by rw [HR.out]), hb⟩

set_option maxHeartbeats 400000 in
theorem specWordPosition (s : ByteArray) (w : World) (hs : s.size ≤ maxLen) :
    Calls Tryd.prog 65 #[.string s] w fun e w' => e = .returned (.int .i64 (posOf s.data.toList)) ∧ w = w' := by
  have HW := Lib.hid (fun w => specWordValid s w hs)
  have HV := Lib.hid (fun w => specWordVowels s w hs)
  cases hw : wordB s.data.toList with
  | false =>
    have HR : Hid (posOf s.data.toList = -1) := Lib.hid (by unfold posOf; rw [if_neg (by rw [hw]; simp)])
    have HN := Lib.hid hw; clear hw
    go_enter Tryd.func65, Tryd.ntmps65
    go_wp2_with fail
    refine (HW.out _).mono ?_
    rintro e w1 ⟨rfl, rfl⟩
    rw [HN.out]
    go_wp2
    go_ret
    exact ⟨ret_int (by rw [HR.out]), rfl⟩
  | true =>
    have HR : Hid (posOf s.data.toList = posV (vowOf s.data.toList)) := Lib.hid (by unfold posOf; rw [if_pos hw])
    have HN := Lib.hid hw; clear hw
    cases hv : vowOf s.data.toList with
    | nil =>
      have HV2 : Hid (∀ w, Calls Tryd.prog 81 #[.string s] w fun e w' => e = .returned (.string (mkStr [])) ∧ w = w') := Lib.hid (fun w => by rw [← hv]; exact HV.out w)
      have HP : Hid (posOf s.data.toList = 1) := Lib.hid (by rw [HR.out, hv]; rfl)
      have he : (mkStr []).toList.isEmpty = true := by rw [Lib.toList_data, mkStr_data]; rfl
      clear hv HV HR
      go_enter Tryd.func65, Tryd.ntmps65
      go_wp2_with fail
      refine (HW.out _).mono ?_
      rintro e w1 ⟨rfl, rfl⟩
      rw [HN.out]
      go_wp2_with fail
      refine (HV2.out _).mono ?_
      rintro e w1 ⟨rfl, rfl⟩
      go_wp2
      go_ret
      exact ⟨ret_int (by rw [HP.out]), rfl⟩
    | cons c r =>
      obtain ⟨m, hm⟩ : ∃ m, m = mkStr (c :: r) := ⟨_, rfl⟩
      have HV2 : Hid (∀ w, Calls Tryd.prog 81 #[.string s] w fun e w' => e = .returned (.string m) ∧ w = w') := Lib.hid (fun w => by rw [hm, ← hv]; exact HV.out w)
      have he : m.toList.isEmpty = false := by rw [hm]; exact mkStr_isEmpty (by simp)
      have hz : 0 < m.size := by rw [hm, mkStr_size]; simp
      have hz2 : (0 : Int) < (m.size : Int) := by omega
      obtain ⟨n, hn⟩ : ∃ n : Int, n = (m[0].toNat : Int) := ⟨_, rfl⟩
      have hg : m[0] = c := by subst hm; rfl
      have key : ∀ k : UInt8, c = k ↔ n = (k.toNat : Int) := fun k => by
        rw [hn, hg]; exact ⟨fun h => by rw [h], fun h => UInt8.toNat_inj.1 (by omega)⟩
      have HP : Hid (posOf s.data.toList = if n = 97 ∨ n = 111 then 0 else if n = 101 then 1 else 2) := Lib.hid (by
        rw [HR.out, hv]
        unfold posV
        simp only [key 97, key 111, key 101]
        rfl)
      clear key hg hv HV HR hm
      go_enter Tryd.func65, Tryd.ntmps65
      go_wp2_with fail
      refine (HW.out _).mono ?_
      rintro e w1 ⟨rfl, rfl⟩
      rw [HN.out]
      go_wp2_with fail
      refine (HV2.out _).mono ?_
      rintro e w1 ⟨rfl, rfl⟩
      by_cases h1 : n = 97
      · have g1 : ((m[0].toNat : Int) == 97) = true := by rw [← hn, h1]; rfl
        go_wp2
        go_ret
        exact ⟨ret_int (by rw [HP.out, if_pos (.inl h1)]), rfl⟩
      · have g1 : ((m[0].toNat : Int) == 97) = false := by rw [← hn]; simpa using h1
        by_cases h2 : n = 111
        · have g2 : ((m[0].toNat : Int) == 111) = true := by rw [← hn, h2]; rfl
          go_wp2
          go_ret
          exact ⟨ret_int (by rw [HP.out, if_pos (.inr h2)]), rfl⟩
        · have g2 : ((m[0].toNat : Int) == 111) = false := by rw [← hn]; simpa using h2
          by_cases h3 : n = 101
          · have g3 : ((m[0].toNat : Int) == 101) = true := by rw [← hn, h3]; rfl
            go_wp2
            go_ret
            exact ⟨ret_int (by rw [HP.out, if_neg (by rintro (h | h); exact h1 h; exact h2 h), if_pos h3]), rfl⟩
          · have g3 : ((m[0].toNat : Int) == 101) = false := by rw [← hn]; simpa using h3
            go_wp2
            go_ret
            exact ⟨ret_int (by rw [HP.out, if_neg (by rintro (h | h); exact h1 h; exact h2 h), if_neg h3]), rfl⟩
end Go.Proofs.YtppjjbjjbmodbaaDoor
