/-
  Words, of the reference: validity, the bare form, the vowels, the position. Conditions: the text is not absurdly long.
-/
import Derived.Test.YtppjjbjjbmodbaaDoorSysO
namespace Go.Proofs.YtppjjbjjbmodbaaDoor
open Go.ChangeShapes Go.WideShapes Go.ChangeAt Go.RowKit
set_option maxRecDepth 100000
set_option linter.unusedSimpArgs false

theorem at8_str {s : ByteArray} {k : Nat} (h : k < s.size) : s[k] = at8 s.data.toList k := by
  rw [← at8_get (by simpa using h)]; simp [ByteArray.getElem_eq_getElem_data]

theorem l2Vowel (c : UInt8) (w : World) : Calls Tryd.prog 89 #[.int .u8 (c.toNat : Int)] w fun e w' => e = .returned (.bool (isVow c)) ∧ w = w' := by
  obtain ⟨n, hn⟩ : ∃ n : Int, n = (c.toNat : Int) := ⟨_, rfl⟩
  have key : ∀ k : UInt8, c = k ↔ n = (k.toNat : Int) := fun k => by
    rw [hn]; exact ⟨fun h => by rw [h], fun h => UInt8.toNat_inj.1 (by omega)⟩
  have HV : Hid (isVow c = decide (n = 97 ∨ n = 101 ∨ n = 105 ∨ n = 111 ∨ n = 117)) := Lib.hid (by
    unfold isVow
    exact decide_eq_decide.2 (by rw [key 97, key 101, key 105, key 111, key 117]; rfl))
  rw [← hn]
  clear key hn
  by_cases h1 : n = 97
  · subst h1
    go_enter Tryd.func89, Tryd.ntmps89
    go_wp2
    go_ret
    exact ⟨ret_bool (by rw [HV.out]; rfl), rfl⟩
  · have e1 : (n == 97) = false := by simpa using h1
    by_cases h2 : n = 101
    · subst h2
      go_enter Tryd.func89, Tryd.ntmps89
      go_wp2
      go_ret
      exact ⟨ret_bool (by rw [HV.out]; rfl), rfl⟩
    · have e2 : (n == 101) = false := by simpa using h2
      by_cases h3 : n = 105
      · subst h3
        go_enter Tryd.func89, Tryd.ntmps89
        go_wp2
        go_ret
        exact ⟨ret_bool (by rw [HV.out]; rfl), rfl⟩
      · have e3 : (n == 105) = false := by simpa using h3
        by_cases h4 : n = 111
        · subst h4
          go_enter Tryd.func89, Tryd.ntmps89
          go_wp2
          go_ret
          exact ⟨ret_bool (by rw [HV.out]; rfl), rfl⟩
        · have e4 : (n == 111) = false := by simpa using h4
          have HV2 : Hid (isVow c = (n == 117)) := Lib.hid (by rw [HV.out]; simp only [h1, h2, h3, h4, false_or]; rfl)
          go_enter Tryd.func89, Tryd.ntmps89
          go_wp2
          go_ret
          exact ⟨ret_bool (by rw [HV2.out]), rfl⟩

theorem ret_strW {a b : List UInt8} (h : a = b) : Ending.returned (.string (mkStr a)) = .returned (.string (mkStr b)) := by rw [h]
set_option maxHeartbeats 800000 in
theorem specWordVowels (s : ByteArray) (w : World) (hs : s.size ≤ maxLen) :
    Calls Tryd.prog 81 #[.string s] w fun e w' => e = .returned (.string (mkStr (vowOf s.data.toList))) ∧ w = w' := by
  have HL : Hid (s.data.toList.length = s.size) := Lib.hid (by simp)
  have HW := Lib.hid (fun w => specWordValid s w hs)
  have HV := Lib.hid l2Vowel
  by_cases h0 : s.size = 0
  · have HR : Hid (vowOf s.data.toList = []) := Lib.hid (vowOf_no (wordB_size (by rw [HL.out]; omega)))
    go_enter Tryd.func81, Tryd.ntmps81
    go_wp2
    go_loop [3, 4] (fun o i => o = .string { data := #[] } ∧ i = .int .i64 0) (fun _ _ => 0)
    case atStart => exact ⟨rfl, rfl⟩
    case round =>
      obtain ⟨rfl, rfl⟩ := hrel
      go_wp2
      go_ret
      exact ⟨by rw [HR.out]; rfl, rfl⟩
  cases hw : wordB s.data.toList with
  | false =>
    have HR : Hid (vowOf s.data.toList = []) := Lib.hid (vowOf_no hw)
    have HN := Lib.hid hw
    have hp : 0 < s.size := by omega
    clear hw
    go_enter Tryd.func81, Tryd.ntmps81
    go_wp2
    go_loop [3, 4] (fun o i => o = .string { data := #[] } ∧ i = .int .i64 0) (fun _ _ => 0)
    case atStart => exact ⟨rfl, rfl⟩
    case round =>
      obtain ⟨rfl, rfl⟩ := hrel
      go_wp2_with fail
      refine (HW.out _).mono ?_
      rintro e w1 ⟨rfl, rfl⟩
      rw [HN.out]
      go_wp2
      go_ret
      exact ⟨by rw [HR.out]; rfl, rfl⟩
  | true =>
    have HR : Hid (vowOf s.data.toList = vowK s.data.toList s.size) := Lib.hid (by rw [vowOf_yes hw, HL.out])
    have HN := Lib.hid hw
    have h12 : s.size ≤ 12 := by have := (wordB_iff.1 hw).1; rw [HL.out] at this; omega
    clear hw
    go_enter Tryd.func81, Tryd.ntmps81
    go_wp2
    go_loop [3, 4] (fun o i => ∃ k : Nat, k ≤ s.size ∧ i = .int .i64 k ∧ o = .string (mkStr (vowK s.data.toList k))) (fun _ i => s.size - (intOf i).toNat)
    case atStart => exact ⟨0, Nat.zero_le _, rfl, rfl⟩
    case round =>
      obtain ⟨k, hk, rfl, rfl⟩ := hrel
      by_cases hlt : k < s.size
      · have he := at8_str hlt
        have HT : Hid (vowK s.data.toList (k + 1) = vowK s.data.toList k ++ if isVow s[k] = true then [s[k]] else []) := Lib.hid (by rw [vowK_succ]; unfold vowPick; rw [he])
        have hl := vowK_len s.data.toList k
        have hx : s.extract k (k + 1) = mkStr [s[k]] := by
          rw [ext_mid, take_snoc s k hlt, List.drop_append_of_le_length (by rw [List.length_take]; simp; omega), List.drop_of_length_le (by rw [List.length_take]; simp; omega)]; rfl
        have i1 : (0 : Int) ≤ (k : Int) := by omega
        have i2 : (k : Int) < (s.size : Int) := by omega
        clear he
        generalize vowK s.data.toList k = t at *
        generalize hc : s[k] = c at *
        go_wp2_with fail
        refine (HW.out _).mono ?_
        rintro e w1 ⟨rfl, rfl⟩
        rw [HN.out]
        go_wp2_with fail
        refine (HV.out _ _).mono ?_
        rintro e w1 ⟨rfl, rfl⟩
        cases hv : isVow c with
        | true =>
          have HT2 : Hid (vowK s.data.toList (k + 1) = t ++ [c]) := Lib.hid (by rw [HT.out, if_pos hv])
          have hadd := fun W => run_add (P := Tryd.prog) t [c] (by simp; omega) W
          go_wp2
          go_round
          case rel => exact ⟨k + 1, by omega, by go_num, by rw [HT2.out]⟩
          case measure => simp [intOf]; omega
        | false =>
          have HT2 : Hid (vowK s.data.toList (k + 1) = t) := Lib.hid (by rw [HT.out, if_neg (by rw [hv]; simp), List.append_nil])
          go_wp2
          go_round
          case rel => exact ⟨k + 1, by omega, by go_num, by rw [HT2.out]⟩
          case measure => simp [intOf]; omega
      · obtain rfl : k = s.size := by omega
        go_wp2
        go_ret
        exact ⟨ret_strW (by rw [HR.out]), rfl⟩
end Go.Proofs.YtppjjbjjbmodbaaDoor
