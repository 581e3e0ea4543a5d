/-
  What a word is, and that both WordValid functions say so. Conditions: the string is no longer than a Go string can be.
-/
import Derived.Test.YtbeaandjhlpaeaaRows
import Derived.WalkKit
import Derived.ProofKit
import Derived.OpenShut
import Derived.ShutString
import Derived.Outline
import Derived.WalkLawsBesides
import Derived.WalkSpells
import Derived.BigQuiet
import Derived.Deep.QuietTactic
import Derived.Lib.Hide
import Derived.Deep.DeepMust
import Derived.Deep.LoopGhost
import Derived.Deep.RegionWith
import Derived.Handy
namespace Go.Proofs.Ytbeaandjhlpaeaa
open Go.ChangeShapes Go.WideShapes Go.ChangeAt Go.RowKit

def isLetter (c : UInt8) : Bool := 97 ≤ c.toNat && c.toNat ≤ 122
def wordB (l : List UInt8) : Bool := l.all isLetter && (1 ≤ l.length && l.length ≤ 12)

theorem take_snoc (s : ByteArray) (k : Nat) (h : k < s.size) : s.data.toList.take (k + 1) = s.data.toList.take k ++ [s[k]] := by
  rw [List.take_succ_eq_append_getElem (by simpa using h)]; rfl
theorem all_step (s : ByteArray) (k : Nat) (h : k < s.size) (ha : (s.data.toList.take k).all isLetter = true) (h1 : 97 ≤ (s[k].toNat : Int)) (h2 : (s[k].toNat : Int) ≤ 122) :
    (s.data.toList.take (k + 1)).all isLetter = true := by
  rw [take_snoc s k h, List.all_append, ha]; simp [isLetter]; omega
theorem all_bad (s : ByteArray) (k : Nat) (h : k < s.size) (h1 : (s[k].toNat : Int) < 97 ∨ 122 < (s[k].toNat : Int)) : wordB s.data.toList = false := by
  have hm : s[k] ∈ s.data.toList := by
    have : s[k] = s.data.toList[k]'(by simpa using h) := rfl
    rw [this]; exact List.getElem_mem _
  have hb : isLetter s[k] = false := by simp [isLetter]; omega
  have : s.data.toList.all isLetter = false := by
    rw [List.all_eq_false]; exact ⟨_, hm, by simp [hb]⟩
  simp [wordB, this]
theorem all_done (s : ByteArray) (k : Nat) (hk : ¬ k < s.size) (ha : (s.data.toList.take k).all isLetter = true) : wordB s.data.toList = decide ((1 : Int) ≤ s.size ∧ (s.size : Int) ≤ 12) := by
  have e : s.data.toList.take k = s.data.toList := List.take_of_length_le (by simp; omega)
  have l : s.data.toList.length = s.size := by simp
  rw [e] at ha
  unfold wordB
  rw [ha, l]
  rw [Bool.eq_iff_iff]; simp; omega

theorem bcell {W w1 : World} (hb : Below W.heap.size W w1) : (∀ b o, b < W.heap.size → w1.cell? ⟨b, o, none⟩ = W.cell? ⟨b, o, none⟩) ∧ (∀ b o, b < W.heap.size → w1.frozen? ⟨b, o, none⟩ = W.frozen? ⟨b, o, none⟩) :=
  ⟨fun b o h => hb.cell (p := ⟨b, o, none⟩) h, fun b o h => hb.frozen (p := ⟨b, o, none⟩) h⟩
/-- A cell that is there reads on behind a call that turns nothing old. -/
theorem kcell {w w' : World} {a : Addr} {v : Value} (hb : Below w.heap.size w w') (h : w.cell? a = some v) : w'.cell? a = some v := (hb.cell (World.block_lt_of_cell? _ _ h)).trans h
theorem kfree {w w' : World} {a : Addr} {v : Value} (hb : Below w.heap.size w w') (h : w.cell? a = some v) (hf : w.frozen? a = false) : w'.frozen? a = false := (hb.frozen (World.block_lt_of_cell? _ _ h)).trans hf
theorem newcell (w : World) (cs : Array Value) (t : TypeId) (i : Nat) (v : Value) (h : cs[i]? = some v) : (w.alloc (.cells cs t)).cell? ⟨w.heap.size, i, none⟩ = some v := by
  rw [World.cell?_alloc_at cs t w.heap.size i rfl]; exact h
theorem below_next {W w1 w2 : World} (h : Below W.heap.size W w1) (h2 : Below w1.heap.size w1 w2) : Below W.heap.size W w2 := h.trans (h2.mono h.size)
theorem below_step {B : Nat} {w w1 w2 : World} (h : Below B w w1) (hB : B ≤ w1.heap.size) (h2 : Below w1.heap.size w1 w2) : Below B w w2 := h.trans (h2.mono hB)

theorem ret_bool {a b : Bool} (h : a = b) : Ending.returned (.bool a) = .returned (.bool b) := by rw [h]
theorem ret_int {k : IntKind} {a b : Int} (h : a = b) : Ending.returned (.int k a) = .returned (.int k b) := by rw [h]
theorem l6In_any (n a b : Int) (w : World) : Calls Try.prog 49 #[.int .i64 n, .int .i64 a, .int .i64 b] w fun e w' => e = .returned (.bool (decide (a ≤ n ∧ n ≤ b))) ∧ w = w' := by
  by_cases h1 : a ≤ n
  · by_cases h2 : n ≤ b
    · go_enter Try.func49, Try.ntmps49
      go_wp2
      go_ret
      exact ⟨by simp; omega, rfl⟩
    · go_enter Try.func49, Try.ntmps49
      go_wp2
      go_ret
      exact ⟨by simp; omega, rfl⟩
  · go_enter Try.func49, Try.ntmps49
    go_wp2
    go_ret
    exact ⟨by simp; omega, rfl⟩

theorem specWordValid (s : ByteArray) (w : World) (hs : s.size ≤ maxLen) : Calls Try.prog 50 #[.string s] w fun e w' => e = .returned (.bool (wordB s.data.toList)) ∧ w = w' := by
  unfold maxLen at hs
  go_enter Try.func50, Try.ntmps50
  go_wp2
  go_loop [3] (fun i => ∃ k : Nat, k ≤ s.size ∧ i = .int .i64 k ∧ Hid ((s.data.toList.take k).all isLetter = true)) (fun i => s.size - (intOf i).toNat)
  case atStart => exact ⟨0, Nat.zero_le _, rfl, Lib.hid rfl⟩
  case round =>
    obtain ⟨k, hk, rfl, hall⟩ := hrel
    by_cases hlt : k < s.size
    · go_wp2
      · go_ret
        exact ⟨ret_bool (by rw [all_bad s k hlt (by omega)]), rfl⟩
      · go_round
        case rel => exact ⟨k + 1, by omega, by go_num, Lib.hid (all_step s k hlt hall.out (by omega) (by omega))⟩
        case measure => simp [intOf]; omega
      · go_ret
        exact ⟨ret_bool (by rw [all_bad s k hlt (by omega)]), rfl⟩
    · go_wp2_with (go_at_call 49; refine (l6In_any _ _ _ _).mono ?_; rintro e w' ⟨rfl, rfl⟩)
      go_ret
      exact ⟨ret_bool (by rw [all_done s k hlt hall.out]; simp), rfl⟩

theorem implWordValid (s : ByteArray) (w : World) (hs : s.size ≤ maxLen) : Calls Try.prog 51 #[.string s] w fun e w' => e = .returned (.bool (wordB s.data.toList)) ∧ w = w' := by
  unfold maxLen at hs
  by_cases hb : 1 ≤ s.size ∧ s.size ≤ 12
  · obtain ⟨hb1, hb2⟩ := hb
    go_enter Try.func51, Try.ntmps51
    go_wp2
    go_loop [14] (fun i => ∃ k : Nat, k ≤ s.size ∧ i = .int .i64 k ∧ Hid ((s.data.toList.take k).all isLetter = true)) (fun i => s.size - (intOf i).toNat)
    case atStart => exact ⟨0, Nat.zero_le _, rfl, Lib.hid rfl⟩
    case round =>
      obtain ⟨k, hk, rfl, hall⟩ := hrel
      by_cases hlt : k < s.size
      · go_wp2
        · go_ret
          exact ⟨ret_bool (by rw [all_bad s k hlt (by omega)]), rfl⟩
        · go_round
          case rel => exact ⟨k + 1, by omega, by go_num, Lib.hid (all_step s k hlt hall.out (by omega) (by omega))⟩
          case measure => simp [intOf]; omega
        · go_ret
          exact ⟨ret_bool (by rw [all_bad s k hlt (by omega)]), rfl⟩
      · go_wp2
        go_ret
        exact ⟨ret_bool (by rw [all_done s k hlt hall.out]; simp; omega), rfl⟩
  · have hf : wordB s.data.toList = false := by
      have l : s.data.toList.length = s.size := by simp
      rw [Bool.eq_false_iff]; intro h; simp [wordB] at h; omega
    have HF := Lib.hid hf; clear hf
    go_enter Try.func51, Try.ntmps51
    go_wp2
    all_goals (go_ret; exact ⟨ret_bool (by rw [HF.out]), rfl⟩)

end Go.Proofs.Ytbeaandjhlpaeaa
