/-
  The marks that a law writes into what it has handed over: markText, markPadS, heldPadS. Conditions: marks no greater than a law's.
-/
import Derived.Test.YtlfhgmbmgbbnjaaWds
import Derived.Laws.IdiomStrings
namespace Go.Proofs.Ytlfhgmbmgbbnjaa
open Go.ChangeShapes Go.WideShapes Go.ChangeAt Go.RowKit
set_option maxRecDepth 100000

/-- The digits of n ahead of s. -/
def mkDig (n : Nat) (s : ByteArray) : ByteArray := if n = 0 then s else mkDig (n / 10) ((⟨#[UInt8.ofNat (48 + n % 10)]⟩ : ByteArray) ++ s)
termination_by n
decreasing_by omega
theorem mkDig_zero (s : ByteArray) : mkDig 0 s = s := by rw [mkDig]; rfl
theorem mkDig_pos {n : Nat} (h : 0 < n) (s : ByteArray) : mkDig n s = mkDig (n / 10) ((⟨#[UInt8.ofNat (48 + n % 10)]⟩ : ByteArray) ++ s) := by
  rw [mkDig, if_neg (by omega)]
def markT (n : Nat) : ByteArray := (⟨#[109]⟩ : ByteArray) ++ mkDig n ByteArray.empty

theorem markText (n : Nat) (w : World) (h0 : 0 < n) (h1 : n ≤ 9999999999) :
    Calls Try.prog 21 #[.int .i64 n] w fun e w' => e = .returned (.string (markT n)) ∧ Below w.heap.size w w' := by
  have H1 : Hid (n < 10 ^ (10 - ByteArray.empty.size)) := Lib.hid (by rw [show ByteArray.empty.size = 0 from rfl]; omega)
  go_enter Try.func21, Try.ntmps21
  go_wp2
  go_loopw [0, 3] (fun i s wr => ∃ (k : Nat) (b : ByteArray), k ≤ n ∧ i = .int .i64 k ∧ s = .string b ∧ b.size ≤ 10 ∧ Hid (k < 10 ^ (10 - b.size)) ∧ Hid (mkDig k b = mkDig n ByteArray.empty) ∧ Below w.heap.size w wr) (fun i _ _ => (intOf i).toNat)
  case atStart => exact ⟨n, _, Nat.le_refl _, rfl, rfl, Nat.zero_le _, H1, Lib.hid rfl, Below.refl _ _⟩
  case round =>
    obtain ⟨k, b, hk, rfl, rfl, hbs, hK, hD, hb⟩ := hrel
    by_cases hlt : 0 < k
    · have hb9 : b.size < 10 := by
        have := hK.out
        rcases Nat.lt_or_ge b.size 10 with h | h
        · exact h
        · rw [show 10 - b.size = 0 by omega] at this; omega
      have HK : Hid (k / 10 < 10 ^ (10 - (b.size + 1))) := Lib.hid (by
        have := hK.out
        rw [show 10 - b.size = (10 - (b.size + 1)) + 1 by omega, Nat.pow_succ] at this
        omega)
      have HD := Lib.hid ((mkDig_pos hlt b).symm.trans hD.out)
      have hC : (convert 29 9 (.slice (some ⟨wr.heap.size, 0, none⟩) 1 1)).run Try.prog (wr.alloc (.cells #[.int .u8 (48 + (k : Int) % 10)] 5)) = .ok (.string ⟨#[UInt8.ofNat (48 + k % 10)]⟩) (wr.alloc (.cells #[.int .u8 (48 + (k : Int) % 10)] 5)) := by
        refine run_convert_bytes_back (P := Try.prog) (wr.alloc (.cells #[.int .u8 (48 + (k : Int) % 10)] 5)) 29 9 5 ⟨wr.heap.size, 0, none⟩ 1 [UInt8.ofNat (48 + k % 10)] Try.underlying29 Try.underlying5 Try.underlying9 (fun j hj => ?_)
        obtain rfl : j = 0 := by simp at hj; omega
        have h := newcell wr #[.int .u8 (48 + (k : Int) % 10)] 5 0 _ rfl
        rw [show (⟨wr.heap.size, 0, none⟩ : Addr).add 0 = ⟨wr.heap.size, 0, none⟩ from rfl, h]
        have h2 : ((UInt8.ofNat (48 + k % 10)).toNat : Int) = 48 + (k : Int) % 10 := by
          rw [UInt8.toNat_ofNat']; omega
        simp only [List.getElem_cons_zero, h2]; rfl
      have hsz : ((⟨#[UInt8.ofNat (48 + k % 10)]⟩ : ByteArray) ++ b).size = b.size + 1 := by rw [ByteArray.size_append]; exact Nat.add_comm 1 _
      generalize UInt8.ofNat (48 + k % 10) = u at *
      have hz := hb.size
      go_wp2
      go_roundw
      case rel => exact ⟨k / 10, _, by omega, by go_num, rfl, by omega, by rw [hsz]; exact HK, HD, by go_grown⟩
      case measure =>
        have hw : wrap64 ((k : Int) / 10) = (k : Int) / 10 := by unfold wrap64; omega
        simp [intOf]; omega
    · obtain rfl : k = 0 := by omega
      rw [mkDig_zero] at hD
      go_wp2
      have HF : Hid (markT n = (⟨#[109]⟩ : ByteArray) ++ b) := Lib.hid (by rw [markT, hD.out])
      go_ret
      exact ⟨by rw [HF.out]; rfl, hb⟩
end Go.Proofs.Ytlfhgmbmgbbnjaa
