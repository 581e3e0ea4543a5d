/-
  The reference's numbers in decimals: every number from 0 on. Conditions: the number is not negative.
-/
import Derived.Test.YtlphefpgnfogfaaDoorDec
import Derived.Lib.ItoaLen
import Derived.Deep.RegionHeld3
namespace Go.Proofs.YtlphefpgnfogfaaDoor
open Go.ChangeShapes Go.WideShapes Go.ChangeAt Go.RowKit
set_option maxRecDepth 100000

theorem dec_step {n : Nat} (h : ¬ n < 10) : Lib.decDigits n = Lib.decDigits (n / 10) ++ [UInt8.ofNat (48 + n % 10)] := by rw [Lib.decDigits, dif_neg h]
theorem dec_len {n : Nat} (h : n ≤ 9223372036854775807) : (Lib.decDigits n).length ≤ 20 := by
  rw [Lib.decDigits_length]
  exact Lib.nDigits_le20 n (by omega)
theorem convAt (w : World) (l : List UInt8) (b n : Nat) (hn : l.length = n) (h : ∀ j (hj : j < l.length), w.cell? ⟨b, j, none⟩ = some (.int .u8 (l[j].toNat : Int))) :
    (convert 29 9 (.slice (some ⟨b, 0, none⟩) n n)).run Tryd.prog w = .ok (.string (mkStr l)) w := by
  subst hn
  refine run_convert_bytes_back (P := Tryd.prog) w 29 9 5 ⟨b, 0, none⟩ l.length l Tryd.underlying29 Tryd.underlying5 Tryd.underlying9 (fun j hj => ?_)
  by_cases h0 : j = 0
  · subst h0; simpa [Addr.add] using h 0 hj
  · simpa [Addr.add, h0] using h j hj

set_option maxHeartbeats 1600000 in
theorem l6DecNat : ∀ (n : Nat) (w : World), n ≤ 9223372036854775807 → Calls Tryd.prog 15 #[.int .i64 n] w fun e w' => e = .returned (.string (mkStr (Lib.decDigits n))) ∧ Below w.heap.size w w' := by
  intro n
  induction n using Nat.strongRecOn with
  | _ n ih =>
    intro w hn
    by_cases h9 : n < 10
    · rw [Lib.decDigits_one h9]
      refine (l6DecDigit n w (by omega) (by omega)).mono ?_
      rintro e w' ⟨rfl, hb⟩
      refine ⟨?_, hb⟩
      rw [show (48 + (n : Int)).toNat = 48 + n by omega]
    · have IH := Lib.hid (fun W => ih (n / 10) (by omega) W (by omega))
      rw [dec_step h9]
      have hl : (Lib.decDigits (n / 10)).length ≤ 20 := dec_len (by omega)
      have hd9 : n % 10 ≤ 9 := by omega
      have hu : ((UInt8.ofNat (48 + n % 10)).toNat : Int) = 48 + ((n % 10 : Nat) : Int) := by rw [UInt8.toNat_ofNat']; omega
      have hq : ((n : Int) / 10) = ((n / 10 : Nat) : Int) := by omega
      have hq2 : IntKind.i64.wrap ((n / 10 : Nat) : Int) = ((n / 10 : Nat) : Int) := IntWalk.i64_in _ (by omega)
      have ht : (n : Int).tmod 10 = ((n % 10 : Nat) : Int) := by rw [Int.tmod_eq_emod_of_nonneg (by omega)]; omega
      have hw1 : IntKind.i64.wrap (48 + ((n % 10 : Nat) : Int)) = 48 + ((n % 10 : Nat) : Int) := IntWalk.i64_in _ (by omega)
      have hw2 : IntKind.u8.wrap (48 + ((n % 10 : Nat) : Int)) = 48 + ((n % 10 : Nat) : Int) := IntWalk.u8_in _ (by omega)
      have hadd : ∀ W', (Op.stringOp .add (mkStr (Lib.decDigits (n / 10))) (mkStr [UInt8.ofNat (48 + n % 10)])).run Tryd.prog W' = .ok (.string (mkStr (Lib.decDigits (n / 10) ++ [UInt8.ofNat (48 + n % 10)]))) W' := fun W' => run_add _ _ (by simp; omega) W'
      have hcv : ∀ (W : World) (b : Nat), W.cell? ⟨b, 0, none⟩ = some (.int .u8 (48 + ((n % 10 : Nat) : Int))) → (convert 29 9 (.slice (some ⟨b, 0, none⟩) 1 1)).run Tryd.prog W = .ok (.string (mkStr [UInt8.ofNat (48 + n % 10)])) W := fun W b hc => convAt W _ b 1 rfl (fun j hj => by
        have : j = 0 := by simp at hj; omega
        subst this
        rw [hc, ← hu]; rfl)
      have hc1 : ∀ W : World, (convert 29 9 (.slice (some ⟨W.heap.size, 0, none⟩) 1 1)).run Tryd.prog (W.alloc (.cells #[.int .u8 (48 + ((n % 10 : Nat) : Int))] 5)) = .ok (.string (mkStr [UInt8.ofNat (48 + n % 10)])) (W.alloc (.cells #[.int .u8 (48 + ((n % 10 : Nat) : Int))] 5)) := fun W => hcv _ _ (newcell W _ _ 0 _ rfl)
      have hn0 : (w.alloc (.cells #[.int .u8 (48 + ((n % 10 : Nat) : Int))] 5)).drew.cell? ⟨w.heap.size, 0, none⟩ = some (.int .u8 (48 + ((n % 10 : Nat) : Int))) := newcell w _ _ 0 _ rfl
      have hc0 := hcv _ _ hn0
      have h10 : (10 : Int) ≤ (n : Int) := by omega
      have HCv := Lib.hid hcv
      clear ih hu hl hcv h9
      generalize mkStr (Lib.decDigits (n / 10)) = ta at *
      generalize mkStr [UInt8.ofNat (48 + n % 10)] = tb at *
      generalize mkStr (Lib.decDigits (n / 10) ++ [UInt8.ofNat (48 + n % 10)]) = tc at *
      generalize n / 10 = m at *
      generalize n % 10 = d at *
      go_enter Tryd.func15, Tryd.ntmps15
      go_wp2_with fail
      go_region_with ((go_at_call 15; refine (IH.out _).mono ?_; rintro e w1 ⟨rfl, hb1⟩; (first | (have hc2 := HCv.out w1 w.heap.size (kcell hb1 hn0)) | skip); have bw : Below w.heap.size w w1 := (by first | exact below_next ((Below.refl w.heap.size w).drew) hb1 | exact below_next (((Below.refl _ w).alloc (Nat.le_refl _) _).drew) hb1); clear hb1))
      all_goals (
        go_wp2
        go_returns
        exact ⟨rfl, by first | exact bw | exact bw.alloc bw.size _⟩)
end Go.Proofs.YtlphefpgnfogfaaDoor
