/-
  Bytes turned into strings; a number in decimals. Conditions: the number is not negative.
-/
import Derived.Test.YtppjjbjjbmodbaaStr
import Derived.Test.YtppjjbjjbmodbaaBase
namespace Go.Proofs.Ytppjjbjjbmodbaa
open Go.ChangeShapes Go.WideShapes Go.ChangeAt Go.RowKit
set_option maxRecDepth 100000

/-- Bytes that stand in a new block are turned into a string. -/
theorem convNew (w : World) (l : List UInt8) (cs : Array Value) (n : Nat) (hn : l.length = n) (h : ∀ j (hj : j < l.length), cs[j]? = some (.int .u8 (l[j].toNat : Int))) :
    (convert 22 9 (.slice (some ⟨w.heap.size, 0, none⟩) n n)).run Try.prog (w.alloc (.cells cs 5)) = .ok (.string (mkStr l)) (w.alloc (.cells cs 5)) := by
  subst hn
  refine run_convert_bytes_back (P := Try.prog) (w.alloc (.cells cs 5)) 22 9 5 ⟨w.heap.size, 0, none⟩ l.length l Try.underlying22 Try.underlying5 Try.underlying9 (fun j hj => ?_)
  have h1 := newcell w cs 5 j _ (h j hj)
  by_cases h0 : j = 0
  · subst h0; simpa [Addr.add] using h1
  · simpa [Addr.add, h0] using h1
theorem u8_digit {d : Int} (h1 : 0 ≤ d) (h2 : d ≤ 9) : ((UInt8.ofNat (48 + d).toNat).toNat : Int) = 48 + d := by rw [UInt8.toNat_ofNat']; omega


theorem l6DecDigit (n : Int) (w : World) (h0 : 0 ≤ n) (h9 : n ≤ 9) : Calls Try.prog 112 #[.int .i64 n] w fun e w' => e = .returned (.string (mkStr [UInt8.ofNat (48 + n).toNat])) ∧ Below w.heap.size w w' := by
  have hu := u8_digit h0 h9
  have hC := convNew w [UInt8.ofNat (48 + n).toNat] #[.int .u8 (48 + n)] 1 rfl (fun j hj => by
    have hj2 : j < 1 := hj
    obtain rfl : j = 0 := by omega
    simp only [List.getElem_cons_zero, hu]; rfl)
  clear hu
  generalize mkStr [UInt8.ofNat (48 + n).toNat] = t at *
  go_enter Try.func112, Try.ntmps112
  go_wp2
  go_returns
  exact ⟨rfl, by go_grown⟩
end Go.Proofs.Ytppjjbjjbmodbaa
