/-
  WrittenFrom of both: a text is read as a written form. Conditions: the text is no longer than the laws' texts.
-/
import Derived.Test.YtppjjbjjbmodbaaWrLaw
import Derived.Test.YtppjjbjjbmodbaaFrom
import Derived.Lib.IndexBytes
import Derived.WalkSmall
namespace Go.Proofs.Ytppjjbjjbmodbaa
open Go.ChangeShapes Go.WideShapes Go.ChangeAt Go.RowKit
set_option maxRecDepth 100000

/-- The answer of reading a text as a form. -/
def WrAns (w' : World) (B : Nat) (o : Option (List Stroke × Int)) (e : Ending) : Prop :=
  (o = none ∧ e = .returned (.tuple #[.agg #[.slice none 0 0, .int .i64 0], .bool false])) ∨
  ∃ A c ss p, o = some (ss, p) ∧ e = .returned (.tuple #[.agg #[.slice A ss.length c, .int .i64 p], .bool true]) ∧ StrOwn w' B (.slice A ss.length c) ss ∧ ∀ s ∈ ss, s.good
theorem index_mark (c : UInt8) : Lib.indexByte [94, 45, 95] c = markN c := by
  unfold markN
  by_cases h1 : c = 94
  · subst h1; decide
  · by_cases h2 : c = 45
    · subst h2; decide
    · by_cases h3 : c = 95
      · subst h3; decide
      · rw [if_neg h1, if_neg h2, if_neg h3]
        have e1 : ¬ (94 : UInt8) = c := fun h => h1 h.symm
        have e2 : ¬ (45 : UInt8) = c := fun h => h2 h.symm
        have e3 : ¬ (95 : UInt8) = c := fun h => h3 h.symm
        simp [Lib.indexByte, e1, e2, e3]
theorem tail_str (c : UInt8) (r : List UInt8) : (mkStr (c :: r)).extract 1 (mkStr (c :: r)).size = mkStr r := by
  apply ByteArray.ext
  apply Array.toList_inj.1
  rw [Lib.extract_to_end]
  rfl
theorem wr_no {c : UInt8} {r : List UInt8} (h : markN c < 0 ∨ fromS r = none) : wrFrom (c :: r) = none := by
  simp only [wrFrom]
  rcases h with h | h
  · rw [if_neg (by omega)]
  · rw [h]; split <;> rfl
theorem wr_yes {c : UInt8} {r : List UInt8} {o : List Stroke} (h : 0 ≤ markN c) (h2 : fromS r = some o) : wrFrom (c :: r) = some (o, markN c) := by
  simp only [wrFrom]; rw [if_pos h, h2]; rfl
theorem StrOwn.far {w : World} {B : Nat} {v : Value} {ss : List Stroke} (h : StrOwn w B v ss) {p : Addr} (hp : p.block < B) (u : Value) : StrOwn (w.setCell p u) B v ss :=
  ownG_congr h fun b hb => Below.heap_setCell w p u b (by have := ownG_base h hb; omega)
theorem markN_le (c : UInt8) : -1 ≤ markN c ∧ markN c ≤ 2 := by
  unfold markN; split <;> (try split) <;> (try split) <;> omega

theorem markN_cases (c : UInt8) : (c = 94 ∧ markN c = 0) ∨ (c = 45 ∧ markN c = 1) ∨ (c = 95 ∧ markN c = 2) ∨ ((c.toNat : Int) == 94) = false ∧ ((c.toNat : Int) == 45) = false ∧ ((c.toNat : Int) == 95) = false ∧ markN c = -1 := by
  by_cases h1 : c = 94
  · subst h1; exact .inl ⟨rfl, rfl⟩
  · by_cases h2 : c = 45
    · subst h2; exact .inr (.inl ⟨rfl, rfl⟩)
    · by_cases h3 : c = 95
      · subst h3; exact .inr (.inr (.inl ⟨rfl, rfl⟩))
      · have g : ∀ d : UInt8, c ≠ d → ((c.toNat : Int) == (d.toNat : Int)) = false := fun d hd => beq_eq_false_iff_ne.2 (fun e => hd (UInt8.toNat_inj.1 (by omega)))
        exact .inr (.inr (.inr ⟨g 94 h1, g 45 h2, g 95 h3, by unfold markN; rw [if_neg h1, if_neg h2, if_neg h3]⟩))
end Go.Proofs.Ytppjjbjjbmodbaa
