/-
  OutlineFrom of both: a text is read as an outline. Conditions: the text is no longer than the laws' texts.
-/
import Derived.Test.YtppjjbjjbmodbaaFromLaw
import Derived.Test.YtppjjbjjbmodbaaOutText
import Derived.Test.YtppjjbjjbmodbaaBase
import Derived.Test.YtppjjbjjbmodbaaOwnG
import Derived.Deep.RegionHeld3
namespace Go.Proofs.Ytppjjbjjbmodbaa
open Go.ChangeShapes Go.WideShapes Go.ChangeAt Go.RowKit
set_option maxRecDepth 100000

theorem StrOwn.reads {w : World} {B n c : Nat} {A : Option Addr} {ss : List Stroke} (h : StrOwn w B (.slice A n c) ss) (hn : ss.length = n) (hg : ∀ s ∈ ss, s.good) : StrokesIn w w.heap.size A n c ss := by
  unfold StrOwn at h
  rw [hn] at h
  obtain ⟨A', c', e, h1, h2⟩ := ownG_form h
  injection e with e1 e2 e3
  subst e1 e3
  exact ⟨hn, h1, h2, Row.of_own h, hg⟩
/-- The answer of reading a text. -/
def FromAns (w' : World) (B : Nat) (o : Option (List Stroke)) (e : Ending) : Prop :=
  (o = none ∧ ∃ A c, e = .returned (.tuple #[.slice A 0 c, .bool false]) ∧ StrOwn w' B (.slice A 0 c) []) ∨
  ∃ A c ss, o = some ss ∧ e = .returned (.tuple #[.slice A ss.length c, .bool true]) ∧ StrOwn w' B (.slice A ss.length c) ss ∧ ∀ s ∈ ss, s.good
theorem FromAns.no {w' : World} {B : Nat} {o : Option (List Stroke)} {e : Ending} {A : Option Addr} {c : Nat} (h : o = none) (he : e = .returned (.tuple #[.slice A 0 c, .bool false])) (hc : StrOwn w' B (.slice A 0 c) []) : FromAns w' B o e := .inl ⟨h, A, c, he, hc⟩
theorem FromAns.yes {w' : World} {B : Nat} {o : Option (List Stroke)} {e : Ending} {v : Value} {ss : List Stroke} (h : o = some ss) (he : e = .returned (.tuple #[v, .bool true])) (hc : StrOwn w' B v ss) (hg : ∀ s ∈ ss, s.good) : FromAns w' B o e := by
  obtain ⟨A, c, rfl, _⟩ := ownG_form hc
  exact .inr ⟨A, c, ss, h, he, hc, hg⟩
theorem infoSt : (Try.prog.info? 99).map (fun i => (i.zero, i.size, i.bytes)) = some (some (.agg #[.int .i64 0, .int .i64 0]), 2, 16) := by kernel_rfl
theorem rowNewSt (w : World) (u1 u2 : Value) (t : TypeId) : Row (w.alloc (.cells #[u1, u2] t)) (w.heap.size + 1) (some ⟨w.heap.size, 0, none⟩) 1 2 [u1, u2] := by
  refine ⟨rfl, fun _ => ⟨w.heap.size, 0, rfl, by omega, fun j x hx => ?_⟩⟩
  rcases j with _ | _ | j
  · simp at hx; subst hx; exact newcell w #[u1, u2] t 0 u1 rfl
  · simp at hx; subst hx; exact newcell w #[u1, u2] t 1 u2 rfl
  · simp at hx
theorem StrOwn.made (w : World) : StrOwn (w.alloc (.cells #[] 99)) w.heap.size (.slice (some ⟨w.heap.size, 0, none⟩) 0 0) [] := World.ownsRow_made w #[] 0 (Nat.le_refl _) (by simp) (by simp)

theorem own_mono0 {w : World} {B B' : Nat} {v : Value} {ss : List Stroke} (h : StrOwn w B v ss) (hB : B' ≤ B) : StrOwn w B' v ss := ownG_mono h hB

end Go.Proofs.Ytppjjbjjbmodbaa
