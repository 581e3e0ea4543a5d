/-
  Drawers as an answer in one form; frames round marked drawers. Conditions: none.
-/
import Derived.Test.YtlphefpgnfogfaaMarkCab
namespace Go.Proofs.Ytlphefpgnfogfaa
open Go.ChangeShapes Go.WideShapes Go.ChangeAt Go.RowKit
set_option maxRecDepth 100000

theorem FileAns.form {w : World} {B : Nat} {o : Option (List (List Pad))} {e : Ending} (h : FileAns w B o e) : ∃ A c ds, e = .returned (.tuple #[.slice A ds.length c, .bool o.isSome]) ∧ CabOwn w B (.slice A ds.length c) ds ∧ ds.map (·.ps) = o.getD [] := by
  rcases h with ⟨rfl, A, c, he, hO⟩ | ⟨A, c, ds, rfl, he, hO⟩
  · exact ⟨A, c, [], he, hO, rfl⟩
  · exact ⟨A, c, ds, he, hO, rfl⟩
theorem CabOwn.within {w w' : World} {B lo hi : Nat} {v : Value} {ds : List Drawer} (h : CabOwn w B v ds) (hw : Within lo hi w w') (h0 : ∀ b, v.ownBlock = some b → b < lo ∨ hi ≤ b) (h1 : ∀ d ∈ ds, ∀ b, d.v.ownBlock = some b → b < lo ∨ hi ≤ b) : CabOwn w' B v ds :=
  h.congr (fun b hb => hw.block b (own_lt h.1 hb) (h0 b hb)) fun d hd b hb => hw.block b (own_lt (h.2.1 d hd).2.1 hb) (h1 d hd b hb)
/-- All of it lies below block L. -/
def CabUnder (L : Nat) (v : Value) (ds : List Drawer) : Prop := (∀ b, v.ownBlock = some b → b < L) ∧ ∀ d ∈ ds, ∀ b, d.v.ownBlock = some b → b < L
theorem CabOwn.under {w : World} {B : Nat} {v : Value} {ds : List Drawer} (h : CabOwn w B v ds) : CabUnder w.heap.size v ds :=
  ⟨fun _ hb => own_lt h.1 hb, fun d hd _ hb => own_lt (h.2.1 d hd).2.1 hb⟩
theorem totN_flat : ∀ {ds : List Drawer}, (∀ d ∈ ds, d.ps.length = d.n) → totN ds = (ds.map (·.ps)).flatten.length
  | [], _ => rfl
  | d :: r, h => by
    simp only [totN, List.map_cons, List.flatten_cons, List.length_append]
    rw [totN_flat (ds := r) (fun x hx => h x (by simp [hx])), h d (by simp)]
theorem totN_own {w : World} {B : Nat} {v : Value} {ds : List Drawer} {P : List (List Pad)} (h : CabOwn w B v ds) (hm : ds.map (·.ps) = P) : totN ds = P.flatten.length := by
  rw [totN_flat (fun d hd => (h.2.1 d hd).1), hm]
end Go.Proofs.Ytlphefpgnfogfaa
