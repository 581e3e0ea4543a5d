/-
  DrawCabinetCase draws drawers and a case. Conditions: none.
-/
import Derived.Test.YtbeaandjhlpaeaaDrawA
namespace Go.Proofs.Ytbeaandjhlpaeaa
open Go.ChangeShapes Go.WideShapes Go.ChangeAt Go.RowKit
set_option maxRecDepth 100000

def DrawnCase (w : World) (e : Ending) (w' : World) : Prop :=
  ∃ A c ds s, e = .returned (.tuple #[.slice A ds.length c, .string s]) ∧ DrawersIn w' w'.heap.size A ds.length c ds ∧ cabSz ds ≤ 4096 ∧ s.size ≤ 4 ∧ Below w.heap.size w w'

theorem drawCabinetCase (A : Option Addr) (n c : Nat) (bs : List Int) (w : World) (hb : BytesIn w w.heap.size A n c bs) :
    Calls Try.prog 47 #[.slice A n c] w (DrawnCase w) := by
  have HD := Lib.hid (drawCab A n c bs w hb); clear hb
  go_enter Try.func47, Try.ntmps47
  go_wp2_with fail
  refine HD.out.mono ?_
  rintro e w1 ⟨rfl, hb1, hC⟩
  have HC := Lib.hid hC; clear hC
  have hz1 := hb1.size
  go_wp2_with fail
  refine HC.out.mono ?_
  rintro e w2 ⟨⟨A2, c2, ds, rfl, hO, h2, hg2, hr2⟩, b2⟩
  have HO := Lib.hid hO; have HR := Lib.hid hr2
  have hgz : w.heap.size < w2.heap.size := hr2.lt
  clear hO hr2 hg2 HC
  go_wp2_with fail
  refine (pickOf w2.heap.size w.heap.size w.heap.size _ 5 5 [⟨#[97]⟩, ⟨#[98]⟩, ⟨#[99, 97, 115, 101]⟩, ⟨#[120]⟩, ⟨#[]⟩] _ rfl (by omega) (by omega) (by omega) (HR.out.alloc _) (StrsAt.new w2 _ _ _ rfl) (by omega)).mono ?_
  rintro e w3 ⟨s, hs, rfl, hg3, hr3⟩
  have hs4 : s.size ≤ 4 := by
    simp only [List.mem_cons, List.mem_nil_iff, or_false] at hs
    rcases hs with rfl | rfl | rfl | rfl | rfl <;> decide
  have HO3 := Lib.hid (((HR.out.alloc _).cab (HO.out.keep ((Below.refl _ _).alloc (Nat.le_refl _) _)) hg3).reads rfl)
  have b3 := (b2.alloc b2.size _).grown hg3 (by have := b2.size; simp; omega) (fun k hk => by injection hk with hk; omega)
  clear hg3 hr3 HO HR hs
  go_wp2
  go_returns
  exact ⟨A2, c2, ds, s, rfl, HO3.out, h2, hs4, b3⟩
end Go.Proofs.Ytbeaandjhlpaeaa
