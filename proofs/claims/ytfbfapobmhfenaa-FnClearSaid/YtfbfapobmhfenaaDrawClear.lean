/-
  DrawCabinetClear draws drawers and a day. Conditions: none.
-/
import Derived.Test.YtfbfapobmhfenaaDrawA
namespace Go.Proofs.Ytfbfapobmhfenaa
open Go.ChangeShapes Go.WideShapes Go.ChangeAt Go.RowKit
set_option maxRecDepth 100000

def DrawnDay (w : World) (e : Ending) (w' : World) : Prop :=
  ∃ A c ds x, e = .returned (.tuple #[.slice A ds.length c, .int .i64 x]) ∧ DrawersIn w' w'.heap.size A ds.length c ds ∧ cabSz ds ≤ 4096 ∧ -1 ≤ x ∧ x ≤ 9 ∧ Below w.heap.size w w'

theorem drawCabinetClear (A : Option Addr) (n c : Nat) (bs : List Int) (w : World) (hb : BytesIn w w.heap.size A n c bs) :
    Calls Try.prog 28 #[.slice A n c] w (DrawnDay w) := by
  have HD := Lib.hid (drawCab A n c bs w hb); clear hb
  go_enter Try.func28, Try.ntmps28
  go_wp2_with fail
  refine HD.out.mono ?_
  rintro e w1 ⟨rfl, hb1, hC⟩
  have HC := Lib.hid hC; clear hC
  have hz1 := hb1.size
  go_wp2_with fail
  refine HC.out.mono ?_
  rintro e w2 ⟨⟨A2, c2, ds, rfl, hO, h2, hg2, hr2⟩, b2⟩
  have HO := Lib.hid hO; have HR := Lib.hid hr2
  have hgz : w.heap.size < w2.heap.size := hr2.lt
  clear hO hr2 hg2 HC
  go_wp2_with fail
  refine (pick 11 w.heap.size w.heap.size _ w2 (by omega) (by omega) (by omega) HR.out).mono ?_
  rintro e w3 ⟨m, rfl, hm0, hm1, hg3, hr3⟩
  have HO3 := Lib.hid ((HR.out.cab HO.out hg3).reads rfl)
  have b3 := b2.grown hg3 b2.size (fun k hk => by injection hk with hk; omega)
  clear hg3 hr3 HO HR
  go_wp2
  go_returns
  exact ⟨A2, c2, ds, _, rfl, HO3.out, h2, by omega, by omega, b3⟩
end Go.Proofs.Ytfbfapobmhfenaa
