/-
  DrawCabinetBetween draws drawers and two days. Conditions: none.
-/
import Derived.Test.YtbeaandjhlpaeaaDrawA
namespace Go.Proofs.Ytbeaandjhlpaeaa
open Go.ChangeShapes Go.WideShapes Go.ChangeAt Go.RowKit
set_option maxRecDepth 100000

def DrawnBet (w : World) (e : Ending) (w' : World) : Prop :=
  ∃ A c ds x y, e = .returned (.tuple #[.slice A ds.length c, .int .i64 x, .int .i64 y]) ∧ DrawersIn w' w'.heap.size A ds.length c ds ∧ cabSz ds ≤ 4096 ∧ -1 ≤ x ∧ x ≤ 8 ∧ x - 1 ≤ y ∧ y ≤ x + 5 ∧ Below w.heap.size w w'
theorem drawCabinetBetween (A : Option Addr) (n c : Nat) (bs : List Int) (w : World) (hb : BytesIn w w.heap.size A n c bs) :
    Calls Try.prog 45 #[.slice A n c] w (DrawnBet w) := by
  have HD := Lib.hid (drawCab A n c bs w hb); clear hb
  go_enter Try.func45, Try.ntmps45
  go_wp2_with fail
  refine HD.out.mono ?_
  rintro e w1 ⟨rfl, hb1, hC⟩
  have HC := Lib.hid hC; clear hC
  have hz1 := hb1.size
  go_wp2_with fail
  refine HC.out.mono ?_
  rintro e w2 ⟨⟨A2, c2, ds, rfl, hO, h2, hg2, hr2⟩, b2⟩
  have HO := Lib.hid hO; have HR := Lib.hid hr2
  have hgz : w.heap.size < w2.heap.size := hr2.lt
  clear hO hr2 hg2 HC
  go_wp2_with fail
  refine (pick 10 w.heap.size w.heap.size _ w2 (by omega) (by omega) (by omega) HR.out).mono ?_
  rintro e w3 ⟨m, rfl, hm0, hm1, hg3, hr3⟩
  have HO3 := Lib.hid (HR.out.cab HO.out hg3)
  have b3 := b2.grown hg3 b2.size (fun k hk => by injection hk with hk; omega)
  have HR3 := Lib.hid hr3
  clear hg3 hr3 HO HR
  go_wp2_with fail
  refine (pick 7 w.heap.size w.heap.size _ w3 (by omega) (by omega) (by omega) HR3.out).mono ?_
  rintro e w4 ⟨m4, rfl, hm40, hm41, hg4, hr4⟩
  have HO4 := Lib.hid ((HR3.out.cab HO3.out hg4).reads rfl)
  have b4 := b3.grown hg4 b3.size (fun k hk => by injection hk with hk; omega)
  clear hg4 hr4 HO3 HR3
  go_wp2
  go_returns
  exact ⟨A2, c2, ds, _, _, rfl, HO4.out, h2, by omega, by omega, by omega, by omega, b4⟩
end Go.Proofs.Ytbeaandjhlpaeaa
