/-
  DrawLineValid, DrawLineText, DrawLineFrom. Conditions: none.
-/
import Derived.Test.YtppjjbjjbmodbaaDoorDrawLn
namespace Go.Proofs.YtppjjbjjbmodbaaDoor
open Go.ChangeShapes Go.WideShapes Go.ChangeAt Go.RowKit
set_option maxRecDepth 100000
set_option linter.unusedSimpArgs false

theorem LnOwn.reads {w : World} {B n c : Nat} {A : Option Addr} {xs : List Wr} (h : LnOwn w B (.slice A n c) xs) (hn : xs.length = n) : WrsIn w w.heap.size A n c xs := WrOwn.reads h.1 hn
/-- A line that was drawn. -/
def LineDrawn (w : World) (e : Ending) : Prop := ∃ A N c xs, e = .returned (.slice A N c) ∧ N ≤ 4 ∧ WrsIn w w.heap.size A N c xs
set_option maxHeartbeats 800000 in
theorem drawLineValid (A : Option Addr) (n c : Nat) (bs : List Int) (w : World) (hb : BytesIn w w.heap.size A n c bs) :
    Calls Tryd.prog 14 #[.slice A n c] w fun e w' => LineDrawn w' e ∧ Below w.heap.size w w' := by
  have HO := Lib.hid (l6Open A n c bs w.heap.size w (Nat.le_refl _) hb)
  clear hb
  go_enter Tryd.func14, Tryd.ntmps14
  go_wp2_with fail
  refine HO.out.mono ?_
  rintro e w1 ⟨rfl, b1, hr1⟩
  have hg1 := hr1.lt
  have HL := Lib.hid (l91Both w.heap.size w.heap.size 0 w1 (by omega) hr1 b1.size)
  have HB1 := Lib.hid b1
  clear hr1 HO b1
  go_wp2_with fail
  refine HL.out.mono ?_
  rintro e w2 ⟨A1, n1, c1, xs, A2, n2, c2, ws, hx, hn1, hx2, hn2, rfl, hS, hD, hg2, hr2⟩
  have b2 := HB1.out.grown hg2 HB1.out.size (fun k hk => by injection hk with hk; omega)
  have HLn := Lib.hid (l91Line w.heap.size w.heap.size (0 + 220) w1.heap.size A1 n1 c1 xs A2 n2 c2 ws w2 (by omega) hr2 b2.size hg1 hx hx2 hn2 hS hD)
  have HB2 := Lib.hid b2
  clear hx hx2 hS hD hg2 hr2 HL b2
  go_wp2_with fail
  refine HLn.out.mono ?_
  rintro e w3 ⟨A3, n3, c3, ys, hy, hn3, rfl, hO3, hg3, _⟩
  have b3 := HB2.out.grown hg3 HB2.out.size (fun k hk => by injection hk with hk; omega)
  have HR3 := Lib.hid (hO3.reads hy)
  clear hy hO3 hg3 HLn
  go_wp2
  go_returns
  exact ⟨⟨A3, n3, c3, ys, rfl, hn3, HR3.out⟩, b3⟩
theorem drawLineText (A : Option Addr) (n c : Nat) (bs : List Int) (w : World) (hb : BytesIn w w.heap.size A n c bs) :
    Calls Tryd.prog 5 #[.slice A n c] w fun e w' => LineDrawn w' e ∧ Below w.heap.size w w' := by
  have HO := Lib.hid (drawLineValid A n c bs w hb)
  clear hb
  go_enter Tryd.func5, Tryd.ntmps5
  go_wp2_with fail
  refine HO.out.mono ?_
  rintro e w1 ⟨⟨A1, N, c1, xs, rfl, hN, hR⟩, b1⟩
  have HR := Lib.hid hR
  clear hR HO
  go_wp2
  go_returns
  exact ⟨⟨A1, N, c1, xs, rfl, hN, HR.out⟩, b1⟩
theorem lineText_len (L : List Dat) : (lineText L).length ≤ 18 * L.length := by
  cases h : lineB L with
  | true => rw [lineText_yes h]; exact lineT_len L
  | false => rw [lineText_no h]; simp
set_option maxHeartbeats 800000 in
theorem drawLineFrom (A : Option Addr) (n c : Nat) (bs : List Int) (w : World) (hb : BytesIn w w.heap.size A n c bs) :
    Calls Tryd.prog 11 #[.slice A n c] w fun e w' => (∃ l : List UInt8, e = .returned (.string (mkStr l)) ∧ l.length ≤ 200) ∧ Below w.heap.size w w' := by
  have HO := Lib.hid (l6Open A n c bs w.heap.size w (Nat.le_refl _) hb)
  clear hb
  go_enter Tryd.func11, Tryd.ntmps11
  go_wp2_with fail
  refine HO.out.mono ?_
  rintro e w1 ⟨rfl, b1, hr1⟩
  have hg1 := hr1.lt
  have HL := Lib.hid (l91Both w.heap.size w.heap.size 0 w1 (by omega) hr1 b1.size)
  have HB1 := Lib.hid b1
  clear hr1 HO b1
  go_wp2_with fail
  refine HL.out.mono ?_
  rintro e w2 ⟨A1, n1, c1, xs, A2, n2, c2, ws, hx, hn1, hx2, hn2, rfl, hS, hD, hg2, hr2⟩
  have b2 := HB1.out.grown hg2 HB1.out.size (fun k hk => by injection hk with hk; omega)
  have HLn := Lib.hid (l91Line w.heap.size w.heap.size (0 + 220) w1.heap.size A1 n1 c1 xs A2 n2 c2 ws w2 (by omega) hr2 b2.size hg1 hx hx2 hn2 hS hD)
  have HB2 := Lib.hid b2
  clear hx hx2 hS hD hg2 hr2 HL b2
  go_wp2_with fail
  refine HLn.out.mono ?_
  rintro e w3 ⟨A3, n3, c3, ys, hy, hn3, rfl, hO3, hg3, hr3⟩
  have b3 := HB2.out.grown hg3 HB2.out.size (fun k hk => by injection hk with hk; omega)
  have HT := Lib.hid (specLineText A3 n3 c3 ys w3 (hO3.reads hy))
  have hlen : (lineText (ys.map Wr.dat)).length ≤ 72 := by have := lineText_len (ys.map Wr.dat); rw [List.length_map] at this; omega
  have HR3 := Lib.hid hr3
  clear hy hO3 hg3 hr3 HLn
  generalize lineText (ys.map Wr.dat) = t at *
  go_wp2_with fail
  refine HT.out.mono ?_
  rintro e w4 ⟨rfl, hb4⟩
  have b4 := below_next b3 hb4
  have HP := Lib.hid (pickR (n := 6) (HR3.out.below hb4) (by omega) (by omega) (by omega))
  clear hb4 HR3 HT
  go_wp2_with fail
  refine HP.out.mono ?_
  rintro e w5 ⟨m, rfl, hm, hg5, hr5⟩
  have b5 := b4.grown hg5 b4.size (fun k hk => by injection hk with hk; omega)
  have HR5 := Lib.hid hr5
  clear hg5 hr5 HP
  by_cases h0 : m = 0
  · subst h0
    have HOf := Lib.hid (fun cs t h => ofNew w.heap.size w.heap.size _ 4 [⟨#[32]⟩, ⟨#[32, 94]⟩, ⟨#[120]⟩, ⟨#[32, 94, 57, 115]⟩] cs t w5 h rfl (by omega) (by omega) (by decide) (by omega) HR5.out)
    go_wp2_with fail
    refine (HOf.out _ _ rfl).mono ?_
    rintro e w6 ⟨l, hl6, rfl, hg6, hr6⟩
    have b6 := b5.grown hg6 b5.size (fun k hk => by injection hk with hk; omega)
    have hadd := fun W => run_add (P := Tryd.prog) t l (by omega) W
    clear hg6 hr6
    go_wp2
    go_returns
    exact ⟨⟨t ++ l, rfl, by rw [List.length_append]; omega⟩, b6⟩
  · have e0 : ((m : Int) == 0) = false := by simpa using h0
    go_wp2
    go_returns
    exact ⟨⟨t, rfl, by omega⟩, b5⟩
end Go.Proofs.YtppjjbjjbmodbaaDoor
