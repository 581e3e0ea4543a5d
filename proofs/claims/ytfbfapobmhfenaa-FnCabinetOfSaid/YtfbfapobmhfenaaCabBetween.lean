/-
  CabinetBetween of both packages. Conditions: the drawers hold no more than a law lets by.
-/
import Derived.Test.YtfbfapobmhfenaaDelA
import Derived.Test.YtfbfapobmhfenaaTreeB
namespace Go.Proofs.Ytfbfapobmhfenaa
open Go.ChangeShapes Go.WideShapes Go.ChangeAt Go.RowKit Go.Shelf
set_option maxRecDepth 100000

def inDays (a b : Int) (x : Pad) : Bool := decide (a ≤ x.day) && decide (x.day ≤ b)

theorem betweenPred (a b : Int) (B b4 b5 : Nat) (w : World) (h4 : Blk w b4 3 #[.int .i64 a]) (h5 : Blk w b5 3 #[.int .i64 b]) (l4 : b4 < B) (l5 : b5 < B) :
    PredB 66 #[.pointer (some ⟨b4, 0, none⟩), .pointer (some ⟨b5, 0, none⟩)] (inDays a b) B w := by
  intro W x hb _
  have h4W : Blk W b4 3 #[.int .i64 a] := (hb.block b4 l4).trans h4
  have h5W : Blk W b5 3 #[.int .i64 b] := (hb.block b5 l5).trans h5
  have c4 : (W.alloc (.cells #[.int .i64 x.day, .string x.case] 49)).cell? ⟨b4, 0, none⟩ = some (.int .i64 a) := Lib.cell?_alloc_some _ (h4W.cell 0)
  have c5 : (W.alloc (.cells #[.int .i64 x.day, .string x.case] 49)).cell? ⟨b5, 0, none⟩ = some (.int .i64 b) := Lib.cell?_alloc_some _ (h5W.cell 0)
  clear hb h4W h5W h4 h5
  unfold padV
  show Calls Try.prog 66 #[.agg #[.int .i64 x.day, .string x.case], .pointer (some ⟨b4, 0, none⟩), .pointer (some ⟨b5, 0, none⟩)] W _
  by_cases h1 : a ≤ x.day
  · by_cases h2 : x.day ≤ b
    · have HR : Hid (inDays a b x = true) := Lib.hid (by simp [inDays, h1, h2])
      go_enter Try.func66, Try.ntmps66
      go_wp2
      go_ret
      exact ⟨ret_bool HR.out.symm, (Below.refl _ _).alloc (Nat.le_refl _) _⟩
    · have HR : Hid (inDays a b x = false) := Lib.hid (by simp [inDays, h2])
      go_enter Try.func66, Try.ntmps66
      go_wp2
      go_ret
      exact ⟨ret_bool HR.out.symm, (Below.refl _ _).alloc (Nat.le_refl _) _⟩
  · have HR : Hid (inDays a b x = false) := Lib.hid (by simp [inDays, h1])
    go_enter Try.func66, Try.ntmps66
    go_wp2
    go_ret
    exact ⟨ret_bool HR.out.symm, (Below.refl _ _).alloc (Nat.le_refl _) _⟩
end Go.Proofs.Ytfbfapobmhfenaa
