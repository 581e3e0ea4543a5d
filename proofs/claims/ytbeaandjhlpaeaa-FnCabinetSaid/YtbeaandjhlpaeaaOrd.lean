/-
  The order of pads: comparePads and l8Order say one number. Conditions: strings no longer than a Go string can be.
-/
import Derived.Test.YtbeaandjhlpaeaaPad
import Derived.Test.YtbeaandjhlpaeaaOpen
import Derived.StillTailTactics
import Derived.Lib.Bytealg
import Derived.Sort.Walk0
import Derived.Laws.StructEq
namespace Go.Proofs.Ytbeaandjhlpaeaa
open Go.ChangeShapes Go.WideShapes Go.ChangeAt Go.RowKit
set_option maxRecDepth 100000

theorem bytealgCompare (a b : ByteArray) (w : World) : Calls Try.prog 82 #[.string a, .string b] w fun e w' => e = .returned (.int .i64 (Lib.compareBytes a.data.toList b.data.toList)) ∧ w = w' := by
  go_enter Try.func82, Try.ntmps82
  go_wp2
  rw [run_callFunc_extern Try.func87 (by kernel_rfl) (by kernel_rfl) (by kernel_rfl) (e := Extern.BytealgCompare.compare) (by kernel_rfl), Lib.run_compareString]
  simp only [Result.andThen]
  rw [Oper.upon_value]
  go_wp2
  go_ret
  exact ⟨rfl, rfl⟩

theorem stringsCompare (a b : ByteArray) (w : World) : Calls Try.prog 71 #[.string a, .string b] w fun e w' => e = .returned (.int .i64 (Lib.compareBytes a.data.toList b.data.toList)) ∧ w = w' := by
  go_enter Try.func71, Try.ntmps71
  go_wp2_with (go_at_call 82; refine (bytealgCompare _ _ _).mono ?_; rintro e w' ⟨rfl, rfl⟩)
  go_ret
  exact ⟨rfl, rfl⟩

def cmpI (x y : Int) : Int := if x < y then -1 else if y < x then 1 else 0
theorem cmpCompare (x y : Int) (w : World) : Calls Try.prog 70 #[.int .i64 x, .int .i64 y] w fun e w' => e = .returned (.int .i64 (cmpI x y)) ∧ w = w' := by
  rcases Int.lt_trichotomy x y with h | h | h
  · have HR : Hid (cmpI x y = -1) := Lib.hid (by unfold cmpI; rw [if_pos h])
    go_enter Try.func70, Try.ntmps70
    go_wp2
    go_ret
    exact ⟨ret_int HR.out.symm, rfl⟩
  · subst h
    have HR : Hid (cmpI x x = 0) := Lib.hid (by unfold cmpI; rw [if_neg (by omega), if_neg (by omega)])
    go_enter Try.func70, Try.ntmps70
    go_wp2
    go_ret
    exact ⟨ret_int HR.out.symm, rfl⟩
  · have HR : Hid (cmpI x y = 1) := Lib.hid (by unfold cmpI; rw [if_neg (by omega), if_pos h])
    go_enter Try.func70, Try.ntmps70
    go_wp2
    go_ret
    exact ⟨ret_int HR.out.symm, rfl⟩

def orI (x y : Int) : Int := if x = 0 then y else x
theorem cmpOr (b : Nat) (x y : Int) (w : World) (h0 : w.cell? ⟨b, 0, none⟩ = some (.int .i64 x)) (h1 : w.cell? ⟨b, 1, none⟩ = some (.int .i64 y)) :
    Calls Try.prog 69 #[.slice (some ⟨b, 0, none⟩) 2 2] w fun e w' => e = .returned (.int .i64 (orI x y)) ∧ w = w' := by
  by_cases hx : x = 0
  · subst hx
    have HR : Hid (orI 0 y = y) := Lib.hid (by unfold orI; rw [if_pos rfl])
    by_cases hy : y = 0
    · subst hy
      go_enter Try.func69, Try.ntmps69
      go_wp2
      go_rounds 3
      go_ret
      exact ⟨ret_int HR.out.symm, rfl⟩
    · have hy1 : (y != 0) = true := by rw [bne_iff_ne]; exact hy
      go_enter Try.func69, Try.ntmps69
      go_wp2
      go_rounds 3
      go_ret
      exact ⟨ret_int HR.out.symm, rfl⟩
  · have HR : Hid (orI x y = x) := Lib.hid (by unfold orI; rw [if_neg hx])
    have hx1 : (x != 0) = true := by rw [bne_iff_ne]; exact hx
    go_enter Try.func69, Try.ntmps69
    go_wp2
    go_rounds 3
    go_ret
    exact ⟨ret_int HR.out.symm, rfl⟩

theorem region_still_tail {P : Program} {id : Nat} {Q : Exit → Act → World → Prop} {a : Act} {w : World} {l : List Oper} (n : Nat) (hm : P.follows .mixedOrders = true) (hB : Region.lexTailB .any l.toArray n = true)
    (h : wpStill P l.toArray w.drew (fun a' => wpList P l.toArray Q (l.drop n) a' w.drew) (l.take n) a) : (Code.region id l.toArray true).wp P Q a w := wp_region_still_tail n hm hB h

/-- The order of pads. -/
def ordP (d : Int) (c : List UInt8) (d' : Int) (c' : List UInt8) : Int := orI (cmpI d d') (Lib.compareBytes c c')

theorem comparePads (d : Int) (c : ByteArray) (d' : Int) (c' : ByteArray) (w : World) :
    Calls Try.prog 53 #[.agg #[.int .i64 d, .string c], .agg #[.int .i64 d', .string c']] w fun e w' => e = .returned (.int .i64 (ordP d c.data.toList d' c'.data.toList)) ∧ Below w.heap.size w w' := by
  go_enter Try.func53, Try.ntmps53
  go_wp2
  refine region_still_tail 10 (by kernel_rfl) (by kernel_rfl) ?_
  simp only [List.take_succ_cons, List.take_zero, List.drop_succ_cons, List.drop_zero]
  repeat still_step
  still_call ((cmpCompare _ _ _).mono fun _ _ h => ⟨h.1, h.2.symm⟩)
  repeat still_step
  still_call ((stringsCompare _ _ _).mono fun _ _ h => ⟨h.1, h.2.symm⟩)
  refine wpStill_nil ?_
  go_wp2_with fail
  refine (cmpOr _ (cmpI d d') (Lib.compareBytes c.data.toList c'.data.toList) _ (by go_simp) (by go_simp)).mono ?_
  rintro e w1 ⟨rfl, rfl⟩
  go_wp2
  go_ret
  exact ⟨rfl, by go_grown⟩

theorem cb_spec : ∀ a b : List UInt8, Lib.compareBytes a b = if Op.bytesLess a b = true then -1 else if a = b then 0 else 1
  | [], [] => rfl
  | [], _ :: _ => by simp [Lib.compareBytes, Op.bytesLess]
  | _ :: _, [] => by simp [Lib.compareBytes, Op.bytesLess]
  | x :: a, y :: b => by
    have ih := cb_spec a b
    unfold Lib.compareBytes Op.bytesLess
    rw [ih]
    by_cases h1 : x < y
    · simp [h1]
    · by_cases h2 : y < x
      · have hne : x ≠ y := by rintro rfl; exact h1 h2
        simp [h1, h2, hne]
      · have he : x = y := by
          apply UInt8.toNat_inj.1
          have a1 : ¬ x.toNat < y.toNat := fun h => h1 (UInt8.lt_iff_toNat_lt.2 h)
          have a2 : ¬ y.toNat < x.toNat := fun h => h2 (UInt8.lt_iff_toNat_lt.2 h)
          omega
        subst he
        simp [h1]

theorem cmpI_lt {d d' : Int} (h : d < d') : cmpI d d' = -1 := by unfold cmpI; rw [if_pos h]
theorem cmpI_gt {d d' : Int} (h : d' < d) : cmpI d d' = 1 := by unfold cmpI; rw [if_neg (by omega), if_pos h]
theorem cmpI_eq (d : Int) : cmpI d d = 0 := by unfold cmpI; rw [if_neg (by omega), if_neg (by omega)]
theorem ordP_lt {d d' : Int} {c c' : List UInt8} (h : d < d') : ordP d c d' c' = -1 := by unfold ordP; rw [cmpI_lt h]; rfl
theorem ordP_gt {d d' : Int} {c c' : List UInt8} (h : d' < d) : ordP d c d' c' = 1 := by unfold ordP; rw [cmpI_gt h]; rfl
theorem ordP_eq {d : Int} {c c' : List UInt8} : ordP d c d c' = Lib.compareBytes c c' := by unfold ordP; rw [cmpI_eq]; rfl
theorem toL (s : ByteArray) : s.toList = s.data.toList := Lib.toList_data s

theorem eqPadRun (d : Int) (c : ByteArray) (d' : Int) (c' : ByteArray) (w : World) :
    (binOp .eql 26 (.agg #[.int .i64 d, .string c]) (.agg #[.int .i64 d', .string c'])).run Try.prog w = .ok (.bool (d == d' && c.toList == c'.toList)) w := by
  have u3 := Try.underlying3
  have a3 := Try.isAgg3
  have z3 := Try.sizeOf3
  have u9 := Try.underlying9
  have a9 := Try.isAgg9
  have z9 := Try.sizeOf9
  have hS : Try.prog.underlying 26 = some (.struct (Try.prog.fieldsOf 26)) := by kernel_rfl
  have hp : Try.prog.stoodInHeld 26 = false := by kernel_rfl
  rw [run_eql_struct, show (10000 : Nat) = 9999 + 1 from rfl, run_equalIn_agg w 9999 26 _ _ hS hp]
  simp only [Program.fieldsOf, Try.underlying26]
  go_simp
  by_cases h1 : d = d' <;> by_cases h2 : c.toList = c'.toList <;> simp [h1, h2]

theorem l8Order (d : Int) (c : ByteArray) (d' : Int) (c' : ByteArray) (w : World) :
    Calls Try.prog 52 #[.agg #[.int .i64 d, .string c], .agg #[.int .i64 d', .string c']] w fun e w' => e = .returned (.int .i64 (ordP d c.data.toList d' c'.data.toList)) ∧ Below w.heap.size w w' := by
  have hg : Try.prog.eqGuardType Try.prog.depth 26 = false := by kernel_rfl
  rcases Int.lt_trichotomy d d' with h | h | h
  · have HR := Lib.hid (ordP_lt (c := c.data.toList) (c' := c'.data.toList) h)
    go_enter Try.func52, Try.ntmps52
    go_wp2
    go_ret
    exact ⟨ret_int HR.out.symm, by go_grown⟩
  · subst h
    have hE := fun w => eqPadRun d c d c' w
    have HR := Lib.hid ((ordP_eq (d := d) (c := c.data.toList) (c' := c'.data.toList)).trans (cb_spec _ _))
    by_cases hl : Op.bytesLess c.toList c'.toList = true
    · go_enter Try.func52, Try.ntmps52
      go_wp2
      go_ret
      exact ⟨ret_int (by rw [HR.out, ← toL, ← toL, if_pos hl]), by go_grown⟩
    · have hl' : Op.bytesLess c.toList c'.toList = false := by simpa using hl
      by_cases he : c.toList = c'.toList
      · have HL := Lib.hid hl'
        have HE := Lib.hid he
        have hb : (c.toList == c'.toList) = true := by simpa using he
        clear hl he
        go_enter Try.func52, Try.ntmps52
        go_wp2
        go_ret
        exact ⟨ret_int (by rw [HR.out, ← toL, ← toL, if_neg (by rw [HL.out]; simp), if_pos HE.out]), by go_grown⟩
      · have hb : (c.toList == c'.toList) = false := by simpa using he
        have HL := Lib.hid hl'
        have HE := Lib.hid he
        clear hl he
        go_enter Try.func52, Try.ntmps52
        go_wp2
        go_ret
        exact ⟨ret_int (by rw [HR.out, ← toL, ← toL, if_neg (by rw [HL.out]; simp), if_neg HE.out]), by go_grown⟩
  · have HR := Lib.hid (ordP_gt (c := c.data.toList) (c' := c'.data.toList) h)
    have hE := fun w => eqPadRun d c d' c' w
    have hd : (d == d') = false := by simp; omega
    go_enter Try.func52, Try.ntmps52
    go_wp2
    go_ret
    exact ⟨ret_int HR.out.symm, by go_grown⟩
end Go.Proofs.Ytbeaandjhlpaeaa
