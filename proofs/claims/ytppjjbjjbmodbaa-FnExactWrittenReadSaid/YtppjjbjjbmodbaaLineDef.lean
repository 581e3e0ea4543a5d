/-
  Lines of written forms as plain lists: which are lines, and their texts. Conditions: none.
-/
import Derived.Test.YtppjjbjjbmodbaaWritten
import Derived.Lib.Join
namespace Go.Proofs.Ytppjjbjjbmodbaa
open Go.ChangeShapes Go.WideShapes Go.ChangeAt Go.RowKit
set_option maxRecDepth 100000

/-- A written form without its place in memory. -/
abbrev Dat := List Stroke × Int
def Wr.dat (x : Wr) : Dat := (x.ss, x.pos)
def datB (d : Dat) : Bool := wrB d.1 d.2
def datT (d : Dat) : List UInt8 := wrText d.1 d.2
def lineB (L : List Dat) : Bool := decide (L.length ≤ 20) && L.all datB
def lineT (L : List Dat) : List UInt8 := Lib.join (L.map datT) [32]
def lineText (L : List Dat) : List UInt8 := if lineB L = true then lineT L else []
theorem lineText_yes {L : List Dat} (h : lineB L = true) : lineText L = lineT L := if_pos h
theorem lineText_no {L : List Dat} (h : lineB L = false) : lineText L = [] := if_neg (by rw [h]; simp)
theorem lineB_iff {L : List Dat} : lineB L = true ↔ L.length ≤ 20 ∧ ∀ d ∈ L, datB d = true := by unfold lineB; rw [Bool.and_eq_true, decide_eq_true_iff, List.all_eq_true]
theorem lineB_no {L : List Dat} {d : Dat} (hd : d ∈ L) (h : datB d = false) : lineB L = false := by
  rw [Bool.eq_false_iff]; intro h2; rw [(lineB_iff.1 h2).2 d hd] at h; cases h
theorem lineB_long {L : List Dat} (h : 20 < L.length) : lineB L = false := by
  rw [Bool.eq_false_iff]; intro h2; have := (lineB_iff.1 h2).1; omega
theorem datT_len (d : Dat) : (datT d).length ≤ 17 := by
  unfold datT
  cases h : wrB d.1 d.2 with
  | false => rw [wrText_no h]; simp
  | true => rw [wrText_yes h, List.length_cons]; have := outText_len d.1; omega
theorem join_snoc (L : List (List UInt8)) (y sep : List UInt8) (h : 0 < L.length) : Lib.join (L ++ [y]) sep = Lib.join L sep ++ (sep ++ y) := by
  cases L with
  | nil => simp at h
  | cons x r =>
    rw [List.cons_append, Lib.join_cons, Lib.join_cons]
    unfold Lib.joinTail
    simp
theorem lineT_len : ∀ L : List Dat, (lineT L).length ≤ 18 * L.length := by
  intro L
  unfold lineT
  cases L with
  | nil => simp [Lib.join_nil]
  | cons x r =>
    rw [List.map_cons, Lib.join_cons, List.length_append]
    have h1 := datT_len x
    have h2 : (Lib.joinTail [32] (r.map datT)).length ≤ 18 * r.length := by
      unfold Lib.joinTail
      induction r with
      | nil => simp
      | cons y r ih =>
        have := datT_len y
        simp only [List.map_cons, List.flatten_cons, List.length_append, List.length_cons, List.length_nil] at ih ⊢
        omega
    rw [List.length_cons]; omega
theorem lineT_step {xs : List Wr} {k : Nat} (h : k < xs.length) (h0 : 0 < k) : lineT ((xs.take (k + 1)).map Wr.dat) = lineT ((xs.take k).map Wr.dat) ++ ([32] ++ datT (wrAt xs k).dat) := by
  unfold lineT
  have e : xs.take (k + 1) = xs.take k ++ [wrAt xs k] := by
    rw [List.take_succ_eq_append_getElem h]
    have : xs[k] = wrAt xs k := by unfold wrAt; rw [List.getD_eq_getElem?_getD, List.getElem?_eq_getElem h]; rfl
    rw [this]
  rw [e, List.map_append, List.map_append]
  exact join_snoc _ _ _ (by rw [List.length_map, List.length_map, List.length_take]; omega)
theorem lineT_first {xs : List Wr} (h : 0 < xs.length) : lineT ((xs.take 1).map Wr.dat) = datT (wrAt xs 0).dat := by
  cases xs with
  | nil => simp at h
  | cons x r => unfold lineT; rw [List.take_succ_cons, List.take_zero]; exact Lib.join_one _ _
theorem lineT_nil : lineT [] = [] := rfl
theorem dat_mem {xs : List Wr} {k : Nat} (h : k < xs.length) : (wrAt xs k).dat ∈ xs.map Wr.dat := List.mem_map_of_mem (wrAt_mem h)
/-- The text of the first forms of a line. -/
def lineK (xs : List Wr) (k : Nat) : List UInt8 := lineT ((xs.take k).map Wr.dat)
theorem lineK_zero (xs : List Wr) : lineK xs 0 = [] := rfl
theorem lineK_len (xs : List Wr) (k : Nat) : (lineK xs k).length ≤ 18 * k := by
  have h := lineT_len ((xs.take k).map Wr.dat)
  rw [List.length_map, List.length_take] at h
  unfold lineK
  omega
theorem lineK_step {xs : List Wr} {k : Nat} (h : k < xs.length) (h0 : 0 < k) : lineK xs (k + 1) = lineK xs k ++ ([32] ++ datT (wrAt xs k).dat) := lineT_step h h0
theorem lineK_first {xs : List Wr} (h : 0 < xs.length) : lineK xs 1 = datT (wrAt xs 0).dat := lineT_first h
theorem lineK_all (xs : List Wr) {k : Nat} (h : xs.length ≤ k) : lineK xs k = lineT (xs.map Wr.dat) := by unfold lineK; rw [List.take_of_length_le h]
end Go.Proofs.Ytppjjbjjbmodbaa
