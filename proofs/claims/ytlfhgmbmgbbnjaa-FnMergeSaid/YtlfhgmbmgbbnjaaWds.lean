/-
  Lists of words and of numbers in memory. Conditions: none.
-/
import Derived.Test.YtlfhgmbmgbbnjaaOwnG
import Derived.Test.YtlfhgmbmgbbnjaaStr
namespace Go.Proofs.Ytlfhgmbmgbbnjaa
open Go.ChangeShapes Go.WideShapes Go.ChangeAt Go.RowKit
set_option maxRecDepth 100000

def strP (p : List UInt8) : Value := .string (mkStr p)
def wdAt (ws : List (List UInt8)) (k : Nat) : List UInt8 := ws.getD k []
theorem wdAt_some {ws : List (List UInt8)} {k : Nat} (h : k < ws.length) : ws[k]? = some (wdAt ws k) := by simp [wdAt, List.getD_eq_getElem?_getD, h]
theorem wdAt_mem {ws : List (List UInt8)} {k : Nat} (h : k < ws.length) : wdAt ws k ∈ ws := List.mem_of_getElem? (wdAt_some h)
/-- A list of words. -/
def WdsIn (w : World) (B : Nat) (A : Option Addr) (n c : Nat) (ws : List (List UInt8)) : Prop :=
  ws.length = n ∧ n ≤ c ∧ c ≤ maxLen ∧ Row w B A n 1 (ws.map strP)
theorem WdsIn.below {w w' : World} {B n c : Nat} {A : Option Addr} {ws : List (List UInt8)} (h : WdsIn w B A n c ws) (hb : Below B w w') : WdsIn w' B A n c ws :=
  ⟨h.1, h.2.1, h.2.2.1, h.2.2.2.below hb⟩
theorem WdsIn.more {w : World} {B B' n c : Nat} {A : Option Addr} {ws : List (List UInt8)} (h : WdsIn w B A n c ws) (hb : B ≤ B') : WdsIn w B' A n c ws :=
  ⟨h.1, h.2.1, h.2.2.1, h.2.2.2.more hb⟩
theorem WdsIn.keep {w w' : World} {n c : Nat} {A : Option Addr} {ws : List (List UInt8)} (h : WdsIn w w.heap.size A n c ws) (hb : Below w.heap.size w w') : WdsIn w' w'.heap.size A n c ws := (h.below hb).more hb.size
theorem WdsIn.at_ {w : World} {B n c k : Nat} {A : Option Addr} {ws : List (List UInt8)} (h : WdsIn w B A n c ws) (hk : k < n) :
    ∃ b off, A = some ⟨b, off, none⟩ ∧ b < B ∧ w.cell? ⟨b, off + k, none⟩ = some (.string (mkStr (wdAt ws k))) := by
  obtain ⟨h1, _, _, h4⟩ := h
  obtain ⟨b, off, eA, hbB, hc⟩ := h4.2 (by omega)
  have hs := wdAt_some (ws := ws) (k := k) (by omega)
  refine ⟨b, off, eA, hbB, hc k _ ?_⟩
  rw [List.getElem?_map, hs]; rfl
/-- A row of words of the call's own. -/
def WdOwn (w : World) (B : Nat) (v : Value) (ws : List (List UInt8)) : Prop := w.ownsRow B 9 1 v ws.length (ws.map strP)
theorem WdOwn.reads {w : World} {B n c : Nat} {A : Option Addr} {ws : List (List UInt8)} (h : WdOwn w B (.slice A n c) ws) (hn : ws.length = n) : WdsIn w w.heap.size A n c ws := by
  unfold WdOwn at h
  rw [hn] at h
  obtain ⟨A', c', e, h2, h3⟩ := ownG_form h
  injection e with e1 e2 e3
  subst e1 e3
  exact ⟨hn, h2, h3, Row.of_own h⟩
def natP (i : Nat) : Value := .int .i64 (i : Int)
/-- A row of numbers of the call's own. -/
def NatOwn (w : World) (B : Nat) (v : Value) (is : List Nat) : Prop := w.ownsRow B 3 1 v is.length (is.map natP)
theorem infoInt : (Try.prog.info? 3).map (fun i => (i.zero, i.size, i.bytes)) = some (some (.int .i64 0), 1, 8) := by kernel_rfl
theorem rowNew1 (w : World) (u : Value) (t : TypeId) : Row (w.alloc (.cells #[u] t)) (w.heap.size + 1) (some ⟨w.heap.size, 0, none⟩) 1 1 [u] := by
  refine ⟨rfl, fun _ => ⟨w.heap.size, 0, rfl, by omega, fun j x hj => ?_⟩⟩
  rw [World.cell?_alloc_at _ t w.heap.size (0 + j) rfl]
  simpa using hj
theorem natOwn_at {w : World} {B n c k : Nat} {A : Option Addr} {is : List Nat} (h : NatOwn w B (.slice A n c) is) (hn : is.length = n) (hk : k < n) :
    ∃ g, A = some ⟨g, 0, none⟩ ∧ w.cell? ⟨g, k, none⟩ = some (natP (is.getD k 0)) ∧ B ≤ g ∧ g < w.heap.size := by
  unfold NatOwn at h
  rw [hn] at h
  rcases h.2 with ⟨_, h0⟩ | ⟨g, cap, cur, e, hB, hg, h1, h2, h3, h4⟩
  · omega
  · injection e with e1 e2 e3
    subst e1
    refine ⟨g, rfl, ?_, hB, Blk.lt (w := w) (t := 3) hg⟩
    rw [Blk.cell (w := w) (t := 3) hg k]
    have hu : (is.map natP)[k]? = some (natP (is.getD k 0)) := by rw [List.getElem?_map, List.getD_eq_getElem?_getD, List.getElem?_eq_getElem (by omega)]; rfl
    rw [← h4, List.getElem?_take_of_lt (by omega)] at hu
    simpa using hu
/-- The answer: these indexes. -/
def IdxAns (w' : World) (B : Nat) (is : List Nat) (e : Ending) : Prop := ∃ A c, e = .returned (.slice A is.length c) ∧ NatOwn w' B (.slice A is.length c) is
theorem infoWd : (Try.prog.info? 9).map (fun i => (i.zero, i.size, i.bytes)) = some (some (.string ByteArray.empty), 1, 16) := by kernel_rfl
theorem only_below {a w w' : World} {g : Nat} (h : a.grownBy w (some g)) (hb : Below w.heap.size w w') : a.grownBy w' (some g) :=
  ⟨hb.os.trans h.os, hb.tape.trans h.tape, hb.output.trans h.output, Nat.le_trans h.size hb.size, fun i hi hne => (hb.block i (Nat.lt_of_lt_of_le hi h.size)).trans (h.block i hi hne)⟩
theorem beq_str (s : ByteArray) (l l' : List UInt8) (hs : s = mkStr l') : ((mkStr l).toList == s.toList) = decide (l = l') := by
  rw [hs, Lib.toList_data, Lib.toList_data, mkStr_data, mkStr_data]
  by_cases h : l = l'
  · rw [h, decide_eq_true rfl]; exact beq_self_eq_true _
  · rw [decide_eq_false h]; exact beq_eq_false_iff_ne.2 h
end Go.Proofs.Ytlfhgmbmgbbnjaa
