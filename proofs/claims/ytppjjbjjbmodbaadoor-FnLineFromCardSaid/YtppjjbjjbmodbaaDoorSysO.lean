/-
  How systems and lists of words lie in memory. Conditions: none.
-/
import Derived.Test.YtppjjbjjbmodbaaDoorSOpen
import Derived.Test.YtppjjbjjbmodbaaDoorSysP
import Derived.Test.YtppjjbjjbmodbaaDoorLineS
namespace Go.Proofs.YtppjjbjjbmodbaaDoor
open Go.ChangeShapes Go.WideShapes Go.ChangeAt Go.RowKit
set_option maxRecDepth 100000

def sgC (x : Sg) : List Value := [.string (mkStr x.l), .int .i64 x.st.dir, .int .i64 x.st.size]
theorem sgC_len (x : Sg) : (sgC x).length = 3 := rfl
/-- A list of signs. -/
def SgsIn (w : World) (B : Nat) (A : Option Addr) (n c : Nat) (xs : List Sg) : Prop :=
  xs.length = n ∧ n ≤ c ∧ c ≤ maxLen ∧ Row w B A n 3 (xs.flatMap sgC) ∧ ∀ x ∈ xs, x.st.good
theorem SgsIn.below {w w' : World} {B n c : Nat} {A : Option Addr} {xs : List Sg} (h : SgsIn w B A n c xs) (hb : Below B w w') : SgsIn w' B A n c xs :=
  ⟨h.1, h.2.1, h.2.2.1, h.2.2.2.1.below hb, h.2.2.2.2⟩
theorem SgsIn.more {w : World} {B B' n c : Nat} {A : Option Addr} {xs : List Sg} (h : SgsIn w B A n c xs) (hb : B ≤ B') : SgsIn w B' A n c xs :=
  ⟨h.1, h.2.1, h.2.2.1, h.2.2.2.1.more hb, h.2.2.2.2⟩
theorem SgsIn.keep {w w' : World} {n c : Nat} {A : Option Addr} {xs : List Sg} (h : SgsIn w w.heap.size A n c xs) (hb : Below w.heap.size w w') : SgsIn w' w'.heap.size A n c xs := (h.below hb).more hb.size
theorem SgsIn.at_ {w : World} {B n c k : Nat} {A : Option Addr} {xs : List Sg} (h : SgsIn w B A n c xs) (hk : k < n) :
    ∃ b off, A = some ⟨b, off, none⟩ ∧ b < B ∧ w.cell? ⟨b, off + k * 3, none⟩ = some (.string (mkStr (sgAt xs k).l)) ∧ w.cell? ⟨b, off + k * 3 + 1, none⟩ = some (.int .i64 (sgAt xs k).st.dir) ∧ w.cell? ⟨b, off + k * 3 + 2, none⟩ = some (.int .i64 (sgAt xs k).st.size) ∧ (sgAt xs k).st.good := by
  obtain ⟨h1, _, _, h4, h5⟩ := h
  obtain ⟨b, off, eA, hbB, hc⟩ := h4.2 (by omega)
  have hs := sgAt_some (xs := xs) (k := k) (by omega)
  have hm := sgAt_mem (xs := xs) (k := k) (by omega)
  refine ⟨b, off, eA, hbB, ?_, ?_, ?_, h5 _ hm⟩
  · have := hc (k * 3 + 0) _ (flat_at sgC_len xs k _ 0 (.string (mkStr (sgAt xs k).l)) hs rfl)
    simpa using this
  · have := hc (k * 3 + 1) _ (flat_at sgC_len xs k _ 1 (.int .i64 (sgAt xs k).st.dir) hs rfl)
    rwa [← Nat.add_assoc] at this
  · have := hc (k * 3 + 2) _ (flat_at sgC_len xs k _ 2 (.int .i64 (sgAt xs k).st.size) hs rfl)
    rwa [← Nat.add_assoc] at this
/-- A list of words. -/
def WdsIn (w : World) (B : Nat) (A : Option Addr) (n c : Nat) (ws : List (List UInt8)) : Prop :=
  ws.length = n ∧ n ≤ c ∧ c ≤ maxLen ∧ Row w B A n 1 (ws.map strP)
theorem WdsIn.below {w w' : World} {B n c : Nat} {A : Option Addr} {ws : List (List UInt8)} (h : WdsIn w B A n c ws) (hb : Below B w w') : WdsIn w' B A n c ws :=
  ⟨h.1, h.2.1, h.2.2.1, h.2.2.2.below hb⟩
theorem WdsIn.more {w : World} {B B' n c : Nat} {A : Option Addr} {ws : List (List UInt8)} (h : WdsIn w B A n c ws) (hb : B ≤ B') : WdsIn w B' A n c ws :=
  ⟨h.1, h.2.1, h.2.2.1, h.2.2.2.more hb⟩
theorem WdsIn.keep {w w' : World} {n c : Nat} {A : Option Addr} {ws : List (List UInt8)} (h : WdsIn w w.heap.size A n c ws) (hb : Below w.heap.size w w') : WdsIn w' w'.heap.size A n c ws := (h.below hb).more hb.size
theorem WdsIn.at_ {w : World} {B n c k : Nat} {A : Option Addr} {ws : List (List UInt8)} (h : WdsIn w B A n c ws) (hk : k < n) :
    ∃ b off, A = some ⟨b, off, none⟩ ∧ b < B ∧ w.cell? ⟨b, off + k, none⟩ = some (.string (mkStr (wdAt ws k))) := by
  obtain ⟨h1, _, _, h4⟩ := h
  obtain ⟨b, off, eA, hbB, hc⟩ := h4.2 (by omega)
  have hs := wdAt_some (ws := ws) (k := k) (by omega)
  refine ⟨b, off, eA, hbB, hc k _ ?_⟩
  rw [List.getElem?_map, hs]; rfl
/-- A row of signs, of words, of numbers, of the call's own. -/
def SgOwn (w : World) (B : Nat) (v : Value) (xs : List Sg) : Prop := w.ownsRow B 96 3 v xs.length (xs.flatMap sgC)
def WdOwn (w : World) (B : Nat) (v : Value) (ws : List (List UInt8)) : Prop := w.ownsRow B 9 1 v ws.length (ws.map strP)
theorem SgOwn.reads {w : World} {B n c : Nat} {A : Option Addr} {xs : List Sg} (h : SgOwn w B (.slice A n c) xs) (hn : xs.length = n) (hg : ∀ x ∈ xs, x.st.good) : SgsIn w w.heap.size A n c xs := by
  unfold SgOwn at h
  rw [hn] at h
  obtain ⟨A', c', e, h2, h3⟩ := ownG_form h
  injection e with e1 e2 e3
  subst e1 e3
  exact ⟨hn, h2, h3, Row.of_own h, hg⟩
theorem WdOwn.reads {w : World} {B n c : Nat} {A : Option Addr} {ws : List (List UInt8)} (h : WdOwn w B (.slice A n c) ws) (hn : ws.length = n) : WdsIn w w.heap.size A n c ws := by
  unfold WdOwn at h
  rw [hn] at h
  obtain ⟨A', c', e, h2, h3⟩ := ownG_form h
  injection e with e1 e2 e3
  subst e1 e3
  exact ⟨hn, h2, h3, Row.of_own h⟩
theorem infoSg : (Tryd.prog.info? 96).map (fun i => (i.zero, i.size, i.bytes)) = some (some (.agg #[.string { data := #[] }, .int .i64 0, .int .i64 0]), 3, 32) := by kernel_rfl
end Go.Proofs.YtppjjbjjbmodbaaDoor
