/-
  How strokes, outlines and written forms lie in memory. Conditions: none.
-/
import Derived.Test.YtppjjbjjbmodbaaDoorBase
import Derived.Test.YtppjjbjjbmodbaaDoorStrokeLaw
namespace Go.Proofs.YtppjjbjjbmodbaaDoor
open Go.ChangeShapes Go.WideShapes Go.ChangeAt Go.RowKit Go.Joins

set_option maxRecDepth 100000

def Stroke.good (s : Stroke) : Prop := (Lit.int .i64 s.dir).wf = true ∧ (Lit.int .i64 s.size).wf = true
def stC (s : Stroke) : List Value := [.int .i64 s.dir, .int .i64 s.size]
theorem stC_len (s : Stroke) : (stC s).length = 2 := rfl
def stVal (s : Stroke) : Value := .agg #[.int .i64 s.dir, .int .i64 s.size]

/-- What a law is told of an argument of type []Stroke. -/
def StrokesIn (w : World) (B : Nat) (A : Option Addr) (n c : Nat) (ss : List Stroke) : Prop :=
  ss.length = n ∧ n ≤ c ∧ c ≤ maxLen ∧ Row w B A n 2 (ss.flatMap stC) ∧ ∀ s ∈ ss, s.good

/-- A written form as a value: its outline's slice, the strokes, the position. -/
structure Wr where
  A : Option Addr
  n : Nat
  c : Nat
  ss : List Stroke
  pos : Int
def wrC (x : Wr) : List Value := [.slice x.A x.n x.c, .int .i64 x.pos]
theorem wrC_len (x : Wr) : (wrC x).length = 2 := rfl
def wrVal (x : Wr) : Value := .agg #[.slice x.A x.n x.c, .int .i64 x.pos]
def WrIn (w : World) (B : Nat) (x : Wr) : Prop := StrokesIn w B x.A x.n x.c x.ss ∧ (Lit.int .i64 x.pos).wf = true
/-- What a law is told of an argument of type []Written. -/
def WrsIn (w : World) (B : Nat) (A : Option Addr) (n c : Nat) (xs : List Wr) : Prop :=
  xs.length = n ∧ n ≤ c ∧ c ≤ maxLen ∧ Row w B A n 2 (xs.flatMap wrC) ∧ ∀ x ∈ xs, WrIn w B x

section
variable {H : Type} {enc : TypeId × Value → H} {W : World} {base : Nat} {v : Value} {d : DataW H} {p : List MemPlace}




end

-- how such lists are kept and read
theorem StrokesIn.below {w w' : World} {B n c : Nat} {A : Option Addr} {ss : List Stroke} (h : StrokesIn w B A n c ss) (hb : Below B w w') : StrokesIn w' B A n c ss :=
  ⟨h.1, h.2.1, h.2.2.1, h.2.2.2.1.below hb, h.2.2.2.2⟩
theorem StrokesIn.more {w : World} {B B' n c : Nat} {A : Option Addr} {ss : List Stroke} (h : StrokesIn w B A n c ss) (hb : B ≤ B') : StrokesIn w B' A n c ss :=
  ⟨h.1, h.2.1, h.2.2.1, h.2.2.2.1.more hb, h.2.2.2.2⟩
theorem StrokesIn.keep {w w' : World} {n c : Nat} {A : Option Addr} {ss : List Stroke} (h : StrokesIn w w.heap.size A n c ss) (hb : Below w.heap.size w w') : StrokesIn w' w'.heap.size A n c ss := (h.below hb).more hb.size
theorem strokeAt_some {ss : List Stroke} {k : Nat} (h : k < ss.length) : ss[k]? = some (strokeAt ss k) := by
  unfold strokeAt; simp [List.getD, List.getElem?_eq_getElem h]
theorem strokeAt_mem {ss : List Stroke} {k : Nat} (h : k < ss.length) : strokeAt ss k ∈ ss := List.mem_of_getElem? (strokeAt_some h)
theorem StrokesIn.at_ {w : World} {B n c k : Nat} {A : Option Addr} {ss : List Stroke} (h : StrokesIn w B A n c ss) (hk : k < n) :
    ∃ b off, A = some ⟨b, off, none⟩ ∧ b < B ∧ w.cell? ⟨b, off + k * 2, none⟩ = some (.int .i64 (strokeAt ss k).dir) ∧ w.cell? ⟨b, off + k * 2 + 1, none⟩ = some (.int .i64 (strokeAt ss k).size) ∧ (strokeAt ss k).good := by
  obtain ⟨h1, _, _, h4, h5⟩ := h
  obtain ⟨b, off, eA, hbB, hc⟩ := h4.2 (by omega)
  have hs := strokeAt_some (ss := ss) (k := k) (by omega)
  have hm := strokeAt_mem (ss := ss) (k := k) (by omega)
  refine ⟨b, off, eA, hbB, ?_, ?_, h5 _ hm⟩
  · have := hc (k * 2 + 0) _ (flat_at stC_len ss k _ 0 (.int .i64 (strokeAt ss k).dir) hs rfl)
    simpa using this
  · have := hc (k * 2 + 1) _ (flat_at stC_len ss k _ 1 (.int .i64 (strokeAt ss k).size) hs rfl)
    rwa [← Nat.add_assoc] at this
def WrsIn.wr0 : Wr := ⟨none, 0, 0, [], 0⟩
def wrAt (xs : List Wr) (k : Nat) : Wr := xs.getD k WrsIn.wr0
theorem wrAt_some {xs : List Wr} {k : Nat} (h : k < xs.length) : xs[k]? = some (wrAt xs k) := by
  unfold wrAt; simp [List.getD, List.getElem?_eq_getElem h]
theorem wrAt_mem {xs : List Wr} {k : Nat} (h : k < xs.length) : wrAt xs k ∈ xs := List.mem_of_getElem? (wrAt_some h)
theorem WrIn.below {w w' : World} {B : Nat} {x : Wr} (h : WrIn w B x) (hb : Below B w w') : WrIn w' B x := ⟨h.1.below hb, h.2⟩
theorem WrIn.more {w : World} {B B' : Nat} {x : Wr} (h : WrIn w B x) (hb : B ≤ B') : WrIn w B' x := ⟨h.1.more hb, h.2⟩
theorem WrIn.keep {w w' : World} {x : Wr} (h : WrIn w w.heap.size x) (hb : Below w.heap.size w w') : WrIn w' w'.heap.size x := (h.below hb).more hb.size
theorem WrsIn.below {w w' : World} {B n c : Nat} {A : Option Addr} {xs : List Wr} (h : WrsIn w B A n c xs) (hb : Below B w w') : WrsIn w' B A n c xs :=
  ⟨h.1, h.2.1, h.2.2.1, h.2.2.2.1.below hb, fun x hx => (h.2.2.2.2 x hx).below hb⟩
theorem WrsIn.more {w : World} {B B' n c : Nat} {A : Option Addr} {xs : List Wr} (h : WrsIn w B A n c xs) (hb : B ≤ B') : WrsIn w B' A n c xs :=
  ⟨h.1, h.2.1, h.2.2.1, h.2.2.2.1.more hb, fun x hx => (h.2.2.2.2 x hx).more hb⟩
theorem WrsIn.keep {w w' : World} {n c : Nat} {A : Option Addr} {xs : List Wr} (h : WrsIn w w.heap.size A n c xs) (hb : Below w.heap.size w w') : WrsIn w' w'.heap.size A n c xs := (h.below hb).more hb.size
theorem WrsIn.at_ {w : World} {B n c k : Nat} {A : Option Addr} {xs : List Wr} (h : WrsIn w B A n c xs) (hk : k < n) :
    ∃ b off, A = some ⟨b, off, none⟩ ∧ b < B ∧ w.cell? ⟨b, off + k * 2, none⟩ = some (.slice (wrAt xs k).A (wrAt xs k).n (wrAt xs k).c) ∧ w.cell? ⟨b, off + k * 2 + 1, none⟩ = some (.int .i64 (wrAt xs k).pos) ∧ WrIn w B (wrAt xs k) := by
  obtain ⟨h1, _, _, h4, h5⟩ := h
  obtain ⟨b, off, eA, hbB, hc⟩ := h4.2 (by omega)
  have hs := wrAt_some (xs := xs) (k := k) (by omega)
  have hm := wrAt_mem (xs := xs) (k := k) (by omega)
  refine ⟨b, off, eA, hbB, ?_, ?_, h5 _ hm⟩
  · have := hc (k * 2 + 0) _ (flat_at wrC_len xs k _ 0 (.slice (wrAt xs k).A (wrAt xs k).n (wrAt xs k).c) hs rfl)
    simpa using this
  · have := hc (k * 2 + 1) _ (flat_at wrC_len xs k _ 1 (.int .i64 (wrAt xs k).pos) hs rfl)
    rwa [← Nat.add_assoc] at this
/-- A row of strokes of the call's own. -/
def StrOwn (w : World) (B : Nat) (v : Value) (ss : List Stroke) : Prop := w.ownsRow B 88 2 v ss.length (ss.flatMap stC)
end Go.Proofs.YtppjjbjjbmodbaaDoor
