/-
  How strokes, outlines and written forms lie in memory. Conditions: none.
-/
import Derived.Test.YtppjjbjjbmodbaaBase
import Derived.Test.YtppjjbjjbmodbaaStrokeLaw
namespace Go.Proofs.Ytppjjbjjbmodbaa
open Go.ChangeShapes Go.WideShapes Go.ChangeAt Go.RowKit Go.Joins

set_option maxRecDepth 100000

def Stroke.good (s : Stroke) : Prop := (Lit.int .i64 s.dir).wf = true ∧ (Lit.int .i64 s.size).wf = true
def stC (s : Stroke) : List Value := [.int .i64 s.dir, .int .i64 s.size]
theorem stC_len (s : Stroke) : (stC s).length = 2 := rfl
def stVal (s : Stroke) : Value := .agg #[.int .i64 s.dir, .int .i64 s.size]

/-- What a law is told of an argument of type []Stroke. -/
def StrokesIn (w : World) (B : Nat) (A : Option Addr) (n c : Nat) (ss : List Stroke) : Prop :=
  ss.length = n ∧ n ≤ c ∧ c ≤ maxLen ∧ Row w B A n 2 (ss.flatMap stC) ∧ ∀ s ∈ ss, s.good

/-- A written form as a value: its outline's slice, the strokes, the position. -/
structure Wr where
  A : Option Addr
  n : Nat
  c : Nat
  ss : List Stroke
  pos : Int
def wrC (x : Wr) : List Value := [.slice x.A x.n x.c, .int .i64 x.pos]
theorem wrC_len (x : Wr) : (wrC x).length = 2 := rfl
def wrVal (x : Wr) : Value := .agg #[.slice x.A x.n x.c, .int .i64 x.pos]
def WrIn (w : World) (B : Nat) (x : Wr) : Prop := StrokesIn w B x.A x.n x.c x.ss ∧ (Lit.int .i64 x.pos).wf = true
/-- What a law is told of an argument of type []Written. -/
def WrsIn (w : World) (B : Nat) (A : Option Addr) (n c : Nat) (xs : List Wr) : Prop :=
  xs.length = n ∧ n ≤ c ∧ c ≤ maxLen ∧ Row w B A n 2 (xs.flatMap wrC) ∧ ∀ x ∈ xs, WrIn w B x

section
variable {H : Type} {enc : TypeId × Value → H} {W : World} {base : Nat} {v : Value} {d : DataW H} {p : List MemPlace}

theorem openStroke (hv : Value.okWide Try.prog W .any base 104 v) (h : DataW.Trod enc Try.prog W 0 (fun _ => true) true 104 v d p) :
    ∃ (x z : Int), v = .agg #[.int .i64 x, .int .i64 z] ∧ (Lit.int .i64 x).wf = true ∧ (Lit.int .i64 z).wf = true := by
  obtain ⟨c0, c1, y0, y1, m, rfl, rfl, rfl, hy0, hy1⟩ := open_agg2 Try.underlying104 (by kernel_rfl) (by kernel_rfl) hv h
  obtain ⟨x, e0, _, wx⟩ := DataW.trod_int Try.underlying3 hy0
  obtain ⟨z, e1, _, wz⟩ := DataW.trod_int Try.underlying3 hy1
  simp at e0 e1; subst e0 e1
  exact ⟨x, z, rfl, wx, wz⟩

theorem trodStroke (fuel : Nat) (cs : List Value) (x : DataW H × List MemPlace) (hlen : cs.length = 2) (h : DataW.trod enc Try.prog W 0 (fun _ => true) true fuel 104 cs = some x) :
    ∃ a : Stroke, cs = stC a ∧ a.good := by
  match cs, hlen with
  | [c0, c1], _ =>
    obtain ⟨y0, y1, n, h0, h1⟩ := trod_cells2 Try.underlying104 (by kernel_rfl) h
    obtain ⟨x, e0, _, wx⟩ := DataW.trod_int Try.underlying3 h0
    obtain ⟨z, e1, _, wz⟩ := DataW.trod_int Try.underlying3 h1
    simp at e0 e1; subst e0 e1
    exact ⟨⟨x, z⟩, rfl, wx, wz⟩

theorem trodStrokes {t : TypeId} (ht : Try.prog.underlying t = some (.slice 104)) (fuel : Nat) (cs : List Value) (x : DataW H × List MemPlace) (h : DataW.trod enc Try.prog W 0 (fun _ => true) true fuel t cs = some x) :
    ∃ A n c ss, cs = [.slice A n c] ∧ StrokesIn W W.heap.size A n c ss := by
  obtain ⟨A, n, c, l, h1, h2, h3, h4, h5, h6⟩ := openRows 2 stC Stroke.good ht (by kernel_rfl) (fun fuel cs x => trodStroke fuel cs x) stC_len (by omega) h
  exact ⟨A, n, c, l, h1, h2, h3, h4, h5, h6⟩

theorem openStrokes (hv : Value.okWide Try.prog W .any base 48 v) (h : DataW.Trod enc Try.prog W 0 (fun _ => true) true 48 v d p) :
    ∃ A n c ss, v = .slice A n c ∧ StrokesIn W W.heap.size A n c ss := by
  obtain ⟨fuel, hf⟩ := okSlice Try.underlying48 hv h
  obtain ⟨A, n, c, ps, h1, h2⟩ := trodStrokes Try.underlying48 _ _ _ hf
  exact ⟨A, n, c, ps, by simpa using h1, h2⟩

theorem openWritten (hv : Value.okWide Try.prog W .any base 50 v) (h : DataW.Trod enc Try.prog W 0 (fun _ => true) true 50 v d p) :
    ∃ A n c ss x, v = .agg #[.slice A n c, .int .i64 x] ∧ StrokesIn W W.heap.size A n c ss ∧ (Lit.int .i64 x).wf = true := by
  obtain ⟨c0, c1, y0, y1, m, rfl, rfl, rfl, hy0, hy1⟩ := open_agg2 Try.underlying50 (by kernel_rfl) (by kernel_rfl) hv h
  obtain ⟨A, n, c, ss, e0, hS⟩ := trodStrokes Try.underlying48 _ _ _ hy0
  obtain ⟨x, e1, _, wx⟩ := DataW.trod_int Try.underlying3 hy1
  simp at e0 e1; subst e0 e1
  exact ⟨A, n, c, ss, x, rfl, hS, wx⟩

theorem trodWritten (fuel : Nat) (cs : List Value) (x : DataW H × List MemPlace) (hlen : cs.length = 2) (h : DataW.trod enc Try.prog W 0 (fun _ => true) true fuel 50 cs = some x) :
    ∃ a : Wr, cs = wrC a ∧ WrIn W W.heap.size a := by
  match cs, hlen with
  | [c0, c1], _ =>
    obtain ⟨y0, y1, n, h0, h1⟩ := trod_cells2 Try.underlying50 (by kernel_rfl) h
    obtain ⟨A, n, c, ss, e0, hS⟩ := trodStrokes Try.underlying48 _ _ _ h0
    obtain ⟨z, e1, _, wz⟩ := DataW.trod_int Try.underlying3 h1
    simp at e0 e1; subst e0 e1
    exact ⟨⟨A, n, c, ss, z⟩, rfl, hS, wz⟩

theorem openWrittens (hv : Value.okWide Try.prog W .any base 64 v) (h : DataW.Trod enc Try.prog W 0 (fun _ => true) true 64 v d p) :
    ∃ A n c xs, v = .slice A n c ∧ WrsIn W W.heap.size A n c xs := by
  obtain ⟨fuel, hf⟩ := okSlice Try.underlying64 hv h
  obtain ⟨A, n, c, l, h1, h2, h3, h4, h5, h6⟩ := openRows 2 wrC (WrIn W W.heap.size) Try.underlying64 (by kernel_rfl) (fun fuel cs x => trodWritten fuel cs x) wrC_len (by omega) hf
  exact ⟨A, n, c, l, by simpa using h1, h2, h3, h4, h5, h6⟩
end

-- how such lists are kept and read
theorem StrokesIn.below {w w' : World} {B n c : Nat} {A : Option Addr} {ss : List Stroke} (h : StrokesIn w B A n c ss) (hb : Below B w w') : StrokesIn w' B A n c ss :=
  ⟨h.1, h.2.1, h.2.2.1, h.2.2.2.1.below hb, h.2.2.2.2⟩
theorem StrokesIn.more {w : World} {B B' n c : Nat} {A : Option Addr} {ss : List Stroke} (h : StrokesIn w B A n c ss) (hb : B ≤ B') : StrokesIn w B' A n c ss :=
  ⟨h.1, h.2.1, h.2.2.1, h.2.2.2.1.more hb, h.2.2.2.2⟩
theorem StrokesIn.keep {w w' : World} {n c : Nat} {A : Option Addr} {ss : List Stroke} (h : StrokesIn w w.heap.size A n c ss) (hb : Below w.heap.size w w') : StrokesIn w' w'.heap.size A n c ss := (h.below hb).more hb.size
theorem strokeAt_some {ss : List Stroke} {k : Nat} (h : k < ss.length) : ss[k]? = some (strokeAt ss k) := by
  unfold strokeAt; simp [List.getD, List.getElem?_eq_getElem h]
theorem strokeAt_mem {ss : List Stroke} {k : Nat} (h : k < ss.length) : strokeAt ss k ∈ ss := List.mem_of_getElem? (strokeAt_some h)
theorem StrokesIn.at_ {w : World} {B n c k : Nat} {A : Option Addr} {ss : List Stroke} (h : StrokesIn w B A n c ss) (hk : k < n) :
    ∃ b off, A = some ⟨b, off, none⟩ ∧ b < B ∧ w.cell? ⟨b, off + k * 2, none⟩ = some (.int .i64 (strokeAt ss k).dir) ∧ w.cell? ⟨b, off + k * 2 + 1, none⟩ = some (.int .i64 (strokeAt ss k).size) ∧ (strokeAt ss k).good := by
  obtain ⟨h1, _, _, h4, h5⟩ := h
  obtain ⟨b, off, eA, hbB, hc⟩ := h4.2 (by omega)
  have hs := strokeAt_some (ss := ss) (k := k) (by omega)
  have hm := strokeAt_mem (ss := ss) (k := k) (by omega)
  refine ⟨b, off, eA, hbB, ?_, ?_, h5 _ hm⟩
  · have := hc (k * 2 + 0) _ (flat_at stC_len ss k _ 0 (.int .i64 (strokeAt ss k).dir) hs rfl)
    simpa using this
  · have := hc (k * 2 + 1) _ (flat_at stC_len ss k _ 1 (.int .i64 (strokeAt ss k).size) hs rfl)
    rwa [← Nat.add_assoc] at this
def WrsIn.wr0 : Wr := ⟨none, 0, 0, [], 0⟩
def wrAt (xs : List Wr) (k : Nat) : Wr := xs.getD k WrsIn.wr0
theorem wrAt_some {xs : List Wr} {k : Nat} (h : k < xs.length) : xs[k]? = some (wrAt xs k) := by
  unfold wrAt; simp [List.getD, List.getElem?_eq_getElem h]
theorem wrAt_mem {xs : List Wr} {k : Nat} (h : k < xs.length) : wrAt xs k ∈ xs := List.mem_of_getElem? (wrAt_some h)
theorem WrIn.below {w w' : World} {B : Nat} {x : Wr} (h : WrIn w B x) (hb : Below B w w') : WrIn w' B x := ⟨h.1.below hb, h.2⟩
theorem WrIn.more {w : World} {B B' : Nat} {x : Wr} (h : WrIn w B x) (hb : B ≤ B') : WrIn w B' x := ⟨h.1.more hb, h.2⟩
theorem WrIn.keep {w w' : World} {x : Wr} (h : WrIn w w.heap.size x) (hb : Below w.heap.size w w') : WrIn w' w'.heap.size x := (h.below hb).more hb.size
theorem WrsIn.below {w w' : World} {B n c : Nat} {A : Option Addr} {xs : List Wr} (h : WrsIn w B A n c xs) (hb : Below B w w') : WrsIn w' B A n c xs :=
  ⟨h.1, h.2.1, h.2.2.1, h.2.2.2.1.below hb, fun x hx => (h.2.2.2.2 x hx).below hb⟩
theorem WrsIn.more {w : World} {B B' n c : Nat} {A : Option Addr} {xs : List Wr} (h : WrsIn w B A n c xs) (hb : B ≤ B') : WrsIn w B' A n c xs :=
  ⟨h.1, h.2.1, h.2.2.1, h.2.2.2.1.more hb, fun x hx => (h.2.2.2.2 x hx).more hb⟩
theorem WrsIn.keep {w w' : World} {n c : Nat} {A : Option Addr} {xs : List Wr} (h : WrsIn w w.heap.size A n c xs) (hb : Below w.heap.size w w') : WrsIn w' w'.heap.size A n c xs := (h.below hb).more hb.size
theorem WrsIn.at_ {w : World} {B n c k : Nat} {A : Option Addr} {xs : List Wr} (h : WrsIn w B A n c xs) (hk : k < n) :
    ∃ b off, A = some ⟨b, off, none⟩ ∧ b < B ∧ w.cell? ⟨b, off + k * 2, none⟩ = some (.slice (wrAt xs k).A (wrAt xs k).n (wrAt xs k).c) ∧ w.cell? ⟨b, off + k * 2 + 1, none⟩ = some (.int .i64 (wrAt xs k).pos) ∧ WrIn w B (wrAt xs k) := by
  obtain ⟨h1, _, _, h4, h5⟩ := h
  obtain ⟨b, off, eA, hbB, hc⟩ := h4.2 (by omega)
  have hs := wrAt_some (xs := xs) (k := k) (by omega)
  have hm := wrAt_mem (xs := xs) (k := k) (by omega)
  refine ⟨b, off, eA, hbB, ?_, ?_, h5 _ hm⟩
  · have := hc (k * 2 + 0) _ (flat_at wrC_len xs k _ 0 (.slice (wrAt xs k).A (wrAt xs k).n (wrAt xs k).c) hs rfl)
    simpa using this
  · have := hc (k * 2 + 1) _ (flat_at wrC_len xs k _ 1 (.int .i64 (wrAt xs k).pos) hs rfl)
    rwa [← Nat.add_assoc] at this
/-- A row of strokes of the call's own. -/
def StrOwn (w : World) (B : Nat) (v : Value) (ss : List Stroke) : Prop := w.ownsRow B 99 2 v ss.length (ss.flatMap stC)
end Go.Proofs.Ytppjjbjjbmodbaa
