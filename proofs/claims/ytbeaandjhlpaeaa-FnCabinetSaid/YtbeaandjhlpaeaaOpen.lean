/-
  How the arguments of the laws lie in memory: a pad, a list of pads, a list of drawers, bytes, a string, a number. Conditions: none.
-/
import Derived.Test.YtbeaandjhlpaeaaWord
import Derived.Deep.Slices
import Derived.Lib.SmallJoins
import Derived.ChangeOld
import Derived.Laws.OwnMore
import Derived.Deep.AppendLies
import Derived.Deep.Draws
namespace Go.Proofs.Ytbeaandjhlpaeaa
open Go.ChangeShapes Go.WideShapes Go.ChangeAt Go.RowKit Go.Joins

set_option maxRecDepth 100000

theorem own : ownKnob Try.prog.godebug = none := by kernel_rfl
theorem laidOut : laidOutB Try.prog = true := by kernel_rfl

/-- The slice value '.slice A n c' holds n elements of sz cells each, the cells xs; they lie below block B. -/
def Row (w : World) (B : Nat) (A : Option Addr) (n sz : Nat) (xs : List Value) : Prop :=
  xs.length = n * sz ∧ (0 < n → ∃ b off, A = some ⟨b, off, none⟩ ∧ b < B ∧ ∀ (j : Nat) u, xs[j]? = some u → w.cell? ⟨b, off + j, none⟩ = some u)

section
variable {w w' : World} {B B' n sz : Nat} {A : Option Addr} {xs : List Value}
theorem Row.keep (h : Row w B A n sz xs) (hk : ∀ p : Addr, p.block < B → w'.cell? p = w.cell? p) : Row w' B A n sz xs :=
  ⟨h.1, fun hn => by
    obtain ⟨b, off, e, hb, hc⟩ := h.2 hn
    exact ⟨b, off, e, hb, fun j u hu => (hk ⟨b, off + j, none⟩ hb).trans (hc j u hu)⟩⟩
theorem Row.more (h : Row w B A n sz xs) (hB : B ≤ B') : Row w B' A n sz xs :=
  ⟨h.1, fun hn => by
    obtain ⟨b, off, e, hb, hc⟩ := h.2 hn
    exact ⟨b, off, e, by omega, hc⟩⟩
theorem Row.below (h : Row w B A n sz xs) (hb : Below B w w') : Row w' B A n sz xs := h.keep fun _ hp => hb.cell hp
theorem Row.of_own {base : Nat} {e : TypeId} {c : Nat} (h : w.ownsRow base e sz (.slice A n c) n xs) : Row w w.heap.size A n sz xs := by
  refine ⟨h.1, fun hn => ?_⟩
  obtain ⟨g, cap, hv, _, hlt⟩ := h.form hn
  have hA : A = some ⟨g, 0, none⟩ := by injection hv
  subst hA
  refine ⟨g, 0, rfl, hlt, fun j u hu => ?_⟩
  have := h.cells (g := g) rfl j u hu
  by_cases hj : j = 0
  · subst hj; simpa [Addr.add] using this
  · simpa [Addr.add, hj] using this
end

section
variable {α : Type} {ea : α → List Value} {sz : Nat}
theorem flat_len (hl : ∀ a, (ea a).length = sz) : ∀ l : List α, (l.flatMap ea).length = l.length * sz
  | [] => by simp
  | y :: l => by simp only [List.flatMap_cons, List.length_append, flat_len hl l, hl, List.length_cons, Nat.add_mul]; omega
theorem flat_get (hl : ∀ a, (ea a).length = sz) : ∀ (l : List α) (j : Nat) (u : Value), (l.flatMap ea)[j]? = some u → ∃ (i : Nat) (q : α) (k : Nat), l[i]? = some q ∧ (ea q)[k]? = some u ∧ j = i * sz + k
  | [], j, u, hu => by simp at hu
  | y :: l, j, u, hu => by
    rw [List.flatMap_cons] at hu
    by_cases hj : j < (ea y).length
    · rw [List.getElem?_append_left hj] at hu
      exact ⟨0, y, j, by simp, hu, by simp⟩
    · rw [List.getElem?_append_right (by omega)] at hu
      obtain ⟨i, q, k, e1, e2, e3⟩ := flat_get hl l _ _ hu
      refine ⟨i + 1, q, k, by simpa using e1, e2, ?_⟩
      rw [hl] at hj e3
      rw [Nat.add_mul]; omega
theorem flat_at (hl : ∀ a, (ea a).length = sz) : ∀ (l : List α) (i : Nat) (q : α) (k : Nat) (u : Value), l[i]? = some q → (ea q)[k]? = some u → (l.flatMap ea)[i * sz + k]? = some u
  | [], i, q, k, u, h, _ => by simp at h
  | y :: l, 0, q, k, u, h, hk => by
    simp at h; subst h
    rw [List.flatMap_cons, List.getElem?_append_left (by have := (List.getElem?_eq_some_iff.1 hk).1; omega)]
    simpa using hk
  | y :: l, i + 1, q, k, u, h, hk => by
    rw [List.flatMap_cons, List.getElem?_append_right (by rw [hl, Nat.add_mul]; omega)]
    have := flat_at hl l i q k u (by simpa using h) hk
    rw [hl, show (i + 1) * sz + k - sz = i * sz + k by rw [Nat.add_mul]; omega]
    exact this

theorem rows_key {good : α → Prop} {W : World} {a : Addr} : ∀ len : Nat, (∀ i : Nat, i < len → ∃ q : α, good q ∧ ∀ (j : Nat) u, (ea q)[j]? = some u → W.cell? ((a.add (i * sz)).add j) = some u) →
    ∃ l : List α, l.length = len ∧ (∀ q ∈ l, good q) ∧ ∀ (i : Nat) q, l[i]? = some q → ∀ (j : Nat) u, (ea q)[j]? = some u → W.cell? ((a.add (i * sz)).add j) = some u
  | 0, _ => ⟨[], rfl, by simp, by simp⟩
  | k + 1, key => by
    obtain ⟨l, h1, h2, h3⟩ := rows_key k (fun i hi => key i (by omega))
    obtain ⟨q, hq1, hq2⟩ := key k (by omega)
    refine ⟨l ++ [q], by simp [h1], ?_, ?_⟩
    · intro q' hq'
      rcases List.mem_append.1 hq' with h | h
      · exact h2 _ h
      · simp at h; subst h; exact hq1
    · intro i q' hi'
      by_cases hik : i < l.length
      · rw [List.getElem?_append_left hik] at hi'; exact h3 i q' hi'
      · rw [List.getElem?_append_right (by omega)] at hi'
        have : i = k := by
          have := (List.getElem?_eq_some_iff.1 hi').1
          simp at this; omega
        subst this
        simp [h1] at hi'; subst hi'; exact hq2
end

section
variable {H : Type} {enc : TypeId × Value → H} {W : World} {base : Nat} {v : Value} {d : DataW H} {p : List MemPlace}

theorem openInt (hv : Value.okWide Try.prog W .any base 3 v) (h : DataW.Trod enc Try.prog W 0 (fun _ => true) true 3 v d p) : ∃ x : Int, v = .int .i64 x ∧ (Lit.int .i64 x).wf = true := by
  obtain ⟨x, rfl, _, _, wx⟩ := open_int Try.underlying3 hv h
  exact ⟨x, rfl, wx⟩

/-- The elements of a slice, each read by its own law. -/
theorem openRows {α : Type} (sz : Nat) (ea : α → List Value) (good : α → Prop) {t e : TypeId} (ht : Try.prog.underlying t = some (.slice e)) (hC : Try.prog.cellsOf e = sz)
    (hR : ∀ (fuel : Nat) (cs : List Value) (x : DataW H × List MemPlace), cs.length = sz → DataW.trod enc Try.prog W 0 (fun _ => true) true fuel e cs = some x → ∃ a, cs = ea a ∧ good a)
    (hl : ∀ a, (ea a).length = sz) (hsz0 : sz ≠ 0)
    {fuel : Nat} {cs : List Value} {x : DataW H × List MemPlace} (h : DataW.trod enc Try.prog W 0 (fun _ => true) true fuel t cs = some x) :
    ∃ (A : Option Addr) (n c : Nat) (l : List α), cs = [.slice A n c] ∧ l.length = n ∧ n ≤ c ∧ c ≤ maxLen ∧ Row W W.heap.size A n sz (l.flatMap ea) ∧ ∀ a ∈ l, good a := by
  rcases Go.Deep.open_slice ht h with ⟨rfl, _⟩ | ⟨a, len, cap, m, n, D, Pl, rfl, hb, hlen, hm, hmm, _, hx⟩
  · exact ⟨none, 0, 0, [], rfl, rfl, Nat.le_refl _, Nat.zero_le _, ⟨by simp, fun h => absurd h (by omega)⟩, by simp⟩
  have hmm' : m = cap := by simpa using hmm
  have key : ∀ i : Nat, i < len → ∃ q : α, good q ∧ ∀ (j : Nat) u, (ea q)[j]? = some u → W.cell? ((a.add (i * sz)).add j) = some u := by
    intro i hi
    obtain ⟨cs', h1, h2⟩ := hx i (by omega)
    rw [hC] at h1
    obtain ⟨_, hcl, hat⟩ := World.cells?_some h1
    obtain ⟨q, rfl, hg⟩ := hR _ _ _ hcl h2
    refine ⟨q, hg, fun j u hu => ?_⟩
    have hj : j < sz := by
      have := (List.getElem?_eq_some_iff.1 hu).1
      rw [hl] at this; exact this
    rw [hat j hj, hu]
  obtain ⟨l, h1, h2, h3⟩ := rows_key (ea := ea) len key
  refine ⟨some a, len, cap, l, rfl, h1, hlen, hm, ⟨by rw [flat_len hl, h1], fun hn => ?_⟩, h2⟩
  obtain ⟨b, off, spot⟩ := a
  have hcell : ∀ (j : Nat) u, (l.flatMap ea)[j]? = some u → W.cell? ((⟨b, off, spot⟩ : Addr).add j) = some u := by
    intro j u hu
    obtain ⟨i, q, k, e1, e2, rfl⟩ := flat_get hl l j u hu
    have := h3 i q e1 k u e2
    rwa [Go.Deep.add_add] at this
  have hpos : 0 < (l.flatMap ea).length := by rw [flat_len hl, h1]; exact Nat.mul_pos hn (by omega)
  obtain ⟨u, hu⟩ : ∃ u, (l.flatMap ea)[0]? = some u := ⟨_, List.getElem?_eq_getElem hpos⟩
  have h00 := hcell 0 u hu
  have hsp : spot = none := by simpa [Addr.add] using World.cell?_spot h00
  subst hsp
  refine ⟨b, off, rfl, by simpa [Addr.add] using World.block_lt_of_cell? _ _ h00, fun j u hu => ?_⟩
  have := hcell j u hu
  by_cases hj0 : j = 0
  · subst hj0; simpa [Addr.add] using this
  · simpa [Addr.add, hj0] using this

theorem okSlice {e t : TypeId} (ht : Try.prog.underlying t = some (.slice e)) (hv : Value.okWide Try.prog W .any base t v) (h : DataW.Trod enc Try.prog W 0 (fun _ => true) true t v d p) :
    ∃ fuel, DataW.trod enc Try.prog W 0 (fun _ => true) true fuel t [v] = some (d, p) := by
  obtain ⟨a, len, cap, rfl⟩ := okWide_slice ht hv
  obtain ⟨fuel, hf⟩ := h
  exact ⟨fuel, by simpa [Value.cells] using hf⟩

/-- A pad: its day and its case. -/
structure Pad where
  day : Int
  case : ByteArray
def Pad.good (p : Pad) : Prop := (Lit.int .i64 p.day).wf = true ∧ p.case.size ≤ maxLen
def padC (p : Pad) : List Value := [.int .i64 p.day, .string p.case]
theorem padC_len (p : Pad) : (padC p).length = 2 := rfl

theorem openPad (hv : Value.okWide Try.prog W .any base 23 v) (h : DataW.Trod enc Try.prog W 0 (fun _ => true) true 23 v d p) :
    ∃ (x : Int) (c : ByteArray), v = .agg #[.int .i64 x, .string c] ∧ (Lit.int .i64 x).wf = true ∧ c.size ≤ maxLen := by
  obtain ⟨c0, c1, y0, y1, m, rfl, rfl, rfl, hy0, hy1⟩ := open_agg2 Try.underlying23 (by kernel_rfl) (by kernel_rfl) hv h
  obtain ⟨x, e0, _, wx⟩ := DataW.trod_int Try.underlying3 hy0
  obtain ⟨s, e1, _, hs⟩ := DataW.trod_string Try.underlying9 hy1
  simp at e0 e1; subst e0 e1
  exact ⟨x, s, rfl, wx, hs⟩

theorem trod_cells2 {t : TypeId} {f0 f1 : Field} {fuel : Nat} {c0 c1 : Value} {x : DataW H × List MemPlace} (hs : Try.prog.underlying t = some (.struct #[f0, f1])) (hone : Go.Deep.oneCellFields Try.prog #[f0, f1] = true)
    (h : DataW.trod enc Try.prog W 0 (fun _ => true) true fuel t [c0, c1] = some x) :
    ∃ y0 y1 n, DataW.trod enc Try.prog W 0 (fun _ => true) true n f0.type [c0] = some y0 ∧ DataW.trod enc Try.prog W 0 (fun _ => true) true n f1.type [c1] = some y1 := by
  obtain ⟨y0, y1, n, hx, _, h0, h1⟩ := trod_struct2 hs h
  obtain ⟨o0, k0⟩ := Go.Deep.hone_of hone 0 f0 rfl
  obtain ⟨o1, k1⟩ := Go.Deep.hone_of hone 1 f1 rfl
  exact ⟨y0, y1, n, by simpa [o0, k0] using h0, by simpa [o1, k1] using h1⟩

theorem trodPad (fuel : Nat) (cs : List Value) (x : DataW H × List MemPlace) (hlen : cs.length = 2) (h : DataW.trod enc Try.prog W 0 (fun _ => true) true fuel 23 cs = some x) :
    ∃ a : Pad, cs = padC a ∧ a.good := by
  match cs, hlen with
  | [c0, c1], _ =>
    obtain ⟨y0, y1, n, h0, h1⟩ := trod_cells2 Try.underlying23 (by kernel_rfl) h
    obtain ⟨z, e0, _, wx⟩ := DataW.trod_int Try.underlying3 h0
    obtain ⟨s, e1, _, hs⟩ := DataW.trod_string Try.underlying9 h1
    simp at e0 e1; subst e0 e1
    exact ⟨⟨z, s⟩, rfl, wx, hs⟩

/-- What a law is told of an argument of type []Pad. -/
def PadsIn (w : World) (B : Nat) (A : Option Addr) (n c : Nat) (ps : List Pad) : Prop :=
  ps.length = n ∧ n ≤ c ∧ c ≤ maxLen ∧ Row w B A n 2 (ps.flatMap padC) ∧ ∀ p ∈ ps, p.good

theorem trodPads {t : TypeId} (ht : Try.prog.underlying t = some (.slice 23)) (fuel : Nat) (cs : List Value) (x : DataW H × List MemPlace) (h : DataW.trod enc Try.prog W 0 (fun _ => true) true fuel t cs = some x) :
    ∃ A n c ps, cs = [.slice A n c] ∧ PadsIn W W.heap.size A n c ps := by
  obtain ⟨A, n, c, l, h1, h2, h3, h4, h5, h6⟩ := openRows 2 padC Pad.good ht (by kernel_rfl) (fun fuel cs x => trodPad fuel cs x) padC_len (by omega) h
  exact ⟨A, n, c, l, h1, h2, h3, h4, h5, h6⟩

theorem openPads (hv : Value.okWide Try.prog W .any base 74 v) (h : DataW.Trod enc Try.prog W 0 (fun _ => true) true 74 v d p) :
    ∃ A n c ps, v = .slice A n c ∧ PadsIn W W.heap.size A n c ps := by
  obtain ⟨fuel, hf⟩ := okSlice Try.underlying74 hv h
  obtain ⟨A, n, c, ps, h1, h2⟩ := trodPads Try.underlying74 _ _ _ hf
  exact ⟨A, n, c, ps, by simpa using h1, h2⟩

/-- A drawer as a value: the slice, and its pads. -/
structure Drawer where
  A : Option Addr
  n : Nat
  c : Nat
  ps : List Pad
def drawerC (d : Drawer) : List Value := [.slice d.A d.n d.c]
theorem drawerC_len (d : Drawer) : (drawerC d).length = 1 := rfl

/-- What a law is told of an argument of type [][]Pad. -/
def DrawersIn (w : World) (B : Nat) (A : Option Addr) (n c : Nat) (ds : List Drawer) : Prop :=
  ds.length = n ∧ n ≤ c ∧ c ≤ maxLen ∧ Row w B A n 1 (ds.flatMap drawerC) ∧ ∀ d ∈ ds, PadsIn w B d.A d.n d.c d.ps

theorem openPadss (hv : Value.okWide Try.prog W .any base 36 v) (h : DataW.Trod enc Try.prog W 0 (fun _ => true) true 36 v d p) :
    ∃ A n c ds, v = .slice A n c ∧ DrawersIn W W.heap.size A n c ds := by
  obtain ⟨fuel, hf⟩ := okSlice Try.underlying36 hv h
  obtain ⟨A, n, c, l, h1, h2, h3, h4, h5, h6⟩ := openRows 1 drawerC (fun d => PadsIn W W.heap.size d.A d.n d.c d.ps) Try.underlying36 (by kernel_rfl) (fun fuel cs x _ hx => by
    obtain ⟨A, n, c, ps, e, h⟩ := trodPads Try.underlying74 fuel cs x hx
    exact ⟨⟨A, n, c, ps⟩, e, h⟩) drawerC_len (by omega) hf
  exact ⟨A, n, c, l, by simpa using h1, h2, h3, h4, h5, h6⟩

/-- What a law is told of an argument of type []byte. -/
def BytesIn (w : World) (B : Nat) (A : Option Addr) (n c : Nat) (bs : List Int) : Prop :=
  bs.length = n ∧ n ≤ c ∧ c ≤ maxLen ∧ Row w B A n 1 (bs.flatMap fun z => [.int .u8 z]) ∧ ∀ z ∈ bs, 0 ≤ z ∧ z ≤ 255

theorem openBytes (hv : Value.okWide Try.prog W .any base 32 v) (h : DataW.Trod enc Try.prog W 0 (fun _ => true) true 32 v d p) :
    ∃ A n c bs, v = .slice A n c ∧ BytesIn W W.heap.size A n c bs := by
  obtain ⟨fuel, hf⟩ := okSlice Try.underlying32 hv h
  obtain ⟨A, n, c, l, h1, h2, h3, h4, h5, h6⟩ := openRows 1 (fun z : Int => [Value.int .u8 z]) (fun z => 0 ≤ z ∧ z ≤ 255) Try.underlying32 (by kernel_rfl) (fun fuel cs x _ hx => by
    obtain ⟨z, e, _, wz⟩ := DataW.trod_int Try.underlying5 hx
    exact ⟨z, e, by simpa [Lit.wf, IntKind.min, IntKind.max, IntKind.signed, IntKind.bits] using wz⟩) (fun _ => rfl) (by omega) hf
  exact ⟨A, n, c, l, by simpa using h1, h2, h3, h4, h5, h6⟩

theorem openStr (hv : Value.okWide Try.prog W .any base 9 v) (h : DataW.Trod enc Try.prog W 0 (fun _ => true) true 9 v d p) : ∃ s : ByteArray, v = .string s ∧ s.size ≤ maxLen := by
  obtain ⟨s, rfl, _, _, hs⟩ := Go.ChangeMaps.open_string Try.underlying9 hv h
  exact ⟨s, rfl, hs⟩
end
end Go.Proofs.Ytbeaandjhlpaeaa
