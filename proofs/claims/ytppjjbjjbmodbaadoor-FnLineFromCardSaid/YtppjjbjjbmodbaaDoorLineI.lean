/-
  A text read as a line, of the program. Conditions: the text is no longer than a law's texts.
-/
import Derived.Test.YtppjjbjjbmodbaaDoorSplit
import Derived.Maps.AppendAt
import Derived.Stop.RegionWithIn
namespace Go.Proofs.YtppjjbjjbmodbaaDoor
open Go.ChangeShapes Go.WideShapes Go.ChangeAt Go.RowKit Go.Shelf
set_option maxRecDepth 100000
set_option linter.unusedSimpArgs false

attribute [local go_sem] Oper.semAt_some
/-- append, closed to the walk. -/
def appW (ats : Array TypeId) (ty : TypeId) (args : Array Value) := Builtin.append_ ats ty args
theorem appW_eq (ats : Array TypeId) (ty : TypeId) (args : Array Value) : Builtin.append_ ats ty args = appW ats ty args := rfl
attribute [local go_sem ↓] appW_eq

/-- A form's strokes stay where another kind of block turns. -/
theorem Row.other {w w' : World} {B n sz : Nat} {A : Option Addr} {xs : List Value} {row : Option Nat} (h : Row w B A n sz xs) (hg : w.grownBy w' row) (hr : ∀ r, row = some r → ∃ o : Obj, w.heap[r]? = some o ∧ o.isCells = false) : Row w' B A n sz xs := by
  refine ⟨h.1, fun h0 => ?_⟩
  obtain ⟨b, off, e, hb, hc⟩ := h.2 h0
  refine ⟨b, off, e, hb, fun j x hx => ?_⟩
  have h1 := hc j x hx
  have hlt := World.block_lt_of_cell? _ _ h1
  have hne : some b ≠ row := fun e2 => by
    obtain ⟨o, ho, hcl⟩ := hr b e2.symm
    unfold World.cell? at h1
    rw [show (⟨b, off + j, none⟩ : Addr).block = b from rfl, ho] at h1
    cases o <;> simp_all [Obj.isCells]
  unfold World.cell? at h1 ⊢
  rw [hg.block _ hlt hne]
  exact h1
theorem Row.set {w : World} {B n sz : Nat} {A : Option Addr} {xs : List Value} (h : Row w B A n sz xs) {p : Addr} (hne : ∀ a, A = some a → a.block ≠ p.block) (u : Value) : Row (w.setCell p u) B A n sz xs := by
  refine ⟨h.1, fun h0 => ?_⟩
  obtain ⟨b, off, e, hb, hc⟩ := h.2 h0
  refine ⟨b, off, e, hb, fun j x hx => ?_⟩
  have h1 := hc j x hx
  unfold World.cell? at h1 ⊢
  rw [Below.heap_setCell w p u _ (hne _ e)]
  exact h1
theorem cut_pos (l : List UInt8) : 0 < (cutS l).length := by
  have : ∀ r cur, 0 < (cutP cur r).length := by
    intro r
    induction r with
    | nil => intro cur; simp [cutP]
    | cons c r ih =>
      intro cur
      show 0 < (if c = 32 then cur :: cutP [] r else cutP (cur ++ [c]) r).length
      split
      · simp
      · exact ih _
  exact this l []
theorem WrOwn.set {w : World} {B : Nat} {v : Value} {xs : List Wr} (h : WrOwn w B v xs) {p : Addr} (hv : ∀ g, v.ownBlock = some g → g ≠ p.block) (hx : ∀ x ∈ xs, ∀ a, x.A = some a → a.block ≠ p.block) (u : Value) : WrOwn (w.setCell p u) B v xs := by
  refine ⟨ownG_congr h.1 fun b hb => Below.heap_setCell w p u b (hv b hb), fun x hm => ⟨?_, fun a ha => ⟨((h.2 x hm).2 a ha).1, by simpa using ((h.2 x hm).2 a ha).2⟩⟩⟩
  have hx' := (h.2 x hm).1
  exact WrIn.more (B := w.heap.size) ⟨⟨hx'.1.1, hx'.1.2.1, hx'.1.2.2.1, hx'.1.2.2.2.1.set (hx x hm) u, hx'.1.2.2.2.2⟩, hx'.2⟩ (by simp)
theorem WrOwn.other {w w' : World} {B : Nat} {v : Value} {xs : List Wr} {row : Option Nat} (h : WrOwn w B v xs) (hg : w.grownBy w' row) (hr : ∀ r, row = some r → ∃ o : Obj, w.heap[r]? = some o ∧ o.isCells = false) : WrOwn w' B v xs := by
  refine ⟨ownG_congr h.1 fun b hb => ?_, fun x hm => ⟨?_, fun a ha => ⟨((h.2 x hm).2 a ha).1, Nat.lt_of_lt_of_le ((h.2 x hm).2 a ha).2 hg.size⟩⟩⟩
  · obtain ⟨cur, ho⟩ := ownG_obj h.1 hb
    refine hg.block b (ownG_lt h.1 hb) (fun e => ?_)
    obtain ⟨o, ho2, hcl⟩ := hr b e.symm
    rw [ho] at ho2; injection ho2 with ho2; subst ho2; cases hcl
  · have hx' := (h.2 x hm).1
    exact WrIn.more ⟨⟨hx'.1.1, hx'.1.2.1, hx'.1.2.2.1, hx'.1.2.2.2.1.other hg hr, hx'.1.2.2.2.2⟩, hx'.2⟩ hg.size
/-- What the loop has made. -/
def LineInv (b0 q n₀ : Nat) (w : World) (pre : List (List UInt8)) (W : World) : Prop :=
  ∃ v xs, Blk W b0 23 #[.slice none 0 0] ∧ Blk W (b0 + 1) 4 #[.bool false] ∧ Blk W q 23 #[v] ∧ WrOwn W b0 v xs ∧ xs.length = pre.length ∧ pre.length ≤ 20 ∧ allFrom pre = some (xs.map Wr.dat) ∧
    Below w.heap.size w W ∧ n₀ ≤ W.heap.size ∧ (∀ g, v.ownBlock = some g → g ≤ q ∨ n₀ ≤ g) ∧ (∀ x ∈ xs, ∀ a, x.A = some a → n₀ ≤ a.block)
theorem LineInv.own {b0 q n₀ : Nat} {w : World} (hw : w.heap.size ≤ n₀) : OwnFrom n₀ (fun pre W => LineInv b0 q n₀ w pre W) := by
  rintro pre W W' row ⟨v, xs, h1, h2, h3, h4, h5, h6, h7, h8, h9, h10, h11⟩ hg hr
  have hc : ∀ r, row = some r → ∃ o : Obj, W.heap[r]? = some o ∧ o.isCells = false := fun r e => (hr r e).2
  have hne : ∀ {b cs t}, W.heap[b]? = some (.cells cs t (0, 0)) → row ≠ some b := fun hb e => by
    obtain ⟨o, ho, hcl⟩ := hc _ e
    rw [hb] at ho; injection ho with ho; subst ho; cases hcl
  refine ⟨v, xs, (hg.block _ h1.lt (fun e => hne h1 e.symm)).trans h1, (hg.block _ h2.lt (fun e => hne h2 e.symm)).trans h2, (hg.block _ h3.lt (fun e => hne h3 e.symm)).trans h3, ⟨?_, fun x hx => ⟨?_, fun a ha => ⟨((h4.2 x hx).2 a ha).1, Nat.lt_of_lt_of_le ((h4.2 x hx).2 a ha).2 hg.size⟩⟩⟩, h5, h6, h7, ?_, Nat.le_trans h9 hg.size, h10, h11⟩
  · refine ownG_congr h4.1 fun b hb => ?_
    obtain ⟨cur, ho⟩ := ownG_obj h4.1 hb
    exact hg.block b (ownG_lt h4.1 hb) (fun e => hne ho e.symm)
  · have hx' := (h4.2 x hx).1
    exact WrIn.more ⟨⟨hx'.1.1, hx'.1.2.1, hx'.1.2.2.1, hx'.1.2.2.2.1.other hg hc, hx'.1.2.2.2.2⟩, hx'.2⟩ hg.size
  · exact h8.grown hg h8.size (fun k e => Nat.le_trans hw (hr k e).1)
theorem LineInv.box {b0 q n₀ Bs : Nat} {w : World} (hq : q < Bs) (hb : b0 + 1 < q) (hBs : Bs < n₀) (hw : w.heap.size ≤ Bs) : ∀ pre W (u : Value), LineInv b0 q n₀ w pre W → LineInv b0 q n₀ w pre (W.setCell ⟨Bs, 0, none⟩ u) := by
  rintro pre W u ⟨v, xs, h1, h2, h3, h4, h5, h6, h7, h8, h9, h10, h11⟩
  refine ⟨v, xs, h1.far (p := ⟨Bs, 0, none⟩) (by show b0 ≠ Bs; omega) u, h2.far (p := ⟨Bs, 0, none⟩) (by show b0 + 1 ≠ Bs; omega) u, h3.far (p := ⟨Bs, 0, none⟩) (by show q ≠ Bs; omega) u, ⟨?_, fun x hx => ⟨?_, fun a ha => ⟨((h4.2 x hx).2 a ha).1, by simpa using ((h4.2 x hx).2 a ha).2⟩⟩⟩, h5, h6, h7, h8.setCell (p := ⟨Bs, 0, none⟩) hw u, by simpa using h9, h10, h11⟩
  · refine ownG_congr h4.1 fun b hb' => Below.heap_setCell W ⟨Bs, 0, none⟩ u b ?_
    have := h10 b hb'
    show b ≠ Bs
    omega
  · have hx' := (h4.2 x hx).1
    refine WrIn.more (B := W.heap.size) ⟨⟨hx'.1.1, hx'.1.2.1, hx'.1.2.2.1, hx'.1.2.2.2.1.set (p := ⟨Bs, 0, none⟩) (fun a ha => ?_) u, hx'.1.2.2.2.2⟩, hx'.2⟩ (by simp)
    have := h11 x hx a ha
    show a.block ≠ Bs
    omega

/-- The world in which the loop begins. -/
abbrev startW (w : World) (l : List UInt8) : World :=
  (((((((w.alloc (.cells #[.slice none 0 0] 23)).alloc (.cells #[.bool false] 4)).alloc (.cells #[] 36)).alloc (.cells #[.slice (some ⟨w.heap.size + 1 + 1, 0, none⟩) 0 0] 23)).alloc
    (.cells #[.string (mkStr l)] 9)).alloc (.cells #[.string { data := #[32] }] 9)).alloc (.cells #[.int .i64 0] 3))
theorem startW_size (w : World) (l : List UInt8) : (startW w l).heap.size = w.heap.size + 7 := by simp [startW]
theorem startW_inv (w : World) (l : List UInt8) : LineInv w.heap.size (w.heap.size + 1 + 1 + 1) (w.heap.size + 7) w [] (startW w l) ∧ Blk (startW w l) (w.heap.size + 1 + 1 + 1 + 1) 9 #[strP l] ∧ Blk (startW w l) (w.heap.size + 1 + 1 + 1 + 1 + 1) 9 #[.string { data := #[32] }] ∧ Blk (startW w l) (w.heap.size + 1 + 1 + 1 + 1 + 2) 3 #[.int .i64 0] := by
  obtain ⟨w0, e0⟩ : ∃ w0, w0 = w.alloc (.cells #[.slice none 0 0] 23) := ⟨_, rfl⟩
  obtain ⟨w1, e1⟩ : ∃ w1, w1 = w0.alloc (.cells #[.bool false] 4) := ⟨_, rfl⟩
  obtain ⟨w2, e2⟩ : ∃ w2, w2 = w1.alloc (.cells #[] 36) := ⟨_, rfl⟩
  obtain ⟨w3, e3⟩ : ∃ w3, w3 = w2.alloc (.cells #[.slice (some ⟨w.heap.size + 1 + 1, 0, none⟩) 0 0] 23) := ⟨_, rfl⟩
  obtain ⟨w4, e4⟩ : ∃ w4, w4 = w3.alloc (.cells #[.string (mkStr l)] 9) := ⟨_, rfl⟩
  obtain ⟨w5, e5⟩ : ∃ w5, w5 = w4.alloc (.cells #[.string { data := #[32] }] 9) := ⟨_, rfl⟩
  have eS : startW w l = w5.alloc (.cells #[.int .i64 0] 3) := by subst e0 e1 e2 e3 e4 e5; rfl
  have z0 : w0.heap.size = w.heap.size + 1 := by rw [e0]; simp
  have z1 : w1.heap.size = w.heap.size + 1 + 1 := by rw [e1]; simp [z0]
  have z2 : w2.heap.size = w.heap.size + 1 + 1 + 1 := by rw [e2]; simp [z1]
  have z3 : w3.heap.size = w.heap.size + 1 + 1 + 1 + 1 := by rw [e3]; simp [z2]
  have z4 : w4.heap.size = w.heap.size + 1 + 1 + 1 + 1 + 1 := by rw [e4]; simp [z3]
  have z5 : w5.heap.size = w.heap.size + 1 + 1 + 1 + 1 + 2 := by rw [e5]; simp [z4]
  have A0 : Below w.heap.size w w0 := by rw [e0]; exact (Below.refl _ _).alloc (Nat.le_refl _) _
  have A1 : Below w0.heap.size w0 w1 := by rw [e1]; exact (Below.refl _ _).alloc (Nat.le_refl _) _
  have A2 : Below w1.heap.size w1 w2 := by rw [e2]; exact (Below.refl _ _).alloc (Nat.le_refl _) _
  have A3 : Below w2.heap.size w2 w3 := by rw [e3]; exact (Below.refl _ _).alloc (Nat.le_refl _) _
  have A4 : Below w3.heap.size w3 w4 := by rw [e4]; exact (Below.refl _ _).alloc (Nat.le_refl _) _
  have A5 : Below w4.heap.size w4 w5 := by rw [e5]; exact (Below.refl _ _).alloc (Nat.le_refl _) _
  have A6 : Below w5.heap.size w5 (startW w l) := by rw [eS]; exact (Below.refl _ _).alloc (Nat.le_refl _) _
  have B5 := below_next A5 A6
  have B4 := below_next A4 B5
  have B3 := below_next A3 B4
  have B2 := below_next A2 B3
  have B1 := below_next A1 B2
  have B0 := below_next A0 B1
  have K0 : Blk (startW w l) w.heap.size 23 #[.slice none 0 0] := Blk.below (w := w0) (by rw [e0]; exact Blk.new w _ _) B1
  have K1 : Blk (startW w l) (w.heap.size + 1) 4 #[.bool false] := by rw [← z0]; exact Blk.below (w := w1) (by rw [e1]; exact Blk.new w0 _ _) B2
  have K3 : Blk (startW w l) (w.heap.size + 1 + 1 + 1) 23 #[.slice (some ⟨w.heap.size + 1 + 1, 0, none⟩) 0 0] := by rw [← z2]; exact Blk.below (w := w3) (by rw [e3]; exact Blk.new w2 _ _) B4
  have K4 : Blk (startW w l) (w.heap.size + 1 + 1 + 1 + 1) 9 #[strP l] := by rw [← z3]; exact Blk.below (w := w4) (by rw [e4]; exact Blk.new w3 _ _) B5
  have K5 : Blk (startW w l) (w.heap.size + 1 + 1 + 1 + 1 + 1) 9 #[.string { data := #[32] }] := by rw [← z4]; exact Blk.below (w := w5) (by rw [e5]; exact Blk.new w4 _ _) A6
  have K6 : Blk (startW w l) (w.heap.size + 1 + 1 + 1 + 1 + 2) 3 #[.int .i64 0] := by rw [← z5, eS]; exact Blk.new w5 _ _
  have HO : (startW w l).ownsRow w.heap.size 36 2 (.slice (some ⟨w.heap.size + 1 + 1, 0, none⟩) 0 0) 0 [] := by
    refine ownG_keep (w := w2) ?_ B3
    rw [e2, ← z1]
    exact World.ownsRow_made w1 #[] 0 (by rw [z1]; omega) (by unfold maxLen; omega) rfl
  exact ⟨⟨_, [], K0, K1, K3, ⟨HO, by simp⟩, rfl, by simp, rfl, B0, by rw [startW_size]; omega, fun g e => by injection e with e; left; simp at e; omega, by simp⟩, K4, K5, K6⟩

theorem putBlk {w : World} {b D : Nat} {t : TypeId} {cs : Array Value} {o : Obj} (h : Blk w b t cs) (hD : b ≠ D) : Blk (w.putObj D o) b t cs := (World.putObj_heap_other hD).trans h

theorem line_step {b0 q n₀ : Nat} {w W W4 : World} {v : Value} {xs : List Wr} {x : Wr} {pre : List (List UInt8)} {p : List UInt8}
    (h1 : Blk W b0 23 #[.slice none 0 0]) (h2 : Blk W (b0 + 1) 4 #[.bool false]) (h3 : Blk W q 23 #[v]) (h4 : WrOwn W b0 v xs) (h5 : xs.length = pre.length) (h6 : pre.length < 20) (h7 : allFrom pre = some (xs.map Wr.dat))
    (h8 : Below w.heap.size w W) (h9 : n₀ ≤ W.heap.size) (h10 : ∀ g, v.ownBlock = some g → g ≤ q ∨ n₀ ≤ g) (h11 : ∀ x ∈ xs, ∀ a, x.A = some a → n₀ ≤ a.block) (hw : w.heap.size ≤ b0) (hq : b0 + 1 < q) (hqn : q < n₀)
    (hb4 : Below W.heap.size W W4) (hx : WrIn W4 W4.heap.size x) (hxa : ∀ a, x.A = some a → W.heap.size ≤ a.block ∧ a.block < W4.heap.size) (hp : wrFrom p = some x.dat) :
    ∃ A' c' W5, (Builtin.append_ #[23, 23] 23 #[v, .slice (some ⟨W4.heap.size, 0, none⟩) 1 1]).run Tryd.prog (W4.alloc (.cells #[.slice x.A x.n x.c, .int .i64 x.pos] 36)) = .ok (.slice A' (xs.length + 1) c') W5 ∧
      W5.cell? ⟨q, 0, none⟩ = some v ∧ W5.frozen? ⟨q, 0, none⟩ = false ∧
      KeepsFrom n₀ W (W5.setCell ⟨q, 0, none⟩ (.slice A' (xs.length + 1) c')) ∧ KeepQ n₀ b0 q W (W5.setCell ⟨q, 0, none⟩ (.slice A' (xs.length + 1) c')) ∧ LineInv b0 q n₀ w (pre ++ [p]) (W5.setCell ⟨q, 0, none⟩ (.slice A' (xs.length + 1) c')) := by
  obtain ⟨i0, hi, hz0, hz1, hz2⟩ := info_parts infoWr
  have h4s := h4.keep hb4
  have hs4 := hb4.size
  obtain ⟨v', W5, hrun, hown, hgr, hat⟩ := run_append_any (P := Tryd.prog) (W4.alloc (.cells #[.slice x.A x.n x.c, .int .i64 x.pos] 36)) b0 23 23 36 i0 _ 2 32 Tryd.underlying23 hi hz0 hz1 hz2 rfl (by omega) v xs.length (xs.flatMap wrC) (h4s.1.alloc _) (W4.heap.size + 1) (some ⟨W4.heap.size, 0, none⟩) 1 1 [.slice x.A x.n x.c, .int .i64 x.pos] (rowNewSt _ _ _ _) (by simp [Value.oneCell']) (by unfold maxLen; omega) (by omega) (by simp; omega)
  have bA : Below W.heap.size W (W4.alloc (.cells #[.slice x.A x.n x.c, .int .i64 x.pos] 36)) := hb4.alloc hs4 _
  have hne : ∀ {b t cs}, Blk W b t cs → t ≠ 36 → some b ≠ v.ownBlock := fun hK ht e => by
    obtain ⟨cur, h⟩ := ownG_obj h4.1 e.symm
    unfold Blk at hK
    rw [hK] at h; injection h with h; injection h with _ h _; exact ht h
  have hkeep : ∀ {b t cs}, Blk W b t cs → t ≠ 36 → Blk W5 b t cs := fun hK ht => by
    have hK4 := (hK.below hb4).alloc (.cells #[.slice x.A x.n x.c, .int .i64 x.pos] 36)
    exact (hgr.block _ hK4.lt (hne hK ht)).trans hK4
  have hK5 := hkeep h3 (by decide)
  have hbg : ∀ g, v.ownBlock = some g → b0 ≤ g := fun g e => ownG_base h4.1 e
  obtain ⟨A', c', rfl, _, _⟩ := ownG_form hown
  have hsa : (W4.alloc (.cells #[.slice x.A x.n x.c, .int .i64 x.pos] 36)).heap.size = W4.heap.size + 1 := by simp
  have hP5 : WrOwn W5 b0 (.slice A' (xs.length + 1) c') (xs ++ [x]) := WrOwn.push (h4.keep bA) (hx.keep ((Below.refl _ _).alloc (Nat.le_refl _) _)) (fun a ha => ⟨fun e => by have := ownG_lt h4.1 e; have := (hxa a ha).1; omega, by rw [hsa]; have := (hxa a ha).2; omega⟩) hown hgr hat
  have hz5 := hgr.size
  have hqv : ∀ g, (Value.slice A' (xs.length + 1) c').ownBlock = some g → g ≠ q := fun g hg e => by
    obtain ⟨cur, h⟩ := ownG_obj hown hg
    subst e
    unfold Blk at hK5
    rw [hK5] at h; injection h with h; injection h with _ h _; exact absurd h (by decide)
  have hxs : ∀ y ∈ xs ++ [x], ∀ a, y.A = some a → n₀ ≤ a.block := fun y hy a ha => by
    rcases List.mem_append.1 hy with hy | hy
    · exact h11 y hy a ha
    · rw [List.mem_singleton] at hy; subst hy; have := (hxa a ha).1; omega
  refine ⟨A', c', W5, hrun, hK5.cell 0, hK5.free 0, ⟨?_, ?_⟩, ?_, ⟨_, xs ++ [x], (hkeep h1 (by decide)).far (p := ⟨q, 0, none⟩) (by show b0 ≠ q; omega) _, (hkeep h2 (by decide)).far (p := ⟨q, 0, none⟩) (by show b0 + 1 ≠ q; omega) _, by simpa using hK5.set 0 (.slice A' (xs.length + 1) c'), hP5.set (p := ⟨q, 0, none⟩) hqv (fun y hy a ha => by have := hxs y hy a ha; show a.block ≠ q; omega) _, by simp [h5], by simp; omega, ?_, ?_, ?_, ?_, hxs⟩⟩
  · have h1 := bA.size; simp; omega
  · intro k o hk ho hc
    have hkl : k < W.heap.size := (Array.getElem?_eq_some_iff.1 ho).1
    rw [Below.heap_setCell W5 _ _ k (by show k ≠ q; omega)]
    refine (hgr.block k (Nat.lt_of_lt_of_le hkl bA.size) (fun e => ?_)).trans ((bA.block k hkl).trans ho)
    obtain ⟨cur, h⟩ := ownG_obj h4.1 e.symm
    rw [ho] at h; injection h with h; subst h; cases hc
  · intro b hb hr
    rw [Below.heap_setCell W5 _ _ b (by show b ≠ q; omega)]
    refine (hgr.block b (Nat.lt_of_lt_of_le hb (Nat.le_trans h9 bA.size)) (fun e => ?_)).trans (bA.block b (by omega))
    have h1 := hbg b e.symm
    have h2 := h10 b e.symm
    omega
  · rw [allFrom_snoc, h7, Option.bind_some, hp, Option.map_some, List.map_append]; rfl
  · exact ((h8.trans (bA.mono h8.size)).grown hgr (by have := h8.size; omega) (fun g e => Nat.le_trans hw (hbg g e))).setCell (p := ⟨q, 0, none⟩) (by show w.heap.size ≤ q; omega) _
  · simp; omega
  · intro g hg
    rcases hat with h | h
    · exact h10 g (h ▸ hg)
    · right
      rw [h] at hg; injection hg with hg
      omega

theorem line_no {b0 n₀ : Nat} {w W Wa : World} {l : List UInt8} (h1 : Blk W b0 23 #[.slice none 0 0]) (h2 : Blk W (b0 + 1) 4 #[.bool false]) (h8 : Below w.heap.size w W) (hw : w.heap.size ≤ b0) (hn : b0 + 1 < n₀) (hb : Below W.heap.size W Wa) (hl : lineFrom l = none) :
    KeepsFrom n₀ W ((Wa.setCell ⟨b0, 0, none⟩ (.slice none 0 0)).setCell ⟨b0 + 1, 0, none⟩ (.bool false)) ∧ Code.ret = Code.ret ∧ lineFrom l = none ∧ Below w.heap.size w ((Wa.setCell ⟨b0, 0, none⟩ (.slice none 0 0)).setCell ⟨b0 + 1, 0, none⟩ (.bool false)) ∧
      Blk ((Wa.setCell ⟨b0, 0, none⟩ (.slice none 0 0)).setCell ⟨b0 + 1, 0, none⟩ (.bool false)) b0 23 #[.slice none 0 0] ∧ Blk ((Wa.setCell ⟨b0, 0, none⟩ (.slice none 0 0)).setCell ⟨b0 + 1, 0, none⟩ (.bool false)) (b0 + 1) 4 #[.bool false] := by
  have k1 := h1.below hb
  have k2 := h2.below hb
  refine ⟨⟨by have := hb.size; simp; omega, fun k o hk ho hc => ?_⟩, rfl, hl, ?_, ?_, ?_⟩
  · have hkl : k < W.heap.size := (Array.getElem?_eq_some_iff.1 ho).1
    rw [Below.heap_setCell _ _ _ k (by show k ≠ b0 + 1; omega), Below.heap_setCell _ _ _ k (by show k ≠ b0; omega)]
    exact (hb.block k hkl).trans ho
  · exact ((h8.trans (hb.mono h8.size)).setCell (p := ⟨b0, 0, none⟩) hw _).setCell (p := ⟨b0 + 1, 0, none⟩) (by show w.heap.size ≤ b0 + 1; omega) _
  · simpa using (k1.set 0 (.slice none 0 0)).far (p := ⟨b0 + 1, 0, none⟩) (by show b0 ≠ b0 + 1; omega) (.bool false)
  · simpa using (k2.far (p := ⟨b0, 0, none⟩) (by show b0 + 1 ≠ b0; omega) (.slice none 0 0)).set 0 (.bool false)

set_option maxHeartbeats 4000000 in
theorem implLineFrom (l : List UInt8) (w : World) (hs : l.length ≤ 4096) :
    Calls Tryd.prog 8 #[.string (mkStr l)] w fun e w' => LinAns w' (lineFrom l) e ∧ Below w.heap.size w w' := by
  have HZ := Lib.hid (fun (W : World) (B : Nat) (A : Option Addr) => WrsIn.zero W B A)
  by_cases h0 : l = []
  · subst h0
    have he : (mkStr []).toList.isEmpty = true := by rw [Lib.toList_data, mkStr_data]; rfl
    go_enter Tryd.func8, Tryd.ntmps8
    go_wp2
    refine bodyPost_ret (v := .tuple #[.slice (some ⟨w.heap.size + 2, 0, none⟩) 0 0, .bool true]) (by simp [results, Tryd.results8, go_sem]) rfl ?_
    exact ⟨.inr ⟨_, _, [], rfl, rfl, HZ.out _ _ _⟩, by go_grown⟩
  have he := mkStr_isEmpty h0
  have hm1 : 0 < (cutS l).length := cut_pos l
  have HLo := Lib.hid (fun h => lineFrom_long (l := l) h0 h)
  have HAl := Lib.hid (fun h => lineFrom_all (l := l) h0 h)
  have HNo := Lib.hid (fun p (h : p ∈ cutS l) hn => lineFrom_no h0 h hn)
  have HPl : Hid (∀ p ∈ cutS l, p.length ≤ 4096) := Lib.hid (fun p h => by have := part_len h; omega)
  refine (callsIn_wide (n := 5)).1 ?_
  refine callsIn_of_wp_marks Tryd.func8 rfl trivial ?_ rfl
  simp only [Tryd.ntmps8, List.size_toArray, List.length_cons, List.length_nil, Nat.reduceAdd, Nat.reduceSub, Array.replicate_succ, Array.replicate_zero, List.push_toArray, List.append_toArray, List.nil_append, List.cons_append]
  gi_wp2_with fail
  refine ⟨trivial, ?_⟩
  refine (callsIn_wide.2 (splitVal (mkStr l) _)).mono ?_
  rintro e w3 ⟨rfl, rfl⟩
  gi_wp2_with fail
  obtain ⟨hI0, hK4, hK5, hK6⟩ := startW_inv w l
  have hz3 := startW_size w l
  generalize hW3 : startW w l = w3 at *
  unfold startW at hW3
  rw [hW3]
  clear hW3
  have hq : w.heap.size + 1 < w.heap.size + 1 + 1 + 1 := by omega
  refine wpIn_rangeFunc_box rfl (by omega) (gf := 54) (lb := #[.pointer (some ⟨w.heap.size + 1 + 1 + 1 + 1 + 1, 0, none⟩), .pointer (some ⟨w.heap.size + 1 + 1 + 1 + 1, 0, none⟩), .pointer (some ⟨w.heap.size + 1 + 1 + 1 + 1 + 2, 0, none⟩)]) rfl trivial (enters_of Tryd.func54 (by kernel_rfl) rfl)
    (splitBox 4 (w.heap.size + 1 + 1 + 1 + 1) (w.heap.size + 1 + 1 + 1 + 1 + 1) (w.heap.size + 1 + 1 + 1 + 1 + 2) w.heap.size (w.heap.size + 1 + 1 + 1) l hs w3 (by omega) (by omega) (by omega) (by omega) (by omega) (by omega) (by omega) (by omega) (by omega) hK4 hK5 hK6) (by omega)
    (fun h1 h2 b hb hr => (h2 b hb hr).trans (h1 b hb hr)) (fun W l o o' hl _ _ _ b hb _ => ?kb) (Below.refl _ _) (fun _ => rfl)
    (fun (pre : List (Part l)) W => LineInv w.heap.size (w.heap.size + 1 + 1 + 1) (w.heap.size + 7) w (pre.map (·.1)) W)
    (fun c _ W => c = .ret ∧ lineFrom l = none ∧ Below w.heap.size w W ∧ Blk W w.heap.size 23 #[.slice none 0 0] ∧ Blk W (w.heap.size + 1) 4 #[.bool false])
    (by rw [hz3]; exact fun s W W' row => LineInv.own (by omega) (s.map (·.1)) W W' row) (fun s W u => LineInv.box (by omega) hq (by omega) (by omega) (s.map (·.1)) W u) ?hx hI0
    (fun x => { tmps := #[.string (mkStr l), undef, .pointer (some ⟨w.heap.size, 0, none⟩), .pointer (some ⟨w.heap.size + 1, 0, none⟩), .pointer (some ⟨w.heap.size + 1 + 1 + 1, 0, none⟩), strP x.1, undef, undef, .slice (some ⟨w.heap.size + 1 + 1, 0, none⟩) 0 0, .string (mkStr l), .bool false, undef, .string (mkStr l), .func (.func 54) #[] #[.pointer (some ⟨w.heap.size + 1 + 1 + 1 + 1 + 1, 0, none⟩), .pointer (some ⟨w.heap.size + 1 + 1 + 1 + 1, 0, none⟩), .pointer (some ⟨w.heap.size + 1 + 1 + 1 + 1 + 2, 0, none⟩)], strP x.1, undef, undef, undef, undef, undef, undef, undef, undef, undef, undef, undef, undef, undef, undef, undef, undef, undef], defers := [] }) ?assign ?body ?done ?stop
  case kb =>
    show (W.putObj l o').heap[b]? = W.heap[b]?
    show (W.heap.setIfInBounds l o')[b]? = W.heap[b]?
    rw [Array.getElem?_setIfInBounds_ne (by omega)]
  case hx =>
    rintro c pre W W' row ⟨hc, hn, h1, h2, h3⟩ hg hr
    have hne : ∀ {b cs t}, W.heap[b]? = some (.cells cs t (0, 0)) → row ≠ some b := fun hb e => by
      obtain ⟨_, o, ho, hcl⟩ := hr _ e
      rw [hb] at ho; injection ho with ho; subst ho; cases hcl
    exact ⟨hc, hn, h1.grown hg h1.size (fun k e => by have := (hr k e).1; omega), (hg.block _ h2.lt (fun e => hne h2 e.symm)).trans h2, (hg.block _ h3.lt (fun e => hne h3 e.symm)).trans h3⟩
  case assign =>
    intro l x W K hK
    gi_wp2
    exact hK
  case body =>
    rintro lp pre x W ⟨v, xs, h1, h2, h3, h4, h5, h6, h7, h8, h9, h10, h11⟩ hlt
    have HWf := Lib.hid (implWrittenFrom x.1 W (HPl.out x.1 x.2))
    obtain ⟨Av, cv, rfl, _, _⟩ := ownG_form h4.1
    unfold strP
    gi_wp2_with fail
    refine ⟨trivial, ?_⟩
    refine (CallsIn.inRound lp (callsIn_wide.2 HWf.out)).mono ?_
    rintro e W1 ⟨hA, hb1⟩
    rcases hA with ⟨hno, rfl⟩ | ⟨A2, c2, ss, q, hso, rfl, hS2, hg2⟩
    · have hn := HNo.out x.1 x.2 hno
      have bA : Below W1.heap.size W1 (W1.alloc (.cells #[.slice none 0 0, .int .i64 0] 36)) := (Below.refl _ _).alloc (Nat.le_refl _) _
      have k1 := (h1.below hb1).below bA; have k2 := (h2.below hb1).below bA
      have c1 := k1.cell 0; have c2 := k2.cell 0
      have f1 := k1.free 0; have f2 := k2.free 0
      have HNO := Lib.hid (line_no (l := l) (n₀ := w3.heap.size) h1 h2 h8 (Nat.le_refl _) (by omega) (hb1.trans (bA.mono hb1.size)) hn)
      gi_wp2
      exact ⟨HNO.out.1, rfl, HNO.out.2.2⟩
    · have HX : Hid (WrIn W1 W1.heap.size ⟨A2, ss.length, c2, ss, q⟩) := Lib.hid ⟨hS2.reads rfl hg2, show (Lit.int .i64 q).wf = true from WalkArith.wf_i64 (by have := wrFrom_bd hso; omega)⟩
      have HXa : Hid (∀ a, A2 = some a → W.heap.size ≤ a.block ∧ a.block < W1.heap.size) := Lib.hid (by
        rintro a rfl
        exact ⟨ownG_base hS2 (k := a.block) rfl, ownG_lt hS2 (b := a.block) rfl⟩)
      have bA : Below W1.heap.size W1 (W1.alloc (.cells #[.slice A2 ss.length c2, .int .i64 q] 36)) := (Below.refl _ _).alloc (Nat.le_refl _) _
      have K3 := Blk.new W1 36 #[.slice A2 ss.length c2, .int .i64 q]
      have k1 := (h1.below hb1).below bA; have k2 := (h2.below hb1).below bA; have k3 := (h3.below hb1).below bA
      have c1 := k1.cell 0; have c2' := k2.cell 0; have c3 := k3.cell 0
      have f1 := k1.free 0; have f2 := k2.free 0; have f3 := k3.free 0
      obtain ⟨k0, k01, _, _⟩ := K3.two
      by_cases h20 : pre.length = 20
      · have hx20 : xs.length = 20 := by rw [h5, List.length_map]; exact h20
        have hn := HLo.out (by omega)
        have e20 : ((xs.length : Int) == 20) = true := by rw [hx20]; rfl
        have HNO := Lib.hid (line_no (l := l) (n₀ := w3.heap.size) h1 h2 h8 (Nat.le_refl _) (by omega) (hb1.trans (bA.mono hb1.size)) hn)
        gi_wp2
        exact ⟨HNO.out.1, rfl, HNO.out.2.2⟩
      · have hlp : xs.length < 20 := by rw [h5, List.length_map]; rw [List.length_map] at h6; omega
        have e20 : ((xs.length : Int) == 20) = false := by simp; omega
        obtain ⟨A5, c5, W5, hrun, h5c, h5f, h5r⟩ := line_step (p := x.1) h1 h2 h3 h4 h5 (by rw [← h5]; exact hlp) h7 h8 h9 h10 h11 (Nat.le_refl _) hq (by omega) (hb1.trans (bA.mono hb1.size)) (x := ⟨A2, ss.length, c2, ss, q⟩) (HX.out.keep bA) (fun a ha => ⟨(HXa.out a ha).1, Nat.lt_of_lt_of_le (HXa.out a ha).2 bA.size⟩) hso
        rw [appW_eq] at hrun
        simp only [World.size_alloc] at hrun
        have HR := Lib.hid h5r
        clear h5r HX HXa h5 h4 h7
        generalize hNn : ss.length = N2 at *
        gi_wp2
        refine ⟨by rw [hz3]; exact HR.out.1, by rw [hz3]; exact HR.out.2.1, ?_⟩
        show LineInv _ _ _ _ (List.map _ _) _
        rw [List.map_append]
        exact HR.out.2.2
  case done =>
    rintro D ys W hD hS ⟨v, xs, h1, h2, h3, h4, h5, h6, h7, h8, h9, h10, h11⟩ hKD
    rw [hS] at h5 h6 h7
    have HE : Hid (lineFrom l = some (xs.map Wr.dat)) := Lib.hid ((HAl.out h6).trans h7)
    obtain ⟨Av, cv, rfl, _, _⟩ := ownG_form h4.1
    have c1 := h1.cell 0
    have f1 := h1.free 0
    have c2 := h2.cell 0
    have f2 := h2.free 0
    have c3 := h3.cell 0
    gi_wp2
    refine ⟨by simp, .inl ⟨_, _, rfl, run_takeDeferred ?_, ?_⟩⟩
    · exact (Below.heap_setCell _ ⟨w.heap.size + 1, 0, none⟩ _ D (by show D ≠ w.heap.size + 1; omega)).trans ((Below.heap_setCell _ ⟨w.heap.size, 0, none⟩ _ D (by show D ≠ w.heap.size; omega)).trans hKD)
    · have g1 := ((h1.set 0 (.slice Av (cutS l).length cv)).far (p := ⟨w.heap.size + 1, 0, none⟩) (by show w.heap.size ≠ w.heap.size + 1; omega) (.bool true))
      have g2 := ((h2.far (p := ⟨w.heap.size, 0, none⟩) (by show w.heap.size + 1 ≠ w.heap.size; omega) (.slice Av (cutS l).length cv)).set 0 (.bool true))
      have g1' := putBlk (D := D) (o := .deferred none) g1 (by omega)
      have g2' := putBlk (D := D) (o := .deferred none) g2 (by omega)
      have r1 := g1'.cell 0
      have r2 := g2'.cell 0
      have hvb : ∀ g, (Value.slice Av xs.length cv).ownBlock = some g → g ≠ w.heap.size ∧ g ≠ w.heap.size + 1 := fun g hg => by
        obtain ⟨cur, ho⟩ := ownG_obj h4.1 hg
        refine ⟨fun e => ?_, fun e => ?_⟩
        · subst e
          unfold Blk at h1
          rw [h1] at ho; injection ho with ho; injection ho with _ ho _; exact absurd ho (by decide)
        · subst e
          unfold Blk at h2
          rw [h2] at ho; injection ho with ho; injection ho with _ ho _; exact absurd ho (by decide)
      have hWf := ((h4.set (p := ⟨w.heap.size, 0, none⟩) (fun g hg => (hvb g hg).1) (fun x hx a ha => by have := h11 x hx a ha; show a.block ≠ w.heap.size; omega) (.slice Av (cutS l).length cv)).set (p := ⟨w.heap.size + 1, 0, none⟩) (fun g hg => (hvb g hg).2) (fun x hx a ha => by have := h11 x hx a ha; show a.block ≠ w.heap.size + 1; omega) (.bool true))
      have hDD : (((W.setCell ⟨w.heap.size, 0, none⟩ (.slice Av (cutS l).length cv)).setCell ⟨w.heap.size + 1, 0, none⟩ (.bool true)).heap[D]?) = some (.deferred (some [])) := (Below.heap_setCell _ ⟨w.heap.size + 1, 0, none⟩ _ D (by show D ≠ w.heap.size + 1; omega)).trans ((Below.heap_setCell _ ⟨w.heap.size, 0, none⟩ _ D (by show D ≠ w.heap.size; omega)).trans hKD)
      have hWg := hWf.other (grownBy_putObj' _ D (.deferred none)) (fun r e => by injection e with e; subst e; exact ⟨_, hDD, rfl⟩)
      have hbel := ((h8.setCell (p := ⟨w.heap.size, 0, none⟩) (Nat.le_refl _) (.slice Av (cutS l).length cv)).setCell (p := ⟨w.heap.size + 1, 0, none⟩) (by show w.heap.size ≤ w.heap.size + 1; omega) (.bool true))
      have hbg := hbel.grown (grownBy_putObj' _ D (.deferred none)) hbel.size (fun k e => by injection e with e; omega)
      refine ⟨.tuple #[.slice Av (cutS l).length cv, .bool true], by simp [results, Tryd.results8, go_sem, r1, r2], .inr ⟨Av, cv, xs, HE.out, by rw [h5], hWg.reads rfl⟩, hbg⟩
  case stop =>
    rintro D c pre W hD _ ⟨rfl, hn, h1, h2, h3⟩ hKD
    have c2 := h2.cell 0
    have c3 := h3.cell 0
    gi_wp2
    refine ⟨by simp, .inl ⟨_, _, rfl, run_takeDeferred ?_, ?_⟩⟩
    · exact hKD
    · have g1 := putBlk (D := D) (o := .deferred none) h2 (by omega)
      have g2 := putBlk (D := D) (o := .deferred none) h3 (by omega)
      have r1 := g1.cell 0
      have r2 := g2.cell 0
      refine ⟨.tuple #[.slice none 0 0, .bool false], by simp [results, Tryd.results8, go_sem, r1, r2], .inl ⟨hn, _, _, rfl, HZ.out _ _ _⟩, h1.grown (grownBy_putObj' W D (.deferred none)) h1.size (fun k e => by injection e with e; omega)⟩
end Go.Proofs.YtppjjbjjbmodbaaDoor
