/-
  A range over an iterator that writes a variable it has captured (strings.SplitSeq's iterator): the invariants abide stores to that one box. Conditions: the box lies below the loop's own blocks.
  (After the library's law wpIn_rangeFunc_ownG, whose iterators write nothing of their own; over its lemmas on the loop's record.)
-/
import Derived.RangeFuncCalls
import Derived.RangeFuncLeaves
import Derived.RangeFuncBox
import Derived.RangeFuncWrites
import Derived.Shelf.Abstract
namespace Go.Proofs.YtppjjbjjbmodbaaDoor
open Go.RowKit
set_option maxRecDepth 100000

variable {F : Fence} {n : Nat} {P : Program}

/-- What an iterator with a box Bs of its own promises: as SeqStopsK, to invariants that do not speak of that box. -/
def SeqBox {α : Type} (F : Fence) (n : Nat) (P : Program) (g : Nat) (lb : Array Value) (encs : α → Array Value) (Kp : World → World → Prop) (S Sp : List α → Prop) (N Bs : Nat) (w : World) : Prop :=
  ∀ (l : Nat) (J Jx : List α → World → Prop) (W : World), Below w.heap.size w W → AbidesFrom W.heap.size J → (∀ s W1 u, J s W1 → J s (W1.setCell ⟨Bs, 0, none⟩ u)) →
    (∀ pre x W1, J pre W1 → pre.length < N → YieldAt F (n - 1) P l (encs x) W1 fun e W' =>
      (e = .returned (.bool true) ∧ J (pre ++ [x]) W' ∧ Kp W1 W') ∨ (e = .returned (.bool false) ∧ Jx (pre ++ [x]) W')) →
    J [] W →
    CallsIn F n P g (#[.func (.yield l) #[] #[]] ++ lb) W fun e W' => (∃ v, e = .returned v) ∧ ((∃ xs, S xs ∧ J xs W') ∨ (∃ pre, Sp pre ∧ Jx pre W'))

theorem wpIn_rangeFunc_box {α : Type} {g : Operand} {ps : Array Tmp} {assign body : Code} {Q : Exit → Act → World → Prop} {a : Act} {w : World}
    (hro : F.round = none) (h1 : 1 ≤ n) {gf : Nat} {lb : Array Value} (hg : a.eval g = .func (.func gf) #[] lb) (hFg : F.fn gf) (eg : ∀ args w, (callFunc gf args).run P w = .ok (.enter gf args) w)
    {encs : α → Array Value} {Kp : World → World → Prop} {S Sp : List α → Prop} {N Bs : Nat} {w0 : World} (hseq : SeqBox F (n - 1) P gf lb encs Kp S Sp N Bs w0) (hBs : Bs < w.heap.size)
    (hKt : ∀ {A B C : World}, Kp A B → Kp B C → Kp A C) (hKb : ∀ (W : World) (l : Nat) (o o' : Obj), w.heap.size ≤ l → W.heap[l]? = some o → o.isCells = false → o.isWalk = false → Kp W (W.putObj l o')) (hb0 : Below w0.heap.size w0 w) (hps : ∀ x, (encs x).size = ps.size)
    (I : List α → World → Prop) (Ix : Code → List α → World → Prop) (hI : OwnFrom w.heap.size I) (hIb : ∀ s W u, I s W → I s (W.setCell ⟨Bs, 0, none⟩ u)) (hIx : ∀ c, OwnFrom w.heap.size (Ix c)) (h0 : I [] w) (a₁ : α → Act)
    (hassign : ∀ (l : Nat) (x : α) (W : World) (K : Act → World → Prop), K (a₁ x) W →
      assign.wpIn (F.inRound l) (n - 1 - 1) P (Exit.then K (fun _ _ _ => False)) { tmps := (ps.zip (encs x)).foldl (fun t (p, v) => t.setIfInBounds p v) a.tmps, defers := [] } W)
    (hbody : ∀ (l : Nat) (pre : List α) (x : α) (W : World), I pre W → pre.length < N → body.wpIn (F.inRound l) (n - 1 - 1) P (ownPostG w.heap.size Kp I Ix (pre ++ [x]) W) (a₁ x) W)
    (hdone : ∀ (D : Nat) (xs : List α) (W : World), w.heap.size ≤ D → S xs → I xs W → W.heap[D]? = some (.deferred (some [])) → Q .normal { a with defers := { target := .collected D, args := #[] } :: a.defers } W)
    (hstop : ∀ (D : Nat) (c : Code) (pre : List α) (W : World), w.heap.size ≤ D → Sp pre → Ix c pre W → W.heap[D]? = some (.deferred (some [])) → c.wpIn F n P Q { a with defers := { target := .collected D, args := #[] } :: a.defers } W) :
    (Code.rangeFunc g ps assign body).wpIn F n P Q a w := by
  refine wpIn_rangeFunc fun fn hfn => ?_
  rw [hro]
  obtain ⟨L, hLe⟩ : ∃ L : LoopState → Option Code → Loop, L = fun st pe => { state := st, pending := pe, fn, tmps := a.tmps, params := ps, assign, body, defers := w.heap.size } := ⟨_, rfl⟩
  -- the loop's two blocks: what is owed there, as one fact of a world
  obtain ⟨Two, hTwo⟩ : ∃ Two : LoopState → Option Code → World → Prop, Two = fun st pe W => W.heap[w.heap.size + 1]? = some (.loop (L st pe)) ∧ W.heap[w.heap.size]? = some (.deferred (some [])) := ⟨_, rfl⟩
  have two_put : ∀ {st pe st' pe' W}, Two st pe W → Two st' pe' (W.putObj (w.heap.size + 1) (.loop (L st' pe'))) := by
    subst hTwo
    intro st pe st' pe' W h
    exact ⟨World.putObj_heap_same (Array.getElem?_eq_some_iff.1 h.1).1, (World.putObj_heap_other (by omega)).trans h.2⟩
  have two_set : ∀ {st pe W} (u : Value), Two st pe W → Two st pe (W.setCell ⟨Bs, 0, none⟩ u) := by
    subst hTwo
    intro st pe W u h
    exact ⟨(Below.heap_setCell W ⟨Bs, 0, none⟩ u _ (by show w.heap.size + 1 ≠ Bs; omega)).trans h.1, (Below.heap_setCell W ⟨Bs, 0, none⟩ u _ (by show w.heap.size ≠ Bs; omega)).trans h.2⟩
  have two_walk : ∀ {st pe A B row}, Two st pe A → A.grownBy B row → (∀ r, row = some r → ∃ o : Obj, A.heap[r]? = some o ∧ o.isWalk = true) → Two st pe B := by
    subst hTwo
    intro st pe A B row h hg' hr
    exact ⟨(grownBy_keeps hg' hr h.1 rfl).trans h.1, (grownBy_keeps hg' hr h.2 rfl).trans h.2⟩
  have two_body : ∀ {st pe A B}, Two st pe A → KeepsFrom w.heap.size A B → Two st pe B := by
    subst hTwo
    intro st pe A B h hk
    exact ⟨hk.same _ _ (by omega) h.1 rfl, hk.same _ _ (Nat.le_refl _) h.2 rfl⟩
  have two_start : Two .ready none ((w.alloc (.deferred (some []))).alloc (.loop (L .ready none))) := by
    subst hTwo
    refine ⟨?_, (Below.heap_alloc _ _ _ (by simp)).trans (World.alloc_heap_new w _)⟩
    have h := World.alloc_heap_new (w.alloc (.deferred (some []))) (.loop (L .ready none))
    rwa [World.size_alloc] at h
  have two_loop : ∀ {st pe W}, Two st pe W → W.heap[w.heap.size + 1]? = some (.loop (L st pe)) := by subst hTwo; exact fun h => h.1
  have two_def : ∀ {st pe W}, Two st pe W → W.heap[w.heap.size]? = some (.deferred (some [])) := by subst hTwo; exact fun h => h.2
  have hI1 : I [] ((w.alloc (.deferred (some []))).alloc (.loop (L .ready none))) := hI.alloc _ (hI.alloc _ h0)
  have hb1 : Below w0.heap.size w0 ((w.alloc (.deferred (some []))).alloc (.loop (L .ready none))) := hb0.trans ((((Below.refl _ w).alloc (Nat.le_refl _) _).alloc (by simp) _).mono hb0.size)
  have hput : ∀ {c : List α → World → Prop}, OwnFrom w.heap.size c → ∀ {s st pe st' pe' W}, c s W → Two st pe W → c s (W.putObj (w.heap.size + 1) (.loop (L st' pe'))) := fun hc _ _ _ _ _ _ hs ht => hc.putObj _ hs (by omega) (two_loop ht) rfl
  refine ⟨w.heap.size + 1, [{ target := .collected w.heap.size, args := #[] }], (w.alloc (.deferred (some []))).alloc (.loop (L .ready none)), { target := .fn (.func gf) lb, args := #[.func (.yield (w.heap.size + 1)) #[] #[]] }, (w.alloc (.deferred (some []))).alloc (.loop (L .ready none)), gf,
    #[.func (.yield (w.heap.size + 1)) #[] #[]] ++ lb, (w.alloc (.deferred (some []))).alloc (.loop (L .ready none)), ?_, ?_, ?_, ?_, fun _ => h1, ?_⟩
  · rw [hLe]; exact run_enterLoop_outer _ _ _ _ _
  · simp only [resolve, hg]
    simp [go_sem]
  · intro f' hf'; simp [Target.leads] at hf'; subst hf'; exact hFg
  · simp [invoke, go_sem, eg]
  refine (hseq (w.heap.size + 1) (fun pre W => I pre W ∧ Two .ready none W) (fun pre W => ∃ c, Ix c pre W ∧ Two .done (some c) W) _ hb1 ?_ (fun s W u hs => ⟨hIb s W u hs.1, two_set u hs.2⟩) ?_ ⟨hI1, two_start⟩).mono ?_
  · intro s A B row hs hg' hr
    refine ⟨hI s A B row hs.1 hg' fun r e => ?_, two_walk hs.2 hg' fun r e => (hr r e).2⟩
    obtain ⟨hB, o, ho, hw⟩ := hr r e
    simp at hB
    exact ⟨by omega, o, ho, Obj.not_cells_of_walk hw⟩
  · rintro pre x W ⟨hi, ht⟩ hlen
    have hy := run_yield (P := P) (args := encs x) (two_loop ht) (by rw [hLe]; exact hps x)
    have hbeg := run_beginRound (P := P) (two_loop ht) (by rw [hLe])
    have ht2 : Two .busy none (W.putObj (w.heap.size + 1) (.loop (L .busy none))) := two_put ht
    have hi2 : I pre (W.putObj (w.heap.size + 1) (.loop (L .busy none))) := hput hI hi ht
    have hk2 : Kp W (W.putObj (w.heap.size + 1) (.loop (L .busy none))) := hKb _ _ _ _ (by omega) (two_loop ht) rfl rfl
    have hend : ∀ (jump : Option Code) (W3 : World), Two .busy none W3 → (Instr.endRound (w.heap.size + 1) jump).run P W3 = .ok (.bool jump.isNone) (W3.putObj (w.heap.size + 1) (.loop (L (if jump.isNone then .ready else .done) jump))) := fun jump W3 h3 => by
      have h := run_endRound (P := P) jump (two_loop h3)
      rw [hLe] at h ⊢
      exact h
    rw [hLe] at hy hbeg
    refine ⟨fn, _, assign, body, hy, roundIn_of_wpIn hfn (hassign _ x W _ ⟨_, hbeg, ?_⟩)⟩
    have e2 : W.putObj (w.heap.size + 1) (.loop (L .busy none)) = W.putObj (w.heap.size + 1) (.loop { state := .busy, pending := none, fn, tmps := a.tmps, params := ps, assign, body, defers := w.heap.size }) := by rw [hLe]
    rw [e2] at hi2 hk2 ht2
    refine wpIn_mono (hbody _ pre x _ hi2 hlen) ?_
    rintro e a3 W3 hp
    cases e with
    | normal =>
      have h3 := two_body ht2 hp.1
      exact ⟨_, _, hend none W3 h3, .inl ⟨rfl, ⟨hput hI hp.2.2 h3, two_put h3⟩, hKt (hKt hk2 hp.2.1) (hKb _ _ _ _ (by omega) (two_loop h3) rfl rfl)⟩⟩
    | ret =>
      have h3 := two_body ht2 hp.1
      exact ⟨_, _, hend (some .ret) W3 h3, .inr ⟨rfl, .ret, hput (hIx _) hp.2 h3, two_put h3⟩⟩
    | exit id =>
      have h3 := two_body ht2 hp.1
      exact ⟨_, _, hend (some (.exit id)) W3 h3, .inr ⟨rfl, .exit id, hput (hIx _) hp.2 h3, two_put h3⟩⟩
    | goto t =>
      have h3 := two_body ht2 hp.1
      exact ⟨_, _, hend (some (.goto t)) W3 h3, .inr ⟨rfl, .goto t, hput (hIx _) hp.2 h3, two_put h3⟩⟩
    | panic ch => exact hp.elim
    | outgrown => exact hp.elim
  · rintro e W2 ⟨⟨v, rfl⟩, (⟨xs, hS, hi, ht⟩ | ⟨pre, hSp, c, hi, ht⟩)⟩
    · refine ⟨none, _, by have h := run_endLoop (P := P) (two_loop ht) (by rw [hLe]; simp); rw [hLe] at h; exact h, hdone _ xs _ (Nat.le_refl _) hS ?_ ?_⟩
      · exact hI.putObj _ hi (by omega) (two_loop ht) rfl
      · exact (World.putObj_heap_other (by omega)).trans (two_def ht)
    · refine ⟨some c, _, by have h := run_endLoop (P := P) (two_loop ht) (by rw [hLe]; simp); rw [hLe] at h; exact h, hstop _ c pre _ (Nat.le_refl _) hSp ?_ ?_⟩
      · exact (hIx c).putObj _ hi (by omega) (two_loop ht) rfl
      · exact (World.putObj_heap_other (by omega)).trans (two_def ht)
end Go.Proofs.YtppjjbjjbmodbaaDoor
