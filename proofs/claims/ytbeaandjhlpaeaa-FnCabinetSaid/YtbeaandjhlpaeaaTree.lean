/-
  A cabinet's tree in memory: the root, the row of its leaves, each leaf with its row of pads. Conditions: none.
-/
import Derived.Test.YtbeaandjhlpaeaaClone
import Derived.Test.YtbeaandjhlpaeaaCabDef
namespace Go.Proofs.Ytbeaandjhlpaeaa
open Go.ChangeShapes Go.WideShapes Go.ChangeAt Go.RowKit
set_option maxRecDepth 100000

section
variable {w w' : World} {B n sz : Nat} {e : TypeId} {v : Value} {xs : List Value}
theorem own_congr (h : w.ownsRow B e sz v n xs) (hb : ∀ b, v.ownBlock = some b → w'.heap[b]? = w.heap[b]?) : w'.ownsRow B e sz v n xs := by
  refine ⟨h.1, ?_⟩
  rcases h.2 with h2 | ⟨g, cap, cur, rfl, h1, h2, h3⟩
  · exact .inl h2
  · exact .inr ⟨g, cap, cur, rfl, h1, (hb g rfl).trans h2, h3⟩
theorem own_obj (h : w.ownsRow B e sz v n xs) {b : Nat} (hb : v.ownBlock = some b) : ∃ cur, w.heap[b]? = some (.cells cur e (0, 0)) := by
  rcases h.2 with ⟨rfl, _⟩ | ⟨g, cap, cur, rfl, h1, h2, h3⟩
  · cases hb
  · injection hb with hb; subst hb; exact ⟨cur, h2⟩
theorem own_lt (h : w.ownsRow B e sz v n xs) {b : Nat} (hb : v.ownBlock = some b) : b < w.heap.size := by
  obtain ⟨cur, h1⟩ := own_obj h hb
  rcases Nat.lt_or_ge b w.heap.size with hlt | hge
  · exact hlt
  · rw [Array.getElem?_eq_none hge] at h1; cases h1
end

/-- A leaf: its block, its list of pads as a value, its pads. -/
structure Leaf where
  g : Nat
  v : Value
  ps : List Pad
def Leaf.ptr (l : Leaf) : Value := .pointer (some ⟨l.g, 0, none⟩)
def LeafIn (w : World) (B : Nat) (l : Leaf) : Prop := B ≤ l.g ∧ Blk w l.g 100 #[l.v] ∧ PadsOwn w B l.v l.ps ∧ ∀ p ∈ l.ps, p.good
theorem LeafIn.congr {w w' : World} {B : Nat} {l : Leaf} (h : LeafIn w B l) (h1 : w'.heap[l.g]? = w.heap[l.g]?) (h2 : ∀ b, l.v.ownBlock = some b → w'.heap[b]? = w.heap[b]?) : LeafIn w' B l :=
  ⟨h.1, h1.trans h.2.1, own_congr h.2.2.1 h2, h.2.2.2⟩
/-- The row of the leaves, the leaves. -/
def LeavesIn (w : World) (B : Nat) (v : Value) (ls : List Leaf) : Prop :=
  w.ownsRow B 97 1 v ls.length (ls.map Leaf.ptr) ∧ (∀ l ∈ ls, LeafIn w B l) ∧ (ls.map (·.g)).Nodup ∧ (ls.filterMap (·.v.ownBlock)).Nodup
/-- The tree at block t. -/
def TreeIn (w : World) (B t : Nat) (v : Value) (ls : List Leaf) : Prop := B ≤ t ∧ Blk w t 95 #[v] ∧ LeavesIn w B v ls

theorem LeavesIn.congr {w w' : World} {B : Nat} {v : Value} {ls : List Leaf} (h : LeavesIn w B v ls) (h0 : ∀ b, v.ownBlock = some b → w'.heap[b]? = w.heap[b]?)
    (h1 : ∀ l ∈ ls, w'.heap[l.g]? = w.heap[l.g]? ∧ ∀ b, l.v.ownBlock = some b → w'.heap[b]? = w.heap[b]?) : LeavesIn w' B v ls :=
  ⟨own_congr h.1 h0, fun l hl => (h.2.1 l hl).congr (h1 l hl).1 (h1 l hl).2, h.2.2⟩
theorem LeavesIn.below {w w' : World} {B : Nat} {v : Value} {ls : List Leaf} (h : LeavesIn w B v ls) (hb : Below w.heap.size w w') : LeavesIn w' B v ls :=
  h.congr (fun _ hv => hb.block _ (own_lt h.1 hv)) fun l hl => ⟨hb.block _ (h.2.1 l hl).2.1.lt, fun _ hv => hb.block _ (own_lt (h.2.1 l hl).2.2.1 hv)⟩
theorem TreeIn.below {w w' : World} {B t : Nat} {v : Value} {ls : List Leaf} (h : TreeIn w B t v ls) (hb : Below w.heap.size w w') : TreeIn w' B t v ls :=
  ⟨h.1, h.2.1.below hb, h.2.2.below hb⟩

/-- A row of leaf pointers grows by one new leaf. -/
theorem LeavesIn.push {w w1 w2 : World} {B : Nat} {v v' : Value} {ls : List Leaf} {l : Leaf} (h : LeavesIn w B v ls) (hb : Below w.heap.size w w1) (hg : w1.grownBy w2 v.ownBlock)
    (hown : w2.ownsRow B 97 1 v' (ls.length + 1) (ls.map Leaf.ptr ++ [l.ptr])) (hl : LeafIn w1 B l) (hn : w.heap.size ≤ l.g) (hm : ∀ b, l.v.ownBlock = some b → w.heap.size ≤ b) : LeavesIn w2 B v' (ls ++ [l]) := by
  have hne : ∀ {b : Nat} {cur : Array Value} {e : TypeId}, w1.heap[b]? = some (.cells cur e (0, 0)) → e ≠ 97 → w2.heap[b]? = w1.heap[b]? := by
    intro b cur e h1 h2
    rcases Nat.lt_or_ge b w1.heap.size with hlt | hge
    · refine hg.block b hlt (fun hq => h2 ?_)
      obtain ⟨cur', h3⟩ := own_obj (h.below hb).1 hq.symm
      rw [h1] at h3; injection h3 with h3; injection h3
    · rw [Array.getElem?_eq_none hge] at h1; cases h1
  have hold : ∀ m, LeafIn w1 B m → LeafIn w2 B m := fun m hm => hm.congr (hne hm.2.1 (by decide)) fun b hv => by
    obtain ⟨cur, h1⟩ := own_obj hm.2.2.1 hv
    exact hne h1 (by decide)
  refine ⟨by simpa using hown, fun m hm => ?_, ?_, ?_⟩
  · rcases List.mem_append.1 hm with hm | hm
    · exact hold m ((h.below hb).2.1 m hm)
    · simp at hm; subst hm; exact hold m hl
  · rw [List.map_append, List.nodup_append]
    refine ⟨h.2.2.1, by simp, ?_⟩
    intro a ha b hb' hab
    obtain ⟨m, hm', rfl⟩ := List.mem_map.1 ha
    have h1 := (h.2.1 m hm').2.1.lt
    simp at hb'; omega
  · rw [List.filterMap_append, List.nodup_append]
    refine ⟨h.2.2.2, ?_, ?_⟩
    · cases hv : l.v.ownBlock <;> simp [hv]
    · intro a ha b hb' hab
      obtain ⟨m, hm', hma⟩ := List.mem_filterMap.1 ha
      have h1 := own_lt (h.2.1 m hm').2.2.1 hma
      obtain ⟨m', hm'', hmb⟩ := List.mem_filterMap.1 hb'
      simp at hm''; subst hm''
      have := hm b hmb
      omega

theorem own_mono {w : World} {B B' n sz : Nat} {e : TypeId} {v : Value} {xs : List Value} (h : w.ownsRow B e sz v n xs) (hB : B' ≤ B) : w.ownsRow B' e sz v n xs := by
  refine ⟨h.1, ?_⟩
  rcases h.2 with h2 | ⟨g, cap, cur, rfl, h1, h2, h3⟩
  · exact .inl h2
  · exact .inr ⟨g, cap, cur, rfl, Nat.le_trans hB h1, h2, h3⟩
theorem Blk.ne_own {w : World} {t : Nat} {ty : TypeId} {cs : Array Value} (h : Blk w t ty cs) {B n sz : Nat} {e : TypeId} {v : Value} {xs : List Value} (ho : w.ownsRow B e sz v n xs) (hne : e ≠ ty) : v.ownBlock ≠ some t := fun hv => by
  obtain ⟨cur, h1⟩ := own_obj ho hv
  unfold Blk at h; rw [h1] at h; injection h with h; injection h with _ h2; exact hne h2
theorem Blk.ne_blk {w : World} {t t' : Nat} {ty ty' : TypeId} {cs cs' : Array Value} (h : Blk w t ty cs) (h' : Blk w t' ty' cs') (hne : ty ≠ ty') : t ≠ t' := by
  rintro rfl
  unfold Blk at h h'; rw [h] at h'; injection h' with h'; injection h' with _ h2; exact hne h2
/-- The root's cell is turned. -/
theorem LeavesIn.root {w : World} {B t : Nat} {v : Value} {cs : Array Value} {ls : List Leaf} (h : LeavesIn w B v ls) (ht : Blk w t 95 cs) (u : Value) : LeavesIn (w.setCell ⟨t, 0, none⟩ u) B v ls :=
  h.congr (fun b hb => Below.heap_setCell w _ u b (by rintro rfl; exact ht.ne_own h.1 (by decide) hb)) fun l hl =>
    ⟨Below.heap_setCell w _ u _ (fun e => (h.2.1 l hl).2.1.ne_blk ht (by decide) e), fun b hb => Below.heap_setCell w _ u b (by rintro rfl; exact ht.ne_own (h.2.1 l hl).2.2.1 (by decide) hb)⟩
/-- A tree grows by one new leaf. -/
theorem TreeIn.push {w0 w1 w2 : World} {B t : Nat} {v v' sv : Value} {ls : List Leaf} {ps : List Pad} (h : TreeIn w0 B t v ls) (hB : B ≤ w0.heap.size) (hb1 : Below w0.heap.size w0 w1) (hO : PadsOwn w1 w0.heap.size sv ps) (hgood : ∀ p ∈ ps, p.good)
    (hg2 : ((w1.alloc (.cells #[sv] 100)).alloc (.cells #[.pointer (some ⟨w1.heap.size, 0, none⟩)] 97)).grownBy w2 v.ownBlock)
    (hown : w2.ownsRow B 97 1 v' (ls.length + 1) (ls.map Leaf.ptr ++ [.pointer (some ⟨w1.heap.size, 0, none⟩)])) :
    TreeIn (w2.setCell ⟨t, 0, none⟩ v') B t v' (ls ++ [⟨w1.heap.size, sv, ps⟩]) ∧ Below B w0 (w2.setCell ⟨t, 0, none⟩ v') := by
  have hs := hb1.size
  have ha : Below w1.heap.size w1 ((w1.alloc (.cells #[sv] 100)).alloc (.cells #[.pointer (some ⟨w1.heap.size, 0, none⟩)] 97)) := ((Below.refl _ _).alloc (Nat.le_refl _) _).alloc (by simp) _
  have hb : Below w0.heap.size w0 ((w1.alloc (.cells #[sv] 100)).alloc (.cells #[.pointer (some ⟨w1.heap.size, 0, none⟩)] 97)) := hb1.trans (ha.mono hs)
  have hl : LeafIn ((w1.alloc (.cells #[sv] 100)).alloc (.cells #[.pointer (some ⟨w1.heap.size, 0, none⟩)] 97)) B ⟨w1.heap.size, sv, ps⟩ :=
    ⟨Nat.le_trans hB hs, (Blk.new _ _ _).alloc _, own_mono (own_congr hO (fun b hv => ha.block b (own_lt hO hv))) hB, hgood⟩
  have hL := h.2.2.push hb hg2 (l := ⟨w1.heap.size, sv, ps⟩) hown hl hs (fun b hv => own_base hO hv)
  have ht2 : Blk w2 t 95 #[v] := by
    have h1 := h.2.1.below hb
    exact (hg2.block t h1.lt (fun e => h.2.1.ne_own h.2.2.1 (by decide) e.symm)).trans h1
  have hbw : Below B w0 w2 := (hb.mono hB).grown hg2 (Nat.le_trans hB hb.size) (fun k hk => own_base h.2.2.1 hk)
  exact ⟨⟨h.1, by simpa using ht2.set 0 v', hL.root ht2 v'⟩, hbw.setCell h.1 _⟩

theorem sorted_snoc {l : List Pad} {p : Pad} : sortedOK (l ++ [p]) ↔ sortedOK l ∧ okP p = true ∧ ∀ q, l.getLast? = some q → ordPad q p < 0 := by
  have hp : padAt (l ++ [p]) l.length = p := by rw [padAt_append_right (Nat.le_refl _)]; simp [padAt]
  constructor
  · intro h
    refine ⟨sorted_left h, ?_, ?_⟩
    · have := (h l.length (by simp)).1; rwa [hp] at this
    · intro q hq
      rcases List.eq_nil_or_concat l with rfl | ⟨l', x, e⟩
      · cases hq
      · rw [List.concat_eq_append] at e; subst e; have := (h (l' ++ [x]).length (by simp)).2 (by simp)
        rw [hp, padAt_append_left (by simp)] at this
        simp at hq; subst hq
        rwa [show padAt (l' ++ [x]) ((l' ++ [x]).length - 1) = x by rw [List.length_append]; simp [padAt]] at this
  · rintro ⟨h1, h2, h3⟩ i hi
    by_cases hil : i < l.length
    · exact (goodAt_append hil).2 (h1 i hil)
    · simp at hi
      obtain rfl : i = l.length := by omega
      refine ⟨by rw [hp]; exact h2, fun hi0 => ?_⟩
      rw [hp, padAt_append_left (by omega)]
      refine h3 _ ?_
      rw [List.getLast?_eq_getElem?]
      exact padAt_some (by omega)

/-- A pointer to the last pad of a list, or nil. -/
def LastIs (w : World) (B : Nat) (v : Value) (l : List Pad) : Prop :=
  (l = [] ∧ v = .pointer none) ∨ ∃ l' p b o, l = l' ++ [p] ∧ v = .pointer (some ⟨b, o, none⟩) ∧ b < B ∧ w.cell? ⟨b, o, none⟩ = some (.int .i64 p.day) ∧ w.cell? ⟨b, o + 1, none⟩ = some (.string p.case) ∧ p.good
end Go.Proofs.Ytbeaandjhlpaeaa
