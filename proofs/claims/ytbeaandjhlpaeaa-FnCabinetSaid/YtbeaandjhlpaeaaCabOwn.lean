/-
  A list of drawers in memory of the call's own: the outer row, each drawer's row. Conditions: none.
-/
import Derived.Test.YtbeaandjhlpaeaaTreePads
import Derived.Test.YtbeaandjhlpaeaaHeldPads
namespace Go.Proofs.Ytbeaandjhlpaeaa
open Go.ChangeShapes Go.WideShapes Go.ChangeAt Go.RowKit
set_option maxRecDepth 100000

def Drawer.v (d : Drawer) : Value := .slice d.A d.n d.c
def DrIn (w : World) (B : Nat) (d : Drawer) : Prop := d.ps.length = d.n ∧ PadsOwn w B d.v d.ps ∧ ∀ p ∈ d.ps, p.good
theorem DrIn.congr {w w' : World} {B : Nat} {d : Drawer} (h : DrIn w B d) (h2 : ∀ b, d.v.ownBlock = some b → w'.heap[b]? = w.heap[b]?) : DrIn w' B d := ⟨h.1, own_congr h.2.1 h2, h.2.2⟩
theorem DrIn.keep {w w' : World} {B : Nat} {d : Drawer} (h : DrIn w B d) (hb : Below w.heap.size w w') : DrIn w' B d := h.congr fun b hv => hb.block b (own_lt h.2.1 hv)
theorem DrIn.pads {w : World} {B : Nat} {d : Drawer} (h : DrIn w B d) : PadsIn w w.heap.size d.A d.n d.c d.ps := by
  have h2 := h.2.1
  unfold Drawer.v at h2
  exact h2.reads h.1 h.2.2
/-- The row of the drawers, the drawers. -/
def CabOwn (w : World) (B : Nat) (v : Value) (ds : List Drawer) : Prop :=
  w.ownsRow B 49 1 v ds.length (ds.flatMap drawerC) ∧ (∀ d ∈ ds, DrIn w B d) ∧ (ds.filterMap (·.v.ownBlock)).Nodup
theorem CabOwn.congr {w w' : World} {B : Nat} {v : Value} {ds : List Drawer} (h : CabOwn w B v ds) (h0 : ∀ b, v.ownBlock = some b → w'.heap[b]? = w.heap[b]?)
    (h1 : ∀ d ∈ ds, ∀ b, d.v.ownBlock = some b → w'.heap[b]? = w.heap[b]?) : CabOwn w' B v ds :=
  ⟨own_congr h.1 h0, fun d hd => (h.2.1 d hd).congr (h1 d hd), h.2.2⟩
theorem CabOwn.keep {w w' : World} {B : Nat} {v : Value} {ds : List Drawer} (h : CabOwn w B v ds) (hb : Below w.heap.size w w') : CabOwn w' B v ds :=
  h.congr (fun _ hv => hb.block _ (own_lt h.1 hv)) fun d hd _ hv => hb.block _ (own_lt (h.2.1 d hd).2.1 hv)
theorem CabOwn.mono {w : World} {B B' : Nat} {v : Value} {ds : List Drawer} (h : CabOwn w B v ds) (hB : B' ≤ B) : CabOwn w B' v ds :=
  ⟨own_mono h.1 hB, fun d hd => ⟨(h.2.1 d hd).1, own_mono (h.2.1 d hd).2.1 hB, (h.2.1 d hd).2.2⟩, h.2.2⟩
theorem CabOwn.nil (w : World) (B : Nat) : CabOwn w B (.slice none 0 0) [] := ⟨World.ownsRow_nil _ _ _ _, by simp, by simp⟩
theorem CabOwn.made (w : World) : CabOwn (w.alloc (.cells #[] 49)) w.heap.size (.slice (some ⟨w.heap.size, 0, none⟩) 0 0) [] := ⟨World.ownsRow_made w #[] 0 (Nat.le_refl _) (by simp) (by simp), by simp, by simp⟩
theorem CabOwn.reads {w : World} {B n c : Nat} {A : Option Addr} {ds : List Drawer} (h : CabOwn w B (.slice A n c) ds) (hn : ds.length = n) : DrawersIn w w.heap.size A n c ds := by
  have h1 := h.1
  rw [hn] at h1
  obtain ⟨A', c', e, q1, q2⟩ := own_form h1
  injection e with e1 e2 e3
  subst e1 e3
  exact ⟨hn, q1, q2, Row.of_own h1, fun d hd => (h.2.1 d hd).pads⟩
/-- A row of drawers grows by one. -/
theorem CabOwn.push {w w1 w2 : World} {B : Nat} {v v' : Value} {ds : List Drawer} {d : Drawer} (h : CabOwn w B v ds) (hb : Below w.heap.size w w1) (hg : w1.grownBy w2 v.ownBlock)
    (hown : w2.ownsRow B 49 1 v' (ds.length + 1) (ds.flatMap drawerC ++ [d.v])) (hl : DrIn w1 B d) (hm : ∀ b, d.v.ownBlock = some b → w.heap.size ≤ b) : CabOwn w2 B v' (ds ++ [d]) := by
  have hne : ∀ {b : Nat} {cur : Array Value} {e : TypeId}, w1.heap[b]? = some (.cells cur e (0, 0)) → e ≠ 49 → w2.heap[b]? = w1.heap[b]? := by
    intro b cur e h1 h2
    rcases Nat.lt_or_ge b w1.heap.size with hlt | hge
    · refine hg.block b hlt (fun hq => h2 ?_)
      obtain ⟨cur', h3⟩ := own_obj (h.keep hb).1 hq.symm
      rw [h1] at h3; injection h3 with h3; injection h3
    · rw [Array.getElem?_eq_none hge] at h1; cases h1
  have hold : ∀ m, DrIn w1 B m → DrIn w2 B m := fun m hm => hm.congr fun b hv => by
    obtain ⟨cur, h1⟩ := own_obj hm.2.1 hv
    exact hne h1 (by decide)
  refine ⟨?_, fun m hm => ?_, ?_⟩
  · rw [List.length_append, List.flatMap_append]
    simpa [drawerC, Drawer.v] using hown
  · rcases List.mem_append.1 hm with hm | hm
    · exact hold m ((h.keep hb).2.1 m hm)
    · simp at hm; subst hm; exact hold m hl
  · rw [List.filterMap_append, List.nodup_append]
    refine ⟨h.2.2, ?_, ?_⟩
    · cases hv : d.v.ownBlock <;> simp [hv]
    · intro a ha b hb' hab
      obtain ⟨m, hm', hma⟩ := List.mem_filterMap.1 ha
      have h1 := own_lt (h.2.1 m hm').2.1 hma
      obtain ⟨m', hm'', hmb⟩ := List.mem_filterMap.1 hb'
      simp at hm''; subst hm''
      have := hm b hmb
      omega
theorem CabOwn.len {w : World} {B n c : Nat} {A : Option Addr} {ds : List Drawer} (h : CabOwn w B (.slice A n c) ds) : ds.length = n := by
  obtain ⟨A', c', e, _⟩ := own_form h.1
  injection e with e1 e2 e3
  exact e2.symm
theorem CabOwn.form {w : World} {B : Nat} {v : Value} {ds : List Drawer} (h : CabOwn w B v ds) : ∃ A c, v = .slice A ds.length c ∧ ds.length ≤ c ∧ c ≤ maxLen := own_form h.1

/-- A list of drawers as an answer, with a word whether there is one. -/
def FileAns (w' : World) (B : Nat) (o : Option (List (List Pad))) (e : Ending) : Prop :=
  (o = none ∧ ∃ A c, e = .returned (.tuple #[.slice A 0 c, .bool false]) ∧ CabOwn w' B (.slice A 0 c) []) ∨
  ∃ A c ds, o = some (ds.map (·.ps)) ∧ e = .returned (.tuple #[.slice A ds.length c, .bool true]) ∧ CabOwn w' B (.slice A ds.length c) ds
theorem FileAns.no {w' : World} {B : Nat} {o : Option (List (List Pad))} {e : Ending} {A : Option Addr} {c : Nat} (h : o = none) (he : e = .returned (.tuple #[.slice A 0 c, .bool false])) (hc : CabOwn w' B (.slice A 0 c) []) : FileAns w' B o e := .inl ⟨h, A, c, he, hc⟩
theorem FileAns.yes {w' : World} {B n : Nat} {o : Option (List (List Pad))} {e : Ending} {A : Option Addr} {c : Nat} {ds : List Drawer} (h : o = some (ds.map (·.ps))) (he : e = .returned (.tuple #[.slice A n c, .bool true])) (hc : CabOwn w' B (.slice A n c) ds) : FileAns w' B o e :=
  .inr ⟨A, c, ds, h, by rw [hc.len]; exact he, by rw [hc.len]; exact hc⟩
end Go.Proofs.Ytbeaandjhlpaeaa
