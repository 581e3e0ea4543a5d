/-
  The reader: of gives one of some texts; l6Open begins. Conditions: as for pick.
-/
import Derived.Test.YtbeaandjhlpaeaaRd
namespace Go.Proofs.Ytbeaandjhlpaeaa
open Go.ChangeShapes Go.WideShapes Go.ChangeAt Go.RowKit
set_option maxRecDepth 100000

theorem ocell {w w' : World} {g : Nat} {a : Addr} {v : Value} (h : w.grownBy w' (some g)) (hc : w.cell? a = some v) (hne : a.block ≠ g) : w'.cell? a = some v := by
  rw [World.cell?_of_block (h.block a.block (World.block_lt_of_cell? _ _ hc) (fun e => hne (by injection e)))]; exact hc
theorem ofree {w w' : World} {g : Nat} {a : Addr} {v : Value} (h : w.grownBy w' (some g)) (hc : w.cell? a = some v) (hf : w.frozen? a = false) (hne : a.block ≠ g) : w'.frozen? a = false := by
  rw [World.frozen?_of_block (h.block a.block (World.block_lt_of_cell? _ _ hc) (fun e => hne (by injection e)))]; exact hf
theorem RdIn.lt {w : World} {B g lim : Nat} (h : RdIn w B g lim) : g < w.heap.size := by
  obtain ⟨A, n, c, bs, p, h, _⟩ := h
  rcases Nat.lt_or_ge g w.heap.size with hlt | hge
  · exact hlt
  · rw [Array.getElem?_eq_none hge] at h; cases h
theorem RdIn.more {w : World} {B g lim lim' : Nat} (h : RdIn w B g lim) (hl : lim ≤ lim') : RdIn w B g lim' := by
  obtain ⟨A, n, c, bs, p, h1, h2, h3⟩ := h
  exact ⟨A, n, c, bs, p, h1, by omega, h3⟩
/-- The reader stays where nothing old turns. -/
theorem RdIn.below {w w' : World} {B g lim : Nat} (h : RdIn w B g lim) (hb : Below w.heap.size w w') : RdIn w' B g lim := by
  have hlt := h.lt
  obtain ⟨A, n, c, bs, p, h1, h2, h3, h4, h5⟩ := h
  exact ⟨A, n, c, bs, p, (hb.block g hlt).trans h1, h2, h3, h4.keep (fun q hq => hb.cell (by omega)), h5⟩

/-- A row of texts at the head of block b. -/
def StrsAt (w : World) (b : Nat) (ss : List ByteArray) : Prop := ∀ (k : Nat) s, ss[k]? = some s → w.cell? ⟨b, k, none⟩ = some (.string s)
theorem StrsAt.new (w : World) (l : List ByteArray) (cs : Array Value) (t : TypeId) (h : cs = (l.map Value.string).toArray) : StrsAt (w.alloc (.cells cs t)) w.heap.size l := by
  intro k s hk
  subst h
  exact newcell w _ t k _ (by simp [hk])

def OneOf (ss : List ByteArray) (B g lim : Nat) (w : World) (e : Ending) (w' : World) : Prop :=
  ∃ s, s ∈ ss ∧ e = .returned (.string s) ∧ w.grownBy w' (some g) ∧ RdIn w' B g (lim + 1)

theorem pickOf (b g B lim n c : Nat) (ss : List ByteArray) (w : World) (hn : n = ss.length) (hn0 : 0 < n) (hn1 : n ≤ 1000) (hl : lim ≤ 1000000000) (hr : RdIn w B g lim) (hs : StrsAt w b ss) (hne : b ≠ g) :
    Calls Try.prog 68 #[.pointer (some ⟨g, 0, none⟩), .slice (some ⟨b, 0, none⟩) n c] w (OneOf ss B g lim w) := by
  have HS := Lib.hid hs; clear hs
  have HN := Lib.hid hn; clear hn
  go_enter Try.func68, Try.ntmps68
  go_wp2_with fail
  refine (pick (n : Int) g B lim _ (by omega) (by omega) hl hr).mono ?_
  rintro e w1 ⟨m, rfl, hm0, hm1, hg1, hr1⟩
  obtain ⟨k, rfl⟩ := Int.eq_ofNat_of_zero_le hm0
  have hk : k < n := by omega
  have hk' : k < ss.length := by have := HN.out; omega
  obtain ⟨s, hs⟩ : ∃ s, ss[k]? = some s := ⟨_, List.getElem?_eq_getElem hk'⟩
  have hmem : s ∈ ss := List.mem_of_getElem? hs
  have hc : w1.cell? ⟨b, k, none⟩ = some (.string s) := ocell hg1 (HS.out k s hs) hne
  have HG := Lib.hid hg1; have HR := Lib.hid hr1; have HM := Lib.hid hmem
  clear hs hg1 hr1 hmem hm1 hk'
  go_wp2
  go_ret
  exact ⟨s, HM.out, rfl, HG.out, HR.out⟩

theorem BytesIn.take {w : World} {B n c : Nat} {A : Option Addr} {bs : List Int} (h : BytesIn w B A n c bs) {m : Nat} (hm : m ≤ n) : BytesIn w B A m c (bs.take m) := by
  obtain ⟨h1, h2, h3, h4, h5⟩ := h
  refine ⟨by rw [List.length_take]; omega, by omega, h3, ⟨by rw [flat_len (sz := 1) (fun _ => rfl), List.length_take]; omega, fun hp => ?_⟩, fun z hz => h5 z (List.mem_of_mem_take hz)⟩
  obtain ⟨b, off, e, hb, hc⟩ := h4.2 (by omega)
  refine ⟨b, off, e, hb, fun j u hu => hc j u ?_⟩
  obtain ⟨i, q, k, e1, e2, rfl⟩ := flat_get (sz := 1) (fun _ => rfl) _ j u hu
  refine flat_at (sz := 1) (fun _ => rfl) bs i q k u ?_ e2
  rw [List.getElem?_take] at e1
  split at e1
  · exact e1
  · cases e1

theorem l6Open (A : Option Addr) (n c : Nat) (bs : List Int) (B : Nat) (w : World) (hB : B ≤ w.heap.size) (hb : BytesIn w B A n c bs) :
    Calls Try.prog 54 #[.slice A n c] w fun e w' => e = .returned (.pointer (some ⟨w.heap.size, 0, none⟩)) ∧ Below w.heap.size w w' ∧ RdIn w' B w.heap.size 0 := by
  have hm := hb.2.2.1
  have hnc := hb.2.1
  unfold maxLen at hm
  by_cases hn : n ≤ 2000
  · have HB := Lib.hid hb; clear hb
    go_enter Try.func54, Try.ntmps54
    go_wp2
    go_ret
    refine ⟨rfl, by go_grown, A, n, c, bs, 0, heap_alloc_new _ _, Nat.le_refl _, hn, HB.out.keep (fun q hq => World.cell?_alloc_lt _ _ _ (by omega)), hB⟩
  · have HB := Lib.hid hb; clear hb
    go_enter Try.func54, Try.ntmps54
    go_wp2
    go_ret
    exact ⟨rfl, by go_grown, A, 2000, c, bs.take 2000, 0, heap_alloc_new _ _, Nat.le_refl _, Nat.le_refl _, (HB.out.take (by omega)).keep (fun q hq => World.cell?_alloc_lt _ _ _ (by omega)), hB⟩
end Go.Proofs.Ytbeaandjhlpaeaa
