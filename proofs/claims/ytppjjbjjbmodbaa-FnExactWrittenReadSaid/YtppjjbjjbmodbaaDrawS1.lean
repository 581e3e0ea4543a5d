/-
  The reader draws a stroke. Conditions: as for pick.
-/
import Derived.Test.YtppjjbjjbmodbaaDrawA
import Derived.Test.YtppjjbjjbmodbaaSOpen
import Derived.Test.YtppjjbjjbmodbaaBase
import Derived.Test.YtppjjbjjbmodbaaInvReg
namespace Go.Proofs.Ytppjjbjjbmodbaa
open Go.ChangeShapes Go.WideShapes Go.ChangeAt Go.RowKit
set_option maxRecDepth 100000

theorem RdIn.alloc' {w : World} {B g lim : Nat} (h : RdIn w B g lim) (o : Obj) : RdIn (w.alloc o) B g lim := h.below ((Below.refl _ _).alloc (Nat.le_refl _) o)
theorem RdIn.set' {w : World} {B g lim : Nat} (h : RdIn w B g lim) {p : Addr} (hp : p.block ≠ g) (hB : B ≤ p.block) (u : Value) : RdIn (w.setCell p u) B g lim := by
  obtain ⟨A, n, c, bs, q, h1, h2, h3, h4, h5⟩ := h
  exact ⟨A, n, c, bs, q, (Below.heap_setCell w p u g (Ne.symm hp)).trans h1, h2, h3, h4.keep (fun x hx => World.cell?_setCell_other w _ x _ (fun e => by subst e; omega)), h5⟩
theorem RdIn.drew' {w : World} {B g lim : Nat} (h : RdIn w B g lim) : RdIn w.drew B g lim := h
theorem grown_drew {w w' : World} {g : Nat} (h : w.grownBy w' (some g)) : w.grownBy w'.drew (some g) := only_drewN h 1
def SmallS (s : Stroke) : Prop := -1 ≤ s.dir ∧ s.dir ≤ 8 ∧ -1 ≤ s.size ∧ s.size ≤ 8
theorem SmallS.good {s : Stroke} (h : SmallS s) : s.good := by
  obtain ⟨h1, h2, h3, h4⟩ := h
  constructor <;> · show (decide (IntKind.i64.min ≤ _) && decide (_ ≤ IntKind.i64.max)) = true
                    rw [show IntKind.i64.min = -9223372036854775808 from rfl, show IntKind.i64.max = 9223372036854775807 from rfl, decide_eq_true (by omega), decide_eq_true (by omega)]; rfl
def DrawnStroke (B g lim : Nat) (w : World) (e : Ending) (w' : World) : Prop :=
  ∃ (d z : Int), e = .returned (.agg #[.int .i64 d, .int .i64 z]) ∧ SmallS ⟨d, z⟩ ∧ w.grownBy w' (some g) ∧ RdIn w' B g (lim + 3)
/-- pick with the state of the reader first. -/
theorem pickR {n : Int} {g B lim : Nat} {w : World} (hr : RdIn w B g lim) (hl : lim ≤ 1000000000) (hn0 : 0 < n) (hn : n ≤ 1000000) :
    Calls Try.prog 43 #[.pointer (some ⟨g, 0, none⟩), .int .i64 n] w fun e w' => ∃ m : Nat, e = .returned (.int .i64 (m : Int)) ∧ (m : Int) < n ∧ w.grownBy w' (some g) ∧ RdIn w' B g (lim + 1) :=
  (pick n g B lim w (by omega) hn hl hr).mono (by
    rintro e w' ⟨m, rfl, h0, h1, h2, h3⟩
    obtain ⟨k, rfl⟩ := Int.eq_ofNat_of_zero_le h0
    exact ⟨k, rfl, by omega, h2, h3⟩)

/-- Block b is a table of three small numbers. -/
def TabB (w : World) (b : Nat) : Prop := b < w.heap.size ∧ ∀ m, m < 3 → ∃ v : Int, w.cell? ⟨b, m, none⟩ = some (.int .i64 v) ∧ -1 ≤ v ∧ v ≤ 8
theorem tri {m : Nat} (hm : m < 3) (a b c : Int) (h : -1 ≤ a ∧ a ≤ 8 ∧ -1 ≤ b ∧ b ≤ 8 ∧ -1 ≤ c ∧ c ≤ 8) : ∃ v : Int, (∀ h, ([.int .i64 a, .int .i64 b, .int .i64 c] : List Value)[m]'h = .int .i64 v) ∧ -1 ≤ v ∧ v ≤ 8 := by
  match m, hm with
  | 0, _ => exact ⟨a, fun _ => rfl, by omega, by omega⟩
  | 1, _ => exact ⟨b, fun _ => rfl, by omega, by omega⟩
  | 2, _ => exact ⟨c, fun _ => rfl, by omega, by omega⟩
theorem TabB.new1 (w : World) (t : TypeId) : TabB (w.alloc (.cells #[.int .i64 (-1), .int .i64 8, .int .i64 0] t)) w.heap.size :=
  ⟨by simp, fun m hm => by obtain ⟨v, h, h2⟩ := tri hm (-1) 8 0 (by omega); exact ⟨v, newcell w _ t m _ (by rw [List.getElem?_toArray, List.getElem?_eq_getElem (by simpa using hm), h]), h2⟩⟩
theorem TabB.new2 (w : World) (t : TypeId) : TabB (w.alloc (.cells #[.int .i64 0, .int .i64 4, .int .i64 1] t)) w.heap.size :=
  ⟨by simp, fun m hm => by obtain ⟨v, h, h2⟩ := tri hm 0 4 1 (by omega); exact ⟨v, newcell w _ t m _ (by rw [List.getElem?_toArray, List.getElem?_eq_getElem (by simpa using hm), h]), h2⟩⟩
theorem TabB.new1' (w : World) (o : Obj) (t : TypeId) : TabB ((w.alloc o).alloc (.cells #[.int .i64 (-1), .int .i64 8, .int .i64 0] t)) (w.heap.size + 1) := by simpa using TabB.new1 (w.alloc o) t
theorem TabB.new2' (w : World) (o : Obj) (t : TypeId) : TabB ((w.alloc o).alloc (.cells #[.int .i64 0, .int .i64 4, .int .i64 1] t)) (w.heap.size + 1) := by simpa using TabB.new2 (w.alloc o) t
theorem TabB.alloc {w : World} {b : Nat} (h : TabB w b) (o : Obj) : TabB (w.alloc o) b := ⟨by have := h.1; simp; omega, fun m hm => by obtain ⟨v, h2⟩ := h.2 m hm; exact ⟨v, by rw [World.cell?_alloc_lt _ _ _ h.1]; exact h2⟩⟩
theorem TabB.drew {w : World} {b : Nat} (h : TabB w b) : TabB w.drew b := h
theorem TabB.only {w w' : World} {b g : Nat} (h : TabB w b) (hg : w.grownBy w' (some g)) (hne : b ≠ g) : TabB w' b := ⟨Nat.lt_of_lt_of_le h.1 hg.size, fun m hm => by obtain ⟨v, h2, h3⟩ := h.2 m hm; exact ⟨v, ocell hg h2 hne, h3⟩⟩
/-- The state of the draw: the reader, the place of the answer, what has turned. -/
def DrS (w w' : World) (B g lim : Nat) : Prop := RdIn w' B g lim ∧ Blk w' w.heap.size 99 #[.int .i64 0, .int .i64 0] ∧ w.grownBy w' (some g) ∧ g < w.heap.size
theorem DrS.alloc {w w' : World} {B g lim : Nat} (h : DrS w w' B g lim) (o : Obj) : DrS w (w'.alloc o) B g lim := ⟨h.1.alloc' o, h.2.1.alloc o, only_alloc h.2.2.1 o, h.2.2.2⟩
theorem DrS.drew {w w' : World} {B g lim : Nat} (h : DrS w w' B g lim) : DrS w w'.drew B g lim := ⟨h.1, h.2.1, grown_drew h.2.2.1, h.2.2.2⟩
theorem DrS.pick {n : Int} {w w' : World} {B g lim : Nat} (h : DrS w w' B g lim) (hl : lim ≤ 1000000000) (hn0 : 0 < n) (hn : n ≤ 1000000) :
    Calls Try.prog 43 #[.pointer (some ⟨g, 0, none⟩), .int .i64 n] w' fun e w2 => ∃ m : Nat, e = .returned (.int .i64 (m : Int)) ∧ (m : Int) < n ∧ DrS w w2 B g (lim + 1) ∧ w'.grownBy w2 (some g) := by
  obtain ⟨h1, h2, h3, h4⟩ := h
  refine (pickR h1 hl hn0 hn).mono ?_
  rintro e w2 ⟨m, rfl, hm, hg, hr⟩
  exact ⟨m, rfl, hm, ⟨hr, h2.only hg (by omega), only_next h3 hg, h4⟩, hg⟩
theorem DrS.cells {w w' : World} {B g lim : Nat} (h : DrS w w' B g lim) : w'.cell? ⟨w.heap.size, 0, none⟩ = some (.int .i64 0) ∧ w'.cell? ⟨w.heap.size, 1, none⟩ = some (.int .i64 0) ∧ w'.frozen? ⟨w.heap.size, 0, none⟩ = false ∧ w'.frozen? ⟨w.heap.size, 1, none⟩ = false := h.2.1.two
theorem DrS.done {w w' : World} {B g lim : Nat} (h : DrS w w' B g lim) (hB : B ≤ w.heap.size) (x y : Value) : w.grownBy ((w'.setCell ⟨w.heap.size, 0, none⟩ x).setCell ⟨w.heap.size, 1, none⟩ y) (some g) ∧ RdIn ((w'.setCell ⟨w.heap.size, 0, none⟩ x).setCell ⟨w.heap.size, 1, none⟩ y) B g lim := by
  obtain ⟨h1, h2, h3, h4⟩ := h
  exact ⟨only_setCell (only_setCell h3 (p := ⟨w.heap.size, 0, none⟩) (.inr (by simp)) x) (p := ⟨w.heap.size, 1, none⟩) (.inr (by simp)) y, (h1.set' (p := ⟨w.heap.size, 0, none⟩) (by simp; omega) (by simp; omega) x).set' (p := ⟨w.heap.size, 1, none⟩) (by simp; omega) (by simp; omega) y⟩
/-- A slice of a table; a place in a table; a small number. -/
def IsTab (w : World) (g : Nat) (v : Value) : Prop := ∃ b, v = .slice (some ⟨b, 0, none⟩) 3 3 ∧ TabB w b ∧ b ≠ g
def IsAt (w : World) (g : Nat) (v : Value) : Prop := ∃ b m, v = .pointer (some ⟨b, m, none⟩) ∧ m < 3 ∧ TabB w b ∧ b ≠ g
def IsN (v : Value) : Prop := ∃ m : Nat, v = .int .i64 m ∧ m < 3
def IsZ (v : Value) : Prop := ∃ d : Int, v = .int .i64 d ∧ -1 ≤ d ∧ d ≤ 8
def IsSt (v : Value) : Prop := ∃ d z : Int, v = .agg #[.int .i64 d, .int .i64 z] ∧ -1 ≤ d ∧ d ≤ 8 ∧ -1 ≤ z ∧ z ≤ 8
structure Mid (L : Nat → Prop) (w0 w : World) (B g lim : Nat) (v6 v7 v8 v9 v10 v11 v12 v13 v14 v15 v16 : Value) : Prop where
  d : ∃ l, DrS w0 w B g l ∧ (l ≤ lim + 1 ∨ (L 2 ∧ l ≤ lim + 2) ∨ (L 7 ∧ l ≤ lim + 3))
  h0 : L 0 → IsTab w g v6
  h1 : L 1 → v7 = .pointer (some ⟨g, 0, none⟩)
  h2 : L 2 → IsN v8
  h3 : L 3 → IsAt w g v9
  h4 : L 4 → IsZ v10
  h5 : L 5 → IsTab w g v11
  h6 : L 6 → v12 = .pointer (some ⟨g, 0, none⟩)
  h7 : L 7 → IsN v13
  h8 : L 8 → IsAt w g v14
  h9 : L 9 → IsZ v15
  h10 : L 10 → IsSt v16
  h72 : L 7 → L 2
theorem IsTab.turn {w w' : World} {g : Nat} {v : Value} (h : IsTab w g v) (hw : ∀ b, b ≠ g → TabB w b → TabB w' b) : IsTab w' g v := by
  obtain ⟨b, e, h1, h2⟩ := h; exact ⟨b, e, hw b h2 h1, h2⟩
theorem IsAt.turn {w w' : World} {g : Nat} {v : Value} (h : IsAt w g v) (hw : ∀ b, b ≠ g → TabB w b → TabB w' b) : IsAt w' g v := by
  obtain ⟨b, m, e, h0, h1, h2⟩ := h; exact ⟨b, m, e, h0, hw b h2 h1, h2⟩
/-- What stands when the answer is written. -/
def Fin1 (w0 w : World) (B g lim : Nat) : Prop := ∃ d z : Int, (-1 ≤ d ∧ d ≤ 8 ∧ -1 ≤ z ∧ z ≤ 8) ∧ w.cell? ⟨w0.heap.size, 0, none⟩ = some (.int .i64 d) ∧ w.cell? ⟨w0.heap.size, 1, none⟩ = some (.int .i64 z) ∧ w0.grownBy w (some g) ∧ RdIn w B g (lim + 3)
def InvS (w0 : World) (B g lim : Nat) (L : Nat → Prop) (a : Act) (w : World) : Prop :=
  ∃ v6 v7 v8 v9 v10 v11 v12 v13 v14 v15 v16 : Value, a = ⟨#[.pointer (some ⟨g, 0, none⟩), undef, .pointer (some ⟨w0.heap.size, 0, none⟩), .pointer (some ⟨g, 0, none⟩), .int .i64 0, .bool true, v6, v7, v8, v9, v10, v11, v12, v13, v14, v15, v16, undef, undef, undef, undef, undef, undef], []⟩ ∧
    ((¬ L 11 ∧ Mid L w0 w B g lim v6 v7 v8 v9 v10 v11 v12 v13 v14 v15 v16) ∨ ((∀ j, j < 12 → L j) ∧ Fin1 w0 w B g lim))
theorem or_l {k i : Nat} {L : Nat → Prop} {p : Prop} (hne : k ≠ i) (h : L k → p) : (k = i ∨ L k) → p := fun h' => h (h'.resolve_left hne)

set_option maxHeartbeats 8000000 in
theorem l91Stroke (g B lim : Nat) (w : World) (hl : lim ≤ 900000000) (hr : RdIn w B g lim) (hBw : B ≤ w.heap.size) :
    Calls Try.prog 105 #[.pointer (some ⟨g, 0, none⟩)] w (DrawnStroke B g lim w) := by
  have hg := hr.lt
  go_enter Try.func105, Try.ntmps105
  go_wp2_with fail
  refine (pickR (n := 40) (hr.alloc' _) (by omega) (by omega) (by omega)).mono ?_
  rintro e w1 ⟨m1, rfl, hm1, hg1, hr1⟩
  have K1 := (Blk.new w _ _).only hg1 (by omega)
  have G1 := only_next (only_alloc (World.grownBy.refl w (some g)) _) hg1
  have hz1 := K1.lt
  clear hg1 hr
  by_cases h0 : m1 = 0
  · subst h0
    have D1 : DrS w w1 B g (lim + 1) := ⟨hr1, K1, G1, hg⟩
    clear hr1 K1 G1
    go_wp2_with fail
    refine wp_region_inv (by kernel_rfl) (InvS w B g lim) (by kernel_rfl) ?_ ?_ ?_
    · exact ⟨undef, undef, undef, undef, undef, undef, undef, undef, undef, undef, undef, rfl, .inl ⟨id, ⟨⟨_, D1.drew, .inl (Nat.le_refl _)⟩, nofun, nofun, nofun, nofun, nofun, nofun, nofun, nofun, nofun, nofun, nofun, nofun⟩⟩⟩
    · rintro L a w2 hall ⟨v6, v7, v8, v9, v10, v11, v12, v13, v14, v15, v16, rfl, hI⟩
      rcases hI with ⟨hn, _⟩ | ⟨_, d, z, hdz, k0, k1, hG, hR⟩
      · exact absurd (hall 11 (by decide)) hn
      · go_wp2
        refine bodyPost_ret (v := .agg #[.int .i64 d, .int .i64 z]) (by simp [results, Try.results105, go_sem, k0, k1]) rfl ?_
        exact ⟨d, z, rfl, by unfold SmallS; dsimp; omega, hG, hR⟩
    · rintro L i a w2 hi hn ha ⟨v6, v7, v8, v9, v10, v11, v12, v13, v14, v15, v16, rfl, hI⟩
      have hi' : i < 12 := hi
      rcases hI with ⟨h11, hM⟩ | ⟨hall, _⟩
      rotate_left
      · exact absurd (hall i hi') hn
      have hc : i = 0 ∨ i = 1 ∨ i = 2 ∨ i = 3 ∨ i = 4 ∨ i = 5 ∨ i = 6 ∨ i = 7 ∨ i = 8 ∨ i = 9 ∨ i = 10 ∨ i = 11 := by omega
      clear hi hi'
      rcases hc with rfl | rfl | rfl | rfl | rfl | rfl | rfl | rfl | rfl | rfl | rfl | rfl
      · obtain ⟨l, hD, _⟩ := hM.d
        have hgs : g < w2.heap.size := Nat.lt_of_lt_of_le hD.2.2.2 hD.2.2.1.size
        refine wpOp_step rfl (fun K hK => ?_)
        go_simp
        refine hK _ _ ?_
        have HW : ∀ o b, b ≠ g → TabB w2 b → TabB (w2.alloc o) b := fun o b _ h => h.alloc o
        exact ⟨_, _, _, _, _, _, _, _, _, _, _, rfl, .inl ⟨fun h => h11 (h.resolve_left (by decide)), ⟨(hM.d.imp fun l h => ⟨h.1.alloc _, h.2.imp id (Or.imp (fun q => ⟨.inr q.1, q.2⟩) fun q => ⟨.inr q.1, q.2⟩)⟩), (fun _ => ⟨_, rfl, TabB.new1 _ _, by omega⟩), (or_l (by decide) hM.h1), (or_l (by decide) hM.h2), (or_l (by decide) fun h => (hM.h3 h).turn (HW _)), (or_l (by decide) hM.h4), (or_l (by decide) fun h => (hM.h5 h).turn (HW _)), (or_l (by decide) hM.h6), (or_l (by decide) hM.h7), (or_l (by decide) fun h => (hM.h8 h).turn (HW _)), (or_l (by decide) hM.h9), (or_l (by decide) hM.h10), (or_l (by decide) fun h => .inr (hM.h72 h))⟩⟩⟩
      · skip
        refine wpOp_step rfl (fun K hK => ?_)
        go_simp
        refine hK _ _ ?_
        exact ⟨_, _, _, _, _, _, _, _, _, _, _, rfl, .inl ⟨fun h => h11 (h.resolve_left (by decide)), ⟨(hM.d.imp fun l h => ⟨h.1, h.2.imp id (Or.imp (fun q => ⟨.inr q.1, q.2⟩) fun q => ⟨.inr q.1, q.2⟩)⟩), (or_l (by decide) hM.h0), (fun _ => rfl), (or_l (by decide) hM.h2), (or_l (by decide) hM.h3), (or_l (by decide) hM.h4), (or_l (by decide) hM.h5), (or_l (by decide) hM.h6), (or_l (by decide) hM.h7), (or_l (by decide) hM.h8), (or_l (by decide) hM.h9), (or_l (by decide) hM.h10), (or_l (by decide) fun h => .inr (hM.h72 h))⟩⟩⟩
      · obtain ⟨l, hD, hl2⟩ := hM.d
        have e7 := hM.h1 (ha 1 (by kernel_rfl))
        subst e7
        have hll : l ≤ lim + 1 := by rcases hl2 with h | ⟨h, _⟩ | ⟨h, _⟩; exact h; exact absurd h hn; exact absurd (hM.h72 h) hn
        refine wpOp_step rfl (fun K hK => ?_)
        go_simp
        refine Calls.mono (DrS.pick (n := 3) hD (by omega) (by omega) (by omega)) ?_
        rintro e w3 ⟨m, rfl, hm, hD3, hg3⟩
        have HW : ∀ b, b ≠ g → TabB w2 b → TabB w3 b := fun b hb h => h.only hg3 hb
        dsimp only
        refine hK _ _ ?_
        exact ⟨_, _, _, _, _, _, _, _, _, _, _, rfl, .inl ⟨fun h => h11 (h.resolve_left (by decide)), ⟨⟨_, hD3, .inr (.inl ⟨.inl rfl, by omega⟩)⟩, (or_l (by decide) fun h => (hM.h0 h).turn HW), (or_l (by decide) hM.h1), (fun _ => ⟨m, rfl, by omega⟩), (or_l (by decide) fun h => (hM.h3 h).turn HW), (or_l (by decide) hM.h4), (or_l (by decide) fun h => (hM.h5 h).turn HW), (or_l (by decide) hM.h6), (or_l (by decide) hM.h7), (or_l (by decide) fun h => (hM.h8 h).turn HW), (or_l (by decide) hM.h9), (or_l (by decide) hM.h10), (or_l (by decide) fun h => .inr (hM.h72 h))⟩⟩⟩
      · obtain ⟨b, rfl, hT, hbg⟩ := hM.h0 (ha 0 (by kernel_rfl))
        obtain ⟨m, rfl, hm⟩ := hM.h2 (ha 2 (by kernel_rfl))
        refine wpOp_step rfl (fun K hK => ?_)
        go_simp
        rw [if_pos (by omega)]
        go_simp
        refine hK _ _ ?_
        exact ⟨_, _, _, _, _, _, _, _, _, _, _, rfl, .inl ⟨fun h => h11 (h.resolve_left (by decide)), ⟨(hM.d.imp fun l h => ⟨h.1, h.2.imp id (Or.imp (fun q => ⟨.inr q.1, q.2⟩) fun q => ⟨.inr q.1, q.2⟩)⟩), (or_l (by decide) hM.h0), (or_l (by decide) hM.h1), (or_l (by decide) hM.h2), (fun _ => ⟨b, m, rfl, hm, hT, hbg⟩), (or_l (by decide) hM.h4), (or_l (by decide) hM.h5), (or_l (by decide) hM.h6), (or_l (by decide) hM.h7), (or_l (by decide) hM.h8), (or_l (by decide) hM.h9), (or_l (by decide) hM.h10), (or_l (by decide) fun h => .inr (hM.h72 h))⟩⟩⟩
      · obtain ⟨b, m, rfl, hm, hT, hbg⟩ := hM.h3 (ha 3 (by kernel_rfl))
        obtain ⟨x, hx, hx0, hx1⟩ := hT.2 m hm
        refine wpOp_step rfl (fun K hK => ?_)
        go_simp
        refine hK _ _ ?_
        exact ⟨_, _, _, _, _, _, _, _, _, _, _, rfl, .inl ⟨fun h => h11 (h.resolve_left (by decide)), ⟨(hM.d.imp fun l h => ⟨h.1, h.2.imp id (Or.imp (fun q => ⟨.inr q.1, q.2⟩) fun q => ⟨.inr q.1, q.2⟩)⟩), (or_l (by decide) hM.h0), (or_l (by decide) hM.h1), (or_l (by decide) hM.h2), (or_l (by decide) hM.h3), (fun _ => ⟨x, rfl, hx0, hx1⟩), (or_l (by decide) hM.h5), (or_l (by decide) hM.h6), (or_l (by decide) hM.h7), (or_l (by decide) hM.h8), (or_l (by decide) hM.h9), (or_l (by decide) hM.h10), (or_l (by decide) fun h => .inr (hM.h72 h))⟩⟩⟩
      · obtain ⟨l, hD, _⟩ := hM.d
        have hgs : g < w2.heap.size := Nat.lt_of_lt_of_le hD.2.2.2 hD.2.2.1.size
        refine wpOp_step rfl (fun K hK => ?_)
        go_simp
        refine hK _ _ ?_
        have HW : ∀ o b, b ≠ g → TabB w2 b → TabB (w2.alloc o) b := fun o b _ h => h.alloc o
        exact ⟨_, _, _, _, _, _, _, _, _, _, _, rfl, .inl ⟨fun h => h11 (h.resolve_left (by decide)), ⟨(hM.d.imp fun l h => ⟨h.1.alloc _, h.2.imp id (Or.imp (fun q => ⟨.inr q.1, q.2⟩) fun q => ⟨.inr q.1, q.2⟩)⟩), (or_l (by decide) fun h => (hM.h0 h).turn (HW _)), (or_l (by decide) hM.h1), (or_l (by decide) hM.h2), (or_l (by decide) fun h => (hM.h3 h).turn (HW _)), (or_l (by decide) hM.h4), (fun _ => ⟨_, rfl, TabB.new2 _ _, by omega⟩), (or_l (by decide) hM.h6), (or_l (by decide) hM.h7), (or_l (by decide) fun h => (hM.h8 h).turn (HW _)), (or_l (by decide) hM.h9), (or_l (by decide) hM.h10), (or_l (by decide) fun h => .inr (hM.h72 h))⟩⟩⟩
      · skip
        refine wpOp_step rfl (fun K hK => ?_)
        go_simp
        refine hK _ _ ?_
        exact ⟨_, _, _, _, _, _, _, _, _, _, _, rfl, .inl ⟨fun h => h11 (h.resolve_left (by decide)), ⟨(hM.d.imp fun l h => ⟨h.1, h.2.imp id (Or.imp (fun q => ⟨.inr q.1, q.2⟩) fun q => ⟨.inr q.1, q.2⟩)⟩), (or_l (by decide) hM.h0), (or_l (by decide) hM.h1), (or_l (by decide) hM.h2), (or_l (by decide) hM.h3), (or_l (by decide) hM.h4), (or_l (by decide) hM.h5), (fun _ => rfl), (or_l (by decide) hM.h7), (or_l (by decide) hM.h8), (or_l (by decide) hM.h9), (or_l (by decide) hM.h10), (or_l (by decide) fun h => .inr (hM.h72 h))⟩⟩⟩
      · obtain ⟨l, hD, hl2⟩ := hM.d
        have e7 := hM.h6 (ha 6 (by kernel_rfl))
        subst e7
        have hll : l ≤ lim + 2 := by rcases hl2 with h | ⟨_, h⟩ | ⟨h, _⟩; omega; exact h; exact absurd h hn
        refine wpOp_step rfl (fun K hK => ?_)
        go_simp
        refine Calls.mono (DrS.pick (n := 3) hD (by omega) (by omega) (by omega)) ?_
        rintro e w3 ⟨m, rfl, hm, hD3, hg3⟩
        have HW : ∀ b, b ≠ g → TabB w2 b → TabB w3 b := fun b hb h => h.only hg3 hb
        dsimp only
        refine hK _ _ ?_
        exact ⟨_, _, _, _, _, _, _, _, _, _, _, rfl, .inl ⟨fun h => h11 (h.resolve_left (by decide)), ⟨⟨_, hD3, .inr (.inr ⟨.inl rfl, by omega⟩)⟩, (or_l (by decide) fun h => (hM.h0 h).turn HW), (or_l (by decide) hM.h1), (or_l (by decide) hM.h2), (or_l (by decide) fun h => (hM.h3 h).turn HW), (or_l (by decide) hM.h4), (or_l (by decide) fun h => (hM.h5 h).turn HW), (or_l (by decide) hM.h6), (fun _ => ⟨m, rfl, by omega⟩), (or_l (by decide) fun h => (hM.h8 h).turn HW), (or_l (by decide) hM.h9), (or_l (by decide) hM.h10), (fun _ => .inr (ha 2 (by kernel_rfl)))⟩⟩⟩
      · obtain ⟨b, rfl, hT, hbg⟩ := hM.h5 (ha 5 (by kernel_rfl))
        obtain ⟨m, rfl, hm⟩ := hM.h7 (ha 7 (by kernel_rfl))
        refine wpOp_step rfl (fun K hK => ?_)
        go_simp
        rw [if_pos (by omega)]
        go_simp
        refine hK _ _ ?_
        exact ⟨_, _, _, _, _, _, _, _, _, _, _, rfl, .inl ⟨fun h => h11 (h.resolve_left (by decide)), ⟨(hM.d.imp fun l h => ⟨h.1, h.2.imp id (Or.imp (fun q => ⟨.inr q.1, q.2⟩) fun q => ⟨.inr q.1, q.2⟩)⟩), (or_l (by decide) hM.h0), (or_l (by decide) hM.h1), (or_l (by decide) hM.h2), (or_l (by decide) hM.h3), (or_l (by decide) hM.h4), (or_l (by decide) hM.h5), (or_l (by decide) hM.h6), (or_l (by decide) hM.h7), (fun _ => ⟨b, m, rfl, hm, hT, hbg⟩), (or_l (by decide) hM.h9), (or_l (by decide) hM.h10), (or_l (by decide) fun h => .inr (hM.h72 h))⟩⟩⟩
      · obtain ⟨b, m, rfl, hm, hT, hbg⟩ := hM.h8 (ha 8 (by kernel_rfl))
        obtain ⟨x, hx, hx0, hx1⟩ := hT.2 m hm
        refine wpOp_step rfl (fun K hK => ?_)
        go_simp
        refine hK _ _ ?_
        exact ⟨_, _, _, _, _, _, _, _, _, _, _, rfl, .inl ⟨fun h => h11 (h.resolve_left (by decide)), ⟨(hM.d.imp fun l h => ⟨h.1, h.2.imp id (Or.imp (fun q => ⟨.inr q.1, q.2⟩) fun q => ⟨.inr q.1, q.2⟩)⟩), (or_l (by decide) hM.h0), (or_l (by decide) hM.h1), (or_l (by decide) hM.h2), (or_l (by decide) hM.h3), (or_l (by decide) hM.h4), (or_l (by decide) hM.h5), (or_l (by decide) hM.h6), (or_l (by decide) hM.h7), (or_l (by decide) hM.h8), (fun _ => ⟨x, rfl, hx0, hx1⟩), (or_l (by decide) hM.h10), (or_l (by decide) fun h => .inr (hM.h72 h))⟩⟩⟩
      · obtain ⟨x, rfl, hx0, hx1⟩ := hM.h4 (ha 4 (by kernel_rfl))
        obtain ⟨y, rfl, hy0, hy1⟩ := hM.h9 (ha 9 (by kernel_rfl))
        refine wpOp_step rfl (fun K hK => ?_)
        go_simp
        refine hK _ _ ?_
        exact ⟨_, _, _, _, _, _, _, _, _, _, _, rfl, .inl ⟨fun h => h11 (h.resolve_left (by decide)), ⟨(hM.d.imp fun l h => ⟨h.1, h.2.imp id (Or.imp (fun q => ⟨.inr q.1, q.2⟩) fun q => ⟨.inr q.1, q.2⟩)⟩), (or_l (by decide) hM.h0), (or_l (by decide) hM.h1), (or_l (by decide) hM.h2), (or_l (by decide) hM.h3), (or_l (by decide) hM.h4), (or_l (by decide) hM.h5), (or_l (by decide) hM.h6), (or_l (by decide) hM.h7), (or_l (by decide) hM.h8), (or_l (by decide) hM.h9), (fun _ => ⟨x, y, rfl, hx0, hx1, hy0, hy1⟩), (or_l (by decide) fun h => .inr (hM.h72 h))⟩⟩⟩
      · obtain ⟨x, y, rfl, hx0, hx1, hy0, hy1⟩ := hM.h10 (ha 10 (by kernel_rfl))
        obtain ⟨l, hD, hl2⟩ := hM.d
        obtain ⟨k0, k1, kf0, kf1⟩ := hD.cells
        obtain ⟨hG, hR⟩ := hD.done hBw (.int .i64 x) (.int .i64 y)
        have hR' := hR.more (show l ≤ lim + 3 by omega)
        refine wpOp_step rfl (fun K hK => ?_)
        go_simp
        refine hK _ _ ?_
        refine ⟨_, _, _, _, _, _, _, _, _, _, _, rfl, .inr ⟨fun j hj => ?_, x, y, ⟨hx0, hx1, hy0, hy1⟩, by go_simp, by go_simp, hG, hR'⟩⟩
        have hj' : j = 11 ∨ j < 11 := by omega
        rcases hj' with h | h
        · exact .inl h
        · right
          have h2 : j = 0 ∨ j = 1 ∨ j = 2 ∨ j = 3 ∨ j = 4 ∨ j = 5 ∨ j = 6 ∨ j = 7 ∨ j = 8 ∨ j = 9 ∨ j = 10 := by omega
          rcases h2 with rfl | rfl | rfl | rfl | rfl | rfl | rfl | rfl | rfl | rfl | rfl <;> exact ha _ (by kernel_rfl)
  · have h0' : ((m1 : Int) == 0) = false := by simpa using h0
    go_wp2_with fail
    refine (pickR (n := 8) hr1 (by omega) (by omega) (by omega)).mono ?_
    rintro e w2 ⟨m2, rfl, hm2, hg2, hr2⟩
    have K2 := K1.only hg2 (by omega)
    have G2 := only_next G1 hg2
    clear hg2 hr1 K1 G1
    go_wp2_with fail
    refine (pickR (n := 3) hr2 (by omega) (by omega) (by omega)).mono ?_
    rintro e w3 ⟨m3, rfl, hm3, hg3, hr3⟩
    have K3 := K2.only hg3 (by omega)
    have G3 := only_next G2 hg3
    clear hg3 hr2 K2 G2
    obtain ⟨k0, k1, kf0, kf1⟩ := K3.two
    have G5 := only_setCell (only_setCell G3 (p := ⟨w.heap.size, 0, none⟩) (.inr (by simp)) (.int .i64 m2)) (p := ⟨w.heap.size, 1, none⟩) (.inr (by simp)) (.int .i64 (1 + m3))
    have R5 := (hr3.set' (p := ⟨w.heap.size, 0, none⟩) (by simp; omega) (by simp; omega) (.int .i64 m2)).set' (p := ⟨w.heap.size, 1, none⟩) (by simp; omega) (by simp; omega) (.int .i64 (1 + m3))
    have HG := Lib.hid G5; have HR := Lib.hid R5
    clear G3 G5 R5 hr3 K3
    go_wp2
    refine bodyPost_ret (v := .agg #[.int .i64 m2, .int .i64 (1 + m3)]) (by simp [results, Try.results105, go_sem, k0, k1]) rfl ?_
    exact ⟨m2, 1 + m3, rfl, by unfold SmallS; dsimp; omega, HG.out, HR.out⟩
end Go.Proofs.Ytppjjbjjbmodbaa
