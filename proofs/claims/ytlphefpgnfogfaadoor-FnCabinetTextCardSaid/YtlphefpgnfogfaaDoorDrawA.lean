/-
  The reader of a code: pick gives some number below its bound, and moves the reader on by one. Conditions: the reader has been asked fewer than a thousand million times.
  The reader: of gives one of some texts; l6Open begins. Conditions: as for pick.
  The reader draws a pad. Conditions: as for pick.
  l92Pads draws a list of small pads in new memory. Conditions: the reader has not been asked too often.
  l92Cabinet draws a list of drawers in new memory. Conditions: the reader has not been asked too often.
  DrawCabinetValid; parts of a cabinet are cabinets. Conditions: none.
-/
import Derived.Test.YtlphefpgnfogfaaDoorBase
import Derived.BigQuiet
import Derived.Laws.BitsAllLaws
import Derived.Laws.BitsLemmas
import Derived.Test.YtlphefpgnfogfaaDoorTreeB
import Derived.Maps.Range
import Derived.Test.YtlphefpgnfogfaaDoorFileA
import Derived.Test.YtlphefpgnfogfaaDoorFindA
import Derived.Deep.RegionLaw
namespace Go.Proofs.YtlphefpgnfogfaaDoor
open Go.ChangeShapes Go.WideShapes Go.ChangeAt Go.RowKit
set_option maxRecDepth 100000

/-- The reader at block g: its bytes lie below B, it has been asked at most lim times. -/
def RdIn (w : World) (B g lim : Nat) : Prop :=
  ∃ (A : Option Addr) (n c : Nat) (bs : List Int) (p : Nat), w.heap[g]? = some (.cells #[.slice A n c, .int .i64 p] 82 (0, 0)) ∧ p ≤ lim ∧ n ≤ 2000 ∧ BytesIn w B A n c bs ∧ B ≤ g

theorem bytesAt {w : World} {B n c : Nat} {A : Option Addr} {bs : List Int} (h : BytesIn w B A n c bs) (hn : 0 < n) :
    ∃ b off, A = some ⟨b, off, none⟩ ∧ b < B ∧ ∀ k : Nat, k < n → w.cell? ⟨b, off + k, none⟩ = some (.int .u8 (bs.getD k 0)) ∧ 0 ≤ bs.getD k 0 ∧ bs.getD k 0 ≤ 255 := by
  obtain ⟨h1, h2, h3, h4, h5⟩ := h
  obtain ⟨b, off, e, hb, hc⟩ := h4.2 hn
  refine ⟨b, off, e, hb, fun k hk => ?_⟩
  have hk' : k < bs.length := by omega
  have hg : bs.getD k 0 = bs[k] := by simp [List.getD, List.getElem?_eq_getElem hk']
  refine ⟨hc k _ ?_, ?_⟩
  · have := flat_at (ea := fun z : Int => [Value.int .u8 z]) (sz := 1) (fun _ => rfl) bs k bs[k] 0 (.int .u8 bs[k]) (List.getElem?_eq_getElem hk') rfl
    rw [hg]; simpa using this
  · rw [hg]; exact h5 _ (List.getElem_mem _)

theorem ofInt_i64 (a : Nat) (ha : a < 9223372036854775808) : (BitVec.ofInt 64 (a : Int)).toNat = a := by
  rw [BitVec.ofInt_natCast, BitVec.toNat_ofNat]; exact Nat.mod_eq_of_lt (by omega)
theorem i64_xor_nat (a b : Nat) (ha : a < 9223372036854775808) (hb : b < 9223372036854775808) : bits .xor .i64 (a : Int) (b : Int) = ((a ^^^ b : Nat) : Int) := by
  have hx : a ^^^ b < 2 ^ 63 := Nat.xor_lt_two_pow (by omega) (by omega)
  show IntKind.i64.wrap ((BitVec.ofInt 64 (a : Int) ^^^ BitVec.ofInt 64 (b : Int)).toNat : Int) = _
  rw [BitVec.toNat_xor, ofInt_i64 a ha, ofInt_i64 b hb, IntKind.wrap_i64]
  omega

theorem only_setCell {a w : World} {g : Nat} (h : a.grownBy w (some g)) {p : Addr} (hp : p.block = g ∨ a.heap.size ≤ p.block) (u : Value) : a.grownBy (w.setCell p u) (some g) :=
  ⟨h.os, h.tape, h.output, by simpa [World.setCell] using h.size, fun i hi hne => (Below.heap_setCell w p u i (by
    rintro rfl
    rcases hp with hp | hp
    · exact hne (by rw [hp])
    · omega)).trans (h.block i hi hne)⟩
theorem only_drewN {a w : World} {row : Option Nat} (h : a.grownBy w row) (n : Nat) : a.grownBy (w.drewN n) row := ⟨h.os, h.tape, h.output, h.size, h.block⟩

theorem BytesIn.keep {w w' : World} {B n c : Nat} {A : Option Addr} {bs : List Int} (h : BytesIn w B A n c bs) (hk : ∀ p : Addr, p.block < B → w'.cell? p = w.cell? p) : BytesIn w' B A n c bs :=
  ⟨h.1, h.2.1, h.2.2.1, h.2.2.2.1.keep hk, h.2.2.2.2⟩

theorem rd_step {w : World} {B g lim n c p : Nat} {A : Option Addr} {bs : List Int} (hblk : w.heap[g]? = some (.cells #[.slice A n c, .int .i64 p] 82 (0, 0))) (hp : p ≤ lim) (hn : n ≤ 2000) (hbs : BytesIn w B A n c bs) (hB : B ≤ g) (k : Nat) :
    w.grownBy ((w.setCell ⟨g, 1, none⟩ (.int .i64 ((p : Int) + 1))).drewN k) (some g) ∧ RdIn ((w.setCell ⟨g, 1, none⟩ (.int .i64 ((p : Int) + 1))).drewN k) B g (lim + 1) := by
  refine ⟨only_drewN (only_setCell (World.grownBy.refl w _) (.inl rfl) _) k, A, n, c, bs, p + 1, ?_, by omega, hn, ?_, hB⟩
  · show (w.setCell ⟨g, 1, none⟩ (.int .i64 ((p : Int) + 1))).heap[g]? = _
    simp [World.setCell, Array.getElem?_modify, hblk]
  · exact hbs.keep fun q hq => World.cell?_setCell_other w _ q _ (fun e => by subst e; simp at hq; omega)

def Picked (n : Int) (g B lim : Nat) (w : World) (e : Ending) (w' : World) : Prop :=
  ∃ m : Int, e = .returned (.int .i64 m) ∧ 0 ≤ m ∧ (m < n ∨ m = 0) ∧ w.grownBy w' (some g) ∧ RdIn w' B g (lim + 1)

/-- What the mixing of bytes comes to: a number that is not negative and not great. -/
theorem mix_nonneg (x : Int) (h0 : 0 ≤ x) (h1 : x ≤ 1000000000000) : ∃ y : Nat, bits .xor .i64 x (x / 64) = (y : Int) := by
  obtain ⟨a, rfl⟩ := Int.eq_ofNat_of_zero_le h0
  refine ⟨a ^^^ (a / 64), ?_⟩
  rw [show ((a : Int) / 64) = ((a / 64 : Nat) : Int) by omega]
  exact i64_xor_nat a (a / 64) (by omega) (by omega)

theorem pick (n : Int) (g B lim : Nat) (w : World) (hn0 : 0 ≤ n) (hn : n ≤ 1000000) (hl : lim ≤ 1000000000) (hr : RdIn w B g lim) :
    Calls Tryd.prog 40 #[.pointer (some ⟨g, 0, none⟩), .int .i64 n] w (Picked n g B lim w) := by
  obtain ⟨A, len, cap, bs, p, hblk, hp, hlen, hbs, hB⟩ := hr
  have hg0 : w.cell? ⟨g, 0, none⟩ = some (.slice A len cap) := by simp [World.cell?, hblk]
  have hg1 : w.cell? ⟨g, 1, none⟩ = some (.int .i64 p) := by simp [World.cell?, hblk]
  have hf1 : w.frozen? ⟨g, 1, none⟩ = false := by simp [World.frozen?, hblk]
  have HR : Hid (∀ k, w.grownBy ((w.setCell ⟨g, 1, none⟩ (.int .i64 ((p : Int) + 1))).drewN k) (some g) ∧ RdIn ((w.setCell ⟨g, 1, none⟩ (.int .i64 ((p : Int) + 1))).drewN k) B g (lim + 1)) :=
    Lib.hid (fun k => rd_step hblk hp hlen hbs hB k)
  by_cases hn1 : n < 1
  · clear hblk hbs
    go_enter Tryd.func40, Tryd.ntmps40
    go_wp2
    go_ret
    exact ⟨0, rfl, by omega, .inr rfl, HR.out 0⟩
  by_cases hl0 : len = 0
  · subst hl0
    clear hblk hbs
    go_enter Tryd.func40, Tryd.ntmps40
    go_wp2
    go_ret
    exact ⟨0, rfl, by omega, .inr rfl, HR.out 0⟩
  have hpos : 0 < len := by omega
  have hle0 : ((len : Int) == 0) = false := by simp; omega
  have hn1' : 1 ≤ n := by omega
  clear hn1 hl0
  obtain ⟨b, off, rfl, hb, hcell⟩ := bytesAt hbs hpos
  have HC : Hid (∀ k : Nat, k < len → (w.setCell ⟨g, 1, none⟩ (.int .i64 ((p : Int) + 1))).cell? ⟨b, off + k, none⟩ = some (.int .u8 (bs.getD k 0)) ∧ 0 ≤ bs.getD k 0 ∧ bs.getD k 0 ≤ 255) := Lib.hid (fun k hk => by
    rw [World.cell?_setCell_other w _ _ _ (fun e => by injection e with e1; omega)]
    exact hcell k hk)
  clear hblk hbs hcell
  by_cases hk : p < len
  · obtain ⟨hc, h0, h1⟩ := HC.out p hk
    generalize bs.getD p 0 = z at *
    go_enter Tryd.func40, Tryd.ntmps40
    go_wp2
    go_ret
    exact ⟨z % n, rfl, Int.emod_nonneg _ (by omega), .inl (Int.emod_lt_of_pos _ (by omega)), HR.out 0⟩
  · have hq1 : p % len < len := Nat.mod_lt _ hpos
    have hq2 : (p * 7 + 3) % len < len := Nat.mod_lt _ hpos
    obtain ⟨hc, h0, h1⟩ := HC.out _ hq1
    obtain ⟨hc', h0', h1'⟩ := HC.out _ hq2
    generalize bs.getD (p % len) 0 = z at *
    generalize bs.getD ((p * 7 + 3) % len) 0 = z' at *
    go_enter Tryd.func40, Tryd.ntmps40
    go_wp2
    have e1 : IntKind.i64.wrap ((p : Int) * 7) = (p : Int) * 7 := IntWalk.i64_in _ (by omega)
    have e2 : IntKind.i64.wrap ((p : Int) * 7 + 3) = (p : Int) * 7 + 3 := IntWalk.i64_in _ (by omega)
    have f1 : 0 ≤ ((p : Int) * 7 + 3) % (len : Int) := Int.emod_nonneg _ (by omega)
    have f2 : ((p : Int) * 7 + 3) % (len : Int) < (len : Int) := Int.emod_lt_of_pos _ (by omega)
    have f3 : (((p : Int) * 7 + 3) % (len : Int)).toNat = (p * 7 + 3) % len := by
      rw [show ((p : Int) * 7 + 3) = ((p * 7 + 3 : Nat) : Int) by omega, ← Int.natCast_emod]; rfl
    have d0 : 0 ≤ (p : Int) / (len : Int) := Int.ediv_nonneg (by omega) (by omega)
    have d1 : (p : Int) / (len : Int) ≤ 1000000000 := by
      have := Int.ediv_le_self (a := (p : Int)) (len : Int) (by omega)
      omega
    refine wp_region_quiet_lit (by kernel_rfl) (by kernel_rfl) ?_
    repeat (first | go_big_quiet_step (fail) | quiet_step (fail))
    refine wpQuiet_nil ?_
    intro _ hw'; obtain ⟨nq, hw''⟩ := hw'; subst hw''
    clear e1 e2 f1 f2 f3 hc hc'
    obtain ⟨x, ex⟩ : ∃ x : Int, x = z * 131 + z' * 1117 + ↑p * 29 + (↑p / ↑len) * 53 := ⟨_, rfl⟩
    rw [← ex]
    have x0 : 0 ≤ x := by omega
    have x1 : x ≤ 1000000000000 := by omega
    clear ex d0 d1 h0 h1 h0' h1'
    obtain ⟨y, hy⟩ := mix_nonneg x x0 x1
    go_wp2
    go_ret
    exact ⟨(y : Int) % n, rfl, Int.emod_nonneg _ (by omega), .inl (Int.emod_lt_of_pos _ (by omega)), HR.out nq⟩
end Go.Proofs.YtlphefpgnfogfaaDoor

namespace Go.Proofs.YtlphefpgnfogfaaDoor
open Go.ChangeShapes Go.WideShapes Go.ChangeAt Go.RowKit
set_option maxRecDepth 100000

theorem ocell {w w' : World} {g : Nat} {a : Addr} {v : Value} (h : w.grownBy w' (some g)) (hc : w.cell? a = some v) (hne : a.block ≠ g) : w'.cell? a = some v := by
  rw [World.cell?_of_block (h.block a.block (World.block_lt_of_cell? _ _ hc) (fun e => hne (by injection e)))]; exact hc
theorem ofree {w w' : World} {g : Nat} {a : Addr} {v : Value} (h : w.grownBy w' (some g)) (hc : w.cell? a = some v) (hf : w.frozen? a = false) (hne : a.block ≠ g) : w'.frozen? a = false := by
  rw [World.frozen?_of_block (h.block a.block (World.block_lt_of_cell? _ _ hc) (fun e => hne (by injection e)))]; exact hf
theorem RdIn.lt {w : World} {B g lim : Nat} (h : RdIn w B g lim) : g < w.heap.size := by
  obtain ⟨A, n, c, bs, p, h, _⟩ := h
  rcases Nat.lt_or_ge g w.heap.size with hlt | hge
  · exact hlt
  · rw [Array.getElem?_eq_none hge] at h; cases h
theorem RdIn.more {w : World} {B g lim lim' : Nat} (h : RdIn w B g lim) (hl : lim ≤ lim') : RdIn w B g lim' := by
  obtain ⟨A, n, c, bs, p, h1, h2, h3⟩ := h
  exact ⟨A, n, c, bs, p, h1, by omega, h3⟩
/-- The reader stays where nothing old turns. -/
theorem RdIn.below {w w' : World} {B g lim : Nat} (h : RdIn w B g lim) (hb : Below w.heap.size w w') : RdIn w' B g lim := by
  have hlt := h.lt
  obtain ⟨A, n, c, bs, p, h1, h2, h3, h4, h5⟩ := h
  exact ⟨A, n, c, bs, p, (hb.block g hlt).trans h1, h2, h3, h4.keep (fun q hq => hb.cell (by omega)), h5⟩

/-- A row of texts at the head of block b. -/
def StrsAt (w : World) (b : Nat) (ss : List ByteArray) : Prop := ∀ (k : Nat) s, ss[k]? = some s → w.cell? ⟨b, k, none⟩ = some (.string s)
theorem StrsAt.new (w : World) (l : List ByteArray) (cs : Array Value) (t : TypeId) (h : cs = (l.map Value.string).toArray) : StrsAt (w.alloc (.cells cs t)) w.heap.size l := by
  intro k s hk
  subst h
  exact newcell w _ t k _ (by simp [hk])

def OneOf (ss : List ByteArray) (B g lim : Nat) (w : World) (e : Ending) (w' : World) : Prop :=
  ∃ s, s ∈ ss ∧ e = .returned (.string s) ∧ w.grownBy w' (some g) ∧ RdIn w' B g (lim + 1)

theorem pickOf (b g B lim n c : Nat) (ss : List ByteArray) (w : World) (hn : n = ss.length) (hn0 : 0 < n) (hn1 : n ≤ 1000) (hl : lim ≤ 1000000000) (hr : RdIn w B g lim) (hs : StrsAt w b ss) (hne : b ≠ g) :
    Calls Tryd.prog 57 #[.pointer (some ⟨g, 0, none⟩), .slice (some ⟨b, 0, none⟩) n c] w (OneOf ss B g lim w) := by
  have HS := Lib.hid hs; clear hs
  have HN := Lib.hid hn; clear hn
  go_enter Tryd.func57, Tryd.ntmps57
  go_wp2_with fail
  refine (pick (n : Int) g B lim _ (by omega) (by omega) hl hr).mono ?_
  rintro e w1 ⟨m, rfl, hm0, hm1, hg1, hr1⟩
  obtain ⟨k, rfl⟩ := Int.eq_ofNat_of_zero_le hm0
  have hk : k < n := by omega
  have hk' : k < ss.length := by have := HN.out; omega
  obtain ⟨s, hs⟩ : ∃ s, ss[k]? = some s := ⟨_, List.getElem?_eq_getElem hk'⟩
  have hmem : s ∈ ss := List.mem_of_getElem? hs
  have hc : w1.cell? ⟨b, k, none⟩ = some (.string s) := ocell hg1 (HS.out k s hs) hne
  have HG := Lib.hid hg1; have HR := Lib.hid hr1; have HM := Lib.hid hmem
  clear hs hg1 hr1 hmem hm1 hk'
  go_wp2
  go_ret
  exact ⟨s, HM.out, rfl, HG.out, HR.out⟩

theorem BytesIn.take {w : World} {B n c : Nat} {A : Option Addr} {bs : List Int} (h : BytesIn w B A n c bs) {m : Nat} (hm : m ≤ n) : BytesIn w B A m c (bs.take m) := by
  obtain ⟨h1, h2, h3, h4, h5⟩ := h
  refine ⟨by rw [List.length_take]; omega, by omega, h3, ⟨by rw [flat_len (sz := 1) (fun _ => rfl), List.length_take]; omega, fun hp => ?_⟩, fun z hz => h5 z (List.mem_of_mem_take hz)⟩
  obtain ⟨b, off, e, hb, hc⟩ := h4.2 (by omega)
  refine ⟨b, off, e, hb, fun j u hu => hc j u ?_⟩
  obtain ⟨i, q, k, e1, e2, rfl⟩ := flat_get (sz := 1) (fun _ => rfl) _ j u hu
  refine flat_at (sz := 1) (fun _ => rfl) bs i q k u ?_ e2
  rw [List.getElem?_take] at e1
  split at e1
  · exact e1
  · cases e1

theorem l6Open (A : Option Addr) (n c : Nat) (bs : List Int) (B : Nat) (w : World) (hB : B ≤ w.heap.size) (hb : BytesIn w B A n c bs) :
    Calls Tryd.prog 23 #[.slice A n c] w fun e w' => e = .returned (.pointer (some ⟨w.heap.size, 0, none⟩)) ∧ Below w.heap.size w w' ∧ RdIn w' B w.heap.size 0 := by
  have hm := hb.2.2.1
  have hnc := hb.2.1
  unfold maxLen at hm
  by_cases hn : n ≤ 2000
  · have HB := Lib.hid hb; clear hb
    go_enter Tryd.func23, Tryd.ntmps23
    go_wp2
    go_ret
    refine ⟨rfl, by go_grown, A, n, c, bs, 0, heap_alloc_new _ _, Nat.le_refl _, hn, HB.out.keep (fun q hq => World.cell?_alloc_lt _ _ _ (by omega)), hB⟩
  · have HB := Lib.hid hb; clear hb
    go_enter Tryd.func23, Tryd.ntmps23
    go_wp2
    go_ret
    exact ⟨rfl, by go_grown, A, 2000, c, bs.take 2000, 0, heap_alloc_new _ _, Nat.le_refl _, Nat.le_refl _, (HB.out.take (by omega)).keep (fun q hq => World.cell?_alloc_lt _ _ _ (by omega)), hB⟩
end Go.Proofs.YtlphefpgnfogfaaDoor

namespace Go.Proofs.YtlphefpgnfogfaaDoor
open Go.ChangeShapes Go.WideShapes Go.ChangeAt Go.RowKit
set_option maxRecDepth 100000

def SmallPad (d : Int) (c : ByteArray) : Prop := -1 ≤ d ∧ d ≤ 10000 ∧ c.size ≤ 4
def DrawnPad (B g lim : Nat) (w : World) (e : Ending) (w' : World) : Prop :=
  ∃ (d : Int) (c : ByteArray), e = .returned (.agg #[.int .i64 d, .string c]) ∧ SmallPad d c ∧ w.grownBy w' (some g) ∧ RdIn w' B g (lim + 4)

theorem RdIn.alloc {w : World} {B g lim : Nat} (h : RdIn w B g lim) (o : Obj) : RdIn (w.alloc o) B g lim := h.below ((Below.refl _ _).alloc (Nat.le_refl _) o)
theorem RdIn.setCell {w : World} {B g lim : Nat} (h : RdIn w B g lim) {p : Addr} (hp : p.block ≠ g) (hB : B ≤ p.block) (u : Value) : RdIn (w.setCell p u) B g lim := by
  obtain ⟨A, n, c, bs, q, h1, h2, h3, h4, h5⟩ := h
  exact ⟨A, n, c, bs, q, (Below.heap_setCell w p u g (Ne.symm hp)).trans h1, h2, h3, h4.keep (fun x hx => World.cell?_setCell_other w _ x _ (fun e => by subst e; omega)), h5⟩

theorem l92Pad (g B lim : Nat) (w : World) (hl : lim ≤ 900000000) (hr : RdIn w B g lim) (hBw : B ≤ w.heap.size) :
    Calls Tryd.prog 49 #[.pointer (some ⟨g, 0, none⟩)] w (DrawnPad B g lim w) := by
  have hg := hr.lt
  go_enter Tryd.func49, Tryd.ntmps49
  go_wp2_with fail
  refine (pick 9 g B lim _ (by omega) (by omega) (by omega) (hr.alloc _)).mono ?_
  rintro e w1 ⟨m1, rfl, hm10, hm11, hg1, hr1⟩
  have K1 := (Blk.new w _ _).only hg1 (by omega)
  have hz1 := K1.lt
  have G1 := only_next (only_alloc (World.grownBy.refl w (some g)) _) hg1
  clear hg1 hr
  go_wp2_with fail
  refine (pickOf w1.heap.size g B (lim + 1) 3 3 [⟨#[97]⟩, ⟨#[98]⟩, ⟨#[99, 97, 115, 101]⟩] _ rfl (by omega) (by omega) (by omega) (hr1.alloc _) (StrsAt.new w1 _ _ _ rfl) (by omega)).mono ?_
  rintro e w2 ⟨s, hs, rfl, hg2, hr2⟩
  have hs4 : s.size ≤ 4 := by
    simp only [List.mem_cons, List.mem_nil_iff, or_false] at hs
    rcases hs with rfl | rfl | rfl <;> decide
  have K2 := (K1.alloc _).only hg2 (by omega)
  have hz2 := K2.lt
  have G2 := only_next (only_alloc G1 _) hg2
  clear hg2 hr1 hs K1
  go_wp2_with fail
  refine (pick 60 g B (lim + 1 + 1) _ (by omega) (by omega) (by omega) (hr2.alloc _)).mono ?_
  rintro e w3 ⟨m3, rfl, hm30, hm31, hg3, hr3⟩
  have K3 := (K2.alloc _).only hg3 (by omega)
  have P3 := (Blk.new w2 _ _).only hg3 (by omega)
  have hz3 := P3.lt
  have G3 := only_next (only_alloc G2 _) hg3
  clear hg3 hr2 K2 G1 G2
  generalize w2.heap.size = b2 at *
  by_cases h0 : m3 = 0
  · subst h0
    go_wp2_with fail
    refine (pick 3 g B (lim + 1 + 1 + 1) _ (by omega) (by omega) (by omega) (hr3.alloc _)).mono ?_
    rintro e w4 ⟨m4, rfl, hm40, hm41, hg4, hr4⟩
    have K4 := (K3.alloc _).only hg4 (by omega)
    have P4 := (P3.alloc _).only hg4 (by omega)
    have Q4 := (Blk.new w3 _ _).only hg4 (by omega)
    have G4 := only_next (only_alloc G3 _) hg4
    obtain ⟨k, rfl⟩ := Int.eq_ofNat_of_zero_le hm40
    have hk3 : k < 3 := by omega
    obtain ⟨d4, hd4, hd40, hd41⟩ : ∃ d4 : Int, w4.cell? ⟨w3.heap.size, k, none⟩ = some (.int .i64 d4) ∧ -1 ≤ d4 ∧ d4 ≤ 10000 := by
      rw [Q4.cell]
      match k, hk3 with
      | 0, _ => exact ⟨-1, rfl, by omega, by omega⟩
      | 1, _ => exact ⟨10000, rfl, by omega, by omega⟩
      | 2, _ => exact ⟨9999, rfl, by omega, by omega⟩
    clear hg4 hr3 G3 K3 P3 Q4 hm30 hm31 hm41
    obtain ⟨k0, k1, kf0, kf1⟩ := K4.two
    obtain ⟨p0, p1, pf0, pf1⟩ := P4.two
    have G5 := only_setCell (only_setCell (only_setCell G4 (p := ⟨b2, 0, none⟩) (.inr (by simp; omega)) (.int .i64 d4)) (p := ⟨w.heap.size, 0, none⟩) (.inr (by simp)) (.int .i64 d4)) (p := ⟨w.heap.size, 1, none⟩) (.inr (by simp)) (.string s)
    have R5 := ((hr4.setCell (p := ⟨b2, 0, none⟩) (by simp; omega) (by simp; omega) (.int .i64 d4)).setCell (p := ⟨w.heap.size, 0, none⟩) (by simp; omega) (by simp; omega) (.int .i64 d4)).setCell (p := ⟨w.heap.size, 1, none⟩) (by simp; omega) (by simp; omega) (.string s)
    have HG := Lib.hid G5; have HR := Lib.hid R5
    clear G4 G5 R5 hr4 K4 P4
    go_wp2
    refine bodyPost_ret (v := .agg #[.int .i64 d4, .string s]) (by simp [results, Tryd.results49, go_sem, k0, k1]) rfl ?_
    exact ⟨d4, s, rfl, ⟨hd40, hd41, hs4⟩, HG.out, HR.out⟩
  · have h0' : (m3 == 0) = false := by simpa using h0
    by_cases h1 : m3 = 1
    · subst h1
      go_wp2_with fail
      refine (pickOf w3.heap.size g B (lim + 1 + 1 + 1) 2 2 [⟨#[]⟩, ⟨#[65]⟩] _ rfl (by omega) (by omega) (by omega) (hr3.alloc _) (StrsAt.new w3 _ _ _ rfl) (by omega)).mono ?_
      rintro e w4 ⟨s', hs', rfl, hg4, hr4⟩
      have hs4' : s'.size ≤ 4 := by
        simp only [List.mem_cons, List.mem_nil_iff, or_false] at hs'
        rcases hs' with rfl | rfl <;> decide
      have K4 := (K3.alloc _).only hg4 (by omega)
      have P4 := (P3.alloc _).only hg4 (by omega)
      have G4 := only_next (only_alloc G3 _) hg4
      clear hg4 hr3 G3 K3 P3 hs'
      obtain ⟨k0, k1, kf0, kf1⟩ := K4.two
      obtain ⟨p0, p1, pf0, pf1⟩ := P4.two
      have G5 := only_setCell (only_setCell (only_setCell G4 (p := ⟨b2, 1, none⟩) (.inr (by simp; omega)) (.string s')) (p := ⟨w.heap.size, 0, none⟩) (.inr (by simp)) (.int .i64 m1)) (p := ⟨w.heap.size, 1, none⟩) (.inr (by simp)) (.string s')
      have R5 := ((hr4.setCell (p := ⟨b2, 1, none⟩) (by simp; omega) (by simp; omega) (.string s')).setCell (p := ⟨w.heap.size, 0, none⟩) (by simp; omega) (by simp; omega) (.int .i64 m1)).setCell (p := ⟨w.heap.size, 1, none⟩) (by simp; omega) (by simp; omega) (.string s')
      have HG := Lib.hid G5; have HR := Lib.hid R5
      clear G4 G5 R5 hr4 K4 P4
      go_wp2
      refine bodyPost_ret (v := .agg #[.int .i64 m1, .string s']) (by simp [results, Tryd.results49, go_sem, k0, k1]) rfl ?_
      exact ⟨m1, s', rfl, ⟨by omega, by omega, hs4'⟩, HG.out, HR.out⟩
    · have h1' : (m3 == 1) = false := by simpa using h1
      obtain ⟨k0, k1, kf0, kf1⟩ := K3.two
      obtain ⟨p0, p1, pf0, pf1⟩ := P3.two
      have G5 := only_setCell (only_setCell G3 (p := ⟨w.heap.size, 0, none⟩) (.inr (by simp)) (.int .i64 m1)) (p := ⟨w.heap.size, 1, none⟩) (.inr (by simp)) (.string s)
      have R5 := ((hr3.setCell (p := ⟨w.heap.size, 0, none⟩) (by simp; omega) (by simp; omega) (.int .i64 m1)).setCell (p := ⟨w.heap.size, 1, none⟩) (by simp; omega) (by simp; omega) (.string s)).more (show lim + 1 + 1 + 1 ≤ lim + 4 by omega)
      have HG := Lib.hid G5; have HR := Lib.hid R5
      clear G3 G5 R5 hr3 K3 P3
      go_wp2
      refine bodyPost_ret (v := .agg #[.int .i64 m1, .string s]) (by simp [results, Tryd.results49, go_sem, k0, k1]) rfl ?_
      exact ⟨m1, s, rfl, ⟨by omega, by omega, hs4⟩, HG.out, HR.out⟩
end Go.Proofs.YtlphefpgnfogfaaDoor

namespace Go.Proofs.YtlphefpgnfogfaaDoor
open Go.ChangeShapes Go.WideShapes Go.ChangeAt Go.RowKit
set_option maxRecDepth 100000

theorem small_good {d : Int} {c : ByteArray} (h : SmallPad d c) : (⟨d, c⟩ : Pad).good := by
  obtain ⟨h1, h2, h3⟩ := h
  refine ⟨?_, by show c.size ≤ maxLen; unfold maxLen; omega⟩
  show (decide (IntKind.i64.min ≤ d) && decide (d ≤ IntKind.i64.max)) = true
  rw [show IntKind.i64.min = -9223372036854775808 from rfl, show IntKind.i64.max = 9223372036854775807 from rfl, decide_eq_true (by omega), decide_eq_true (by omega)]; rfl
theorem RdIn.ne_own {w : World} {B g lim : Nat} (h : RdIn w B g lim) {B' n sz : Nat} {e : TypeId} {v : Value} {xs : List Value} (ho : w.ownsRow B' e sz v n xs) (hne : e ≠ 82) : ∀ b, v.ownBlock = some b → some g ≠ some b := by
  intro b hb e
  injection e with e
  subst e
  obtain ⟨A, n, c, bs, p, h1, _⟩ := h
  obtain ⟨cur, h2⟩ := own_obj ho hb
  rw [h1] at h2
  injection h2 with h2; injection h2 with _ h2
  exact hne h2.symm
theorem RdIn.only {w w' : World} {B g lim : Nat} {row : Option Nat} (h : RdIn w B g lim) (hg : w.grownBy w' row) (h1 : ∀ q, row = some q → some g ≠ some q) (h2 : ∀ q, row = some q → B ≤ q) (hB : B ≤ w.heap.size) : RdIn w' B g lim := by
  obtain ⟨A, n, c, bs, p, e1, e2, e3, e4, e5⟩ := h
  refine ⟨A, n, c, bs, p, ?_, e2, e3, e4.keep (fun q hq => ?_), e5⟩
  · have hlt : g < w.heap.size := by
      rcases Nat.lt_or_ge g w.heap.size with hlt | hge
      · exact hlt
      · rw [Array.getElem?_eq_none hge] at e1; cases e1
    exact (hg.block g hlt (fun e => h1 g e.symm rfl)).trans e1
  · exact World.cell?_of_block (hg.block q.block (by omega) (fun e => by have := h2 q.block e.symm; omega))
theorem own_after {a w w' : World} {g : Nat} {v : Value} (h : a.grownBy w (some g)) (hg : w.grownBy w' v.ownBlock) (hb : ∀ q, v.ownBlock = some q → a.heap.size ≤ q) : a.grownBy w' (some g) :=
  h.andThen hg (fun j hj => .inl (hb j hj))

/-- What l92Pads answers. -/
def DrawnPads (B g lim : Nat) (w : World) (e : Ending) (w' : World) : Prop :=
  ∃ A c ps, e = .returned (.slice A ps.length c) ∧ PadsOwn w' w.heap.size (.slice A ps.length c) ps ∧ ps.length ≤ 15 ∧ (∀ p ∈ ps, SmallPad p.day p.case) ∧ w.grownBy w' (some g) ∧ RdIn w' B g (lim + 100)

theorem l92Pads (g B lim : Nat) (w : World) (hl : lim ≤ 800000000) (hr : RdIn w B g lim) (hBw : B ≤ w.heap.size) :
    Calls Tryd.prog 38 #[.pointer (some ⟨g, 0, none⟩)] w (DrawnPads B g lim w) := by
  obtain ⟨i0, hi, hz0, hz1, hz2⟩ := info_parts infoPad
  have hg0 := hr.lt
  go_enter Tryd.func38, Tryd.ntmps38
  go_wp2_with fail
  refine (pick 16 g B lim _ (by omega) (by omega) (by omega) (hr.alloc _)).mono ?_
  rintro e w1 ⟨m, rfl, hm0, hm1, hg1, hr1⟩
  obtain ⟨N, rfl⟩ := Int.eq_ofNat_of_zero_le hm0
  have hN : N ≤ 15 := by omega
  have G1 : w.grownBy w1 (some g) := only_next (World.grownBy_alloc w _ _) hg1
  have hO1 : PadsOwn w1 w.heap.size (.slice (some ⟨w.heap.size, 0, none⟩) 0 0) [] := by
    have h0 : (w.alloc (.cells #[] 40)).ownsRow w.heap.size 40 2 (.slice (some ⟨w.heap.size, 0, none⟩) 0 0) 0 [] := World.ownsRow_made w #[] 0 (Nat.le_refl _) (by simp) (by simp)
    exact own_only h0 hg1 (fun b hb e => by injection hb with hb; injection e with e; simp only at hb; omega)
  have HG := Lib.hid G1; have HR := Lib.hid hr1; have HO := Lib.hid hO1
  clear G1 hr1 hO1 hg1 hm0 hm1 hr
  go_wp2
  go_loopw [3, 5] (fun v i wr => ∃ (k : Nat) (ps : List Pad), k ≤ N ∧ i = .int .i64 k ∧ ps.length = k ∧ Hid (PadsOwn wr w.heap.size v ps) ∧ Hid (∀ p ∈ ps, SmallPad p.day p.case) ∧ Hid (w.grownBy wr (some g)) ∧ Hid (RdIn wr B g (lim + 1 + 4 * k))) (fun _ i _ => N - (intOf i).toNat)
  case atStart => exact ⟨0, [], Nat.zero_le _, rfl, rfl, HO, Lib.hid (by simp), HG, HR⟩
  case round =>
    obtain ⟨k, ps, hk, rfl, hpl, hO, hS, hG, hR⟩ := hrel
    by_cases hlt : k < N
    · have HPL := Lib.hid hpl
      have hz := hG.out.size
      have HPad := Lib.hid (l92Pad g B (lim + 1 + 4 * k) wr (by omega) hR.out (by omega))
      go_wp2_with fail
      refine HPad.out.mono ?_
      rintro e w2 ⟨d, s, rfl, hs, hg2, hr2⟩
      have hO2 := PadsOwn.only hO.out hg2 (fun b hb => hR.out.ne_own hO.out (by decide) b hb)
      have hG2 := only_next hG.out hg2
      have HO2 := Lib.hid hO2; have HG2 := Lib.hid hG2; have HR2 := Lib.hid hr2; have HS2 := Lib.hid hs
      have hz2' := hG2.size
      clear hO2 hG2 hr2 hs hg2 HPad hpl
      go_wp2_with (at_builtin; refine wpList_append_any _ rfl (.tmp 14) (.tmp 17) _ rfl w.heap.size 40 i0 _ 2 24 Tryd.underlying37 hi hz0 hz1 hz2 rfl (by omega) _ ps.length (ps.flatMap padC) rfl (HO2.out.alloc _) (w2.heap.size + 1) (some ⟨w2.heap.size, 0, none⟩) 1 1 [.int .i64 d, .string s] rfl (rowNewPad _ _ _ _) (by simp [Value.oneCell']) (by have := HPL.out; unfold maxLen; omega) (by have := HPL.out; omega) (by simp; omega) ?_; intro v3 w3 hown3 hg3 hat3)
      have HO3 : Hid (PadsOwn w3 w.heap.size v3 (ps ++ [⟨d, s⟩])) := Lib.hid (by unfold PadsOwn; rw [List.length_append, List.flatMap_append]; exact hown3)
      have HS3 : Hid (∀ p ∈ ps ++ [(⟨d, s⟩ : Pad)], SmallPad p.day p.case) := Lib.hid (fun p hp => by
        rcases List.mem_append.1 hp with hp | hp
        · exact hS.out p hp
        · simp at hp; subst hp; exact HS2.out)
      have HG3 := Lib.hid (own_after (only_next HG2.out (World.grownBy_alloc w2 _ _)) hg3 (fun q hq => own_base HO2.out hq))
      have HR3 : Hid (RdIn w3 B g (lim + 1 + 4 * (k + 1))) := Lib.hid (by
        have h1 := HR2.out.alloc (.cells #[.int .i64 d, .string s] 40)
        exact h1.only hg3 (fun q hq => h1.ne_own (HO2.out.alloc _) (by decide) q hq) (fun q hq => by have := own_base HO2.out hq; omega) (by simp; omega))
      clear hown3 hg3 hat3
      go_wp2
      go_roundw
      case rel => exact ⟨k + 1, _, by omega, by go_num, by rw [List.length_append, HPL.out]; rfl, HO3, HS3, HG3, HR3⟩
      case measure => simp [intOf]; omega
    · obtain rfl : k = N := by omega
      have HPL := Lib.hid hpl; clear hpl
      have HR3 := Lib.hid (hR.out.more (show lim + 1 + 4 * k ≤ lim + 100 by omega))
      have HF := Lib.hid (own_form hO.out)
      go_wp2
      go_ret
      obtain ⟨A, c, rfl, _⟩ := HF.out
      exact ⟨A, c, ps, rfl, hO.out, by rw [HPL.out]; exact hN, hS.out, hG.out, HR3.out⟩
end Go.Proofs.YtlphefpgnfogfaaDoor

namespace Go.Proofs.YtlphefpgnfogfaaDoor
open Go.ChangeShapes Go.WideShapes Go.ChangeAt Go.RowKit
set_option maxRecDepth 100000

theorem CabOwn.only {w w' : World} {B : Nat} {v : Value} {ds : List Drawer} {row : Option Nat} (h : CabOwn w B v ds) (hg : w.grownBy w' row) (h0 : ∀ b, v.ownBlock = some b → row ≠ some b) (h1 : ∀ d ∈ ds, ∀ b, d.v.ownBlock = some b → row ≠ some b) : CabOwn w' B v ds :=
  h.congr (fun b hb => hg.block b (own_lt h.1 hb) (fun e => h0 b hb e.symm)) fun d hd b hb => hg.block b (own_lt (h.2.1 d hd).2.1 hb) (fun e => h1 d hd b hb e.symm)
/-- The reader and a list of drawers do not meet. -/
theorem RdIn.cab {w w' : World} {B B' g lim : Nat} {v : Value} {ds : List Drawer} (hr : RdIn w B g lim) (h : CabOwn w B' v ds) (hg : w.grownBy w' (some g)) : CabOwn w' B' v ds :=
  h.only hg (fun b hb => hr.ne_own h.1 (by decide) b hb) (fun d hd b hb => hr.ne_own (h.2.1 d hd).2.1 (by decide) b hb)

theorem CabOwn.head {w : World} {B : Nat} {v : Value} {d : Drawer} {r : List Drawer} (h : CabOwn w B v (d :: r)) : (∀ d' ∈ r, ∀ b, d'.v.ownBlock = some b → d.v.ownBlock ≠ some b) := by
  intro d' hd' b hb e
  have h3 := h.2.2
  rw [List.filterMap_cons, e] at h3
  exact (List.nodup_cons.1 h3).1 (List.mem_filterMap.2 ⟨d', hd', hb⟩)
/-- The first drawer is another list, in the row that it had or in a new one. -/
theorem CabOwn.turn0 {w w1 : World} {B g0 n c : Nat} {ds : List Drawer} {d d2 : Drawer} {r : List Drawer} (hds : ds = d :: r) (h : CabOwn w B (.slice (some ⟨g0, 0, none⟩) n c) ds) (hg : w.grownBy w1 d.v.ownBlock) (hO : DrIn w1 B d2) (hat : ∀ b, d2.v.ownBlock = some b → d.v.ownBlock = some b ∨ w.heap.size ≤ b) :
    CabOwn (w1.setCell ⟨g0, 0, none⟩ d2.v) B (.slice (some ⟨g0, 0, none⟩) n c) (d2 :: r) := by
  subst hds
  have h1 := h.1
  have hn := h.len
  obtain ⟨cur, hb0⟩ := own_obj h1 (b := g0) rfl
  have ho : w1.ownsRow B 37 1 (.slice (some ⟨g0, 0, none⟩) n c) (d :: r).length ((d :: r).flatMap drawerC) := own_only h1 hg (fun b hb e => by
    obtain ⟨cur2, h2⟩ := own_obj (h.2.1 d (by simp)).2.1 e
    obtain ⟨cur3, h3⟩ := own_obj h1 hb
    rw [h2] at h3; injection h3 with h3; injection h3 with _ h3; exact absurd h3 (by decide))
  obtain ⟨cur1, hb1⟩ := own_obj ho (b := g0) rfl
  have hfar : ∀ (m : Drawer), DrIn w1 B m → DrIn (w1.setCell ⟨g0, 0, none⟩ d2.v) B m := fun m hm => hm.congr (fun b hb => Below.heap_setCell w1 _ _ b (by
    rintro rfl
    obtain ⟨cur2, h2⟩ := own_obj hm.2.1 hb
    rw [hb1] at h2; injection h2 with h2; injection h2 with _ h2; exact absurd h2 (by decide)))
  refine ⟨?_, fun m hm => ?_, ?_⟩
  · rw [hn] at ho
    have h4 := ho.stored 0 d2.v
    rw [List.flatMap_cons] at h4
    rw [show (d2 :: r).length = n by rw [← hn]; rfl]
    exact h4.1
  · rcases List.mem_cons.1 hm with rfl | hm
    · exact hfar _ hO
    · exact hfar m ((h.2.1 m (by simp [hm])).congr (fun b hb => hg.block b (own_lt (h.2.1 m (by simp [hm])).2.1 hb) (fun e => h.head m hm b hb e.symm)))
  · have h3 := h.2.2
    have h5 : (r.filterMap (·.v.ownBlock)).Nodup := by
      rw [List.filterMap_cons] at h3
      cases e : d.v.ownBlock with
      | none => rw [e] at h3; exact h3
      | some q => rw [e] at h3; exact (List.nodup_cons.1 h3).2
    rw [List.filterMap_cons]
    cases e : d2.v.ownBlock with
    | none => exact h5
    | some q =>
      refine List.nodup_cons.2 ⟨fun hq => ?_, h5⟩
      obtain ⟨m, hm, hmq⟩ := List.mem_filterMap.1 hq
      rcases hat q e with h6 | h6
      · exact h.head m hm q hmq h6
      · have := own_lt (h.2.1 m (by simp [hm])).2.1 hmq; omega
theorem CabOwn.poke {w : World} {B gd n c : Nat} {v : Value} {q : Pad} {qs : List Pad} {r : List Drawer} (x : Int) (hx : (⟨x, q.case⟩ : Pad).good) (h : CabOwn w B v (⟨some ⟨gd, 0, none⟩, n, c, q :: qs⟩ :: r)) :
    CabOwn (w.setCell ⟨gd, 0, none⟩ (.int .i64 x)) B v (⟨some ⟨gd, 0, none⟩, n, c, ⟨x, q.case⟩ :: qs⟩ :: r) := by
  have hd := h.2.1 _ (by simp : (⟨some ⟨gd, 0, none⟩, n, c, q :: qs⟩ : Drawer) ∈ _)
  obtain ⟨d1, d2, d3⟩ := hd
  obtain ⟨cur, hb0⟩ := own_obj d2 (b := gd) rfl
  have ho2 : w.ownsRow B 40 2 (.slice (some ⟨gd, 0, none⟩) n c) n ((q :: qs).flatMap padC) := by
    have := d2
    unfold PadsOwn Drawer.v at this
    rw [d1] at this; exact this
  have hst := (ho2.stored 0 (.int .i64 x)).1
  refine ⟨own_congr h.1 (fun b hb => Below.heap_setCell w _ _ b (by
    rintro rfl
    obtain ⟨cur2, h2⟩ := own_obj h.1 hb
    rw [hb0] at h2; injection h2 with h2; injection h2 with _ h2; exact absurd h2 (by decide))), fun m hm => ?_, h.2.2⟩
  rcases List.mem_cons.1 hm with rfl | hm
  · refine ⟨d1, ?_, fun p hp => ?_⟩
    · show PadsOwn _ B (.slice (some ⟨gd, 0, none⟩) n c) (⟨x, q.case⟩ :: qs)
      unfold PadsOwn
      rw [show (((⟨x, q.case⟩ : Pad) :: qs).length) = n from d1]
      exact hst
    · rcases List.mem_cons.1 hp with rfl | hp
      · exact hx
      · exact d3 p (by simp [hp])
  · refine (h.2.1 m (by simp [hm])).congr (fun b hb => Below.heap_setCell w _ _ b (fun e => ?_))
    exact h.head m hm b hb (by show some gd = some b; rw [e])
theorem grown_poke {w w1 : World} {row : Option Nat} (hg : w.grownBy w1 row) {p : Addr} (hp : row = some p.block) (u : Value) : w.grownBy (w1.setCell p u) row := by
  subst hp
  exact only_set hg rfl u

/-- What l92Cabinet answers. -/
def DrawnCab (B g lim : Nat) (w : World) (e : Ending) (w' : World) : Prop :=
  ∃ A c ds, e = .returned (.slice A ds.length c) ∧ CabOwn w' w.heap.size (.slice A ds.length c) ds ∧ cabSz ds ≤ 4096 ∧ w.grownBy w' (some g) ∧ RdIn w' B g (lim + 200)

theorem DrawnCab.of {B g lim n c : Nat} {w w' : World} {e : Ending} {A : Option Addr} {ds : List Drawer} (he : e = .returned (.slice A n c)) (hD : CabOwn w' w.heap.size (.slice A n c) ds) (hs : cabSz ds ≤ 4096) (hg : w.grownBy w' (some g)) (hr : RdIn w' B g (lim + 200)) : DrawnCab B g lim w e w' := by
  have := hD.len
  subst this
  exact ⟨A, c, ds, he, hD, hs, hg, hr⟩

theorem l92Cabinet (g B lim : Nat) (w : World) (hl : lim ≤ 700000000) (hr : RdIn w B g lim) (hBw : B ≤ w.heap.size) :
    Calls Tryd.prog 22 #[.pointer (some ⟨g, 0, none⟩)] w (DrawnCab B g lim w) := by
  obtain ⟨i0, hi, hz0, hz1, hz2⟩ := info_parts infoPad
  obtain ⟨i1, hj, hy0, hy1, hy2⟩ := info_parts infoSl
  have hg0 := hr.lt
  go_enter Tryd.func22, Tryd.ntmps22
  go_wp2_with fail
  refine (l92Pads g B lim _ (by omega) (hr.alloc _) (by simp; omega)).mono ?_
  rintro e w1 ⟨A1, c1, ps, rfl, hO1, hl1, hs1, hg1, hr1⟩
  have G1 : w.grownBy w1 (some g) := only_next (World.grownBy_alloc w _ _) hg1
  have hC1 : CabOwn w1 w.heap.size (.slice (some ⟨w.heap.size, 0, none⟩) 0 0) [] := (hr.alloc (.cells #[] 37)).cab (CabOwn.made w) hg1
  have HG := Lib.hid G1; have HR := Lib.hid hr1; have HC := Lib.hid hC1
  have HO : Hid (PadsOwn w1 w.heap.size (.slice A1 ps.length c1) ps) := Lib.hid (own_mono hO1 (by simp))
  have HS := Lib.hid hs1
  obtain ⟨A0, c0, e0, hc0, hm0⟩ := own_form hO1
  injection e0 with e1 e2 e3
  subst e1 e3
  unfold maxLen at hm0
  generalize hpl : ps.length = N at *
  have HPL := Lib.hid hpl
  have hz1' := G1.size
  clear G1 hr1 hC1 hO1 hg1 hs1 hpl e2 hr
  go_wp2
  go_loopw [3, 5] (fun v i wr => ∃ (k : Nat) (ds : List Drawer), k ≤ N ∧ i = .int .i64 k ∧ Hid (CabOwn wr w.heap.size v ds) ∧ Hid (cabOK (ds.map (·.ps))) ∧ Hid (PadsOwn wr w.heap.size (.slice A1 N c1) ps) ∧ Hid (w.grownBy wr (some g)) ∧ Hid (RdIn wr B g (lim + 100))) (fun _ i _ => N - (intOf i).toNat)
  case atStart => exact ⟨0, [], Nat.zero_le _, rfl, HC, Lib.hid cab_nil, HO, HG, HR⟩
  case round =>
    obtain ⟨k, ds, hk, rfl, hC, hK, hO, hG, hR⟩ := hrel
    by_cases hlt : k < N
    · have hgd : ∀ p ∈ ps, p.good := fun p hp => small_good (HS.out p hp)
      obtain ⟨g1, eA, hg1, q0, q1⟩ := hO.out.cell HPL.out hgd hlt
      subst eA
      obtain ⟨Ao, co, e, hco, hmo⟩ := hC.out.form
      subst e
      have hF := specCabinetFile Ao ds.length co ds (padAt ps k) wr (by have := cab_small hK.out; omega) (hgd _ (padAt_mem (by rw [HPL.out]; exact hlt))) (hC.out.reads rfl)
      unfold padVal at hF
      have HF := Lib.hid hF; clear hF hgd
      generalize padAt ps k = p at *
      have hz := hG.out.size
      go_wp2_with fail
      refine HF.out.mono ?_
      rintro e w2 ⟨hA, hb2⟩
      have HO2 := Lib.hid (hO.out.keep hb2)
      have HG2 := Lib.hid (only_next hG.out (Below.only hb2))
      have HR2 := Lib.hid (hR.out.below hb2)
      rcases hA with ⟨_, A2, c2, rfl, _⟩ | ⟨A2, c2, ds2, hf, rfl, hC2⟩
      · have HC2 := Lib.hid (hC.out.keep hb2)
        clear hb2
        go_wp2
        go_roundw
        case rel => exact ⟨k + 1, ds, by omega, by go_num, HC2, hK, HO2, HG2, HR2⟩
        case measure => simp [intOf]; omega
      · have HC2 := Lib.hid (hC2.mono hz)
        have HK2 := Lib.hid (fileO_ok hf)
        clear hb2 hC2 hf
        go_wp2
        go_roundw
        case rel => exact ⟨k + 1, ds2, by omega, by go_num, HC2, HK2, HO2, HG2, HR2⟩
        case measure => simp [intOf]; omega
    · obtain rfl : k = N := by omega
      have hsz := cab_small hK.out
      have hz := hG.out.size
      rcases ds with _ | ⟨d, r⟩
      · obtain ⟨Ao, co, e, hco, hmo⟩ := hC.out.form
        subst e
        have HR2 := Lib.hid (hR.out.more (show lim + 100 ≤ lim + 200 by omega))
        go_wp2
        go_ret
        exact ⟨Ao, co, [], rfl, hC.out, by omega, hG.out, HR2.out⟩
      · obtain ⟨go, co, e, hgo, hgl⟩ := World.ownsRow.form hC.out.1 (by simp)
        subst e
        have hlo := hK.out.2.1 d.ps (by simp)
        have hl6 := hK.out.1
        simp only [List.map_cons, List.length_cons, List.length_map] at hl6
        unfold lenOK at hlo
        generalize hnd : (d :: r).length = nd at *
        have hnd2 : nd = r.length + 1 := by rw [← hnd]; rfl
        have HND := Lib.hid hnd
        have hnd1 : 1 ≤ nd := by omega
        have hnd6 : nd ≤ 6 := by omega
        clear hnd
        have HP := Lib.hid (pick 40 g B (lim + 100) wr (by omega) (by omega) (by omega) hR.out)
        clear hnd2
        go_wp2_with fail
        refine HP.out.mono ?_
        rintro e w2 ⟨m, rfl, hm0, hm1, hg2, hr2⟩
        have HC2 := Lib.hid (hR.out.cab hC.out hg2)
        have HG2 := Lib.hid (only_next hG.out hg2)
        have HR2 := Lib.hid hr2
        clear hg2 hr2 HP
        have hsd : cabSz (d :: r) ≤ 318 := hsz
        simp only [cabSz] at hsd
        have hdI := HC2.out.2.1 d (by simp)
        obtain ⟨gd, cd, ed, hgd, hgl2⟩ := World.ownsRow.form hdI.2.1 (by omega)
        rcases d with ⟨Ad, n0, c0, ps0⟩
        unfold Drawer.v at ed
        simp only at ed hlo hsd
        injection ed with e1 e2 e3
        subst e1
        have hn0 : ps0.length = n0 := hdI.1
        obtain ⟨q, qs, eq⟩ : ∃ q qs, ps0 = q :: qs := by
          rcases ps0 with _ | ⟨q, qs⟩
          · simp at hlo
          · exact ⟨q, qs, rfl⟩
        have o0 : w2.cell? ⟨go, 0, none⟩ = some (.slice (some ⟨gd, 0, none⟩) n0 c0) := by
          have h1 := HC2.out.1
          rw [HND.out] at h1
          rw [h1.cellAt 0 (by omega)]; rfl
        have f0 : w2.frozen? ⟨go, 0, none⟩ = false := by
          have h1 := HC2.out.1
          rw [HND.out] at h1
          exact h1.frozenAt 0
        have hown : w2.ownsRow w.heap.size 40 2 (.slice (some ⟨gd, 0, none⟩) n0 c0) n0 (ps0.flatMap padC) := by
          have h1 := hdI.2.1
          unfold PadsOwn Drawer.v at h1
          rw [hn0] at h1; exact h1
        have HOw := Lib.hid hown
        have x0 : w2.cell? ⟨gd, 0, none⟩ = some (.int .i64 q.day) := by
          rw [hown.cellAt 0 (by omega), eq]; rfl
        have y0 := hown.frozenAt 0
        have hc0 : n0 ≤ c0 ∧ c0 ≤ maxLen := by
          obtain ⟨A', c', e, h1, h2⟩ := own_form hown
          injection e with e1 e2 e3; subst e3; exact ⟨h1, h2⟩
        obtain ⟨hc1, hc2⟩ := hc0
        unfold maxLen at hc2
        rw [hn0] at hlo
        have HN0 := Lib.hid hn0
        have HEq := Lib.hid eq
        have hgo2 : go < w2.heap.size := by have := World.block_lt_of_cell? _ _ o0; simpa using this
        clear hdI hown e2 e3 hn0 eq hgl2
        by_cases h0 : m = 0
        · subst h0
          have hq := hlo
          rw [HEq.out] at HC2
          have hgx : (⟨9999, q.case⟩ : Pad).good := by
            have h1 := (HC2.out.2.1 _ (by simp : (⟨some ⟨gd, 0, none⟩, n0, c0, q :: qs⟩ : Drawer) ∈ _)).2.2 q (by simp)
            exact ⟨rfl, h1.2⟩
          have HC3 := Lib.hid (HC2.out.poke 9999 hgx)
          have HR3 := Lib.hid ((HR2.out.setCell (p := ⟨gd, 0, none⟩) (fun e => by
            have := HR2.out.ne_own HOw.out (by decide) gd rfl
            exact this (by rw [← e])) (by show B ≤ gd; omega) (.int .i64 9999)).more (show lim + 100 + 1 ≤ lim + 200 by omega))
          have HG3 := Lib.hid (only_setCell HG2.out (p := ⟨gd, 0, none⟩) (.inr hgd) (.int .i64 9999))
          have hsz3 : cabSz ((⟨some ⟨gd, 0, none⟩, n0, c0, ⟨9999, q.case⟩ :: qs⟩ : Drawer) :: r) ≤ 4096 := by
            rw [HEq.out] at hsd
            simp only [cabSz, padsSz] at hsd ⊢; omega
          clear hgx hsd hsz
          go_wp2
          go_ret
          exact .of rfl HC3.out hsz3 HG3.out HR3.out
        · have h0' : (m == 0) = false := by simpa using h0
          by_cases h1 : m = 1
          · subst h1
            clear x0 y0 o0 f0
            have hz2' : w.heap.size ≤ w2.heap.size := HG2.out.size
            have hE : Below w2.heap.size w2 (w2.alloc (.cells #[] 40)) := (Below.refl _ _).alloc (Nat.le_refl _) _
            have hC2 := HC2.out.1
            rw [HND.out] at hC2
            have HC2o := Lib.hid hC2; clear hC2
            go_wp2_with (at_builtin; refine wpList_append_any _ rfl (.tmp 42) (.tmp 44) _ rfl w.heap.size 37 i1 _ 1 24 Tryd.underlying25 hj hy0 hy1 hy2 rfl (by omega) (.slice (some ⟨go, 0, none⟩) nd co) nd _ rfl ((HC2o.out.alloc _).alloc _) (w2.heap.size + 2) (some ⟨w2.heap.size + 1, 0, none⟩) 1 1 [.slice (some ⟨w2.heap.size, 0, none⟩) 0 0] rfl (rowNew _ _ _ _) (by simp [Value.oneCell']) (by unfold maxLen; omega) (by omega) (by simp; omega) ?_; intro v3 w3 hown3 hg3 hat3)
            have hpush := newPush (ps := []) hz2' HC2.out hE (World.ownsRow_made w2 #[] 0 (Nat.le_refl _) (by simp) (by simp)) rfl (by simp) hg3 (by rw [HND.out]; exact hown3)
            obtain ⟨A3, c3, rfl, hc3, hm3⟩ := own_form hown3
            have HC3 := Lib.hid hpush.1
            have HG3 : Hid (w.grownBy w3 (some g)) := Lib.hid (HG2.out.andThen (row' := some go) ⟨hg3.os, hg3.tape, hg3.output, by have := hg3.size; simp at this; omega, fun i hi hne => by
              rw [hg3.block i (by simp; omega) hne]
              rw [Below.heap_alloc _ _ i (by simp; omega), Below.heap_alloc _ _ i hi]⟩ (fun j hj => by injection hj with hj; left; omega))
            have HR3 : Hid (RdIn w3 B g (lim + 200)) := Lib.hid (by
              have h1 := (HR2.out.alloc (.cells #[] 40)).alloc (.cells #[.slice (some ⟨w2.heap.size, 0, none⟩) 0 0] 37)
              exact (h1.only hg3 (fun q hq => h1.ne_own ((HC2o.out.alloc _).alloc _) (by decide) q hq) (fun q hq => by have := own_base HC2o.out hq; omega) (by simp; omega)).more (by omega))
            have hsz3 : cabSz ((⟨some ⟨gd, 0, none⟩, n0, c0, ps0⟩ :: r) ++ [(⟨some ⟨w2.heap.size, 0, none⟩, 0, 0, []⟩ : Drawer)]) ≤ 4096 := by
              rw [cabSz_append]; simp only [cabSz, padsSz]; omega
            clear hpush hown3 hg3 hat3 hE hsd hsz
            go_wp2
            go_ret
            exact .of rfl HC3.out hsz3 HG3.out HR3.out
          · have h1' : (m == 1) = false := by simpa using h1
            by_cases h2 : m = 2
            · subst h2
              have hcd : w2.drew.cell? ⟨go, 0, none⟩ = some (.slice (some ⟨gd, 0, none⟩) n0 c0) ∧ w2.drew.frozen? ⟨go, 0, none⟩ = false := ⟨o0, f0⟩
              have k0 := hcd.1
              have HOd : Hid (w2.drew.ownsRow w.heap.size 40 2 (.slice (some ⟨gd, 0, none⟩) n0 c0) n0 (ps0.flatMap padC)) := Lib.hid HOw.out
              have HCd : Hid (CabOwn w2.drew w.heap.size (.slice (some ⟨go, 0, none⟩) nd co) (⟨some ⟨gd, 0, none⟩, n0, c0, ps0⟩ :: r)) := Lib.hid HC2.out
              have HGd : Hid (w.grownBy w2.drew (some g)) := Lib.hid (only_drewN HG2.out 1)
              have HRd : Hid (RdIn w2.drew B g (lim + 100 + 1)) := Lib.hid HR2.out
              have hgd2 : (Value.slice (some ⟨gd, 0, none⟩) n0 c0).ownBlock ≠ some go := fun e => by
                obtain ⟨cur2, q2⟩ := own_obj HOd.out e
                obtain ⟨cur3, q3⟩ := own_obj HCd.out.1 (b := go) rfl
                rw [q2] at q3; injection q3 with q3; injection q3 with _ q3; exact absurd q3 (by decide)
              have HNe := Lib.hid hgd2
              have hz2' : w.heap.size ≤ w2.drew.heap.size := HG2.out.size
              clear x0 y0 o0 f0 hgd2
              go_wp2_with fail
              go_region_law
                ((refine step_append_any _ (by rfl) (.tmp 51) (.tmp 54) _ (by rfl) w.heap.size 40 i0 _ 2 24 Tryd.underlying37 hi hz0 hz1 hz2 rfl (by omega) (.slice (some ⟨gd, 0, none⟩) n0 c0) n0 (ps0.flatMap padC) (by rfl) HOd.out w2.drew.heap.size (some ⟨gd, 0, none⟩) n0 c0 (ps0.flatMap padC) (by rfl) (Row.of_own HOd.out) padC_one (by unfold maxLen; omega) (by omega) hz2' ?_; intro v3 w3 hown3 hg3 hat3; obtain ⟨A3, c3, rfl, hc3, hm3⟩ := own_form hown3; have hk3 := keepCell hg3 HNe.out hcd; have k3 := hk3.1; have k4 := hk3.2))
              all_goals (
                have hps : (ps0 ++ ps0).length = n0 + n0 := by rw [List.length_append, HN0.out]
                have HC3 := Lib.hid (CabOwn.turn0 (d2 := ⟨A3, n0 + n0, c3, ps0 ++ ps0⟩) rfl HCd.out hg3 ⟨hps, by
                  show PadsOwn _ _ (.slice A3 (n0 + n0) c3) (ps0 ++ ps0)
                  unfold PadsOwn
                  rw [hps, List.flatMap_append]; exact hown3, fun p hp => by
                  have h1 := (HCd.out.2.1 _ (by simp : (⟨some ⟨gd, 0, none⟩, n0, c0, ps0⟩ : Drawer) ∈ _)).2.2 p
                  rcases List.mem_append.1 hp with hp | hp <;> exact h1 hp⟩ (fun b hb => by
                  rcases hat3 with h | h
                  · left; exact h.symm.trans hb
                  · right
                    have hb2 : (Value.slice A3 (n0 + n0) c3).ownBlock = some b := hb
                    rw [h] at hb2; injection hb2 with hb2; omega))
                have HG3 := Lib.hid (only_setCell (own_after HGd.out hg3 (fun q hq => own_base HOd.out hq)) (p := ⟨go, 0, none⟩) (.inr hgo) (.slice A3 (n0 + n0) c3))
                have HR3 := Lib.hid (((HRd.out.only hg3 (fun q hq => HRd.out.ne_own HOd.out (by decide) q hq) (fun q hq => by have := own_base HOd.out hq; omega) (by omega)).setCell (p := ⟨go, 0, none⟩) (fun e => by
                  exact HRd.out.ne_own HCd.out.1 (by decide) go rfl (by rw [← e])) (by show B ≤ go; omega) (.slice A3 (n0 + n0) c3)).more (show lim + 100 + 1 ≤ lim + 200 by omega))
                have hsz3 : cabSz ((⟨A3, n0 + n0, c3, ps0 ++ ps0⟩ : Drawer) :: r) ≤ 4096 := by
                  simp only [cabSz, padsSz_append]; omega
                unfold Drawer.v at HC3
                clear hown3 hg3 hat3 hps hsd hsz hcd hk3
                go_wp2
                go_ret
                exact .of rfl HC3.out hsz3 HG3.out HR3.out)
            · have h2' : (m == 2) = false := by simpa using h2
              have HR3 := Lib.hid (HR2.out.more (show lim + 100 + 1 ≤ lim + 200 by omega))
              clear x0 y0 o0 f0
              go_wp2
              go_ret
              exact .of rfl HC2.out (by omega) HG2.out HR3.out
end Go.Proofs.YtlphefpgnfogfaaDoor

namespace Go.Proofs.YtlphefpgnfogfaaDoor
open Go.ChangeShapes Go.WideShapes Go.ChangeAt Go.RowKit
set_option maxRecDepth 100000

/-- A drawn list of drawers. -/
def DrawnC (w : World) (e : Ending) (w' : World) : Prop :=
  ∃ A c ds, e = .returned (.slice A ds.length c) ∧ DrawersIn w' w'.heap.size A ds.length c ds ∧ cabSz ds ≤ 4096 ∧ Below w.heap.size w w'
theorem drawCab (A : Option Addr) (n c : Nat) (bs : List Int) (w : World) (hb : BytesIn w w.heap.size A n c bs) :
    Calls Tryd.prog 23 #[.slice A n c] w fun e w1 => e = .returned (.pointer (some ⟨w.heap.size, 0, none⟩)) ∧ Below w.heap.size w w1 ∧ Calls Tryd.prog 22 #[.pointer (some ⟨w.heap.size, 0, none⟩)] w1 (fun e w' => DrawnCab w.heap.size w.heap.size 0 w1 e w' ∧ Below w.heap.size w w') :=
  (l6Open A n c bs w.heap.size w (Nat.le_refl _) hb).mono fun e w1 ⟨he, hb1, hr⟩ => ⟨he, hb1, (l92Cabinet w.heap.size w.heap.size 0 w1 (by omega) hr hb1.size).mono fun e2 w2 hd => ⟨hd, by
    obtain ⟨_, _, _, _, _, _, hg, _⟩ := hd
    exact hb1.grown hg hb1.size (fun k hk => by injection hk with hk; omega)⟩⟩

theorem sorted_append {a b : List Pad} (h : sortedOK (a ++ b)) : sortedOK a ∧ sortedOK b := by
  rw [sorted_iff, sorted_iff]
  rw [sorted_iff, List.pairwise_append] at h
  exact ⟨⟨fun p hp => h.1 p (List.mem_append.2 (.inl hp)), h.2.1⟩, ⟨fun p hp => h.1 p (List.mem_append.2 (.inr hp)), h.2.2.1⟩⟩
theorem cabOK_parts {css : List (List Pad)} (h : cabOK css) (k : Nat) : cabOK (css.take k) ∧ cabOK (css.drop k) := by
  obtain ⟨h1, h2, h3⟩ := h
  have e : css.flatten = (css.take k).flatten ++ (css.drop k).flatten := by rw [← List.flatten_append, List.take_append_drop]
  rw [e] at h3
  obtain ⟨s1, s2⟩ := sorted_append h3
  exact ⟨⟨by rw [List.length_take]; omega, fun x hx => h2 x (List.mem_of_mem_take hx), s1⟩, ⟨by rw [List.length_drop]; omega, fun x hx => h2 x (List.mem_of_mem_drop hx), s2⟩⟩
theorem flat_bounds : ∀ {css : List (List Pad)}, (∀ ps ∈ css, lenOK ps) → css.length ≤ css.flatten.length ∧ css.flatten.length ≤ 4 * css.length
  | [], _ => by simp
  | ps :: r, h => by
    have h1 := h ps (by simp)
    obtain ⟨h2, h3⟩ := flat_bounds (css := r) (fun x hx => h x (by simp [hx]))
    unfold lenOK at h1
    rw [List.flatten_cons, List.length_append, List.length_cons]; omega
theorem cabSz_take {ds : List Drawer} (k : Nat) : cabSz (ds.take k) ≤ cabSz ds ∧ cabSz (ds.drop k) ≤ cabSz ds := by
  have := cabSz_append (ds.take k) (ds.drop k)
  rw [List.take_append_drop] at this; omega
theorem run_uptoA {P : Program} {t : TypeId} {sz : Nat} (ht : P.underlying t = some (.slice (P.elem t))) (hs : ∀ w, (sizeOf (P.elem t)).run P w = .ok sz w) (a : Option Addr) (n c k : Nat) (hk : k ≤ c) (w : World) :
    (Instr.slice t (.slice a n c) none (some (.int .i64 (k : Int))) none).run P w = .ok (.slice a k c) w := by
  rw [run_slice_h w t a n c ht .i64 (k : Int) (by omega) (by omega), hs]
  rcases a with _ | a
  · simp [Result.andThen, sliced]
  · simp [Result.andThen, sliced, Addr.add]
end Go.Proofs.YtlphefpgnfogfaaDoor
