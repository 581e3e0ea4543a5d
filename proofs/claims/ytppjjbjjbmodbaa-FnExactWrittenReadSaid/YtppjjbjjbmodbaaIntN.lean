/-
  Lists of ints: read, compared, marked, for seats without pads. Conditions: marks no greater than a law's.
-/
import Derived.Test.YtppjjbjjbmodbaaDicW
import Derived.Test.YtppjjbjjbmodbaaDrawA
namespace Go.Proofs.Ytppjjbjjbmodbaa
open Go.ChangeShapes Go.WideShapes Go.ChangeAt Go.RowKit
set_option maxRecDepth 100000

def intsC (xs : List Int) : List Value := xs.map (Value.int .i64)
def intAt (xs : List Int) (k : Nat) : Int := xs.getD k 0
def IntsIn (w : World) (B : Nat) (A : Option Addr) (n c : Nat) (xs : List Int) : Prop := xs.length = n ∧ n ≤ c ∧ c ≤ maxLen ∧ Row w B A n 1 (intsC xs)
theorem IntsIn.at_ {w : World} {B n c k : Nat} {A : Option Addr} {xs : List Int} (h : IntsIn w B A n c xs) (hk : k < n) :
    ∃ b off, A = some ⟨b, off, none⟩ ∧ b < B ∧ w.cell? ⟨b, off + k, none⟩ = some (.int .i64 (intAt xs k)) := by
  obtain ⟨h1, h2, h3, h4⟩ := h
  obtain ⟨b, off, e, hb, hc⟩ := h4.2 (by omega)
  refine ⟨b, off, e, hb, hc k _ ?_⟩
  unfold intsC intAt
  rw [List.getElem?_map, List.getD, List.getElem?_eq_getElem (by omega)]; rfl
theorem IntsIn.below {w w' : World} {B n c : Nat} {A : Option Addr} {xs : List Int} (h : IntsIn w B A n c xs) (hb : Below B w w') : IntsIn w' B A n c xs := ⟨h.1, h.2.1, h.2.2.1, h.2.2.2.below hb⟩
theorem IntsIn.keep {w w' : World} {n c : Nat} {A : Option Addr} {xs : List Int} (h : IntsIn w w.heap.size A n c xs) (hb : Below w.heap.size w w') : IntsIn w' w'.heap.size A n c xs := ⟨h.1, h.2.1, h.2.2.1, (h.2.2.2.below hb).more hb.size⟩
def IntsOwn (w : World) (B : Nat) (v : Value) (xs : List Int) : Prop := w.ownsRow B 3 1 v xs.length (intsC xs)
theorem IntsOwn.keep {w w' : World} {B : Nat} {v : Value} {xs : List Int} (h : IntsOwn w B v xs) (hb : Below w.heap.size w w') : IntsOwn w' B v xs := ownG_congr h fun b hv => hb.block b (ownG_lt h hv)
theorem IntsOwn.reads {w : World} {B n c : Nat} {A : Option Addr} {xs : List Int} (h : IntsOwn w B (.slice A n c) xs) (hn : xs.length = n) : IntsIn w w.heap.size A n c xs := by
  unfold IntsOwn at h
  rw [hn] at h
  obtain ⟨A', c', e, h1, h2⟩ := ownG_form h
  injection e with e1 e2 e3
  subst e1 e3
  exact ⟨hn, h1, h2, Row.of_own h⟩

/-- A list of numbers as ints. -/
def asI (is : List Nat) : List Int := is.map fun (i : Nat) => (i : Int)
theorem asI_len (is : List Nat) : (asI is).length = is.length := List.length_map _
theorem natC (is : List Nat) : intsC (asI is) = is.map natP := by unfold intsC asI; rw [List.map_map]; rfl
theorem NatOwn.ints {w : World} {B : Nat} {v : Value} {is : List Nat} (h : NatOwn w B v is) : IntsOwn w B v (asI is) := by
  unfold IntsOwn; rw [natC, asI_len]; exact h
theorem NatOwn.reads {w : World} {B n c : Nat} {A : Option Addr} {is : List Nat} (h : NatOwn w B (.slice A n c) is) (hn : is.length = n) : IntsIn w w.heap.size A n c (asI is) := h.ints.reads (by rw [asI_len]; exact hn)

theorem eqIntS (A A' : Option Addr) (n c c' : Nat) (xs : List Int) (w : World) (h : IntsIn w w.heap.size A n c xs) (h' : IntsIn w w.heap.size A' n c' xs) :
    Calls Try.prog 28 #[.slice A n c, .slice A' n c'] w fun e w' => e = .returned (.bool true) ∧ Below w.heap.size w w' := by
  have hm := h.2.2.1; have hnc := h.2.1
  unfold maxLen at hm
  have H := Lib.hid h; have H' := Lib.hid h'; clear h h'
  go_enter Try.func28, Try.ntmps28
  go_wp2
  go_loopw [5] (fun i wr => ∃ (k : Nat), k ≤ n ∧ i = .int .i64 k ∧ Below w.heap.size w wr) (fun i _ => n - (intOf i).toNat)
  case atStart => exact ⟨0, Nat.zero_le _, rfl, Below.refl _ _⟩
  case round =>
    obtain ⟨k, hk, rfl, hb⟩ := hrel
    by_cases hlt : k < n
    · obtain ⟨b, off, eA, hbB, c0⟩ := (H.out.below hb).at_ hlt
      obtain ⟨b', off', eA', hbB', c0'⟩ := (H'.out.below hb).at_ hlt
      subst eA eA'
      generalize intAt xs k = x at *
      have r0 := qcell c0; have r0' := qcell c0'
      go_wp2_with fail
      refine region_qb (by kernel_rfl) (by kernel_rfl) ?_
      repeat (first | go_big_quiet_step (fail) | quiet_step (fail))
      refine wpQuiet_nil ?_
      intro w3 hb3
      have b3 := hb.trans (hb3.mono hb.size)
      clear r0 r0' c0 c0' hb3
      go_wp2
      go_roundw
      case rel => exact ⟨k + 1, by omega, by go_num, b3⟩
      case measure => simp [intOf]; omega
    · obtain rfl : k = n := by omega
      go_wp2
      go_ret
      exact ⟨rfl, hb⟩

/-- n marks from m on. -/
def marksI (m n : Nat) : List Int := (List.range n).map fun i => ((m + i : Nat) : Int)
theorem marksI_len (m n : Nat) : (marksI m n).length = n := by simp [marksI]
theorem marksI_snoc (m n : Nat) : marksI m (n + 1) = marksI m n ++ [((m + n : Nat) : Int)] := by simp [marksI, List.range_succ]
theorem marksI_at {m n k : Nat} (h : k < n) : intAt (marksI m n) k = ((m + k : Nat) : Int) := by
  unfold intAt marksI; simp [List.getD, h]

/-- The first k cells of the block hold marks. -/
def MarkedI (cur : Array Value) (cap m k : Nat) : Prop := cur.size = cap ∧ cur.toList.take k = intsC (marksI m k)
theorem MarkedI.step {cur : Array Value} {cap m k : Nat} (h : MarkedI cur cap m k) (hk : k < cap) {x : Int} (hx : x = ((m + k : Nat) : Int)) : MarkedI (cur.setIfInBounds k (.int .i64 x)) cap m (k + 1) := by
  subst hx
  have h1 := h.1
  refine ⟨by simpa using h1, ?_⟩
  rw [marksI_snoc, intsC, List.map_append]
  show _ = intsC (marksI m k) ++ _
  rw [← h.2, List.take_add_one]
  congr 1
  · apply List.ext_getElem?
    intro j
    rcases Nat.lt_or_ge j k with hj | hj
    · rw [List.getElem?_take_of_lt hj, List.getElem?_take_of_lt hj]
      simp only [Array.getElem?_toList]
      rw [Array.getElem?_setIfInBounds_ne (by omega)]
    · rw [List.getElem?_eq_none (by simp; omega), List.getElem?_eq_none (by simp; omega)]
  · simp only [Array.getElem?_toList]
    rw [Array.getElem?_setIfInBounds_self_of_lt (by omega)]; rfl

theorem markIntS (A : Option Addr) (n c m B : Nat) (xs : List Int) (w : World) (hm : m ≤ 9000000) (hn : n ≤ 1048576) (hl : xs.length = n) (h : IntsOwn w B (.slice A n c) xs) :
    Calls Try.prog 35 #[.slice A n c, .int .i64 m] w fun e w' => e = .returned (.int .i64 ((m + n : Nat) : Int)) ∧ w.grownBy w' (Value.slice A n c).ownBlock ∧ IntsOwn w' B (.slice A n c) (marksI m n) := by
  unfold IntsOwn at h
  rw [hl] at h
  rcases h.2 with ⟨e, rfl⟩ | ⟨g, cap, cur, e, hg, hB, hnc, hcm, hcs, ht⟩
  · injection e with e1 e2 e3
    subst e1 e3
    clear h hl
    go_enter Try.func35, Try.ntmps35
    go_wp2
    go_loopw [1, 5] (fun a i wr => a = .int .i64 m ∧ i = .int .i64 0 ∧ wr = w) (fun _ i _ => 0)
    case atStart => exact ⟨rfl, rfl, rfl⟩
    case round =>
      obtain ⟨rfl, rfl, rfl⟩ := hrel
      go_wp2
      go_ret
      exact ⟨rfl, World.grownBy.refl _ _, World.ownsRow_nil _ _ _ _⟩
  · injection e with e1 e2 e3
    subst e1 e3
    clear h hl ht
    have h0 : MarkedI cur c m 0 := ⟨by omega, by simp [marksI, intsC]⟩
    go_enter Try.func35, Try.ntmps35
    go_wp2
    go_loopw [1, 5] (fun a i wr => ∃ (k : Nat) (cs : Array Value), k ≤ n ∧ i = .int .i64 k ∧ a = .int .i64 ((m : Int) + k) ∧ Hid (Blk wr g 3 cs) ∧ Hid (MarkedI cs c m k) ∧ Hid (w.grownBy wr (some g))) (fun _ i _ => n - (intOf i).toNat)
    case atStart => exact ⟨0, cur, Nat.zero_le _, rfl, by simp, Lib.hid hB, Lib.hid h0, Lib.hid (World.grownBy.refl _ _)⟩
    case round =>
      obtain ⟨k, cs, hk, rfl, rfl, hC, hM, hG⟩ := hrel
      by_cases hlt2 : k < n
      · have hsz := hM.out.1
        obtain ⟨u0, hu0⟩ : ∃ u, cs[k]? = some u := ⟨_, Array.getElem?_eq_getElem (by omega)⟩
        have f0 := (hC.out.cell k).trans hu0
        have g0 := hC.out.free k
        have HS := Lib.hid (hM.out.step (by omega : k < c) (x := (m : Int) + k) (by omega))
        have HB2 := Lib.hid (hC.out.set k (.int .i64 ((m : Int) + k)))
        have HG2 := Lib.hid (only_setCell hG.out (p := ⟨g, k, none⟩) (.inl rfl) (.int .i64 ((m : Int) + k)))
        clear hu0 hsz hC hM hG
        go_wp2
        go_roundw
        case rel => exact ⟨k + 1, _, by omega, by go_num, by go_num, HB2, HS, HG2⟩
        case measure => simp [intOf]; omega
      · obtain rfl : k = n := by omega
        have HP : Hid (IntsOwn wr B (.slice (some ⟨g, 0, none⟩) k c) (marksI m k)) := Lib.hid (by
          refine ⟨by rw [intsC, List.length_map, Nat.mul_one], .inr ⟨g, c, cs, by rw [marksI_len], hg, hC.out, by rw [marksI_len]; exact hnc, hcm, by rw [Nat.mul_one]; exact hM.out.1, by rw [marksI_len, Nat.mul_one]; exact hM.out.2⟩⟩)
        go_wp2
        go_ret
        exact ⟨rfl, hG.out, HP.out⟩

theorem heldIntS (A : Option Addr) (n c m : Nat) (w : World) (hm : m ≤ 9000000) (hn : n ≤ 1048576) (h : IntsIn w w.heap.size A n c (marksI m n)) :
    Calls Try.prog 36 #[.slice A n c, .int .i64 m] w fun e w' => e = .returned (.int .i64 ((m + n : Nat) : Int)) ∧ Below w.heap.size w w' := by
  have H := Lib.hid h; clear h
  go_enter Try.func36, Try.ntmps36
  go_wp2
  go_loopw [1, 5] (fun a i wr => ∃ (k : Nat), k ≤ n ∧ i = .int .i64 k ∧ a = .int .i64 ((m : Int) + k) ∧ Below w.heap.size w wr) (fun _ i _ => n - (intOf i).toNat)
  case atStart => exact ⟨0, Nat.zero_le _, rfl, by simp, Below.refl _ _⟩
  case round =>
    obtain ⟨k, hk, rfl, rfl, hb⟩ := hrel
    by_cases hlt : k < n
    · obtain ⟨b, off, eA, hbB, c0⟩ := (H.out.below hb).at_ hlt
      rw [marksI_at hlt] at c0
      subst eA
      have c0' : wr.cell? ⟨b, off + k, none⟩ = some (.int .i64 ((m : Int) + k)) := c0.trans (by simp)
      clear c0
      go_wp2
      go_roundw
      case rel => exact ⟨k + 1, by omega, by go_num, by go_num, hb⟩
      case measure => simp [intOf]; omega
    · obtain rfl : k = n := by omega
      go_wp2
      go_ret
      exact ⟨rfl, hb⟩
end Go.Proofs.Ytppjjbjjbmodbaa
