/-
  slices.IndexFunc at pads and at leaf pointers, with a closure that writes nothing. Conditions: none but Go's own sizes.
  What a pass of slices.DeleteFunc keeps true of its row; clear of a row's rest. Conditions: none.
  slices.DeleteFunc at pads, in a row of the call's own, with a closure that writes nothing. Conditions: no more pads than a law lets by.
  slices.DeleteFunc at leaf pointers, with keep's second closure: the leaves without pads go. Conditions: no more leaves than a law lets by.
  slices.DeleteFunc at leaf pointers, with keep's second closure: the leaves without pads go. Conditions: no more leaves than a law lets by.
  cabinetTree.keep: the pads that are not wanted go, and the leaves that are empty then. Conditions: no more than a law lets by.
  cabinetTree.keep: the pads that are not wanted go, and the leaves that are empty then. Conditions: no more than a law lets by.
-/
import Derived.Test.YtfbfapobmhfenaaTreeB
import Derived.Shelf.Abstract
import Derived.Laws.IdiomCopy
import Derived.Lib.SliceRun
namespace Go.Proofs.Ytfbfapobmhfenaa
open Go.ChangeShapes Go.WideShapes Go.ChangeAt Go.RowKit Go.Shelf
set_option maxRecDepth 100000

def padV (p : Pad) : Value := .agg #[.int .i64 p.day, .string p.case]
/-- The closure g with what it has captured says p of a pad, in each world that comes of w by turns of row alone. -/
def PredPad (g : Nat) (cb : Array Value) (p : Pad → Bool) (w : World) (row : Option Nat) : Prop :=
  ∀ (W : World) (x : Pad), w.grownBy W row → x.good → Calls Try.prog g (#[padV x] ++ cb) W fun e w' => e = .returned (.bool (p x)) ∧ Below W.heap.size W w'
/-- The index of the first that meets p, or -1. -/
def IdxAns {α : Type} (p : α → Bool) (n : Nat) (at_ : Nat → α) (r : Int) : Prop :=
  (r = -1 ∧ ∀ j, j < n → p (at_ j) = false) ∨ ∃ k : Nat, r = k ∧ k < n ∧ p (at_ k) = true ∧ ∀ j, j < k → p (at_ j) = false

theorem idxFuncPad (g : Nat) (cb : Array Value) (p : Pad → Bool) (row : Option Nat) (eg : ∀ args w, (callFunc g args).run Try.prog w = .ok (.enter g args) w) (A : Option Addr) (n c : Nat) (ps : List Pad) (w : World) (hp : PredPad g cb p w row) (h : PadsIn w w.heap.size A n c ps) :
    Calls Try.prog 98 #[.slice A n c, .func (.func g) #[] cb] w fun e w' => ∃ r, e = .returned (.int .i64 r) ∧ IdxAns p n (padAt ps) r ∧ Below w.heap.size w w' := by
  have hm := h.2.2.1; have hnc := h.2.1
  unfold maxLen at hm
  have H := Lib.hid h; clear h
  have HP := Lib.hid hp; clear hp
  go_enter Try.func98, Try.ntmps98
  go_wp2
  go_loopw [5, 8] (fun _ i wr => ∃ (k : Nat), k ≤ n ∧ i = .int .i64 k ∧ Hid (∀ j, j < k → p (padAt ps j) = false) ∧ Below w.heap.size w wr) (fun _ i _ => n - (intOf i).toNat)
  case atStart => exact ⟨0, Nat.zero_le _, rfl, Lib.hid (fun j hj => absurd hj (by omega)), Below.refl _ _⟩
  case round =>
    obtain ⟨k, hk, rfl, hF, hb⟩ := hrel
    by_cases hlt : k < n
    · obtain ⟨b, off, eA, hbB, c0, c1, hg⟩ := (H.out.below hb).at_ hlt
      have hcall := HP.out wr (padAt ps k) (Below.only hb) hg
      subst eA
      unfold padV at hcall
      cases hq : p (padAt ps k) with
      | true =>
        rw [hq] at hcall
        have HA : Hid (IdxAns p n (padAt ps) k) := Lib.hid (.inr ⟨k, rfl, hlt, hq, hF.out⟩)
        have HC := Lib.hid hcall; clear hcall hq
        generalize padAt ps k = x at *
        go_wp2_with (go_at_fn g; refine HC.out.mono ?_; rintro e w1 ⟨rfl, hb1⟩)
        have b1 := hb.trans (hb1.mono hb.size)
        go_ret
        exact ⟨_, rfl, HA.out, b1⟩
      | false =>
        rw [hq] at hcall
        have HF : Hid (∀ j, j < k + 1 → p (padAt ps j) = false) := Lib.hid (fun j hj => by
          by_cases hjk : j < k
          · exact hF.out j hjk
          · obtain rfl : j = k := by omega
            exact hq)
        have HC := Lib.hid hcall; clear hcall hq
        generalize padAt ps k = x at *
        go_wp2_with (go_at_fn g; refine HC.out.mono ?_; rintro e w1 ⟨rfl, hb1⟩)
        have b1 := hb.trans (hb1.mono hb.size)
        go_roundw
        case rel => exact ⟨k + 1, by omega, by go_num, HF, b1⟩
        case measure => simp [intOf]; omega
    · obtain rfl : k = n := by omega
      have HA : Hid (IdxAns p k (padAt ps) (-1)) := Lib.hid (.inl ⟨rfl, hF.out⟩)
      go_wp2
      go_ret
      exact ⟨_, rfl, HA.out, hb⟩

/-- The closure says p of a leaf pointer. -/
def PredLeaf (g : Nat) (cb : Array Value) (p : Leaf → Bool) (ok : Leaf → Prop) (w : World) (row : Option Nat) : Prop :=
  ∀ (W : World) (x : Leaf), w.grownBy W row → ok x → Calls Try.prog g (#[x.ptr] ++ cb) W fun e w' => e = .returned (.bool (p x)) ∧ Below W.heap.size W w'
end Go.Proofs.Ytfbfapobmhfenaa

namespace Go.Proofs.Ytfbfapobmhfenaa
open Go.ChangeShapes Go.WideShapes Go.ChangeAt Go.RowKit Go.Shelf
set_option maxRecDepth 100000

section
variable {α : Type} {enc : α → List Value} {sz : Nat}
/-- Cells i·sz and on: those of the elements kept among the first j; behind the j-th all is as it was. -/
def DelInv (enc : α → List Value) (sz : Nat) (keep : α → Bool) (xs : List α) (cur : Array Value) (cap i j : Nat) : Prop :=
  cur.size = cap * sz ∧ cur.toList.take (i * sz) = ((xs.take j).filter keep).flatMap enc ∧ ((xs.take j).filter keep).length = i ∧
    ∀ (t : Nat) (x : α), j ≤ t → xs[t]? = some x → ∀ q, q < sz → cur[t * sz + q]? = (enc x)[q]?

theorem DelInv.start (hl : ∀ a, (enc a).length = sz) {keep : α → Bool} {xs : List α} {cur : Array Value} {cap k : Nat} (hs : cur.size = cap * sz) (ht : cur.toList.take (xs.length * sz) = xs.flatMap enc) (hk : k ≤ xs.length) (hkeep : ∀ x ∈ xs.take k, keep x = true) :
    DelInv enc sz keep xs cur cap k k := by
  have hf : (xs.take k).filter keep = xs.take k := List.filter_eq_self.2 hkeep
  have hsp : xs.flatMap enc = (xs.take k).flatMap enc ++ (xs.drop k).flatMap enc := by rw [← List.flatMap_append, List.take_append_drop]
  have hlen : ((xs.take k).flatMap enc).length = k * sz := by rw [flat_len hl, List.length_take, Nat.min_eq_left hk]
  refine ⟨hs, ?_, by rw [hf, List.length_take, Nat.min_eq_left hk], ?_⟩
  · rw [hf]
    have h1 : (cur.toList.take (xs.length * sz)).take (k * sz) = (xs.flatMap enc).take (k * sz) := by rw [ht]
    rw [List.take_take, Nat.min_eq_left (Nat.mul_le_mul_right _ hk)] at h1
    rw [h1, hsp, List.take_append_of_le_length (by omega), List.take_of_length_le (by omega)]
  · intro t x _ hx q hq
    have hlt : t < xs.length := (List.getElem?_eq_some_iff.1 hx).1
    have hex : (enc x)[q]? = some ((enc x)[q]'(by rw [hl]; exact hq)) := List.getElem?_eq_getElem _
    have h1 := flat_at hl xs t x q _ hx hex
    rw [← ht] at h1
    have hm : t * sz + q < xs.length * sz := by
      have : (t + 1) * sz ≤ xs.length * sz := Nat.mul_le_mul_right _ hlt
      rw [Nat.succ_mul] at this; omega
    rw [List.getElem?_take_of_lt hm, Array.getElem?_toList] at h1
    rw [h1, hex]

theorem DelInv.skip {keep : α → Bool} {xs : List α} {cur : Array Value} {cap i j : Nat} {x : α} (h : DelInv enc sz keep xs cur cap i j) (hx : xs[j]? = some x) (hk : keep x = false) : DelInv enc sz keep xs cur cap i (j + 1) := by
  have he : (xs.take (j + 1)).filter keep = (xs.take j).filter keep := by rw [take_step hx, List.filter_append]; simp [hk]
  exact ⟨h.1, by rw [he]; exact h.2.1, by rw [he]; exact h.2.2.1, fun t y ht => h.2.2.2 t y (by omega)⟩

theorem DelInv.put (hl : ∀ a, (enc a).length = sz) {keep : α → Bool} {xs : List α} {cur cur' : Array Value} {cap i j : Nat} {x : α} (h : DelInv enc sz keep xs cur cap i j) (hij : i ≤ j) (hx : xs[j]? = some x) (hk : keep x = true) (hc : xs.length ≤ cap)
    (h1 : cur'.size = cur.size) (h2 : ∀ q, q < sz → cur'[i * sz + q]? = (enc x)[q]?) (h3 : ∀ m, m < i * sz ∨ (i + 1) * sz ≤ m → cur'[m]? = cur[m]?) : DelInv enc sz keep xs cur' cap (i + 1) (j + 1) := by
  have he : (xs.take (j + 1)).filter keep = (xs.take j).filter keep ++ [x] := by rw [take_step hx, List.filter_append]; simp [hk]
  have hlt : j < xs.length := (List.getElem?_eq_some_iff.1 hx).1
  have hsz : (i + 1) * sz ≤ cur'.size := by rw [h1, h.1]; exact Nat.mul_le_mul_right _ (by omega)
  have hmul : (i + 1) * sz = i * sz + sz := Nat.succ_mul i sz
  refine ⟨by rw [h1, h.1], ?_, by rw [he, List.length_append, h.2.2.1]; rfl, ?_⟩
  · rw [he, List.flatMap_append, ← h.2.1]
    have hl1 : (cur.toList.take (i * sz)).length = i * sz := by rw [List.length_take, Array.length_toList]; omega
    have hl2 : ([x].flatMap enc) = enc x := by simp
    rw [hl2]
    apply List.ext_getElem?
    intro m
    rcases Nat.lt_or_ge m (i * sz) with hm | hm
    · rw [List.getElem?_append_left (by omega), List.getElem?_take_of_lt hm, List.getElem?_take_of_lt (by omega), Array.getElem?_toList, Array.getElem?_toList, h3 m (.inl hm)]
    · rw [List.getElem?_append_right (by omega), hl1]
      rcases Nat.lt_or_ge m ((i + 1) * sz) with hm2 | hm2
      · rw [List.getElem?_take_of_lt hm2, Array.getElem?_toList, ← h2 (m - i * sz) (by omega)]
        congr 1; omega
      · rw [List.getElem?_eq_none (by rw [List.length_take]; omega), List.getElem?_eq_none (by rw [hl]; omega)]
  · intro t y ht hy q hq
    rw [h3 _ (.inr (by
      have : (i + 1) * sz ≤ t * sz := Nat.mul_le_mul_right _ (by omega)
      omega))]
    exact h.2.2.2 t y (by omega) hy q hq
end

theorem Blk.cells {b : Nat} {t : TypeId} : ∀ (vs : List Value) (o : Nat) {w : World} {cs : Array Value}, Blk w b t cs → ∃ cs', Blk (w.setCells b o vs) b t cs' ∧ cs'.size = cs.size ∧ ∀ j, j < o → cs'[j]? = cs[j]?
  | [], _, _, cs, h => ⟨cs, h, rfl, fun _ _ => rfl⟩
  | v :: r, o, _, _, h => by
    obtain ⟨cs', h1, h2, h3⟩ := Blk.cells r (o + 1) (h.set o v)
    refine ⟨cs', h1, by rw [h2]; simp, fun j hj => ?_⟩
    rw [h3 j (by omega), Array.getElem?_setIfInBounds_ne (by omega)]
theorem only_setCells {a : World} {g : Nat} : ∀ (vs : List Value) (o : Nat) {w : World}, a.grownBy w (some g) → a.grownBy (w.setCells g o vs) (some g)
  | [], _, _, h => h
  | v :: r, o, _, h => only_setCells r (o + 1) (only_set h rfl v)

/-- 'clear' of a list that is not empty, whatever its elements: the run's cells are turned. -/
theorem run_clear_any {P : Program} (w : World) (n : Nat) (t e ty : TypeId) (z : Value) (ht : P.underlying t = some (.slice e)) (hv : ∀ w, (zeroValue e).run P w = .ok z w) (h1 : ∀ v ∈ (Builtin.zeroCells z.cells n).toList, v.oneCell' = true) (b o c : Nat) (hn : 0 < n)
    (hc : ∀ j, j < (Builtin.zeroCells z.cells n).toList.length → (w.cell? ⟨b, o + j, none⟩).isSome = true) (hf : ∀ j, w.frozen? ⟨b, o + j, none⟩ = false) :
    (Builtin.clear_ #[t] ty #[.slice (some ⟨b, o, none⟩) n c]).run P w = .ok (.tuple #[]) (w.setCells b o (Builtin.zeroCells z.cells n).toList) := by
  have hst := run_storeCells_cells (P := P) b o (Builtin.zeroCells z.cells n).toList 0 w (by simpa using hc) (by intro j _; simpa using hf j) h1
  simp only [Nat.add_zero] at hst
  obtain ⟨m, rfl⟩ : ∃ m, n = m + 1 := ⟨n - 1, by omega⟩
  simp [Builtin.clear_, run_underlying ht, hv, hst]
end Go.Proofs.Ytfbfapobmhfenaa

namespace Go.Proofs.Ytfbfapobmhfenaa
open Go.ChangeShapes Go.WideShapes Go.ChangeAt Go.RowKit Go.Shelf
set_option maxRecDepth 100000

theorem zeroPad : ∀ w, (zeroValue 49).run Try.prog w = .ok (.agg #[.int .i64 0, .string ByteArray.empty]) w := fun w => by kernel_rfl
def zPad : Value := .agg #[.int .i64 0, .string ByteArray.empty]
theorem zPad_len (n : Nat) : (Builtin.zeroCells zPad.cells n).toList.length = n * 2 := by simp [Builtin.zeroCells, zPad, Value.cells]
theorem zPad_one (n : Nat) : ∀ v ∈ (Builtin.zeroCells zPad.cells n).toList, v.oneCell' = true := by
  intro v hv
  simp only [Builtin.zeroCells, zPad, Value.cells, Array.toList_map, List.mem_map] at hv
  obtain ⟨i, _, rfl⟩ := hv
  have : i % 2 = 0 ∨ i % 2 = 1 := by omega
  rcases this with h | h <;> simp [h, Value.oneCell']

/-- The answer of DeleteFunc: the kept elements, in the same row. -/
def DelAns (w w' : World) (B : Nat) (v : Value) (ps : List Pad) (e : Ending) : Prop :=
  ∃ A c, e = .returned (.slice A ps.length c) ∧ PadsOwn w' B (.slice A ps.length c) ps ∧ (Value.slice A ps.length c).ownBlock = v.ownBlock ∧ w.grownBy w' v.ownBlock

theorem delPads (g : Nat) (cb : Array Value) (p : Pad → Bool) (eg : ∀ args w, (callFunc g args).run Try.prog w = .ok (.enter g args) w) (A : Option Addr) (n c B : Nat) (ps : List Pad) (w : World) (hn : ps.length = n) (hn1 : n ≤ 1048576)
    (hgood : ∀ x ∈ ps, x.good) (hp : PredPad g cb p w (Value.slice A n c).ownBlock) (h : PadsOwn w B (.slice A n c) ps) :
    Calls Try.prog 84 #[.slice A n c, .func (.func g) #[] cb] w fun e w' => DelAns w w' B (.slice A n c) (ps.filter fun x => !p x) e := by
  have hR := h.reads hn hgood
  have HI := Lib.hid (idxFuncPad g cb p (Value.slice A n c).ownBlock eg A n c ps w hp hR)
  have HG := Lib.hid hgood; clear hgood
  have HPd := Lib.hid hp; clear hp
  have HO := Lib.hid h
  have hcm := hR.2.2.1; have hnc := hR.2.1
  unfold maxLen at hcm
  have HN := Lib.hid hn; clear hn
  clear hR
  go_enter Try.func84, Try.ntmps84
  go_wp2_with fail
  refine HI.out.mono ?_
  rintro e w1 ⟨r, rfl, hr, b1⟩
  rcases hr with ⟨rfl, hno⟩ | ⟨k, rfl, hkn, hyes, hno⟩
  · have HF : Hid (ps.filter (fun x => !p x) = ps) := Lib.hid (List.filter_eq_self.2 (fun x hx => by
      obtain ⟨i, hi, rfl⟩ := List.getElem_of_mem hx
      have := hno i (by rw [← HN.out]; exact hi)
      rw [show padAt ps i = ps[i] by unfold padAt; simp [List.getD, List.getElem?_eq_getElem hi]] at this
      simp [this]))
    have HW := Lib.hid (HO.out.keep b1)
    clear hno
    go_wp2
    go_ret
    rw [HF.out]
    exact ⟨A, c, by rw [HN.out]; rfl, by rw [HN.out]; exact HW.out, by rw [HN.out], Below.only b1⟩
  · unfold PadsOwn at h
    rw [HN.out] at h
    rcases h.2 with ⟨e, e0⟩ | ⟨gb, cap, cur, e, hg, hB, _, _, hcs, ht⟩
    · omega
    injection e with e1 e2 e3
    subst e1 e3
    have hD0 : DelInv padC 2 (fun x => !p x) ps cur c k k := DelInv.start padC_len hcs (by rw [HN.out]; exact ht) (by rw [HN.out]; omega) (fun x hx => by
      obtain ⟨i, hi, rfl⟩ := List.getElem_of_mem hx
      simp only [List.length_take] at hi
      have := hno i (by omega)
      rw [List.getElem_take]
      rw [show padAt ps i = ps[i] by unfold padAt; simp [List.getD, List.getElem?_eq_getElem (show i < ps.length by omega)]] at this
      simp [this])
    have hD1 := Lib.hid (hD0.skip (padAt_some (by rw [HN.out]; exact hkn)) (by simp [hyes]))
    have hB1 := Lib.hid (Blk.below (show Blk w gb 49 cur from hB) b1)
    have hG1 := Lib.hid (Below.only (row := some gb) b1)
    have HP : Hid (PredPad g cb p w (some gb)) := Lib.hid HPd.out
    have hk1 : ((k : Int) == -1) = false := by simp
    clear h hD0 hB ht hcs hno hyes HPd HI
    go_wp2
    go_loopw [5, 6] (fun a i wr => ∃ (q j : Nat) (cs : Array Value), q < j ∧ j ≤ n ∧ a = .int .i64 q ∧ i = .int .i64 j ∧ Hid (Blk wr gb 49 cs) ∧ Hid (DelInv padC 2 (fun x => !p x) ps cs c q j) ∧ Hid (w.grownBy wr (some gb))) (fun _ i _ => n - (intOf i).toNat)
    case atStart => exact ⟨k, k + 1, cur, by omega, by omega, rfl, by go_num, hB1, hD1, hG1⟩
    case round =>
      obtain ⟨q, j, cs, hqj, hj, rfl, rfl, hC, hD, hG⟩ := hrel
      by_cases hlt : j < n
      · have hjl : j < ps.length := by rw [HN.out]; exact hlt
        have hx := padAt_some hjl
        have c0 : wr.cell? ⟨gb, j * 2, none⟩ = some (.int .i64 (padAt ps j).day) := by
          rw [hC.out.cell]; exact hD.out.2.2.2 j _ (Nat.le_refl _) hx 0 (by omega)
        have c1 : wr.cell? ⟨gb, j * 2 + 1, none⟩ = some (.string (padAt ps j).case) := by
          rw [hC.out.cell]; exact hD.out.2.2.2 j _ (Nat.le_refl _) hx 1 (by omega)
        have hgx := HG.out _ (padAt_mem hjl)
        have hal : wr.grownBy (wr.alloc (.cells #[.int .i64 (padAt ps j).day, .string (padAt ps j).case] 49)) (some gb) := Below.only ((Below.refl _ _).alloc (Nat.le_refl _) _)
        have hcall := HP.out _ (padAt ps j) (only_next hG.out hal) hgx
        unfold padV at hcall
        cases hq : p (padAt ps j) with
        | true =>
          rw [hq] at hcall
          have HC := Lib.hid hcall
          have HD := Lib.hid (hD.out.skip hx (by simp [hq]))
          have HB := Lib.hid (hC.out.alloc (.cells #[.int .i64 (padAt ps j).day, .string (padAt ps j).case] 49))
          have HGr := Lib.hid (only_next hG.out hal)
          clear hcall hq hx hgx hjl hC hD hG hal
          generalize padAt ps j = x at *
          go_wp2_with (go_at_fn g; refine HC.out.mono ?_; rintro e w2 ⟨rfl, hb2⟩)
          have HB2 := Lib.hid (HB.out.below hb2)
          have HG2 := Lib.hid (only_next HGr.out (Below.only hb2))
          go_roundw
          case rel => exact ⟨q, j + 1, cs, by omega, by omega, rfl, by go_num, HB2, HD, HG2⟩
          case measure => simp [intOf]; omega
        | false =>
          rw [hq] at hcall
          have HC := Lib.hid hcall
          have HB := Lib.hid (hC.out.alloc (.cells #[.int .i64 (padAt ps j).day, .string (padAt ps j).case] 49))
          have HGr := Lib.hid (only_next hG.out hal)
          have hsz := hD.out.1
          have HDD := Lib.hid hD.out
          have HXX := Lib.hid hx
          have HQ := Lib.hid hq
          obtain ⟨v0, hv0⟩ : ∃ u, cs[q * 2]? = some u := ⟨_, Array.getElem?_eq_getElem (by omega)⟩
          obtain ⟨v1, hv1⟩ : ∃ u, cs[q * 2 + 1]? = some u := ⟨_, Array.getElem?_eq_getElem (by omega)⟩
          clear hcall hq hx hgx hjl hC hD hG hal hsz
          have HV0 := Lib.hid hv0; have HV1 := Lib.hid hv1; clear hv0 hv1
          generalize padAt ps j = x at *
          go_wp2_with (go_at_fn g; refine HC.out.mono ?_; rintro e w2 ⟨rfl, hb2⟩; have hB2 := HB.out.below hb2; have f0 := (hB2.cell (q * 2)).trans HV0.out; have f1 := (hB2.cell (q * 2 + 1)).trans HV1.out; have z0 := hB2.free (q * 2); have z1 := hB2.free (q * 2 + 1); have l0 := kcell hb2 (newcell wr #[.int .i64 x.day, .string x.case] 49 0 _ rfl); have l1 := kcell hb2 (newcell wr #[.int .i64 x.day, .string x.case] 49 1 _ rfl))
          have HB3 := Lib.hid ((hB2.set (q * 2) (.int .i64 x.day)).set (q * 2 + 1) (.string x.case))
          have HG3 := Lib.hid (only_set (only_set (only_next HGr.out (Below.only hb2)) rfl (.int .i64 x.day) (p := ⟨gb, q * 2, none⟩)) rfl (.string x.case) (p := ⟨gb, q * 2 + 1, none⟩))
          have HD3 : Hid (DelInv padC 2 (fun x => !p x) ps ((cs.setIfInBounds (q * 2) (.int .i64 x.day)).setIfInBounds (q * 2 + 1) (.string x.case)) c (q + 1) (j + 1)) := Lib.hid (by
            have hsz := HDD.out.1
            refine HDD.out.put padC_len (by omega) HXX.out (by simp [HQ.out]) (by rw [HN.out]; exact hnc) (by simp) (fun r hr => ?_) (fun m hm => ?_)
            · rcases r with _ | _ | r
              · show ((cs.setIfInBounds (q * 2) (.int .i64 x.day)).setIfInBounds (q * 2 + 1) (.string x.case))[q * 2]? = _
                rw [Array.getElem?_setIfInBounds_ne (by omega), Array.getElem?_setIfInBounds_self_of_lt (by omega)]; rfl
              · rw [Array.getElem?_setIfInBounds_self_of_lt (by simp; omega)]; rfl
              · omega
            · rw [Array.getElem?_setIfInBounds_ne (by omega), Array.getElem?_setIfInBounds_ne (by omega)])
          go_roundw
          case rel => exact ⟨q + 1, j + 1, _, by omega, by omega, by go_num, by go_num, HB3, HD3, HG3⟩
          case measure => simp [intOf]; omega
      · obtain rfl : j = n := by omega
        have hsz := hD.out.1
        have hlenf := hD.out.2.2.1
        have hfull : ps.take j = ps := List.take_of_length_le (by rw [HN.out]; exact Nat.le_refl _)
        have HT : Hid (cs.toList.take (q * 2) = (ps.filter fun x => !p x).flatMap padC ∧ (ps.filter fun x => !p x).length = q) := Lib.hid (by
          have h1 := hD.out.2.1; have h2 := hD.out.2.2.1
          rw [hfull] at h1 h2; exact ⟨h1, h2⟩)
        have hcl := run_clear_any (P := Try.prog) wr (j - q) 35 49 0 zPad Try.underlying35 zeroPad (zPad_one _) gb (q * 2) (c - q) (by omega) (fun m hm => by
          rw [zPad_len] at hm
          obtain ⟨u, hu⟩ : ∃ u, cs[q * 2 + m]? = some u := ⟨_, Array.getElem?_eq_getElem (by omega)⟩
          rw [hC.out.cell, hu]; rfl) (fun m => hC.out.free _)
        generalize (Builtin.zeroCells zPad.cells (j - q)).toList = zs at hcl
        obtain ⟨cs', hB', hs', hk'⟩ := Blk.cells zs (q * 2) hC.out
        have HG3 := Lib.hid (only_setCells zs (q * 2) hG.out)
        have HF : Hid (PadsOwn (wr.setCells gb (q * 2) zs) B (.slice (some ⟨gb, 0, none⟩) (ps.filter fun x => !p x).length c) (ps.filter fun x => !p x)) := Lib.hid (by
          refine ⟨by rw [flat_len padC_len], .inr ⟨gb, c, cs', rfl, hg, hB', by rw [HT.out.2]; omega, by unfold maxLen; omega, by rw [hs', hsz], ?_⟩⟩
          rw [HT.out.2, ← HT.out.1]
          apply List.ext_getElem?
          intro m
          rcases Nat.lt_or_ge m (q * 2) with hm | hm
          · rw [List.getElem?_take_of_lt hm, List.getElem?_take_of_lt hm, Array.getElem?_toList, Array.getElem?_toList, hk' m hm]
          · rw [List.getElem?_eq_none (by rw [List.length_take]; omega), List.getElem?_eq_none (by rw [List.length_take]; omega)])
        clear hlenf hfull hB' hk' hs'
        go_wp2
        go_ret
        exact ⟨_, c, by rw [HT.out.2]; rfl, HF.out, rfl, HG3.out⟩
end Go.Proofs.Ytfbfapobmhfenaa

namespace Go.Proofs.Ytfbfapobmhfenaa
open Go.ChangeShapes Go.WideShapes Go.ChangeAt Go.RowKit Go.Shelf
set_option maxRecDepth 100000

def noPads (l : Leaf) : Bool := l.ps.length == 0
def ptrC (l : Leaf) : List Value := [l.ptr]
theorem ptrC_len (l : Leaf) : (ptrC l).length = 1 := rfl
theorem ptrC_map (ls : List Leaf) : ls.map Leaf.ptr = ls.flatMap ptrC := by
  induction ls with
  | nil => rfl
  | cons l r ih => simp [ih, ptrC]

/-- A leaf as the closure reads it. -/
def LeafRd (w : World) (l : Leaf) : Prop := ∃ A c, Blk w l.g 95 #[.slice A l.ps.length c]
theorem emptyLeaf (l : Leaf) (w : World) (h : LeafRd w l) : Calls Try.prog 86 #[l.ptr] w fun e w' => e = .returned (.bool (noPads l)) ∧ Below w.heap.size w w' := by
  obtain ⟨A, c, hB⟩ := h
  have c0 := hB.cell 0
  unfold Leaf.ptr
  have HN : Hid (noPads l = (((l.ps.length : Nat) : Int) == 0)) := Lib.hid (by
    unfold noPads; rw [Bool.eq_iff_iff, beq_iff_eq, beq_iff_eq]; omega)
  generalize l.ps.length = n at *
  go_enter Try.func86, Try.ntmps86
  go_wp2
  go_ret
  exact ⟨ret_bool HN.out.symm, Below.refl _ _⟩

theorem idxFuncLeaf (A : Option Addr) (n c : Nat) (ls : List Leaf) (w : World) (hn : ls.length = n) (hcm : n ≤ 1048576) (hl : ∀ l ∈ ls, LeafRd w l) (h : Row w w.heap.size A n 1 (ls.flatMap ptrC)) :
    Calls Try.prog 99 #[.slice A n c, .func (.func 86) #[] #[]] w fun e w' => ∃ r, e = .returned (.int .i64 r) ∧ IdxAns noPads n (leafAt ls) r ∧ Below w.heap.size w w' := by
  have eg : ∀ args w, (callFunc 86 args).run Try.prog w = .ok (.enter 86 args) w := enters_of Try.func86 (by kernel_rfl) rfl
  have H := Lib.hid h; clear h
  have HP := Lib.hid hl; clear hl
  have HN := Lib.hid hn; clear hn
  go_enter Try.func99, Try.ntmps99
  go_wp2
  go_loopw [5, 8] (fun _ i wr => ∃ (k : Nat), k ≤ n ∧ i = .int .i64 k ∧ Hid (∀ j, j < k → noPads (leafAt ls j) = false) ∧ Below w.heap.size w wr) (fun _ i _ => n - (intOf i).toNat)
  case atStart => exact ⟨0, Nat.zero_le _, rfl, Lib.hid (fun j hj => absurd hj (by omega)), Below.refl _ _⟩
  case round =>
    obtain ⟨k, hk, rfl, hF, hb⟩ := hrel
    by_cases hlt : k < n
    · obtain ⟨b, off, eA, hbB, hcs⟩ := (H.out.below hb).2 (by omega)
      have hkl : k < ls.length := by rw [HN.out]; exact hlt
      have c0 := hcs (k * 1 + 0) _ (flat_at ptrC_len ls k _ 0 _ (leafAt_some hkl) rfl)
      rw [show off + (k * 1 + 0) = off + k by omega] at c0
      have hcall := emptyLeaf (leafAt ls k) wr (by
        obtain ⟨A, c, hB⟩ := HP.out _ (leafAt_mem hkl)
        exact ⟨A, c, hB.below hb⟩)
      unfold Leaf.ptr at hcall c0
      subst eA
      clear hcs hkl
      cases hq : noPads (leafAt ls k) with
      | true =>
        rw [hq] at hcall
        have HA : Hid (IdxAns noPads n (leafAt ls) k) := Lib.hid (.inr ⟨k, rfl, hlt, hq, hF.out⟩)
        have HC := Lib.hid hcall; clear hcall hq
        generalize leafAt ls k = x at *
        go_wp2_with (go_at_fn 86; refine HC.out.mono ?_; rintro e w1 ⟨rfl, hb1⟩)
        have b1 := hb.trans (hb1.mono hb.size)
        go_ret
        exact ⟨_, rfl, HA.out, b1⟩
      | false =>
        rw [hq] at hcall
        have HF : Hid (∀ j, j < k + 1 → noPads (leafAt ls j) = false) := Lib.hid (fun j hj => by
          by_cases hjk : j < k
          · exact hF.out j hjk
          · obtain rfl : j = k := by omega
            exact hq)
        have HC := Lib.hid hcall; clear hcall hq
        generalize leafAt ls k = x at *
        go_wp2_with (go_at_fn 86; refine HC.out.mono ?_; rintro e w1 ⟨rfl, hb1⟩)
        have b1 := hb.trans (hb1.mono hb.size)
        go_roundw
        case rel => exact ⟨k + 1, by omega, by go_num, HF, b1⟩
        case measure => simp [intOf]; omega
    · obtain rfl : k = n := by omega
      have HA : Hid (IdxAns noPads k (leafAt ls) (-1)) := Lib.hid (.inl ⟨rfl, hF.out⟩)
      go_wp2
      go_ret
      exact ⟨_, rfl, HA.out, hb⟩

end Go.Proofs.Ytfbfapobmhfenaa

namespace Go.Proofs.Ytfbfapobmhfenaa
open Go.ChangeShapes Go.WideShapes Go.ChangeAt Go.RowKit Go.Shelf
set_option maxRecDepth 100000

/-- The answer of DeleteFunc at leaves: the kept ones, in the same row. -/
def DelLeafAns (w w' : World) (B : Nat) (v : Value) (ls : List Leaf) (e : Ending) : Prop :=
  ∃ A c, e = .returned (.slice A ls.length c) ∧ w'.ownsRow B 93 1 (.slice A ls.length c) ls.length (ls.flatMap ptrC) ∧ (Value.slice A ls.length c).ownBlock = v.ownBlock ∧ w.grownBy w' v.ownBlock
theorem zeroLeafP : ∀ w, (zeroValue 93).run Try.prog w = .ok (.pointer none) w := fun w => by kernel_rfl
theorem zPtr_len (n : Nat) : (Builtin.zeroCells (Value.pointer none).cells n).toList.length = n * 1 := by simp [Builtin.zeroCells, Value.cells]
theorem zPtr_one (n : Nat) : ∀ v ∈ (Builtin.zeroCells (Value.pointer none).cells n).toList, v.oneCell' = true := by
  intro v hv
  simp only [Builtin.zeroCells, Value.cells, Array.toList_map, List.mem_map] at hv
  obtain ⟨i, _, rfl⟩ := hv
  have : i % 1 = 0 := by omega
  simp [this, Value.oneCell']

set_option maxHeartbeats 1000000 in
theorem delLeaf (A : Option Addr) (n c B : Nat) (ps : List Leaf) (w : World) (hn : ps.length = n) (hn1 : n ≤ 1048576)
    (hrd : ∀ l ∈ ps, LeafRd w l) (h : w.ownsRow B 93 1 (.slice A n c) n (ps.flatMap ptrC)) :
    Calls Try.prog 85 #[.slice A n c, .func (.func 86) #[] #[]] w fun e w' => DelLeafAns w w' B (.slice A n c) (ps.filter fun x => !noPads x) e := by
  have eg : ∀ args w, (callFunc 86 args).run Try.prog w = .ok (.enter 86 args) w := enters_of Try.func86 (by kernel_rfl) rfl
  have HI := Lib.hid (idxFuncLeaf A n c ps w hn hn1 hrd (Row.of_own h))
  obtain ⟨A0, cc0, e0, hnc, hcm⟩ := own_form h
  injection e0 with e1 e2 e3; subst e1 e3; clear e2
  unfold maxLen at hcm
  have HRd := Lib.hid hrd; clear hrd
  have HNe : Hid (∀ l ∈ ps, (Value.slice A n c).ownBlock ≠ some l.g) := Lib.hid (fun l hl => by
    obtain ⟨A, c, hB⟩ := HRd.out l hl
    exact hB.ne_own h (by decide))
  have HO := Lib.hid h
  have HN := Lib.hid hn; clear hn
  go_enter Try.func85, Try.ntmps85
  go_wp2_with fail
  refine HI.out.mono ?_
  rintro e w1 ⟨r, rfl, hr, b1⟩
  rcases hr with ⟨rfl, hno⟩ | ⟨k, rfl, hkn, hyes, hno⟩
  · have HF : Hid (ps.filter (fun x => !noPads x) = ps) := Lib.hid (List.filter_eq_self.2 (fun x hx => by
      obtain ⟨i, hi, rfl⟩ := List.getElem_of_mem hx
      have := hno i (by rw [← HN.out]; exact hi)
      rw [show leafAt ps i = ps[i] by unfold leafAt; simp [List.getD, List.getElem?_eq_getElem hi]] at this
      simp [this]))
    have HW := Lib.hid (own_congr HO.out (fun b hv => b1.block b (own_lt HO.out hv)))
    clear hno
    go_wp2
    go_ret
    rw [HF.out]
    exact ⟨A, c, by rw [HN.out]; rfl, by rw [HN.out]; exact HW.out, by rw [HN.out], Below.only b1⟩
  · rcases h.2 with ⟨e, e0⟩ | ⟨gb, cap, cur, e, hg, hB, _, _, hcs, ht⟩
    · omega
    injection e with e1 e2 e3
    subst e1 e3
    have hD0 : DelInv ptrC 1 (fun x => !noPads x) ps cur c k k := DelInv.start ptrC_len hcs (by rw [HN.out]; exact ht) (by rw [HN.out]; omega) (fun x hx => by
      obtain ⟨i, hi, rfl⟩ := List.getElem_of_mem hx
      simp only [List.length_take] at hi
      have := hno i (by omega)
      rw [List.getElem_take]
      rw [show leafAt ps i = ps[i] by unfold leafAt; simp [List.getD, List.getElem?_eq_getElem (show i < ps.length by omega)]] at this
      simp [this])
    have hD1 := Lib.hid (hD0.skip (leafAt_some (by rw [HN.out]; exact hkn)) (by simp [hyes]))
    have hB1 := Lib.hid (Blk.below (show Blk w gb 93 cur from hB) b1)
    have hG1 := Lib.hid (Below.only (row := some gb) b1)
    have hk1 : ((k : Int) == -1) = false := by simp
    have HNg : Hid (∀ l ∈ ps, gb ≠ l.g) := Lib.hid (fun l hl e => HNe.out l hl (by rw [e]; rfl))
    clear h hD0 hB ht hcs hno hyes HI HNe
    go_wp2
    go_loopw [5, 6] (fun a i wr => ∃ (q j : Nat) (cs : Array Value), q < j ∧ j ≤ n ∧ a = .int .i64 q ∧ i = .int .i64 j ∧ Hid (Blk wr gb 93 cs) ∧ Hid (DelInv ptrC 1 (fun x => !noPads x) ps cs c q j) ∧ Hid (w.grownBy wr (some gb))) (fun _ i _ => n - (intOf i).toNat)
    case atStart => exact ⟨k, k + 1, cur, by omega, by omega, rfl, by go_num, hB1, hD1, hG1⟩
    case round =>
      obtain ⟨q, j, cs, hqj, hj, rfl, rfl, hC, hD, hG⟩ := hrel
      by_cases hlt : j < n
      · have hjl : j < ps.length := by rw [HN.out]; exact hlt
        have hx := leafAt_some hjl
        have c0 : wr.cell? ⟨gb, j, none⟩ = some (leafAt ps j).ptr := by
          rw [hC.out.cell]
          have := hD.out.2.2.2 j _ (Nat.le_refl _) hx 0 (by omega)
          rw [show j * 1 + 0 = j by omega] at this
          exact this
        have hrd : LeafRd wr (leafAt ps j) := by
          obtain ⟨A1, c1, hB⟩ := HRd.out _ (leafAt_mem hjl)
          exact ⟨A1, c1, hB.only hG.out (fun e => HNg.out _ (leafAt_mem hjl) e.symm)⟩
        have hcall := emptyLeaf (leafAt ps j) wr hrd
        cases hq : noPads (leafAt ps j) with
        | true =>
          rw [hq] at hcall
          have HC := Lib.hid hcall
          have HD := Lib.hid (hD.out.skip hx (by simp [hq]))
          clear hcall hq hx hjl hD hrd
          unfold Leaf.ptr at HC c0
          generalize leafAt ps j = x at *
          go_wp2_with (go_at_fn 86; refine HC.out.mono ?_; rintro e w2 ⟨rfl, hb2⟩)
          have HB2 := Lib.hid (hC.out.below hb2)
          have HG2 := Lib.hid (only_next hG.out (Below.only hb2))
          go_roundw
          case rel => exact ⟨q, j + 1, cs, by omega, by omega, rfl, by go_num, HB2, HD, HG2⟩
          case measure => simp [intOf]; omega
        | false =>
          rw [hq] at hcall
          have HC := Lib.hid hcall
          have hsz := hD.out.1
          have HDD := Lib.hid hD.out
          have HXX := Lib.hid hx
          have HQ := Lib.hid hq
          obtain ⟨v0, hv0⟩ : ∃ u, cs[q]? = some u := ⟨_, Array.getElem?_eq_getElem (by omega)⟩
          clear hcall hq hx hjl hD hrd hsz
          have HV0 := Lib.hid hv0; clear hv0
          unfold Leaf.ptr at HC c0
          generalize leafAt ps j = x at *
          go_wp2_with (go_at_fn 86; refine HC.out.mono ?_; rintro e w2 ⟨rfl, hb2⟩; have hB2 := hC.out.below hb2; have f0 := (hB2.cell q).trans HV0.out; have z0 := hB2.free q)
          have HB3 := Lib.hid (hB2.set q x.ptr)
          have HG3 := Lib.hid (only_set (only_next hG.out (Below.only hb2)) rfl x.ptr (p := ⟨gb, q, none⟩))
          have HD3 : Hid (DelInv ptrC 1 (fun x => !noPads x) ps (cs.setIfInBounds q x.ptr) c (q + 1) (j + 1)) := Lib.hid (by
            have hsz := HDD.out.1
            refine HDD.out.put ptrC_len (by omega) HXX.out (by simp [HQ.out]) (by rw [HN.out]; exact hnc) (by simp) (fun r hr => ?_) (fun m hm => ?_)
            · obtain rfl : r = 0 := by omega
              rw [show q * 1 + 0 = q by omega, Array.getElem?_setIfInBounds_self_of_lt (by omega)]; rfl
            · rw [Array.getElem?_setIfInBounds_ne (by omega)])
          unfold Leaf.ptr at HB3 HG3 HD3
          go_roundw
          case rel => exact ⟨q + 1, j + 1, _, by omega, by omega, by go_num, by go_num, HB3, HD3, HG3⟩
          case measure => simp [intOf]; omega
      · obtain rfl : j = n := by omega
        have hsz := hD.out.1
        have hlenf := hD.out.2.2.1
        have hfull : ps.take j = ps := List.take_of_length_le (by rw [HN.out]; exact Nat.le_refl _)
        have HT : Hid (cs.toList.take q = (ps.filter fun x => !noPads x).flatMap ptrC ∧ (ps.filter fun x => !noPads x).length = q) := Lib.hid (by
          have h1 := hD.out.2.1; have h2 := hD.out.2.2.1
          rw [hfull] at h1 h2; rw [Nat.mul_one] at h1; exact ⟨h1, h2⟩)
        have hcl := run_clear_any (P := Try.prog) wr (j - q) 83 93 0 (.pointer none) Try.underlying83 zeroLeafP (zPtr_one _) gb q (c - q) (by omega) (fun m hm => by
          rw [zPtr_len] at hm
          obtain ⟨u, hu⟩ : ∃ u, cs[q + m]? = some u := ⟨_, Array.getElem?_eq_getElem (by omega)⟩
          rw [hC.out.cell, hu]; rfl) (fun m => hC.out.free _)
        generalize (Builtin.zeroCells (Value.pointer none).cells (j - q)).toList = zs at hcl
        obtain ⟨cs', hB', hs', hk'⟩ := Blk.cells zs q hC.out
        have HG3 := Lib.hid (only_setCells zs q hG.out)
        have HF : Hid ((wr.setCells gb q zs).ownsRow B 93 1 (.slice (some ⟨gb, 0, none⟩) (ps.filter fun x => !noPads x).length c) (ps.filter fun x => !noPads x).length ((ps.filter fun x => !noPads x).flatMap ptrC)) := Lib.hid (by
          refine ⟨by rw [flat_len ptrC_len], .inr ⟨gb, c, cs', rfl, hg, hB', by rw [HT.out.2]; omega, by unfold maxLen; omega, by rw [hs', hsz], ?_⟩⟩
          rw [HT.out.2, ← HT.out.1, Nat.mul_one]
          apply List.ext_getElem?
          intro m
          rcases Nat.lt_or_ge m q with hm | hm
          · rw [List.getElem?_take_of_lt hm, List.getElem?_take_of_lt hm, Array.getElem?_toList, Array.getElem?_toList, hk' m hm]
          · rw [List.getElem?_eq_none (by rw [List.length_take]; omega), List.getElem?_eq_none (by rw [List.length_take]; omega)])
        clear hlenf hfull hB' hk' hs'
        go_wp2
        go_ret
        exact ⟨_, c, by rw [HT.out.2]; rfl, HF.out, rfl, HG3.out⟩
end Go.Proofs.Ytfbfapobmhfenaa

namespace Go.Proofs.Ytfbfapobmhfenaa
open Go.ChangeShapes Go.WideShapes Go.ChangeAt Go.RowKit Go.Shelf
set_option maxRecDepth 100000

/-- The closure g says p of a pad in each world that reads below B as w does. -/
def PredB (g : Nat) (cb : Array Value) (p : Pad → Bool) (B : Nat) (w : World) : Prop :=
  ∀ (W : World) (x : Pad), Below B w W → x.good → Calls Try.prog g (#[padV x] ++ cb) W fun e w' => e = .returned (.bool (p x)) ∧ Below W.heap.size W w'

theorem keepNot (g : Nat) (cb : Array Value) (p : Pad → Bool) (eg : ∀ args w, (callFunc g args).run Try.prog w = .ok (.enter g args) w) (B b3 : Nat) (w w1 : World) (row : Option Nat) (hp : PredB g cb p B w) (hb : Below B w w1) (hB : B ≤ w1.heap.size)
    (hrow : ∀ k, row = some k → B ≤ k) (h3 : Blk w1 b3 75 #[.func (.func g) #[] cb]) (hne : row ≠ some b3) :
    PredPad 83 #[.pointer (some ⟨b3, 0, none⟩)] (fun x => !p x) w1 row := by
  intro W x hg hx
  have hbW : Below B w W := hb.grown hg hB hrow
  have h3W : Blk W b3 75 #[.func (.func g) #[] cb] := (hg.block b3 h3.lt (fun e => hne e.symm)).trans h3
  have c3 : W.cell? ⟨b3, 0, none⟩ = some (.func (.func g) #[] cb) := h3W.cell 0
  have c3' : (W.alloc (.cells #[.int .i64 x.day, .string x.case] 49)).cell? ⟨b3, 0, none⟩ = some (.func (.func g) #[] cb) := Lib.cell?_alloc_some _ c3
  have hcall := fun W2 (h : Below B W W2) => hp W2 x (hbW.trans h) hx
  have hBW : B ≤ W.heap.size := Nat.le_trans hB hg.size
  have HC := Lib.hid hcall; clear hcall
  unfold padV at HC ⊢
  clear hp hb hB hrow h3 hne hg hx hbW h3W
  show Calls Try.prog 83 #[.agg #[.int .i64 x.day, .string x.case], .pointer (some ⟨b3, 0, none⟩)] W _
  go_enter Try.func83, Try.ntmps83
  go_wp2_with (go_at_fn g; refine (HC.out _ ((Below.refl _ _).alloc hBW _)).mono ?_; rintro e w2 ⟨rfl, hb2⟩)

  go_ret
  exact ⟨rfl, below_next ((Below.refl _ _).alloc (Nat.le_refl _) _) hb2⟩
end Go.Proofs.Ytfbfapobmhfenaa

namespace Go.Proofs.Ytfbfapobmhfenaa
open Go.ChangeShapes Go.WideShapes Go.ChangeAt Go.RowKit Go.Shelf
set_option maxRecDepth 100000

/-- A leaf whose pads were looked through. -/
def Thin (p : Pad → Bool) (l l' : Leaf) : Prop := l'.g = l.g ∧ l'.ps = l.ps.filter p ∧ l'.v.ownBlock = l.v.ownBlock
/-- The first k leaves were looked through. -/
def ThinTo (p : Pad → Bool) (k : Nat) (ls ls' : List Leaf) : Prop := ls'.length = ls.length ∧ (∀ j, j < k → j < ls.length → Thin p (leafAt ls j) (leafAt ls' j)) ∧ ∀ j, k ≤ j → leafAt ls' j = leafAt ls j

theorem ThinTo.step {p : Pad → Bool} {k : Nat} {ls ls' : List Leaf} {l l2 : Leaf} (h : ThinTo p k ls ls') (hk : k < ls.length) (hl : ls'[k]? = some l) (hold : l = leafAt ls k) (h1 : l2.g = l.g) (h2 : l2.ps = l.ps.filter p) (h3 : l2.v.ownBlock = l.v.ownBlock) : ThinTo p (k + 1) ls (ls'.set k l2) := by
  have hset : ∀ j, leafAt (ls'.set k l2) j = if j = k then l2 else leafAt ls' j := fun j => by
    by_cases hj : j = k
    · subst hj
      rw [if_pos rfl]; unfold leafAt
      rw [List.getD, List.getElem?_set_self (by rw [h.1]; exact hk)]; rfl
    · rw [if_neg hj]; unfold leafAt
      rw [List.getD, List.getD, List.getElem?_set_ne (fun e => hj e.symm)]
  refine ⟨by rw [List.length_set]; exact h.1, fun j hj hjl => ?_, fun j hj => ?_⟩
  · rw [hset]
    by_cases hjk : j = k
    · subst hjk; rw [if_pos rfl, ← hold]; exact ⟨h1, h2, h3⟩
    · rw [if_neg hjk]; exact h.2.1 j (by omega) hjl
  · rw [hset, if_neg (by omega)]; exact h.2.2 j (by omega)

theorem ThinTo.ends {p : Pad → Bool} {k : Nat} {ls ls' : List Leaf} (h : ThinTo p k ls ls') (hk : k = ls.length) : (ls'.filter fun x => !noPads x).map (·.ps) = (ls.map (·.ps.filter p)).filter (fun ps => !(ps.length == 0)) := by
  have h1 : ls'.map (·.ps) = ls.map (·.ps.filter p) := by
    apply List.ext_getElem?
    intro j
    rw [List.getElem?_map, List.getElem?_map]
    rcases Nat.lt_or_ge j ls.length with hj | hj
    · rw [leafAt_some (ls := ls') (by rw [h.1]; exact hj), leafAt_some hj]
      have := (h.2.1 j (by omega) hj).2.1
      simp [this]
    · rw [List.getElem?_eq_none (by rw [h.1]; exact hj), List.getElem?_eq_none hj]; rfl
  rw [← h1, List.filter_map]; rfl

theorem TreeIn.thin {w w1 : World} {B t : Nat} {v v3 : Value} {ls : List Leaf} {f : Leaf → Bool} (h : TreeIn w B t v ls) (hg : w.grownBy w1 v.ownBlock) (hO : w1.ownsRow B 93 1 v3 (ls.filter f).length ((ls.filter f).flatMap ptrC)) {cs : Array Value} (hB1 : Blk w1 t 85 cs) (hcs : cs.size = 1 := by rfl) :
    TreeIn (w1.setCell ⟨t, 0, none⟩ v3) B t v3 (ls.filter f) := by
  have hL : LeavesIn w1 B v3 (ls.filter f) := by
    refine ⟨by rw [ptrC_map]; exact hO, fun l hl => ?_, ?_, ?_⟩
    · have hI := h.2.2.2.1 l (List.mem_filter.1 hl).1
      refine hI.congr (hg.block _ hI.2.1.lt (fun e => hI.2.1.ne_own h.2.2.1 (by decide) e.symm)) (fun b hb => hg.block b (own_lt hI.2.2.1 hb) (fun e => ?_))
      obtain ⟨cur, h1⟩ := own_obj hI.2.2.1 hb
      exact (show Blk w b 49 cur from h1).ne_own h.2.2.1 (by decide) e.symm
    · exact h.2.2.2.2.1.sublist ((List.filter_sublist).map _)
    · exact h.2.2.2.2.2.sublist ((List.filter_sublist).filterMap _)
  refine ⟨h.1, ?_, hL.root hB1 v3⟩
  have h2 := hB1.set 0 v3
  rcases cs with ⟨l⟩
  match l, hcs with
  | [x], _ => exact h2

theorem keep (g : Nat) (cb : Array Value) (p : Pad → Bool) (eg : ∀ args w, (callFunc g args).run Try.prog w = .ok (.enter g args) w) (B t : Nat) (v : Value) (ls : List Leaf) (w : World) (hB : B ≤ w.heap.size) (hn : ls.length ≤ 1048576) (hps : (leafPads ls).length ≤ 1048576)
    (hp : PredB g cb p B w) (h : TreeIn w B t v ls) :
    Calls Try.prog 60 #[.pointer (some ⟨t, 0, none⟩), .func (.func g) #[] cb] w fun e w' => e = .returned (.tuple #[]) ∧ Below B w w' ∧ ∃ v' ls', TreeIn w' B t v' ls' ∧ ls'.map (·.ps) = (ls.map (·.ps.filter p)).filter (fun ps => !(ps.length == 0)) := by
  obtain ⟨A, c, rfl, hnc, hcm⟩ := own_form h.2.2.1
  have hc0 : w.cell? ⟨t, 0, none⟩ = some (.slice A ls.length c) := h.2.1.cell 0
  have HT := Lib.hid h
  have htl := h.2.1.lt
  unfold maxLen at hcm
  have HP := Lib.hid hp; clear hp h
  have H3 : Hid (Blk (w.alloc (.cells #[.func (.func g) #[] cb] 75)) w.heap.size 75 #[.func (.func g) #[] cb]) := Lib.hid (Blk.new _ _ _)
  go_enter Try.func60, Try.ntmps60
  go_wp2
  go_loopw [13] (fun i wr => ∃ (k : Nat) (ls' : List Leaf), k ≤ ls.length ∧ i = .int .i64 k ∧ Hid (TreeIn wr B t (.slice A ls.length c) ls') ∧ Hid (ThinTo p k ls ls') ∧ Hid (Blk wr w.heap.size 75 #[.func (.func g) #[] cb]) ∧ Below B w wr) (fun i _ => ls.length - (intOf i).toNat)
  case atStart => exact ⟨0, ls, Nat.zero_le _, rfl, Lib.hid (HT.out.below ((Below.refl _ _).alloc (Nat.le_refl _) _)), Lib.hid ⟨rfl, fun j hj => absurd hj (by omega), fun _ _ => rfl⟩, H3, (Below.refl _ _).alloc hB _⟩
  case round =>
    obtain ⟨k, ls', hk, rfl, hT, hth, hb3, hb⟩ := hrel
    by_cases hlt : k < ls.length
    · have hlen : ls'.length = ls.length := hth.out.1
      have hlk := leafAt_some (ls := ls') (k := k) (by omega)
      obtain ⟨b, off, eA, hbB, c0, hgl, c1, f1, hBg, hPo, hgd⟩ := hT.out.2.2.at_ hlen (by omega : k < ls.length)
      obtain ⟨A2, c2, e2, hnc2, hcm2⟩ := own_form hPo
      have hold : leafAt ls' k = leafAt ls k := hth.out.2.2 k (Nat.le_refl _)
      have hml : (leafAt ls' k).ps.length ≤ 1048576 := by
        have h1 := leafPads_step (ls := ls) (k := k) hlt
        have h2 := leafPads_split (ls := ls) (k := k + 1)
        rw [h1, List.length_append, ← hold] at h2; omega
      have hlI := hT.out.2.2.2.1 _ (leafAt_mem (ls := ls') (k := k) (by omega))
      have hPo2 := hPo
      rw [e2] at c1 hPo2
      have eg77 : ∀ args w, (callFunc 83 args).run Try.prog w = .ok (.enter 83 args) w := enters_of Try.func83 (by kernel_rfl) rfl
      have hpn := keepNot g cb p eg B w.heap.size w wr (Value.slice A2 (leafAt ls' k).ps.length c2).ownBlock HP.out hb (Nat.le_trans hB hb.size) (fun q hq => own_base hPo2 hq) hb3.out (hb3.out.ne_own hPo2 (by decide))
      have HD := Lib.hid (delPads 83 #[.pointer (some ⟨w.heap.size, 0, none⟩)] (fun x => !p x) eg77 A2 (leafAt ls' k).ps.length c2 B (leafAt ls' k).ps wr rfl hml hgd hpn hPo2)
      have HPo := Lib.hid hPo2
      have HE := Lib.hid e2
      have HLI := Lib.hid hlI
      have HLK := Lib.hid hlk
      have HOld := Lib.hid hold
      have HGd := Lib.hid hgd
      subst eA
      clear hpn hPo hPo2 e2 hlI hlk hold eg77 hgd hml hlen
      generalize leafAt ls' k = l at *
      go_wp2_with fail
      refine HD.out.mono ?_
      rintro e w1 ⟨A3, c3, rfl, hO3, hv3, hg3⟩
      have hB1 : Blk w1 l.g 95 #[l.v] := (hg3.block _ HLI.out.2.1.lt (fun e => HLI.out.2.1.ne_own HPo.out (by decide) e.symm)).trans HLI.out.2.1
      have hff : (fun x => !(fun x => !p x) x) = p := by funext x; simp
      rw [hff] at hO3 hv3
      rw [← HE.out] at hg3 hv3
      have hT2 := TreeIn.turn hT.out HLK.out hg3 hO3 hv3 (fun x hx => HGd.out x (List.mem_filter.1 hx).1)
      have hb2 : Below B w (w1.setCell ⟨l.g, 0, none⟩ (.slice A3 (l.ps.filter p).length c3)) := (hb.grown hg3 (Nat.le_trans hB hb.size) (fun q hq => own_base HLI.out.2.2.1 hq)).setCell hBg _
      have HB3 : Hid (Blk (w1.setCell ⟨l.g, 0, none⟩ (.slice A3 (l.ps.filter p).length c3)) w.heap.size 75 #[.func (.func g) #[] cb]) := Lib.hid (by
        have h1 : Blk w1 w.heap.size 75 #[.func (.func g) #[] cb] := (hg3.block _ hb3.out.lt (fun e => hb3.out.ne_own HLI.out.2.2.1 (by decide) e.symm)).trans hb3.out
        exact h1.far (h1.ne_blk hB1 (by decide)) _)
      have HTh : Hid (ThinTo p (k + 1) ls (ls'.set k ⟨l.g, .slice A3 (l.ps.filter p).length c3, l.ps.filter p⟩)) := Lib.hid (hth.out.step hlt HLK.out HOld.out rfl rfl hv3)
      have HT2 := Lib.hid hT2
      have d1 : w1.cell? ⟨l.g, 0, none⟩ = some l.v := hB1.cell 0
      have d2 := hB1.free 0
      clear hT2 hff hO3 hv3 hg3 hB1 hT hth hb3 HD HPo HLI HLK
      rw [show (fun x => !(fun x => !p x) x) = p by funext x; simp]
      go_wp2
      go_roundw
      case rel => exact ⟨k + 1, _, by omega, by go_num, HT2, HTh, HB3, hb2⟩
      case measure => simp [intOf]; omega
    · have hkl : k = ls.length := by omega
      have hlen : ls'.length = ls.length := hth.out.1
      have hrd : ∀ l ∈ ls', LeafRd wr l := fun l hl => by
        obtain ⟨_, h2, h3, _⟩ := hT.out.2.2.2.1 l hl
        obtain ⟨A1, c1, e1, _⟩ := own_form h3
        exact ⟨A1, c1, by rw [← e1]; exact h2⟩
      have hro := hT.out.2.2.1
      rw [hlen, ptrC_map] at hro
      have HD := Lib.hid (delLeaf A ls.length c B ls' wr hlen hn hrd hro)
      have HR := Lib.hid hro
      have HB0 := Lib.hid hT.out.2.1
      have k0 : wr.cell? ⟨t, 0, none⟩ = some (.slice A ls.length c) := hT.out.2.1.cell 0
      have HL := Lib.hid hlen
      clear hrd hro hlen
      go_wp2_with fail
      refine HD.out.mono ?_
      rintro e w1 ⟨A3, c3, rfl, hO3, hv3, hg3⟩
      have hB1 : Blk w1 t 85 #[.slice A ls.length c] := (hg3.block _ HB0.out.lt (fun e => HB0.out.ne_own HR.out (by decide) e.symm)).trans HB0.out
      have HT2 := Lib.hid (TreeIn.thin hT.out hg3 hO3 hB1)
      have HM : Hid ((ls'.filter fun x => !noPads x).map (·.ps) = (ls.map (·.ps.filter p)).filter (fun ps => !(ps.length == 0))) := Lib.hid (hth.out.ends hkl)
      have b4 : Below B w (w1.setCell ⟨t, 0, none⟩ (.slice A3 (ls'.filter fun x => !noPads x).length c3)) := (hb.grown hg3 (Nat.le_trans hB hb.size) (fun q hq => own_base HR.out hq)).setCell hT.out.1 _
      have d1 : w1.cell? ⟨t, 0, none⟩ = some (.slice A ls.length c) := hB1.cell 0
      have d2 := hB1.free 0
      clear hB1 hO3 hv3 hg3
      go_wp2
      go_returns
      exact ⟨rfl, b4, _, _, HT2.out, HM.out⟩
end Go.Proofs.Ytfbfapobmhfenaa
