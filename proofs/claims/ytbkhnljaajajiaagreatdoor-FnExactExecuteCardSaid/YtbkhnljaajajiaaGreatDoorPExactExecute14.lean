/-
  Contracts and plain laws that the proof of the law ExactExecute leans on. Conditions: as each says.
-/
import Derived.Test.YtbkhnljaajajiaaGreatDoorPExactExecute00
import Derived.Test.YtbkhnljaajajiaaGreatDoorPExactExecute11
import Derived.Test.YtbkhnljaajajiaaGreatDoorPExactExecute12
import Derived.Test.YtbkhnljaajajiaaGreatDoorPExactExecute13
import Derived.Shelf.Abstract
import Derived.Laws.IdiomCopy
import Derived.Lib.SliceRun
import Derived.RegionTactic
set_option maxRecDepth 100000
set_option linter.unusedSimpArgs false
set_option linter.unusedVariables false
set_option linter.unnecessarySimpa false
namespace Go.Proofs.YtbkhnljaajajiaaGreatDoor
open Go.ChangeShapes Go.WideShapes Go.ChangeAt Go.RowKit Go.Shelf
def padV (p : Pad) : Value := .agg #[.int .i64 p.day, .string p.case]
def PredPad (g : Nat) (cb : Array Value) (p : Pad → Bool) (w : World) (row : Option Nat) : Prop :=
 ∀ (W : World) (x : Pad), w.grownBy W row → x.good → Calls Tryz.prog g (#[padV x] ++ cb) W fun e w' => e = .returned (.bool (p x)) ∧ Below W.heap.size W w'
def IdxP {α : Type} (p : α → Bool) (n : Nat) (at_ : Nat → α) (r : Int) : Prop :=
 (r = -1 ∧ ∀ j, j < n → p (at_ j) = false) ∨ ∃ k : Nat, r = k ∧ k < n ∧ p (at_ k) = true ∧ ∀ j, j < k → p (at_ j) = false
theorem idxFuncPad (g : Nat) (cb : Array Value) (p : Pad → Bool) (row : Option Nat) (eg : ∀ args w, (callFunc g args).run Tryz.prog w = .ok (.enter g args) w) (A : Option Addr) (n c : Nat) (ps : List Pad) (w : World) (hp : PredPad g cb p w row) (h : PadsIn w w.heap.size A n c ps) :
  Calls Tryz.prog 259 #[.slice A n c, .func (.func g) #[] cb] w fun e w' => ∃ r, e = .returned (.int .i64 r) ∧ IdxP p n (padAt ps) r ∧ Below w.heap.size w w' := by
 have hm := h.2.2.1; have hnc := h.2.1; unfold maxLen at hm; have H := uH h; clear h; have HP := uH hp; clear hp; go_enter Tryz.func259, Tryz.ntmps259
 go_wp2; go_loopw [5, 8] (fun _ i wr => ∃ (k : Nat), k ≤ n ∧ i = .int .i64 k ∧ Hid (∀ j, j < k → p (padAt ps j) = false) ∧ Below w.heap.size w wr) (fun _ i _ => n - (intOf i).toNat)
 case atStart => exact ⟨0, Nat.zero_le _, rfl, uH (fun j hj => absurd hj (by omega)), Below.refl _ _⟩
 case round =>
  obtain ⟨k, hk, rfl, hF, hb⟩ := hrel; by_cases hlt : k < n
  ·obtain ⟨b, off, eA, hbB, c0, c1, hg⟩ := (H.out.below hb).at_ hlt; have hcall := HP.out wr (padAt ps k) (Below.only hb) hg; subst eA; unfold padV at hcall; cases hq : p (padAt ps k) with
   | true =>
    rw [hq] at hcall; have HA : Hid (IdxP p n (padAt ps) k) := uH (.inr ⟨k, rfl, hlt, hq, hF.out⟩); have HC := uH hcall; clear hcall hq; generalize padAt ps k = x at *; go_wp2_with (go_at_fn g; refine HC.out.mono ?_; rintro e w1 ⟨rfl, hb1⟩)
    have b1 := hb.trans (hb1.mono hb.size); go_ret; exact ⟨_, rfl, HA.out, b1⟩
   | false =>
    rw [hq] at hcall; have HF : Hid (∀ j, j < k + 1 → p (padAt ps j) = false) := uH (fun j hj => by
     by_cases hjk : j < k
     ·exact hF.out j hjk
     ·obtain rfl : j = k := (by omega); exact hq)
    have HC := uH hcall; clear hcall hq; generalize padAt ps k = x at *; go_wp2_with (go_at_fn g; refine HC.out.mono ?_; rintro e w1 ⟨rfl, hb1⟩)
    have b1 := hb.trans (hb1.mono hb.size); go_roundw
    case rel => exact ⟨k + 1, by omega, by go_num, HF, b1⟩
    case measure => simp [intOf]; omega
  ·obtain rfl : k = n := (by omega); have HA : Hid (IdxP p k (padAt ps) (-1)) := uH (.inl ⟨rfl, hF.out⟩); go_wp2; go_ret; exact ⟨_, rfl, HA.out, hb⟩
end Go.Proofs.YtbkhnljaajajiaaGreatDoor
namespace Go.Proofs.YtbkhnljaajajiaaGreatDoor
open Go.ChangeShapes Go.WideShapes Go.ChangeAt Go.RowKit Go.Shelf
set_option maxRecDepth 100000
section
variable {α : Type} {enc : α → List Value} {sz : Nat}
def DelInv (enc : α → List Value) (sz : Nat) (keep : α → Bool) (xs : List α) (cur : Array Value) (cap i j : Nat) : Prop :=
 cur.size = cap * sz ∧ cur.toList.take (i * sz) = ((xs.take j).filter keep).flatMap enc ∧ ((xs.take j).filter keep).length = i ∧
  ∀ (t : Nat) (x : α), j ≤ t → xs[t]? = some x → ∀ q, q < sz → cur[t * sz + q]? = (enc x)[q]?
theorem DelInv.start (hl : ∀ a, (enc a).length = sz) {keep : α → Bool} {xs : List α} {cur : Array Value} {cap k : Nat} (hs : cur.size = cap * sz) (ht : cur.toList.take (xs.length * sz) = xs.flatMap enc) (hk : k ≤ xs.length) (hkeep : ∀ x ∈ xs.take k, keep x = true) :
  DelInv enc sz keep xs cur cap k k := by
 have hf : (xs.take k).filter keep = xs.take k := List.filter_eq_self.2 hkeep; have hsp : xs.flatMap enc = (xs.take k).flatMap enc ++ (xs.drop k).flatMap enc := (by rw [← List.flatMap_append, List.take_append_drop]); have hlen : ((xs.take k).flatMap enc).length = k * sz := (by rw [flat_len hl, List.length_take, Nat.min_eq_left hk]); refine ⟨hs, ?_, by rw [hf, List.length_take, Nat.min_eq_left hk], ?_⟩
 ·rw [hf]; have h1 : (cur.toList.take (xs.length * sz)).take (k * sz) = (xs.flatMap enc).take (k * sz) := (by rw [ht]); rw [List.take_take, Nat.min_eq_left (Nat.mul_le_mul_right _ hk)] at h1; rw [h1, hsp, List.take_append_of_le_length (by omega), List.take_of_length_le (by omega)]
 ·intro t x _ hx q hq; have hlt : t < xs.length := (List.getElem?_eq_some_iff.1 hx).1; have hex : (enc x)[q]? = some ((enc x)[q]'(by rw [hl]; exact hq)) := List.getElem?_eq_getElem _; have h1 := flat_at hl xs t x q _ hx hex; rw [← ht] at h1; have hm : t * sz + q < xs.length * sz := by
   have : (t + 1) * sz ≤ xs.length * sz := Nat.mul_le_mul_right _ hlt; rw [Nat.succ_mul] at this; omega
  rw [List.getElem?_take_of_lt hm, Array.getElem?_toList] at h1; rw [h1, hex]
theorem DelInv.skip {keep : α → Bool} {xs : List α} {cur : Array Value} {cap i j : Nat} {x : α} (h : DelInv enc sz keep xs cur cap i j) (hx : xs[j]? = some x) (hk : keep x = false) : DelInv enc sz keep xs cur cap i (j + 1) := by
 have he : (xs.take (j + 1)).filter keep = (xs.take j).filter keep := (by rw [take_step hx, List.filter_append]; simp [hk]); exact ⟨h.1, by rw [he]; exact h.2.1, by rw [he]; exact h.2.2.1, fun t y ht => h.2.2.2 t y (by omega)⟩
theorem DelInv.put (hl : ∀ a, (enc a).length = sz) {keep : α → Bool} {xs : List α} {cur cur' : Array Value} {cap i j : Nat} {x : α} (h : DelInv enc sz keep xs cur cap i j) (hij : i ≤ j) (hx : xs[j]? = some x) (hk : keep x = true) (hc : xs.length ≤ cap)
  (h1 : cur'.size = cur.size) (h2 : ∀ q, q < sz → cur'[i * sz + q]? = (enc x)[q]?) (h3 : ∀ m, m < i * sz ∨ (i + 1) * sz ≤ m → cur'[m]? = cur[m]?) : DelInv enc sz keep xs cur' cap (i + 1) (j + 1) := by
 have he : (xs.take (j + 1)).filter keep = (xs.take j).filter keep ++ [x] := (by rw [take_step hx, List.filter_append]; simp [hk]); have hlt : j < xs.length := (List.getElem?_eq_some_iff.1 hx).1; have hsz : (i + 1) * sz ≤ cur'.size := (by rw [h1, h.1]; exact Nat.mul_le_mul_right _ (by omega)); have hmul : (i + 1) * sz = i * sz + sz := Nat.succ_mul i sz; refine ⟨by rw [h1, h.1], ?_, by rw [he, List.length_append, h.2.2.1]; rfl, ?_⟩
 ·rw [he, List.flatMap_append, ← h.2.1]; have hl1 : (cur.toList.take (i * sz)).length = i * sz := (by rw [List.length_take, Array.length_toList]; omega); have hl2 : ([x].flatMap enc) = enc x := (by simp); rw [hl2]; apply List.ext_getElem?; intro m; rcases Nat.lt_or_ge m (i * sz) with hm | hm
  ·rw [List.getElem?_append_left (by omega), List.getElem?_take_of_lt hm, List.getElem?_take_of_lt (by omega), Array.getElem?_toList, Array.getElem?_toList, h3 m (.inl hm)]
  ·rw [List.getElem?_append_right (by omega), hl1]; rcases Nat.lt_or_ge m ((i + 1) * sz) with hm2 | hm2
   ·rw [List.getElem?_take_of_lt hm2, Array.getElem?_toList, ← h2 (m - i * sz) (by omega)]; congr 1; omega
   ·rw [List.getElem?_eq_none (by rw [List.length_take]; omega), List.getElem?_eq_none (by rw [hl]; omega)]
 ·intro t y ht hy q hq; rw [h3 _ (.inr (by
   have : (i + 1) * sz ≤ t * sz := Nat.mul_le_mul_right _ (by omega); omega))]
  exact h.2.2.2 t y (by omega) hy q hq
end
theorem Blk.cells {b : Nat} {t : TypeId} : ∀ (vs : List Value) (o : Nat) {w : World} {cs : Array Value}, Blk w b t cs → ∃ cs', Blk (w.setCells b o vs) b t cs' ∧ cs'.size = cs.size ∧ ∀ j, j < o → cs'[j]? = cs[j]?
 | [], _, _, cs, h => ⟨cs, h, rfl, fun _ _ => rfl⟩
 | v :: r, o, _, _, h => by
  obtain ⟨cs', h1, h2, h3⟩ := Blk.cells r (o + 1) (h.set o v); refine ⟨cs', h1, by rw [h2]; simp, fun j hj => ?_⟩; rw [h3 j (by omega), Array.getElem?_setIfInBounds_ne (by omega)]
theorem only_setCells {a : World} {g : Nat} : ∀ (vs : List Value) (o : Nat) {w : World}, a.grownBy w (some g) → a.grownBy (w.setCells g o vs) (some g)
 | [], _, _, h => h
 | v :: r, o, _, h => only_setCells r (o + 1) (only_set h rfl v)
theorem run_clear_any {P : Program} (w : World) (n : Nat) (t e ty : TypeId) (z : Value) (ht : P.underlying t = some (.slice e)) (hv : ∀ w, (zeroValue e).run P w = .ok z w) (h1 : ∀ v ∈ (Builtin.zeroCells z.cells n).toList, v.oneCell' = true) (b o c : Nat) (hn : 0 < n)
  (hc : ∀ j, j < (Builtin.zeroCells z.cells n).toList.length → (w.cell? ⟨b, o + j, none⟩).isSome = true) (hf : ∀ j, w.frozen? ⟨b, o + j, none⟩ = false) :
  (Builtin.clear_ #[t] ty #[.slice (some ⟨b, o, none⟩) n c]).run P w = .ok (.tuple #[]) (w.setCells b o (Builtin.zeroCells z.cells n).toList) := by
 have hst := run_storeCells_cells (P := P) b o (Builtin.zeroCells z.cells n).toList 0 w (by simpa using hc) (by intro j _; simpa using hf j) h1; simp only [Nat.add_zero] at hst; obtain ⟨m, rfl⟩ : ∃ m, n = m + 1 := ⟨n - 1, by omega⟩; simp [Builtin.clear_, run_underlying ht, hv, hst]
end Go.Proofs.YtbkhnljaajajiaaGreatDoor
namespace Go.Proofs.YtbkhnljaajajiaaGreatDoor
open Go.ChangeShapes Go.WideShapes Go.ChangeAt Go.RowKit Go.Shelf
set_option maxRecDepth 100000
theorem zeroPad : ∀ w, (zeroValue 53).run Tryz.prog w = .ok (.agg #[.int .i64 0, .string ByteArray.empty]) w := fun w => by kernel_rfl
def zPad : Value := .agg #[.int .i64 0, .string ByteArray.empty]
theorem zPad_len (n : Nat) : (Builtin.zeroCells zPad.cells n).toList.length = n * 2 := by simp [Builtin.zeroCells, zPad, Value.cells]
theorem zPad_one (n : Nat) : ∀ v ∈ (Builtin.zeroCells zPad.cells n).toList, v.oneCell' = true := by
 intro v hv; simp only [Builtin.zeroCells, zPad, Value.cells, Array.toList_map, List.mem_map] at hv; obtain ⟨i, _, rfl⟩ := hv; have : i % 2 = 0 ∨ i % 2 = 1 := (by omega); rcases this with h | h <;> simp [h, Value.oneCell']
def DelAns (w w' : World) (B : Nat) (v : Value) (ps : List Pad) (e : Ending) : Prop :=
 ∃ A c, e = .returned (.slice A ps.length c) ∧ PadsOwn w' B (.slice A ps.length c) ps ∧ (Value.slice A ps.length c).ownBlock = v.ownBlock ∧ w.grownBy w' v.ownBlock
theorem delPads (g : Nat) (cb : Array Value) (p : Pad → Bool) (eg : ∀ args w, (callFunc g args).run Tryz.prog w = .ok (.enter g args) w) (A : Option Addr) (n c B : Nat) (ps : List Pad) (w : World) (hn : ps.length = n) (hn1 : n ≤ 1048576)
  (hgood : ∀ x ∈ ps, x.good) (hp : PredPad g cb p w (Value.slice A n c).ownBlock) (h : PadsOwn w B (.slice A n c) ps) :
  Calls Tryz.prog 240 #[.slice A n c, .func (.func g) #[] cb] w fun e w' => DelAns w w' B (.slice A n c) (ps.filter fun x => !p x) e := by
 have hR := h.reads hn hgood; have HI := uH (idxFuncPad g cb p (Value.slice A n c).ownBlock eg A n c ps w hp hR); have HG := uH hgood; clear hgood; have HPd := uH hp; clear hp; have HO := uH h; have hcm := hR.2.2.1; have hnc := hR.2.1; unfold maxLen at hcm; have HN := uH hn; clear hn; clear hR; go_enter Tryz.func240, Tryz.ntmps240
 (go_wp2_with fail); refine HI.out.mono ?_; rintro e w1 ⟨r, rfl, hr, b1⟩; rcases hr with ⟨rfl, hno⟩ | ⟨k, rfl, hkn, hyes, hno⟩
 ·have HF : Hid (ps.filter (fun x => !p x) = ps) := uH (List.filter_eq_self.2 (fun x hx => by
   obtain ⟨i, hi, rfl⟩ := List.getElem_of_mem hx; have := hno i (by rw [← HN.out]; exact hi); rw [show padAt ps i = ps[i] by unfold padAt; simp [List.getD, List.getElem?_eq_getElem hi]] at this; simp [this]))
  have HW := uH (HO.out.keep b1); clear hno; go_wp2; go_ret; rw [HF.out]; exact ⟨A, c, by rw [HN.out]; rfl, by rw [HN.out]; exact HW.out, by rw [HN.out], Below.only b1⟩
 ·unfold PadsOwn at h; rw [HN.out] at h; rcases h.2 with ⟨e, e0⟩ | ⟨gb, cap, cur, e, hg, hB, _, _, hcs, ht⟩
  ·omega
  injection e with e1 e2 e3; subst e1 e3; have hD0 : DelInv padC 2 (fun x => !p x) ps cur c k k := DelInv.start padC_len hcs (by rw [HN.out]; exact ht) (by rw [HN.out]; omega) (fun x hx => by
   obtain ⟨i, hi, rfl⟩ := List.getElem_of_mem hx; simp only [List.length_take] at hi; have := hno i (by omega); rw [List.getElem_take]; rw [show padAt ps i = ps[i] by unfold padAt; simp [List.getD, List.getElem?_eq_getElem (show i < ps.length by omega)]] at this; simp [this])
  have hD1 := uH (hD0.skip (padAt_some (by rw [HN.out]; exact hkn)) (by simp [hyes])); have hB1 := uH (Blk.below (show Blk w gb 53 cur from hB) b1); have hG1 := uH (Below.only (row := some gb) b1); have HP : Hid (PredPad g cb p w (some gb)) := uH HPd.out; have hk1 : ((k : Int) == -1) = false := (by simp); clear h hD0 hB ht hcs hno hyes HPd HI; go_wp2; go_loopw [5, 6] (fun a i wr => ∃ (q j : Nat) (cs : Array Value), q < j ∧ j ≤ n ∧ a = .int .i64 q ∧ i = .int .i64 j ∧ Hid (Blk wr gb 53 cs) ∧ Hid (DelInv padC 2 (fun x => !p x) ps cs c q j) ∧ Hid (w.grownBy wr (some gb))) (fun _ i _ => n - (intOf i).toNat)
  case atStart => exact ⟨k, k + 1, cur, by omega, by omega, rfl, by go_num, hB1, hD1, hG1⟩
  case round =>
   obtain ⟨q, j, cs, hqj, hj, rfl, rfl, hC, hD, hG⟩ := hrel; by_cases hlt : j < n
   ·have hjl : j < ps.length := (by rw [HN.out]; exact hlt); have hx := padAt_some hjl; have c0 : wr.cell? ⟨gb, j * 2, none⟩ = some (.int .i64 (padAt ps j).day) := by
     rw [hC.out.cell]; exact hD.out.2.2.2 j _ (Nat.le_refl _) hx 0 (by omega)
    have c1 : wr.cell? ⟨gb, j * 2 + 1, none⟩ = some (.string (padAt ps j).case) := by
     rw [hC.out.cell]; exact hD.out.2.2.2 j _ (Nat.le_refl _) hx 1 (by omega)
    have hgx := HG.out _ (padAt_mem hjl); have hal : wr.grownBy (wr.alloc (.cells #[.int .i64 (padAt ps j).day, .string (padAt ps j).case] 53)) (some gb) := Below.only ((Below.refl _ _).alloc (Nat.le_refl _) _); have hcall := HP.out _ (padAt ps j) (only_next hG.out hal) hgx; unfold padV at hcall; cases hq : p (padAt ps j) with
    | true =>
     rw [hq] at hcall; have HC := uH hcall; have HD := uH (hD.out.skip hx (by simp [hq])); have HB := uH (hC.out.alloc (.cells #[.int .i64 (padAt ps j).day, .string (padAt ps j).case] 53)); have HGr := uH (only_next hG.out hal); clear hcall hq hx hgx hjl hC hD hG hal; generalize padAt ps j = x at *; go_wp2_with (go_at_fn g; refine HC.out.mono ?_; rintro e w2 ⟨rfl, hb2⟩)
     have HB2 := uH (HB.out.below hb2); have HG2 := uH (only_next HGr.out (Below.only hb2)); go_roundw
     case rel => exact ⟨q, j + 1, cs, by omega, by omega, rfl, by go_num, HB2, HD, HG2⟩
     case measure => simp [intOf]; omega
    | false =>
     rw [hq] at hcall; have HC := uH hcall; have HB := uH (hC.out.alloc (.cells #[.int .i64 (padAt ps j).day, .string (padAt ps j).case] 53)); have HGr := uH (only_next hG.out hal); have hsz := hD.out.1; have HDD := uH hD.out; have HXX := uH hx; have HQ := uH hq; obtain ⟨v0, hv0⟩ : ∃ u, cs[q * 2]? = some u := ⟨_, Array.getElem?_eq_getElem (by omega)⟩; obtain ⟨v1, hv1⟩ : ∃ u, cs[q * 2 + 1]? = some u := ⟨_, Array.getElem?_eq_getElem (by omega)⟩; clear hcall hq hx hgx hjl hC hD hG hal hsz; have HV0 := uH hv0; have HV1 := uH hv1; clear hv0 hv1; generalize padAt ps j = x at *; go_wp2_with (go_at_fn g; refine HC.out.mono ?_; rintro e w2 ⟨rfl, hb2⟩; have hB2 := HB.out.below hb2; have f0 := (hB2.cell (q * 2)).trans HV0.out; have f1 := (hB2.cell (q * 2 + 1)).trans HV1.out; have z0 := hB2.free (q * 2); have z1 := hB2.free (q * 2 + 1); have l0 := kcell hb2 (newcell wr #[.int .i64 x.day, .string x.case] 53 0 _ rfl); have l1 := kcell hb2 (newcell wr #[.int .i64 x.day, .string x.case] 53 1 _ rfl))
     have HB3 := uH ((hB2.set (q * 2) (.int .i64 x.day)).set (q * 2 + 1) (.string x.case)); have HG3 := uH (only_set (only_set (only_next HGr.out (Below.only hb2)) rfl (.int .i64 x.day) (p := ⟨gb, q * 2, none⟩)) rfl (.string x.case) (p := ⟨gb, q * 2 + 1, none⟩)); have HD3 : Hid (DelInv padC 2 (fun x => !p x) ps ((cs.setIfInBounds (q * 2) (.int .i64 x.day)).setIfInBounds (q * 2 + 1) (.string x.case)) c (q + 1) (j + 1)) := uH (by
      have hsz := HDD.out.1; refine HDD.out.put padC_len (by omega) HXX.out (by simp [HQ.out]) (by rw [HN.out]; exact hnc) (by simp) (fun r hr => ?_) (fun m hm => ?_)
      ·rcases r with _ | _ | r
       ·show ((cs.setIfInBounds (q * 2) (.int .i64 x.day)).setIfInBounds (q * 2 + 1) (.string x.case))[q * 2]? = _
        rw [Array.getElem?_setIfInBounds_ne (by omega), Array.getElem?_setIfInBounds_self_of_lt (by omega)]; rfl
       ·rw [Array.getElem?_setIfInBounds_self_of_lt (by simp; omega)]; rfl
       ·omega
      ·rw [Array.getElem?_setIfInBounds_ne (by omega), Array.getElem?_setIfInBounds_ne (by omega)])
     go_roundw
     case rel => exact ⟨q + 1, j + 1, _, by omega, by omega, by go_num, by go_num, HB3, HD3, HG3⟩
     case measure => simp [intOf]; omega
   ·obtain rfl : j = n := (by omega); have hsz := hD.out.1; have hlenf := hD.out.2.2.1; have hfull : ps.take j = ps := List.take_of_length_le (by rw [HN.out]; exact Nat.le_refl _); have HT : Hid (cs.toList.take (q * 2) = (ps.filter fun x => !p x).flatMap padC ∧ (ps.filter fun x => !p x).length = q) := uH (by
     have h1 := hD.out.2.1; have h2 := hD.out.2.2.1; rw [hfull] at h1 h2; exact ⟨h1, h2⟩)
    have hcl := run_clear_any (P := Tryz.prog) wr (j - q) 46 53 0 zPad Tryz.underlying46 zeroPad (zPad_one _) gb (q * 2) (c - q) (by omega) (fun m hm => by
     rw [zPad_len] at hm; obtain ⟨u, hu⟩ : ∃ u, cs[q * 2 + m]? = some u := ⟨_, Array.getElem?_eq_getElem (by omega)⟩; rw [hC.out.cell, hu]; rfl) (fun m => hC.out.free _)
    generalize (Builtin.zeroCells zPad.cells (j - q)).toList = zs at hcl; obtain ⟨cs', hB', hs', hk'⟩ := Blk.cells zs (q * 2) hC.out; have HG3 := uH (only_setCells zs (q * 2) hG.out); have HF : Hid (PadsOwn (wr.setCells gb (q * 2) zs) B (.slice (some ⟨gb, 0, none⟩) (ps.filter fun x => !p x).length c) (ps.filter fun x => !p x)) := uH (by
     refine ⟨by rw [flat_len padC_len], .inr ⟨gb, c, cs', rfl, hg, hB', by rw [HT.out.2]; omega, by unfold maxLen; omega, by rw [hs', hsz], ?_⟩⟩; rw [HT.out.2, ← HT.out.1]; apply List.ext_getElem?; intro m; rcases Nat.lt_or_ge m (q * 2) with hm | hm
     ·rw [List.getElem?_take_of_lt hm, List.getElem?_take_of_lt hm, Array.getElem?_toList, Array.getElem?_toList, hk' m hm]
     ·rw [List.getElem?_eq_none (by rw [List.length_take]; omega), List.getElem?_eq_none (by rw [List.length_take]; omega)])
    clear hlenf hfull hB' hk' hs'; go_wp2; go_ret; exact ⟨_, c, by rw [HT.out.2]; rfl, HF.out, rfl, HG3.out⟩
end Go.Proofs.YtbkhnljaajajiaaGreatDoor
namespace Go.Proofs.YtbkhnljaajajiaaGreatDoor
open Go.ChangeShapes Go.WideShapes Go.ChangeAt Go.RowKit Go.Shelf
set_option maxRecDepth 100000
def noPads (l : Leaf) : Bool := l.ps.length == 0
def ptrC (l : Leaf) : List Value := [l.ptr]
theorem ptrC_len (l : Leaf) : (ptrC l).length = 1 := rfl
theorem ptrC_map (ls : List Leaf) : ls.map Leaf.ptr = ls.flatMap ptrC := by
 induction ls with
 | nil => rfl
 | cons l r ih => simp [ih, ptrC]
def LeafRd (w : World) (l : Leaf) : Prop := ∃ A c, Blk w l.g 192 #[.slice A l.ps.length c]
theorem emptyLeaf (l : Leaf) (w : World) (h : LeafRd w l) : Calls Tryz.prog 242 #[l.ptr] w fun e w' => e = .returned (.bool (noPads l)) ∧ Below w.heap.size w w' := by
 obtain ⟨A, c, hB⟩ := h; have c0 := hB.cell 0; unfold Leaf.ptr; have HN : Hid (noPads l = (((l.ps.length : Nat) : Int) == 0)) := uH (by
  unfold noPads; rw [Bool.eq_iff_iff, beq_iff_eq, beq_iff_eq]; omega)
 generalize l.ps.length = n at *; go_enter Tryz.func242, Tryz.ntmps242
 go_wp2; go_ret; exact ⟨ret_bool HN.out.symm, Below.refl _ _⟩
theorem idxFuncLeaf (A : Option Addr) (n c : Nat) (ls : List Leaf) (w : World) (hn : ls.length = n) (hcm : n ≤ 1048576) (hl : ∀ l ∈ ls, LeafRd w l) (h : Row w w.heap.size A n 1 (ls.flatMap ptrC)) :
  Calls Tryz.prog 260 #[.slice A n c, .func (.func 242) #[] #[]] w fun e w' => ∃ r, e = .returned (.int .i64 r) ∧ IdxP noPads n (leafAt ls) r ∧ Below w.heap.size w w' := by
 have eg : ∀ args w, (callFunc 242 args).run Tryz.prog w = .ok (.enter 242 args) w := enters_of Tryz.func242 (by kernel_rfl) rfl; have H := uH h; clear h; have HP := uH hl; clear hl; have HN := uH hn; clear hn; go_enter Tryz.func260, Tryz.ntmps260
 go_wp2; go_loopw [5, 8] (fun _ i wr => ∃ (k : Nat), k ≤ n ∧ i = .int .i64 k ∧ Hid (∀ j, j < k → noPads (leafAt ls j) = false) ∧ Below w.heap.size w wr) (fun _ i _ => n - (intOf i).toNat)
 case atStart => exact ⟨0, Nat.zero_le _, rfl, uH (fun j hj => absurd hj (by omega)), Below.refl _ _⟩
 case round =>
  obtain ⟨k, hk, rfl, hF, hb⟩ := hrel; by_cases hlt : k < n
  ·obtain ⟨b, off, eA, hbB, hcs⟩ := (H.out.below hb).2 (by omega); have hkl : k < ls.length := (by rw [HN.out]; exact hlt); have c0 := hcs (k * 1 + 0) _ (flat_at ptrC_len ls k _ 0 _ (leafAt_some hkl) rfl); rw [show off + (k * 1 + 0) = off + k by omega] at c0; have hcall := emptyLeaf (leafAt ls k) wr (by
    obtain ⟨A, c, hB⟩ := HP.out _ (leafAt_mem hkl); exact ⟨A, c, hB.below hb⟩)
   unfold Leaf.ptr at hcall c0; subst eA; clear hcs hkl; cases hq : noPads (leafAt ls k) with
   | true =>
    rw [hq] at hcall; have HA : Hid (IdxP noPads n (leafAt ls) k) := uH (.inr ⟨k, rfl, hlt, hq, hF.out⟩); have HC := uH hcall; clear hcall hq; generalize leafAt ls k = x at *; go_wp2_with (go_at_fn 242; refine HC.out.mono ?_; rintro e w1 ⟨rfl, hb1⟩)
    have b1 := hb.trans (hb1.mono hb.size); go_ret; exact ⟨_, rfl, HA.out, b1⟩
   | false =>
    rw [hq] at hcall; have HF : Hid (∀ j, j < k + 1 → noPads (leafAt ls j) = false) := uH (fun j hj => by
     by_cases hjk : j < k
     ·exact hF.out j hjk
     ·obtain rfl : j = k := (by omega); exact hq)
    have HC := uH hcall; clear hcall hq; generalize leafAt ls k = x at *; go_wp2_with (go_at_fn 242; refine HC.out.mono ?_; rintro e w1 ⟨rfl, hb1⟩)
    have b1 := hb.trans (hb1.mono hb.size); go_roundw
    case rel => exact ⟨k + 1, by omega, by go_num, HF, b1⟩
    case measure => simp [intOf]; omega
  ·obtain rfl : k = n := (by omega); have HA : Hid (IdxP noPads k (leafAt ls) (-1)) := uH (.inl ⟨rfl, hF.out⟩); go_wp2; go_ret; exact ⟨_, rfl, HA.out, hb⟩
end Go.Proofs.YtbkhnljaajajiaaGreatDoor
namespace Go.Proofs.YtbkhnljaajajiaaGreatDoor
open Go.ChangeShapes Go.WideShapes Go.ChangeAt Go.RowKit Go.Shelf
set_option maxRecDepth 100000
def DelLeafAns (w w' : World) (B : Nat) (v : Value) (ls : List Leaf) (e : Ending) : Prop :=
 ∃ A c, e = .returned (.slice A ls.length c) ∧ w'.ownsRow B 134 1 (.slice A ls.length c) ls.length (ls.flatMap ptrC) ∧ (Value.slice A ls.length c).ownBlock = v.ownBlock ∧ w.grownBy w' v.ownBlock
theorem zeroLeafP : ∀ w, (zeroValue 134).run Tryz.prog w = .ok (.pointer none) w := fun w => by kernel_rfl
theorem zPtr_len (n : Nat) : (Builtin.zeroCells (Value.pointer none).cells n).toList.length = n * 1 := by simp [Builtin.zeroCells, Value.cells]
theorem zPtr_one (n : Nat) : ∀ v ∈ (Builtin.zeroCells (Value.pointer none).cells n).toList, v.oneCell' = true := by
 intro v hv; simp only [Builtin.zeroCells, Value.cells, Array.toList_map, List.mem_map] at hv; obtain ⟨i, _, rfl⟩ := hv; have : i % 1 = 0 := (by omega); simp [this, Value.oneCell']
set_option maxHeartbeats 1000000 in
theorem delLeaf (A : Option Addr) (n c B : Nat) (ps : List Leaf) (w : World) (hn : ps.length = n) (hn1 : n ≤ 1048576)
  (hrd : ∀ l ∈ ps, LeafRd w l) (h : w.ownsRow B 134 1 (.slice A n c) n (ps.flatMap ptrC)) :
  Calls Tryz.prog 241 #[.slice A n c, .func (.func 242) #[] #[]] w fun e w' => DelLeafAns w w' B (.slice A n c) (ps.filter fun x => !noPads x) e := by
 have eg : ∀ args w, (callFunc 242 args).run Tryz.prog w = .ok (.enter 242 args) w := enters_of Tryz.func242 (by kernel_rfl) rfl; have HI := uH (idxFuncLeaf A n c ps w hn hn1 hrd (Row.of_own h)); obtain ⟨A0, cc0, e0, hnc, hcm⟩ := own_form h; injection e0 with e1 e2 e3; subst e1 e3; clear e2; unfold maxLen at hcm; have HRd := uH hrd; clear hrd; have HNe : Hid (∀ l ∈ ps, (Value.slice A n c).ownBlock ≠ some l.g) := uH (fun l hl => by
  obtain ⟨A, c, hB⟩ := HRd.out l hl; exact hB.ne_own h (by decide))
 have HO := uH h; have HN := uH hn; clear hn; go_enter Tryz.func241, Tryz.ntmps241
 (go_wp2_with fail); refine HI.out.mono ?_; rintro e w1 ⟨r, rfl, hr, b1⟩; rcases hr with ⟨rfl, hno⟩ | ⟨k, rfl, hkn, hyes, hno⟩
 ·have HF : Hid (ps.filter (fun x => !noPads x) = ps) := uH (List.filter_eq_self.2 (fun x hx => by
   obtain ⟨i, hi, rfl⟩ := List.getElem_of_mem hx; have := hno i (by rw [← HN.out]; exact hi); rw [show leafAt ps i = ps[i] by unfold leafAt; simp [List.getD, List.getElem?_eq_getElem hi]] at this; simp [this]))
  have HW := uH (own_congr HO.out (fun b hv => b1.block b (own_lt HO.out hv))); clear hno; go_wp2; go_ret; rw [HF.out]; exact ⟨A, c, by rw [HN.out]; rfl, by rw [HN.out]; exact HW.out, by rw [HN.out], Below.only b1⟩
 ·rcases h.2 with ⟨e, e0⟩ | ⟨gb, cap, cur, e, hg, hB, _, _, hcs, ht⟩
  ·omega
  injection e with e1 e2 e3; subst e1 e3; have hD0 : DelInv ptrC 1 (fun x => !noPads x) ps cur c k k := DelInv.start ptrC_len hcs (by rw [HN.out]; exact ht) (by rw [HN.out]; omega) (fun x hx => by
   obtain ⟨i, hi, rfl⟩ := List.getElem_of_mem hx; simp only [List.length_take] at hi; have := hno i (by omega); rw [List.getElem_take]; rw [show leafAt ps i = ps[i] by unfold leafAt; simp [List.getD, List.getElem?_eq_getElem (show i < ps.length by omega)]] at this; simp [this])
  have hD1 := uH (hD0.skip (leafAt_some (by rw [HN.out]; exact hkn)) (by simp [hyes])); have hB1 := uH (Blk.below (show Blk w gb 134 cur from hB) b1); have hG1 := uH (Below.only (row := some gb) b1); have hk1 : ((k : Int) == -1) = false := (by simp); have HNg : Hid (∀ l ∈ ps, gb ≠ l.g) := uH (fun l hl e => HNe.out l hl (by rw [e]; rfl)); clear h hD0 hB ht hcs hno hyes HI HNe; go_wp2; go_loopw [5, 6] (fun a i wr => ∃ (q j : Nat) (cs : Array Value), q < j ∧ j ≤ n ∧ a = .int .i64 q ∧ i = .int .i64 j ∧ Hid (Blk wr gb 134 cs) ∧ Hid (DelInv ptrC 1 (fun x => !noPads x) ps cs c q j) ∧ Hid (w.grownBy wr (some gb))) (fun _ i _ => n - (intOf i).toNat)
  case atStart => exact ⟨k, k + 1, cur, by omega, by omega, rfl, by go_num, hB1, hD1, hG1⟩
  case round =>
   obtain ⟨q, j, cs, hqj, hj, rfl, rfl, hC, hD, hG⟩ := hrel; by_cases hlt : j < n
   ·have hjl : j < ps.length := (by rw [HN.out]; exact hlt); have hx := leafAt_some hjl; have c0 : wr.cell? ⟨gb, j, none⟩ = some (leafAt ps j).ptr := by
     rw [hC.out.cell]; have := hD.out.2.2.2 j _ (Nat.le_refl _) hx 0 (by omega); rw [show j * 1 + 0 = j by omega] at this; exact this
    have hrd : LeafRd wr (leafAt ps j) := by
     obtain ⟨A1, c1, hB⟩ := HRd.out _ (leafAt_mem hjl); exact ⟨A1, c1, hB.only hG.out (fun e => HNg.out _ (leafAt_mem hjl) e.symm)⟩
    have hcall := emptyLeaf (leafAt ps j) wr hrd; cases hq : noPads (leafAt ps j) with
    | true =>
     rw [hq] at hcall; have HC := uH hcall; have HD := uH (hD.out.skip hx (by simp [hq])); clear hcall hq hx hjl hD hrd; unfold Leaf.ptr at HC c0; generalize leafAt ps j = x at *; go_wp2_with (go_at_fn 242; refine HC.out.mono ?_; rintro e w2 ⟨rfl, hb2⟩)
     have HB2 := uH (hC.out.below hb2); have HG2 := uH (only_next hG.out (Below.only hb2)); go_roundw
     case rel => exact ⟨q, j + 1, cs, by omega, by omega, rfl, by go_num, HB2, HD, HG2⟩
     case measure => simp [intOf]; omega
    | false =>
     rw [hq] at hcall; have HC := uH hcall; have hsz := hD.out.1; have HDD := uH hD.out; have HXX := uH hx; have HQ := uH hq; obtain ⟨v0, hv0⟩ : ∃ u, cs[q]? = some u := ⟨_, Array.getElem?_eq_getElem (by omega)⟩; clear hcall hq hx hjl hD hrd hsz; have HV0 := uH hv0; clear hv0; unfold Leaf.ptr at HC c0; generalize leafAt ps j = x at *; go_wp2_with (go_at_fn 242; refine HC.out.mono ?_; rintro e w2 ⟨rfl, hb2⟩; have hB2 := hC.out.below hb2; have f0 := (hB2.cell q).trans HV0.out; have z0 := hB2.free q)
     have HB3 := uH (hB2.set q x.ptr); have HG3 := uH (only_set (only_next hG.out (Below.only hb2)) rfl x.ptr (p := ⟨gb, q, none⟩)); have HD3 : Hid (DelInv ptrC 1 (fun x => !noPads x) ps (cs.setIfInBounds q x.ptr) c (q + 1) (j + 1)) := uH (by
      have hsz := HDD.out.1; refine HDD.out.put ptrC_len (by omega) HXX.out (by simp [HQ.out]) (by rw [HN.out]; exact hnc) (by simp) (fun r hr => ?_) (fun m hm => ?_)
      ·obtain rfl : r = 0 := (by omega); rw [show q * 1 + 0 = q by omega, Array.getElem?_setIfInBounds_self_of_lt (by omega)]; rfl
      ·rw [Array.getElem?_setIfInBounds_ne (by omega)])
     unfold Leaf.ptr at HB3 HG3 HD3; go_roundw
     case rel => exact ⟨q + 1, j + 1, _, by omega, by omega, by go_num, by go_num, HB3, HD3, HG3⟩
     case measure => simp [intOf]; omega
   ·obtain rfl : j = n := (by omega); have hsz := hD.out.1; have hlenf := hD.out.2.2.1; have hfull : ps.take j = ps := List.take_of_length_le (by rw [HN.out]; exact Nat.le_refl _); have HT : Hid (cs.toList.take q = (ps.filter fun x => !noPads x).flatMap ptrC ∧ (ps.filter fun x => !noPads x).length = q) := uH (by
     have h1 := hD.out.2.1; have h2 := hD.out.2.2.1; rw [hfull] at h1 h2; rw [Nat.mul_one] at h1; exact ⟨h1, h2⟩)
    have hcl := run_clear_any (P := Tryz.prog) wr (j - q) 126 134 0 (.pointer none) Tryz.underlying126 zeroLeafP (zPtr_one _) gb q (c - q) (by omega) (fun m hm => by
     rw [zPtr_len] at hm; obtain ⟨u, hu⟩ : ∃ u, cs[q + m]? = some u := ⟨_, Array.getElem?_eq_getElem (by omega)⟩; rw [hC.out.cell, hu]; rfl) (fun m => hC.out.free _)
    generalize (Builtin.zeroCells (Value.pointer none).cells (j - q)).toList = zs at hcl; obtain ⟨cs', hB', hs', hk'⟩ := Blk.cells zs q hC.out; have HG3 := uH (only_setCells zs q hG.out); have HF : Hid ((wr.setCells gb q zs).ownsRow B 134 1 (.slice (some ⟨gb, 0, none⟩) (ps.filter fun x => !noPads x).length c) (ps.filter fun x => !noPads x).length ((ps.filter fun x => !noPads x).flatMap ptrC)) := uH (by
     refine ⟨by rw [flat_len ptrC_len], .inr ⟨gb, c, cs', rfl, hg, hB', by rw [HT.out.2]; omega, by unfold maxLen; omega, by rw [hs', hsz], ?_⟩⟩; rw [HT.out.2, ← HT.out.1, Nat.mul_one]; apply List.ext_getElem?; intro m; rcases Nat.lt_or_ge m q with hm | hm
     ·rw [List.getElem?_take_of_lt hm, List.getElem?_take_of_lt hm, Array.getElem?_toList, Array.getElem?_toList, hk' m hm]
     ·rw [List.getElem?_eq_none (by rw [List.length_take]; omega), List.getElem?_eq_none (by rw [List.length_take]; omega)])
    clear hlenf hfull hB' hk' hs'; go_wp2; go_ret; exact ⟨_, c, by rw [HT.out.2]; rfl, HF.out, rfl, HG3.out⟩
end Go.Proofs.YtbkhnljaajajiaaGreatDoor
namespace Go.Proofs.YtbkhnljaajajiaaGreatDoor
open Go.ChangeShapes Go.WideShapes Go.ChangeAt Go.RowKit Go.Shelf
set_option maxRecDepth 100000
def PredB (g : Nat) (cb : Array Value) (p : Pad → Bool) (B : Nat) (w : World) : Prop :=
 ∀ (W : World) (x : Pad), Below B w W → x.good → Calls Tryz.prog g (#[padV x] ++ cb) W fun e w' => e = .returned (.bool (p x)) ∧ Below W.heap.size W w'
theorem keepNot (g : Nat) (cb : Array Value) (p : Pad → Bool) (eg : ∀ args w, (callFunc g args).run Tryz.prog w = .ok (.enter g args) w) (B b3 : Nat) (w w1 : World) (row : Option Nat) (hp : PredB g cb p B w) (hb : Below B w w1) (hB : B ≤ w1.heap.size)
  (hrow : ∀ k, row = some k → B ≤ k) (h3 : Blk w1 b3 124 #[.func (.func g) #[] cb]) (hne : row ≠ some b3) :
  PredPad 239 #[.pointer (some ⟨b3, 0, none⟩)] (fun x => !p x) w1 row := by
 intro W x hg hx; have hbW : Below B w W := hb.grown hg hB hrow; have h3W : Blk W b3 124 #[.func (.func g) #[] cb] := (hg.block b3 h3.lt (fun e => hne e.symm)).trans h3; have c3 : W.cell? ⟨b3, 0, none⟩ = some (.func (.func g) #[] cb) := h3W.cell 0; have c3' : (W.alloc (.cells #[.int .i64 x.day, .string x.case] 53)).cell? ⟨b3, 0, none⟩ = some (.func (.func g) #[] cb) := Lib.cell?_alloc_some _ c3; have hcall := fun W2 (h : Below B W W2) => hp W2 x (hbW.trans h) hx; have hBW : B ≤ W.heap.size := Nat.le_trans hB hg.size; have HC := uH hcall; clear hcall; unfold padV at HC ⊢; clear hp hb hB hrow h3 hne hg hx hbW h3W
 show Calls Tryz.prog 239 #[.agg #[.int .i64 x.day, .string x.case], .pointer (some ⟨b3, 0, none⟩)] W _
 go_enter Tryz.func239, Tryz.ntmps239
 go_wp2_with (go_at_fn g; refine (HC.out _ ((Below.refl _ _).alloc hBW _)).mono ?_; rintro e w2 ⟨rfl, hb2⟩)
 go_ret; exact ⟨rfl, below_next ((Below.refl _ _).alloc (Nat.le_refl _) _) hb2⟩
end Go.Proofs.YtbkhnljaajajiaaGreatDoor
namespace Go.Proofs.YtbkhnljaajajiaaGreatDoor
open Go.ChangeShapes Go.WideShapes Go.ChangeAt Go.RowKit Go.Shelf
set_option maxRecDepth 100000
def Thin (p : Pad → Bool) (l l' : Leaf) : Prop := l'.g = l.g ∧ l'.ps = l.ps.filter p ∧ l'.v.ownBlock = l.v.ownBlock
def ThinTo (p : Pad → Bool) (k : Nat) (ls ls' : List Leaf) : Prop := ls'.length = ls.length ∧ (∀ j, j < k → j < ls.length → Thin p (leafAt ls j) (leafAt ls' j)) ∧ ∀ j, k ≤ j → leafAt ls' j = leafAt ls j
theorem ThinTo.step {p : Pad → Bool} {k : Nat} {ls ls' : List Leaf} {l l2 : Leaf} (h : ThinTo p k ls ls') (hk : k < ls.length) (hl : ls'[k]? = some l) (hold : l = leafAt ls k) (h1 : l2.g = l.g) (h2 : l2.ps = l.ps.filter p) (h3 : l2.v.ownBlock = l.v.ownBlock) : ThinTo p (k + 1) ls (ls'.set k l2) := by
 have hset : ∀ j, leafAt (ls'.set k l2) j = if j = k then l2 else leafAt ls' j := fun j => by
  by_cases hj : j = k
  ·subst hj; rw [if_pos rfl]; unfold leafAt; rw [List.getD, List.getElem?_set_self (by rw [h.1]; exact hk)]; rfl
  ·rw [if_neg hj]; unfold leafAt; rw [List.getD, List.getD, List.getElem?_set_ne (fun e => hj e.symm)]
 refine ⟨by rw [List.length_set]; exact h.1, fun j hj hjl => ?_, fun j hj => ?_⟩
 ·rw [hset]; by_cases hjk : j = k
  ·subst hjk; rw [if_pos rfl, ← hold]; exact ⟨h1, h2, h3⟩
  ·rw [if_neg hjk]; exact h.2.1 j (by omega) hjl
 ·rw [hset, if_neg (by omega)]; exact h.2.2 j (by omega)
theorem ThinTo.ends {p : Pad → Bool} {k : Nat} {ls ls' : List Leaf} (h : ThinTo p k ls ls') (hk : k = ls.length) : (ls'.filter fun x => !noPads x).map (·.ps) = (ls.map (·.ps.filter p)).filter (fun ps => !(ps.length == 0)) := by
 have h1 : ls'.map (·.ps) = ls.map (·.ps.filter p) := by
  apply List.ext_getElem?; intro j; rw [List.getElem?_map, List.getElem?_map]; rcases Nat.lt_or_ge j ls.length with hj | hj
  ·rw [leafAt_some (ls := ls') (by rw [h.1]; exact hj), leafAt_some hj]; have := (h.2.1 j (by omega) hj).2.1; simp [this]
  ·rw [List.getElem?_eq_none (by rw [h.1]; exact hj), List.getElem?_eq_none hj]; rfl
 rw [← h1, List.filter_map]; rfl
theorem TreeIn.thin {w w1 : World} {B t : Nat} {v v3 : Value} {ls : List Leaf} {f : Leaf → Bool} (h : TreeIn w B t v ls) (hg : w.grownBy w1 v.ownBlock) (hO : w1.ownsRow B 134 1 v3 (ls.filter f).length ((ls.filter f).flatMap ptrC)) {cs : Array Value} (hB1 : Blk w1 t 128 cs) (hcs : cs.size = 1 := by rfl) :
  TreeIn (w1.setCell ⟨t, 0, none⟩ v3) B t v3 (ls.filter f) := by
 have hL : LeavesIn w1 B v3 (ls.filter f) := by
  refine ⟨by rw [ptrC_map]; exact hO, fun l hl => ?_, ?_, ?_⟩
  ·have hI := h.2.2.2.1 l (List.mem_filter.1 hl).1; refine hI.congr (hg.block _ hI.2.1.lt (fun e => hI.2.1.ne_own h.2.2.1 (by decide) e.symm)) (fun b hb => hg.block b (own_lt hI.2.2.1 hb) (fun e => ?_)); obtain ⟨cur, h1⟩ := own_obj hI.2.2.1 hb; exact (show Blk w b 53 cur from h1).ne_own h.2.2.1 (by decide) e.symm
  ·exact h.2.2.2.2.1.sublist ((List.filter_sublist).map _)
  ·exact h.2.2.2.2.2.sublist ((List.filter_sublist).filterMap _)
 refine ⟨h.1, ?_, hL.root hB1 v3⟩; have h2 := hB1.set 0 v3; rcases cs with ⟨l⟩
 match l, hcs with
 | [x], _ => exact h2
theorem keep (g : Nat) (cb : Array Value) (p : Pad → Bool) (eg : ∀ args w, (callFunc g args).run Tryz.prog w = .ok (.enter g args) w) (B t : Nat) (v : Value) (ls : List Leaf) (w : World) (hB : B ≤ w.heap.size) (hn : ls.length ≤ 1048576) (hps : (leafPads ls).length ≤ 1048576)
  (hp : PredB g cb p B w) (h : TreeIn w B t v ls) :
  Calls Tryz.prog 211 #[.pointer (some ⟨t, 0, none⟩), .func (.func g) #[] cb] w fun e w' => e = .returned (.tuple #[]) ∧ Below B w w' ∧ ∃ v' ls', TreeIn w' B t v' ls' ∧ ls'.map (·.ps) = (ls.map (·.ps.filter p)).filter (fun ps => !(ps.length == 0)) := by
 obtain ⟨A, c, rfl, hnc, hcm⟩ := own_form h.2.2.1; have hc0 : w.cell? ⟨t, 0, none⟩ = some (.slice A ls.length c) := h.2.1.cell 0; have HT := uH h; have htl := h.2.1.lt; unfold maxLen at hcm; have HP := uH hp; clear hp h; have H3 : Hid (Blk (w.alloc (.cells #[.func (.func g) #[] cb] 124)) w.heap.size 124 #[.func (.func g) #[] cb]) := uH (Blk.new _ _ _); go_enter Tryz.func211, Tryz.ntmps211
 go_wp2; go_loopw [13] (fun i wr => ∃ (k : Nat) (ls' : List Leaf), k ≤ ls.length ∧ i = .int .i64 k ∧ Hid (TreeIn wr B t (.slice A ls.length c) ls') ∧ Hid (ThinTo p k ls ls') ∧ Hid (Blk wr w.heap.size 124 #[.func (.func g) #[] cb]) ∧ Below B w wr) (fun i _ => ls.length - (intOf i).toNat)
 case atStart => exact ⟨0, ls, Nat.zero_le _, rfl, uH (HT.out.below ((Below.refl _ _).alloc (Nat.le_refl _) _)), uH ⟨rfl, fun j hj => absurd hj (by omega), fun _ _ => rfl⟩, H3, (Below.refl _ _).alloc hB _⟩
 case round =>
  obtain ⟨k, ls', hk, rfl, hT, hth, hb3, hb⟩ := hrel; by_cases hlt : k < ls.length
  ·have hlen : ls'.length = ls.length := hth.out.1; have hlk := leafAt_some (ls := ls') (k := k) (by omega); obtain ⟨b, off, eA, hbB, c0, hgl, c1, f1, hBg, hPo, hgd⟩ := hT.out.2.2.at_ hlen (by omega : k < ls.length); obtain ⟨A2, c2, e2, hnc2, hcm2⟩ := own_form hPo; have hold : leafAt ls' k = leafAt ls k := hth.out.2.2 k (Nat.le_refl _); have hml : (leafAt ls' k).ps.length ≤ 1048576 := by
    have h1 := leafPads_step (ls := ls) (k := k) hlt; have h2 := leafPads_split (ls := ls) (k := k + 1); rw [h1, List.length_append, ← hold] at h2; omega
   have hlI := hT.out.2.2.2.1 _ (leafAt_mem (ls := ls') (k := k) (by omega)); have hPo2 := hPo; rw [e2] at c1 hPo2; have eg77 : ∀ args w, (callFunc 239 args).run Tryz.prog w = .ok (.enter 239 args) w := enters_of Tryz.func239 (by kernel_rfl) rfl; have hpn := keepNot g cb p eg B w.heap.size w wr (Value.slice A2 (leafAt ls' k).ps.length c2).ownBlock HP.out hb (Nat.le_trans hB hb.size) (fun q hq => own_base hPo2 hq) hb3.out (hb3.out.ne_own hPo2 (by decide)); have HD := uH (delPads 239 #[.pointer (some ⟨w.heap.size, 0, none⟩)] (fun x => !p x) eg77 A2 (leafAt ls' k).ps.length c2 B (leafAt ls' k).ps wr rfl hml hgd hpn hPo2); have HPo := uH hPo2; have HE := uH e2; have HLI := uH hlI; have HLK := uH hlk; have HOld := uH hold; have HGd := uH hgd; subst eA; clear hpn hPo hPo2 e2 hlI hlk hold eg77 hgd hml hlen; generalize leafAt ls' k = l at *; (go_wp2_with fail); refine HD.out.mono ?_; rintro e w1 ⟨A3, c3, rfl, hO3, hv3, hg3⟩; have hB1 : Blk w1 l.g 192 #[l.v] := (hg3.block _ HLI.out.2.1.lt (fun e => HLI.out.2.1.ne_own HPo.out (by decide) e.symm)).trans HLI.out.2.1; have hff : (fun x => !(fun x => !p x) x) = p := (by funext x; simp); rw [hff] at hO3 hv3; rw [← HE.out] at hg3 hv3; have hT2 := TreeIn.turn hT.out HLK.out hg3 hO3 hv3 (fun x hx => HGd.out x (List.mem_filter.1 hx).1); have hb2 : Below B w (w1.setCell ⟨l.g, 0, none⟩ (.slice A3 (l.ps.filter p).length c3)) := (hb.grown hg3 (Nat.le_trans hB hb.size) (fun q hq => own_base HLI.out.2.2.1 hq)).setCell hBg _; have HB3 : Hid (Blk (w1.setCell ⟨l.g, 0, none⟩ (.slice A3 (l.ps.filter p).length c3)) w.heap.size 124 #[.func (.func g) #[] cb]) := uH (by
    have h1 : Blk w1 w.heap.size 124 #[.func (.func g) #[] cb] := (hg3.block _ hb3.out.lt (fun e => hb3.out.ne_own HLI.out.2.2.1 (by decide) e.symm)).trans hb3.out; exact h1.far (h1.ne_blk hB1 (by decide)) _)
   have HTh : Hid (ThinTo p (k + 1) ls (ls'.set k ⟨l.g, .slice A3 (l.ps.filter p).length c3, l.ps.filter p⟩)) := uH (hth.out.step hlt HLK.out HOld.out rfl rfl hv3); have HT2 := uH hT2; have d1 : w1.cell? ⟨l.g, 0, none⟩ = some l.v := hB1.cell 0; have d2 := hB1.free 0; clear hT2 hff hO3 hv3 hg3 hB1 hT hth hb3 HD HPo HLI HLK; rw [show (fun x => !(fun x => !p x) x) = p by funext x; simp]; go_wp2; go_roundw
   case rel => exact ⟨k + 1, _, by omega, by go_num, HT2, HTh, HB3, hb2⟩
   case measure => simp [intOf]; omega
  ·have hkl : k = ls.length := (by omega); have hlen : ls'.length = ls.length := hth.out.1; have hrd : ∀ l ∈ ls', LeafRd wr l := fun l hl => by
    obtain ⟨_, h2, h3, _⟩ := hT.out.2.2.2.1 l hl; obtain ⟨A1, c1, e1, _⟩ := own_form h3; exact ⟨A1, c1, by rw [← e1]; exact h2⟩
   have hro := hT.out.2.2.1; rw [hlen, ptrC_map] at hro; have HD := uH (delLeaf A ls.length c B ls' wr hlen hn hrd hro); have HR := uH hro; have HB0 := uH hT.out.2.1; have k0 : wr.cell? ⟨t, 0, none⟩ = some (.slice A ls.length c) := hT.out.2.1.cell 0; have HL := uH hlen; clear hrd hro hlen; (go_wp2_with fail); refine HD.out.mono ?_; rintro e w1 ⟨A3, c3, rfl, hO3, hv3, hg3⟩; have hB1 : Blk w1 t 128 #[.slice A ls.length c] := (hg3.block _ HB0.out.lt (fun e => HB0.out.ne_own HR.out (by decide) e.symm)).trans HB0.out; have HT2 := uH (TreeIn.thin hT.out hg3 hO3 hB1); have HM : Hid ((ls'.filter fun x => !noPads x).map (·.ps) = (ls.map (·.ps.filter p)).filter (fun ps => !(ps.length == 0))) := uH (hth.out.ends hkl); have b4 : Below B w (w1.setCell ⟨t, 0, none⟩ (.slice A3 (ls'.filter fun x => !noPads x).length c3)) := (hb.grown hg3 (Nat.le_trans hB hb.size) (fun q hq => own_base HR.out hq)).setCell hT.out.1 _; have d1 : w1.cell? ⟨t, 0, none⟩ = some (.slice A ls.length c) := hB1.cell 0; have d2 := hB1.free 0; clear hB1 hO3 hv3 hg3; go_wp2; go_returns; exact ⟨rfl, b4, _, _, HT2.out, HM.out⟩
def thinned (p : Pad → Bool) (css : List (List Pad)) : List (List Pad) := (css.map (·.filter p)).filter full?
noncomputable def thinO (p : Pad → Bool) (css : List (List Pad)) : Option (List (List Pad)) := if cabB css = true then some (thinned p css) else none
theorem thinO_yes {p : Pad → Bool} {css : List (List Pad)} (h : cabB css = true) : thinO p css = some (thinned p css) := by unfold thinO; rw [if_pos h]
theorem thinO_no {p : Pad → Bool} {css : List (List Pad)} (h : cabB css = false) : thinO p css = none := by unfold thinO; rw [h]; rfl
theorem thin_keep {p : Pad → Bool} {ls ls' : List Leaf} {css : List (List Pad)} (hM : ls.map (·.ps) = css) (h : ls'.map (·.ps) = (ls.map (·.ps.filter p)).filter (fun ps => !(ps.length == 0))) : ls'.map (·.ps) = thinned p css := by
 rw [h, ← hM]; unfold thinned; rw [List.map_map]; rfl
theorem thin_lens {p : Pad → Bool} {css : List (List Pad)} {ls' : List Leaf} (hc : cabOK css) (h : ls'.map (·.ps) = thinned p css) : ls'.length ≤ 6 ∧ ∀ l ∈ ls', 1 ≤ l.ps.length ∧ l.ps.length ≤ 1048576 := by
 constructor
 ·have h1 := congrArg List.length h; rw [List.length_map] at h1; have h2 := List.length_filter_le full? (css.map (·.filter p)); rw [List.length_map] at h2; have := hc.1; unfold thinned at h1; omega
 ·intro l hl; have h1 : l.ps ∈ thinned p css := (by rw [← h]; exact List.mem_map_of_mem hl); obtain ⟨h2, h3⟩ := List.mem_filter.1 h1; obtain ⟨c, hcm, e⟩ := List.mem_map.1 h2; have h4 := (hc.2.1 c hcm).2; have h5 : l.ps.length ≤ c.length := (by rw [← e]; exact List.length_filter_le _ _); exact ⟨full_iff.1 h3, by omega⟩
def fromDay (d : Int) (x : Pad) : Bool := decide (d ≤ x.day)
theorem clearPred (a : Int) (B b4 : Nat) (w : World) (h4 : Blk w b4 3 #[.int .i64 a]) (l4 : b4 < B) :
  PredB 212 #[.pointer (some ⟨b4, 0, none⟩)] (fromDay a) B w := by
 intro W x hb _; have h4W : Blk W b4 3 #[.int .i64 a] := (hb.block b4 l4).trans h4; have c4 : (W.alloc (.cells #[.int .i64 x.day, .string x.case] 53)).cell? ⟨b4, 0, none⟩ = some (.int .i64 a) := Lib.cell?_alloc_some _ (h4W.cell 0); clear hb h4W h4; unfold padV
 show Calls Tryz.prog 212 #[.agg #[.int .i64 x.day, .string x.case], .pointer (some ⟨b4, 0, none⟩)] W _
 go_enter Tryz.func212, Tryz.ntmps212
 go_wp2; go_ret; exact ⟨ret_bool rfl, (Below.refl _ _).alloc (Nat.le_refl _) _⟩
theorem implCabinetClear (A : Option Addr) (n c : Nat) (ds : List Drawer) (x : Int) (w : World) (hsz : cabSz ds ≤ 1048576) (h : DrawersIn w w.heap.size A n c ds) :
  Calls Tryz.prog 168 #[.slice A n c, .int .i64 x] w fun e w' => FileAns w' w.heap.size (thinO (fromDay x) (ds.map (·.ps))) e ∧ Below w.heap.size w w' := by
 have hal : Below w.heap.size w (w.alloc (.cells #[.int .i64 x] 3)) := (Below.refl _ _).alloc (Nat.le_refl _) _; have HT := uH (treeOf A n c ds _ (h.keep hal)); have hln : ds.length ≤ 1048576 := (by have := cabSz_len ds; omega); have HLn := uH hln; clear h hln; have H4 : Hid (Blk (w.alloc (.cells #[.int .i64 x] 3)) w.heap.size 3 #[.int .i64 x]) := uH (Blk.new _ _ _); have eg : ∀ args w, (callFunc 212 args).run Tryz.prog w = .ok (.enter 212 args) w := enters_of Tryz.func212 (by kernel_rfl) rfl; have EG := uH eg; clear eg; go_enter Tryz.func168, Tryz.ntmps168
 (go_wp2_with fail); refine HT.out.mono ?_; rintro e w1 ⟨hT, hb1⟩; have b1 := below_next hal hb1; rcases hT with ⟨hn, rfl⟩ | ⟨hy, t, v, ls, rfl, hT, hM⟩
 ·have HN : Hid (thinO (fromDay x) (ds.map (·.ps)) = none) := uH (thinO_no hn); clear hn; go_wp2; go_returns; exact ⟨.no HN.out rfl (CabOwn.nil _ _), b1⟩
 ·have HN := uH (thinO_yes (p := fromDay x) hy); have HC := uH (cabB_iff.1 hy); have hlp : (leafPads ls).length ≤ 1048576 := (by rw [leaf_all hM]; exact flat_len_le hsz); have hll : ls.length ≤ 1048576 := by
   have := congrArg List.length hM; rw [List.length_map, List.length_map] at this; have := HLn.out; omega
  have hB : (w.alloc (.cells #[.int .i64 x] 3)).heap.size ≤ w1.heap.size := hb1.size; have hPr := clearPred x (w.alloc (.cells #[.int .i64 x] 3)).heap.size w.heap.size w1 (H4.out.below hb1) (by simp); have HK := uH (keep 212 _ (fromDay x) EG.out _ t v ls w1 hB hll hlp hPr hT); have HM := uH hM; clear hPr hT hM hy hlp hll; (go_wp2_with fail); refine HK.out.mono ?_; rintro e w2 ⟨rfl, hb2, v', ls', hT2, hM2⟩; have b2 : Below w.heap.size w w2 := b1.trans (hb2.mono (by simp)); have HMk := uH (thin_keep HM.out hM2); obtain ⟨hl2, hl3⟩ := thin_lens HC.out HMk.out; have HP := uH (treeCab t v' ls' _ w2 (by omega) hl3 hT2); have hz2 := b2.size; clear hT2 hM2 hl2 hl3 hb2; (go_wp2_with fail); refine HP.out.mono ?_; rintro e w3 ⟨⟨A3, c3, d3, rfl, hO3, hM3⟩, hb3⟩; have b3 := below_next b2 hb3; have HO := uH (hO3.mono hz2); have HM3 : Hid (thinO (fromDay x) (ds.map (·.ps)) = some (d3.map (·.ps))) := uH (by rw [HN.out, hM3, HMk.out]); clear hO3 hM3; go_wp2; go_returns; exact ⟨.yes HM3.out rfl HO.out, b3⟩
theorem flat_filter (p : Pad → Bool) : ∀ css : List (List Pad), ((css.map (·.filter p)).filter (fun ps => !(ps.length == 0))).flatten = css.flatten.filter p
 | [] => rfl
 | ps :: r => by
  rw [List.flatten_cons, List.filter_append, ← flat_filter p r, List.map_cons, List.filter_cons]; by_cases h : (ps.filter p).length = 0
  ·have e : ps.filter p = [] := List.eq_nil_of_length_eq_zero h; rw [if_neg (by simp [e]), e, List.nil_append]
  ·rw [if_pos (by simpa using h), List.flatten_cons]
end Go.Proofs.YtbkhnljaajajiaaGreatDoor
namespace Go.Proofs.YtbkhnljaajajiaaGreatDoor
open Go.ChangeShapes Go.WideShapes Go.ChangeAt Go.RowKit
theorem thinned_flat (p : Pad → Bool) (css : List (List Pad)) : (thinned p css).flatten = css.flatten.filter p := flat_filter p css
theorem thinned_ok {p : Pad → Bool} {css : List (List Pad)} (hc : cabOK css) : cabOK (thinned p css) := by
 refine ⟨?_, fun l hl => ?_, ?_⟩
 ·unfold thinned; have := List.length_filter_le full? (css.map (·.filter p)); rw [List.length_map] at this; have := hc.1; omega
 ·obtain ⟨h2, h3⟩ := List.mem_filter.1 hl; obtain ⟨c, hcm, e⟩ := List.mem_map.1 h2; have := (hc.2.1 c hcm).2; have h5 : l.length ≤ c.length := (by rw [← e]; exact List.length_filter_le _ _); exact ⟨full_iff.1 h3, by omega⟩
 ·rw [thinned_flat]; have h1 := hc.2.2; rw [sorted_iff] at h1 ⊢; exact ⟨fun q hq => h1.1 q (List.mem_filter.1 hq).1, h1.2.sublist List.filter_sublist⟩
section
variable {P : Program} {md : Region.Mode} {ops : Array Oper} {Q : Exit → Act → World → Prop}
def unl (n : Nat) (listed : Array Bool) : List Nat := (List.range n).filter fun j => !listed.getD j true
theorem unl_set {n i : Nat} {listed : Array Bool} (hi : listed.getD i true = false) (hn : i < n) : (unl n (listed.setIfInBounds i true)).length < (unl n listed).length := by
 have e : unl n (listed.setIfInBounds i true) = (unl n listed).filter fun j => !decide (j = i) := by
  unfold unl; rw [List.filter_filter]; congr 1
  funext j
  by_cases h : j = i
  ·subst h; have hlt : j < listed.size := by
    rcases Nat.lt_or_ge j listed.size with h | h
    ·exact h
    ·rw [Array.getD_eq_getD_getElem?, Array.getElem?_eq_none h] at hi; cases hi
   simp [Array.getD_eq_getD_getElem?, Array.getElem?_setIfInBounds, hlt]
  ·simp [Array.getD_eq_getD_getElem?, Array.getElem?_setIfInBounds, h, Ne.symm h]
 rw [e, List.length_filter_lt_length_iff_exists]; exact ⟨i, by unfold unl; rw [List.mem_filter]; exact ⟨List.mem_range.2 hn, by rw [hi]; rfl⟩, by simp⟩
theorem ready_done {listed : Array Bool} (hs : listed.size = ops.size) (hord : ∀ (i : Nat) o, ops[i]? = some o → ∀ e ∈ o.after, e.on < i) (hr : Region.ready md ops listed = []) : ∀ j, j < ops.size → listed.getD j false = true := by
 intro j; induction j using Nat.strongRecOn with
 | ind j ih =>
  intro hj; have hnot : j ∉ Region.ready md ops listed := (by rw [hr]; simp); rw [mem_ready] at hnot; have h1 : listed.getD j true ≠ false := fun h => hnot ⟨h, ops[j], Array.getElem?_eq_getElem hj, fun e he _ => ih e.on (hord j _ (Array.getElem?_eq_getElem hj) e he) (Nat.lt_trans (hord j _ (Array.getElem?_eq_getElem hj) e he) hj)⟩; have hj' : j < listed.size := (by omega); rw [Array.getD_eq_getD_getElem?, Array.getElem?_eq_getElem hj'] at h1 ⊢; simpa using h1
theorem wpAny_inv (I : (Nat → Prop) → Act → World → Prop) (hord : ∀ (i : Nat) o, ops[i]? = some o → ∀ e ∈ o.after, e.on < i)
  (hdone : ∀ L a w, (∀ j, j < ops.size → L j) → I L a w → Q .normal a w)
  (hstep : ∀ (L : Nat → Prop) (i : Nat) o a w, ops[i]? = some o → ¬ L i → (∀ e ∈ o.after, Region.binds md e = true → L e.on) → I L a w → wpOp P ops Q i (I fun j => j = i ∨ L j) a w) :
  ∀ (fuel : Nat) (listed : Array Bool) (a : Act) (w : World), listed.size = ops.size → (unl ops.size listed).length ≤ fuel → I (fun j => listed.getD j false = true) a w → wpAny P md ops Q fuel listed a w := by
 have none : ∀ listed : Array Bool, (unl ops.size listed).length = 0 → Region.ready md ops listed = [] := fun listed h => by
  rw [List.eq_nil_iff_forall_not_mem]; intro j hj; rw [mem_ready] at hj; obtain ⟨h1, o, ho, _⟩ := hj; have hlt : j < ops.size := by
   rcases Nat.lt_or_ge j ops.size with h | h
   ·exact h
   ·rw [Array.getElem?_eq_none h] at ho; cases ho
  have hm : j ∈ unl ops.size listed := (by unfold unl; rw [List.mem_filter]; exact ⟨List.mem_range.2 hlt, by rw [h1]; rfl⟩); rw [List.eq_nil_of_length_eq_zero h] at hm; cases hm
 intro fuel; induction fuel with
 | zero =>
  intro listed a w hs hf hI; have hr := none listed (by omega); exact ⟨hr, hdone _ a w (ready_done hs hord hr) hI⟩
 | succ fuel ih =>
  intro listed a w hs hf hI; refine ⟨fun hr => hdone _ a w (ready_done hs hord hr) hI, fun i hi => ?_⟩; rw [mem_ready] at hi; obtain ⟨h1, o, ho, ha⟩ := hi; have hlt : i < ops.size := by
   rcases Nat.lt_or_ge i ops.size with h | h
   ·exact h
   ·rw [Array.getElem?_eq_none h] at ho; cases ho
  have hl : i < listed.size := (by omega); have hni : ¬ listed.getD i false = true := by
   rw [Array.getD_eq_getD_getElem?, Array.getElem?_eq_getElem hl] at h1 ⊢; simpa using h1
  refine wpOp_mono (fun a' w' hI' => ih _ a' w' (by simpa using hs) (by have := unl_set h1 hlt; omega) ?_) (hstep _ i o a w ho hni ha hI); have e : (fun j => (listed.setIfInBounds i true).getD j false = true) = fun j => j = i ∨ listed.getD j false = true := by
   funext j
   by_cases h : j = i
   ·subst h; simp [Array.getD_eq_getD_getElem?, Array.getElem?_setIfInBounds, hl]
   ·simp [Array.getD_eq_getD_getElem?, Array.getElem?_setIfInBounds, h, Ne.symm h]
  rw [e]; exact hI'
def waits (md : Region.Mode) (ops : Array Oper) (i : Nat) : List Nat := ((ops[i]?).map fun o => (o.after.toList.filter (Region.binds md)).map (·.on)).getD []
def ordered (ops : Array Oper) : Bool := (List.range ops.size).all fun i => ((ops[i]?).map fun o => o.after.all fun e => decide (e.on < i)).getD true
theorem wp_region_inv {id : Nat} {a : Act} {w : World} (hm : P.follows .mixedOrders = true) (I : (Nat → Prop) → Act → World → Prop) (hord : ordered ops = true)
  (hstart : I (fun _ => False) a w.drew)
  (hdone : ∀ L a w, (∀ j, j < ops.size → L j) → I L a w → Q .normal a w)
  (hstep : ∀ (L : Nat → Prop) (i : Nat) a w, i < ops.size → ¬ L i → (∀ j, (waits .any ops i).contains j = true → L j) → I L a w → wpOp P ops Q i (I fun j => j = i ∨ L j) a w) :
  (Code.region id ops true).wp P Q a w := by
 refine wp_region_any hm ?_; have hord' : ∀ (i : Nat) o, ops[i]? = some o → ∀ e ∈ o.after, e.on < i := by
  intro i o ho e he; have hlt : i < ops.size := by
   rcases Nat.lt_or_ge i ops.size with h | h
   ·exact h
   ·rw [Array.getElem?_eq_none h] at ho; cases ho
  unfold ordered at hord; have h1 := List.all_eq_true.1 hord i (List.mem_range.2 hlt); rw [ho] at h1; simp only [Option.map_some, Option.getD_some] at h1; obtain ⟨k, hk, rfl⟩ := Array.mem_iff_getElem.1 he; simpa using (Array.all_eq_true.1 h1) k hk
 refine wpAny_inv I hord' hdone (fun L i o a w ho hn ha hI => ?_) _ _ a _ (by simp) ?_ ?_
 ·have hlt : i < ops.size := by
   rcases Nat.lt_or_ge i ops.size with h | h
   ·exact h
   ·rw [Array.getElem?_eq_none h] at ho; cases ho
  refine hstep L i a w hlt hn (fun j hj => ?_) hI; unfold waits at hj; rw [ho] at hj; simp only [Option.map_some, Option.getD_some, List.contains_iff_mem, List.mem_map, List.mem_filter] at hj; obtain ⟨e, ⟨he, hb⟩, rfl⟩ := hj; exact ha e (by simpa using he) hb
 ·unfold unl; exact Nat.le_trans (List.length_filter_le _ _) (by simp)
 ·have e : (fun j => (Array.replicate ops.size false).getD j false = true) = fun _ => False := by
   funext j
   simp only [Array.getD_eq_getD_getElem?, Array.getElem?_replicate]; split <;> simp
  rw [e]; exact hstart
end
theorem or_l {k i : Nat} {L : Nat → Prop} {p : Prop} (hne : k ≠ i) (h : L k → p) : (k = i ∨ L k) → p := fun h' => h (h'.resolve_left hne)
end Go.Proofs.YtbkhnljaajajiaaGreatDoor
