/-
  The laws' own functions on words: how they lie in memory, sizes, copies, comparisons, marks. Conditions: Go's own sizes.
-/
import Derived.Test.YtlfhgmbmgbbnjaaWdSl
import Derived.Test.YtlfhgmbmgbbnjaaMarkN
import Derived.Test.YtlfhgmbmgbbnjaaFill
import Derived.Test.YtlfhgmbmgbbnjaaDrawA
namespace Go.Proofs.Ytlfhgmbmgbbnjaa
open Go.ChangeShapes Go.WideShapes Go.ChangeAt Go.RowKit Go.Joins
set_option maxRecDepth 100000
set_option linter.unusedVariables false

theorem mkStr_of (s : ByteArray) : s = mkStr s.data.toList := by
  have := mkStr_data s.data.toList
  cases s; rfl
section
variable {H : Type} {enc : TypeId × Value → H} {W : World} {base : Nat} {v : Value} {d : DataW H} {p : List MemPlace}
theorem openWords (hv : Value.okWide Try.prog W .any base 22 v) (h : DataW.Trod enc Try.prog W 0 (fun _ => true) true 22 v d p) :
    ∃ A n c ws, v = .slice A n c ∧ WdsIn W W.heap.size A n c ws ∧ ∀ l ∈ ws, l.length ≤ maxLen := by
  obtain ⟨fuel, hf⟩ := okSlice Try.underlying22 hv h
  obtain ⟨A, n, c, l, h1, h2, h3, h4, h5, h6⟩ := openRows 1 (fun l : List UInt8 => [strP l]) (fun l => l.length ≤ maxLen) Try.underlying22 (by kernel_rfl) (fun fuel cs x _ hx => by
    obtain ⟨s, e, _, hs⟩ := DataW.trod_string Try.underlying9 hx
    exact ⟨s.data.toList, by rw [e]; unfold strP; rw [← mkStr_of], hs⟩) (fun _ => rfl) (by omega) hf
  have hfs : ∀ r : List (List UInt8), (r.flatMap fun l : List UInt8 => [strP l]) = r.map strP := by
    intro r; induction r with
    | nil => rfl
    | cons y r ih => simp only [List.flatMap_cons, List.map_cons, List.singleton_append, ih]
  have hfl : (l.flatMap fun l : List UInt8 => [strP l]) = l.map strP := hfs l
  rw [hfl] at h5
  exact ⟨A, n, c, l, by simpa using h1, ⟨h2, h3, h4, h5⟩, h6⟩
end
def SzL (left r : Int) (n : Nat) : Prop := r = -1 ∨ (0 ≤ r ∧ r + n ≤ left)
theorem szl {left r : Int} {n : Nat} (h : SzL left r n) (hr : ¬ r < 0) : 0 ≤ r ∧ r + n ≤ left := by
  rcases h with h | h
  · omega
  · exact h
theorem szStringS (A : Option Addr) (n c : Nat) (ws : List (List UInt8)) (left : Int) (w : World) (h0 : 0 ≤ left) (h1 : left ≤ 1048576) (h : WdsIn w w.heap.size A n c ws) (hx : ∀ l ∈ ws, l.length ≤ maxLen) :
    Calls Try.prog 5 #[.slice A n c, .int .i64 left] w fun e w' => ∃ r, e = .returned (.int .i64 r) ∧ SzL left r n ∧ w = w' := by
  have hnc := h.2.1; have hm := h.2.2.1
  unfold maxLen at hm
  have HL := Lib.hid h.1
  have HX := Lib.hid hx
  have H := Lib.hid h; clear h hx
  by_cases hl : left - (n : Int) < 0
  · have HR : Hid (SzL left (-1) n) := Lib.hid (.inl rfl)
    go_enter Try.func5, Try.ntmps5
    go_wp2
    go_returns
    exact ⟨-1, rfl, HR.out, rfl⟩
  · have hl2 : 0 ≤ left - (n : Int) := by omega
    clear hl
    go_enter Try.func5, Try.ntmps5
    go_wp2
    go_loop [1, 5] (fun l i => ∃ (k : Nat) (r : Int), k ≤ n ∧ i = .int .i64 k ∧ l = .int .i64 r ∧ 0 ≤ r ∧ r + n ≤ left) (fun _ i => n - (intOf i).toNat)
    case atStart => exact ⟨0, _, Nat.zero_le _, rfl, rfl, hl2, by omega⟩
    case round =>
      obtain ⟨k, r, hk, rfl, rfl, hr0, hr1⟩ := hrel
      by_cases hlt : k < n
      · have hkl : k < ws.length := by rw [HL.out]; exact hlt
        obtain ⟨b, off, rfl, hbB, q0⟩ := H.out.at_ hlt
        have HR : Hid (SzL left (-1) n) := Lib.hid (.inl rfl)
        have hsz : (mkStr (wdAt ws k)).size ≤ 9223372036854775807 := by have := HX.out _ (wdAt_mem hkl); rw [mkStr_size]; unfold maxLen at this; omega
        clear hkl
        generalize mkStr (wdAt ws k) = s at *
        have i1 : (0 : Int) ≤ (k : Int) := by omega
        have i2 : (k : Int) < (n : Int) := by omega
        by_cases hneg : r - (s.size : Int) < 0
        · go_wp2
          go_returns
          exact ⟨-1, rfl, HR.out, rfl⟩
        · have hp : 0 ≤ r - (s.size : Int) := by omega
          have hrr : r - (s.size : Int) + n ≤ left := by omega
          clear hneg
          go_wp2
          go_round
          case rel => exact ⟨k + 1, _, by omega, by go_num, rfl, hp, hrr⟩
          case measure => simp [intOf]; omega
      · have HR : Hid (SzL left r n) := Lib.hid (.inr ⟨hr0, by omega⟩)
        clear hr1
        go_wp2
        go_returns
        exact ⟨r, rfl, HR.out, rfl⟩
theorem infoStrg : (Try.prog.info? 9).map (fun i => (i.zero, i.size, i.bytes)) = some (some (.string ByteArray.empty), 1, 16) := by kernel_rfl
theorem toStringS (A : Option Addr) (n c : Nat) (ws : List (List UInt8)) (w : World) (hn : n ≤ 1048576) (h : WdsIn w w.heap.size A n c ws) :
    Calls Try.prog 7 #[.slice A n c] w fun e w' => e = .returned (.slice (some ⟨w.heap.size, 0, none⟩) n n) ∧ Blk w' w.heap.size 9 (ws.map strP).toArray ∧ Below w.heap.size w w' := by
  have HL : Hid (ws.length = n) := Lib.hid h.1
  have HX : Hid ((ws.map strP).length = n) := Lib.hid (by rw [List.length_map]; exact h.1)
  have H := Lib.hid h; clear h
  obtain ⟨i0, hi, hz0, hz1, hz2⟩ := info_parts infoStrg
  have hmk := fun W => run_make_rowN (P := Try.prog) 22 9 i0 _ Try.underlying22 hi hz0 .i64 .i64 n n (Nat.le_refl _) (by rw [hz2]; omega) (by omega) W
  rw [hz1] at hmk
  go_enter Try.func7, Try.ntmps7
  go_wp2
  go_loopw [4] (fun i wr => ∃ (k : Nat) (arr : Array Value), k ≤ n ∧ i = .int .i64 k ∧ Blk wr w.heap.size 9 arr ∧ Hid (Filled arr (ws.map strP) k) ∧ Below w.heap.size w wr) (fun i _ => n - (intOf i).toNat)
  case atStart => exact ⟨0, _, Nat.zero_le _, rfl, Blk.new _ _ _, Lib.hid (Filled.zero (by rw [madeCells_size, HX.out])), (Below.refl _ _).alloc (Nat.le_refl _) _⟩
  case round =>
    obtain ⟨k, arr, hk, rfl, hB, hF, hb⟩ := hrel
    by_cases hlt : k < n
    · obtain ⟨b, off, rfl, hbB, q0⟩ := (H.out.below hb).at_ hlt
      have hkl : k < ws.length := by rw [HL.out]; exact hlt
      have hx0 : (ws.map strP)[k]? = some (.string (mkStr (wdAt ws k))) := by rw [List.getElem?_map, wdAt_some hkl]; rfl
      have HF2 := Lib.hid (hF.out.step hx0)
      obtain ⟨x0, hy0⟩ := hF.out.there (j := k) (by rw [HX.out]; omega)
      have d0 : wr.cell? ⟨w.heap.size, k, none⟩ = some x0 := (hB.cell _).trans hy0
      have f0 := hB.free k
      generalize mkStr (wdAt ws k) = s at *
      have B2 := Lib.hid (hB.set k (.string s))
      have b2 := Lib.hid (hb.setCell (p := ⟨w.heap.size, k, none⟩) (Nat.le_refl _) (.string s))
      have i1 : (0 : Int) ≤ (k : Int) := by omega
      have i2 : (k : Int) < (n : Int) := by omega
      clear hkl hx0 hy0 hF hB hb
      go_wp2
      go_roundw
      case rel => exact ⟨k + 1, _, by omega, by go_num, B2.out, HF2, b2.out⟩
      case measure => simp [intOf]; omega
    · obtain rfl : k = n := by omega
      have e : arr = (ws.map strP).toArray := Filled.done (by rw [HX.out]; exact hF.out)
      subst e
      go_wp2
      go_ret
      exact ⟨rfl, hB, hb⟩
theorem WdsIn.ofBlk {w : World} {g n : Nat} {ws : List (List UInt8)} (h : Blk w g 9 (ws.map strP).toArray) (hn : ws.length = n) (hm : n ≤ maxLen) : WdsIn w w.heap.size (some ⟨g, 0, none⟩) n n ws :=
  ⟨hn, Nat.le_refl _, hm, ⟨by rw [List.length_map, hn, Nat.mul_one], fun _ => ⟨g, 0, rfl, h.lt, fun j u hu => by rw [Nat.zero_add]; exact (h.cell j).trans (by simpa using hu)⟩⟩⟩
theorem eqStringS (A A' : Option Addr) (n c c' : Nat) (ws : List (List UInt8)) (w : World) (h : WdsIn w w.heap.size A n c ws) (h' : WdsIn w w.heap.size A' n c' ws) :
    Calls Try.prog 9 #[.slice A n c, .slice A' n c'] w fun e w' => e = .returned (.bool true) ∧ Below w.heap.size w w' := by
  have hm := h.2.2.1; have hnc := h.2.1
  unfold maxLen at hm
  have H := Lib.hid h; have H' := Lib.hid h'; clear h h'
  go_enter Try.func9, Try.ntmps9
  go_wp2
  go_loopw [5] (fun i wr => ∃ k : Nat, k ≤ n ∧ i = .int .i64 k ∧ Below w.heap.size w wr) (fun i _ => n - (intOf i).toNat)
  case atStart => exact ⟨0, Nat.zero_le _, rfl, Below.refl _ _⟩
  case round =>
    obtain ⟨k, hk, rfl, hb⟩ := hrel
    by_cases hlt : k < n
    · obtain ⟨b, off, rfl, hbB, c0⟩ := (H.out.below hb).at_ hlt
      obtain ⟨b', off', rfl, hbB', c0'⟩ := (H'.out.below hb).at_ hlt
      generalize mkStr (wdAt ws k) = s at *
      have hne : (s.toList != s.toList) = false := by simp
      have r0 := qcell c0; have r0' := qcell c0'
      go_wp2_with fail
      refine region_qb (by kernel_rfl) (by kernel_rfl) ?_
      repeat (first | go_big_quiet_step (fail) | quiet_step (fail))
      refine wpQuiet_nil ?_
      intro w1 hb1; have b1 := hb.trans (hb1.mono hb.size)
      clear r0 r0' c0 c0' hb1
      go_wp2
      go_roundw
      case rel => exact ⟨k + 1, by omega, by go_num, b1⟩
      case measure => simp [intOf]; omega
    · go_wp2
      go_ret
      exact ⟨rfl, hb⟩
theorem WdOwn.ofBlk {w : World} {B g n : Nat} {ws : List (List UInt8)} (h : Blk w g 9 (ws.map strP).toArray) (hn : ws.length = n) (hm : n ≤ maxLen) (hB : B ≤ g) : WdOwn w B (.slice (some ⟨g, 0, none⟩) n n) ws := by
  subst hn
  exact ⟨by simp, .inr ⟨g, ws.length, _, rfl, hB, h, Nat.le_refl _, hm, by simp, by rw [Nat.mul_one, List.take_of_length_le (by simp)]⟩⟩
theorem mkStr_back (b : ByteArray) : mkStr b.data.toList = b := (mkStr_of b).symm
/-- The marks as words. -/
def marksW (m n : Nat) : List (List UInt8) := (List.range n).map fun i => (markT (m + i)).data.toList
theorem marksW_len (m n : Nat) : (marksW m n).length = n := by simp [marksW]
theorem marksW_snoc (m n : Nat) : marksW m (n + 1) = marksW m n ++ [(markT (m + n)).data.toList] := by simp [marksW, List.range_succ]
theorem marksW_at {m n k : Nat} (h : k < n) : mkStr (wdAt (marksW m n) k) = markT (m + k) := by
  unfold wdAt marksW
  rw [List.getD_eq_getElem?_getD, List.getElem?_map, List.getElem?_range h]
  exact mkStr_back _
/-- The first k cells of the block hold marks. -/
def MarkedW (cur : Array Value) (cap m k : Nat) : Prop := cur.size = cap ∧ cur.toList.take k = (marksW m k).map strP
theorem MarkedW.step {cur : Array Value} {cap m k : Nat} (h : MarkedW cur cap m k) (hk : k < cap) {x : ByteArray} (hx : x = markT (m + k)) : MarkedW (cur.setIfInBounds k (.string x)) cap m (k + 1) := by
  subst hx
  have h1 := h.1
  refine ⟨by simpa using h1, ?_⟩
  rw [marksW_snoc, List.map_append]
  show _ = (marksW m k).map strP ++ _
  rw [← h.2, List.take_add_one]
  congr 1
  · apply List.ext_getElem?
    intro j
    rcases Nat.lt_or_ge j k with hj | hj
    · rw [List.getElem?_take_of_lt hj, List.getElem?_take_of_lt hj]
      simp only [Array.getElem?_toList]
      rw [Array.getElem?_setIfInBounds_ne (by omega)]
    · rw [List.getElem?_eq_none (by simp; omega), List.getElem?_eq_none (by simp; omega)]
  · simp only [Array.getElem?_toList]
    rw [Array.getElem?_setIfInBounds_self_of_lt (by omega)]
    simp [strP, mkStr_back]
theorem only_bel {a w w' : World} {row : Option Nat} (h : a.grownBy w row) (hb : Below w.heap.size w w') : a.grownBy w' row := only_next h ⟨hb.os, hb.tape, hb.output, hb.size, fun i hi _ => hb.block i hi⟩
theorem markWords (A : Option Addr) (n c m B : Nat) (xs : List (List UInt8)) (w : World) (hm0 : 0 < m) (hm : m ≤ 9000000) (hn : n ≤ 1048576) (hl : xs.length = n) (h : WdOwn w B (.slice A n c) xs) :
    Calls Try.prog 10 #[.slice A n c, .int .i64 m] w fun e w' => e = .returned (.int .i64 ((m + n : Nat) : Int)) ∧ w.grownBy w' (Value.slice A n c).ownBlock ∧ WdOwn w' B (.slice A n c) (marksW m n) := by
  unfold WdOwn at h
  rw [hl] at h
  rcases h.2 with ⟨e, rfl⟩ | ⟨g, cap, cur, e, hg, hB, hnc, hcm, hcs, ht⟩
  · injection e with e1 e2 e3
    subst e1 e3
    clear h hl
    go_enter Try.func10, Try.ntmps10
    go_wp2
    go_loopw [1, 5] (fun a i wr => a = .int .i64 m ∧ i = .int .i64 0 ∧ wr = w) (fun _ i _ => 0)
    case atStart => exact ⟨rfl, rfl, rfl⟩
    case round =>
      obtain ⟨rfl, rfl, rfl⟩ := hrel
      go_wp2
      go_ret
      exact ⟨rfl, World.grownBy.refl _ _, World.ownsRow_nil _ _ _ _⟩
  · injection e with e1 e2 e3
    subst e1 e3
    clear h hl ht
    have h0 : MarkedW cur c m 0 := ⟨by omega, by simp [marksW]⟩
    go_enter Try.func10, Try.ntmps10
    go_wp2
    go_loopw [1, 5] (fun a i wr => ∃ (k : Nat) (cs : Array Value), k ≤ n ∧ i = .int .i64 k ∧ a = .int .i64 ((m : Int) + k) ∧ Hid (Blk wr g 9 cs) ∧ Hid (MarkedW cs c m k) ∧ Hid (w.grownBy wr (some g))) (fun _ i _ => n - (intOf i).toNat)
    case atStart => exact ⟨0, cur, Nat.zero_le _, rfl, by simp, Lib.hid hB, Lib.hid h0, Lib.hid (World.grownBy.refl _ _)⟩
    case round =>
      obtain ⟨k, cs, hk, rfl, rfl, hC, hM, hG⟩ := hrel
      by_cases hlt2 : k < n
      · have hsz := hM.out.1
        obtain ⟨u0, hu0⟩ : ∃ u, cs[k]? = some u := ⟨_, Array.getElem?_eq_getElem (by omega)⟩
        have HX := Lib.hid hu0
        have hT := markText (m + k) wr (by omega) (by omega)
        rw [show ((m + k : Nat) : Int) = (m : Int) + (k : Int) by omega] at hT
        have HT := Lib.hid hT
        clear hu0 hT hsz
        go_wp2_with fail
        refine HT.out.mono ?_
        rintro e w1 ⟨rfl, hb1⟩
        have hB1 := hC.out.below hb1
        have f0 : w1.cell? ⟨g, k, none⟩ = some u0 := (hB1.cell k).trans HX.out
        have g0 := hB1.free k
        have HG1 := only_bel hG.out hb1
        have HS := Lib.hid (hM.out.step (by omega : k < c) (x := markT (m + k)) rfl)
        generalize markT (m + k) = t at *
        have HB2 := Lib.hid (hB1.set k (.string t))
        have HG2 := Lib.hid (only_setCell HG1 (p := ⟨g, k, none⟩) (.inl rfl) (.string t))
        clear hC hM hG hB1 HG1 hb1 HT HX
        have i1 : (0 : Int) ≤ (k : Int) := by omega
        have i2 : (k : Int) < (n : Int) := by omega
        go_wp2
        go_roundw
        case rel => exact ⟨k + 1, _, by omega, by go_num, by go_num, HB2, HS, HG2⟩
        case measure => simp [intOf]; omega
      · obtain rfl : k = n := by omega
        have HP : Hid (WdOwn wr B (.slice (some ⟨g, 0, none⟩) k c) (marksW m k)) := Lib.hid (by
          refine ⟨by rw [List.length_map, Nat.mul_one], .inr ⟨g, c, cs, by rw [marksW_len], hg, hC.out, by rw [marksW_len]; exact hnc, hcm, by rw [Nat.mul_one]; exact hM.out.1, by rw [marksW_len, Nat.mul_one]; exact hM.out.2⟩⟩)
        go_wp2
        go_ret
        exact ⟨rfl, hG.out, HP.out⟩
theorem heldWords (A : Option Addr) (n c m : Nat) (w : World) (hm0 : 0 < m) (hm : m ≤ 9000000) (hn : n ≤ 1048576) (h : WdsIn w w.heap.size A n c (marksW m n)) :
    Calls Try.prog 11 #[.slice A n c, .int .i64 m] w fun e w' => e = .returned (.int .i64 ((m + n : Nat) : Int)) ∧ Below w.heap.size w w' := by
  have H := Lib.hid h; clear h
  go_enter Try.func11, Try.ntmps11
  go_wp2
  go_loopw [1, 5] (fun a i wr => ∃ (k : Nat), k ≤ n ∧ i = .int .i64 k ∧ a = .int .i64 ((m : Int) + k) ∧ Below w.heap.size w wr) (fun _ i _ => n - (intOf i).toNat)
  case atStart => exact ⟨0, Nat.zero_le _, rfl, by simp, Below.refl _ _⟩
  case round =>
    obtain ⟨k, hk, rfl, rfl, hb⟩ := hrel
    by_cases hlt : k < n
    · obtain ⟨b, off, eA, hbB, c0⟩ := (H.out.below hb).at_ hlt
      rw [marksW_at hlt] at c0
      subst eA
      have i1 : (0 : Int) ≤ (k : Int) := by omega
      have i2 : (k : Int) < (n : Int) := by omega
      have hT : ∀ W, Calls Try.prog 21 #[.int .i64 ((m : Int) + (k : Int))] W fun e w' => e = .returned (.string (markT (m + k))) ∧ Below W.heap.size W w' := fun W => by
        have := markText (m + k) W (by omega) (by omega)
        rwa [show ((m + k : Nat) : Int) = (m : Int) + (k : Int) by omega] at this
      have HT := Lib.hid hT
      clear hT
      generalize markT (m + k) = t at *
      have hne : (t.toList != t.toList) = false := by simp
      have q0 := qcell c0
      go_wp2_with fail
      refine region_qb (by kernel_rfl) (by kernel_rfl) ?_
      repeat (first | go_big_quiet_step ((go_at_call 21; exact quietB (HT.out _))) | quiet_step ((go_at_call 21; exact quietB (HT.out _))))
      refine wpQuiet_nil ?_
      intro w1 hb1; have b1 := hb.trans (hb1.mono hb.size)
      go_wp2
      go_roundw
      case rel => exact ⟨k + 1, by omega, by go_num, by go_num, b1⟩
      case measure => simp [intOf]; omega
    · obtain rfl : k = n := by omega
      go_wp2
      go_ret
      exact ⟨rfl, hb⟩
end Go.Proofs.Ytlfhgmbmgbbnjaa
