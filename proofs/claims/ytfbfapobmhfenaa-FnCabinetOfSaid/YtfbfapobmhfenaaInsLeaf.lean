/-
  slices.Insert of one element (Leaf), in a row of the call's own: every road. Conditions: Go's own sizes.
-/
import Derived.Test.YtfbfapobmhfenaaInsLaw
import Derived.Test.YtfbfapobmhfenaaTreeOf
import Derived.Deep.RegionLaw
namespace Go.Proofs.Ytfbfapobmhfenaa
open Go.ChangeShapes Go.WideShapes Go.ChangeAt Go.RowKit Go.Shelf Go.Lib
set_option maxRecDepth 100000

theorem elemLeafs : Try.prog.underlying 83 = some (.slice (Try.prog.elem 83)) := by kernel_rfl
theorem sizeLeafP : ∀ w, (sizeOf (Try.prog.elem 83)).run Try.prog w = .ok 1 w := fun w => by kernel_rfl
theorem infoInsLeaf : ∃ i : TypeInfo, Try.prog.info? 93 = some i ∧ i.zero = some (.pointer none) ∧ i.size = 1 ∧ i.bytes = 8 := ⟨_, by rfl, by rfl, by rfl, by rfl⟩
theorem sizeOfLeaf : ∀ w, (Go.sizeOf 93).run Try.prog w = .ok 1 w := fun w => by kernel_rfl
/-- The two runs lie apart. -/
theorem apartLeaf (w : World) (g o vb n c lb cb : Nat) (cur vs : Array Value) (h : Blk w g 93 cur) (hv : Blk w vb 93 vs) (hs : cur.size ≠ 0) (hne : vb ≠ g) :
    (callFunc 101 #[.slice (some ⟨vb, 0, none⟩) n c, .slice (some ⟨g, o, none⟩) lb cb]).run Try.prog w = .ok (.value (.bool false)) w := by
  rw [run_callFunc_extern Try.func101 (by kernel_rfl) (by kernel_rfl) (by kernel_rfl) (e := Extern.SlicesOverlaps.overlaps #[83, 83] #[4]) (by kernel_rfl),
    Lib.run_overlaps_apart w 83 4 93 Try.underlying83 1 sizeOfLeaf ⟨vb, 0, none⟩ ⟨g, o, none⟩ n c lb cb hne 93 93 vs.size cur.size (by unfold Blk at hv; simp [World.shape?, hv]) (by unfold Blk at h; simp [World.shape?, h]) hs (hv.free _) (hv.free _)]
  rfl

/-- What an insertion answers. -/
def InsAnsLeaf (w w' : World) (B : Nat) (v : Value) (n i : Nat) (xs vs : List Value) (e : Ending) : Prop :=
  ∃ v', e = .returned v' ∧ w'.ownsRow B 93 1 v' (n + 1) (xs.take (i * 1) ++ vs ++ xs.drop (i * 1)) ∧ w.grownBy w' v.ownBlock ∧ (v'.ownBlock = v.ownBlock ∨ v'.ownBlock = some w.heap.size)

set_option maxHeartbeats 1000000 in
theorem insEndLeaf (A : Option Addr) (n c vb B : Nat) (xs vs : List Value) (w : World) (hn : n ≤ 1048576) (hB : B ≤ w.heap.size) (hO : w.ownsRow B 93 1 (.slice A n c) n xs) (hR : Row w w.heap.size (some ⟨vb, 0, none⟩) 1 1 vs) (h1v : ∀ u ∈ vs, u.oneCell' = true) :
    Calls Try.prog 92 #[.slice A n c, .int .i64 n, .slice (some ⟨vb, 0, none⟩) 1 1] w fun e w' => InsAnsLeaf w w' B (.slice A n c) n n xs vs e := by
  obtain ⟨i0, hi, hz0, hz1, hz2⟩ := infoInsLeaf
  have hsl : ∀ W, (Instr.slice 83 (.slice A n c) (some (.int .i64 (n : Int))) none none).run Try.prog W = .ok (.slice (fromA A n c 1) (n - n) (c - n)) W := fun W => run_from elemLeafs sizeLeafP A n c n (Nat.le_refl _) W
  have hx := hO.1
  go_enter Try.func92, Try.ntmps92
  go_wp2_with (at_builtin; refine wpList_append_any _ rfl (.tmp 23) (.tmp 24) _ rfl B 93 i0 _ 1 8 Try.underlying83 hi hz0 hz1 hz2 rfl (by omega) _ n xs rfl hO w.heap.size (some ⟨vb, 0, none⟩) 1 1 vs rfl hR h1v (by unfold maxLen; omega) (by omega) hB ?_; intro v2 w2 hown2 hg2 hat2)
  go_ret
  refine ⟨v2, rfl, ?_, hg2, hat2⟩
  rw [List.take_of_length_le (by omega), List.drop_of_length_le (by omega), List.append_nil]
  exact hown2
set_option maxHeartbeats 1000000 in
theorem insShiftLeaf (g n c i vb B : Nat) (xs vs : List Value) (cur : Array Value) (w : World) (hi : i < n) (hn : n ≤ 1048576) (hc : n + 1 ≤ c) (hcm : c ≤ 9223372036854775807) (hB : B ≤ g) (hne : vb ≠ g) (hC : Blk w g 93 cur) (hcs : cur.size = c * 1) (ht : cur.toList.take (n * 1) = xs)
    (hV : Blk w vb 93 vs.toArray) (hvl : vs.length = 1) (h1 : ∀ u ∈ xs, u.oneCell' = true) (h1v : ∀ u ∈ vs, u.oneCell' = true) :
    Calls Try.prog 92 #[.slice (some ⟨g, 0, none⟩) n c, .int .i64 i, .slice (some ⟨vb, 0, none⟩) 1 1] w fun e w' => InsAnsLeaf w w' B (.slice (some ⟨g, 0, none⟩) n c) n i xs vs e := by
  obtain ⟨i0, hi0, hz0, hz1, hz2⟩ := infoInsLeaf
  have hxl : xs.length = n * 1 := by rw [← ht, List.length_take, Array.length_toList]; omega
  have hsz : (Try.prog.info? 93).map (·.size) = some 1 := by rw [hi0]; simp [hz1]
  have hdl : (xs.drop (i * 1)).length = (n - i) * 1 := by rw [List.length_drop, hxl]; omega
  have hgs : ∀ k, k < n * 1 → cur[k]? = xs[k]? := fun k hk => by rw [← ht, List.getElem?_take_of_lt hk]; simp
  have hov : ∀ o lb cb, (callFunc 101 #[.slice (some ⟨vb, 0, none⟩) 1 1, .slice (some ⟨g, o, none⟩) lb cb]).run Try.prog w = .ok (.value (.bool false)) w := fun o lb cb => apartLeaf w g o vb 1 1 lb cb cur _ hC hV (by omega) hne
  obtain ⟨R1, hR1⟩ : ∃ R1, R1 = putAt cur ((i + 1) * 1) (xs.drop (i * 1)) := ⟨_, rfl⟩
  obtain ⟨R2, hR2⟩ : ∃ R2, R2 = putAt R1 (i * 1) vs := ⟨_, rfl⟩
  have hs1 : R1.size = c * 1 := by rw [hR1, putAt_size (by rw [hdl]; omega)]; exact hcs
  have hs2 : R2.size = c * 1 := by rw [hR2, putAt_size (by rw [hvl]; omega)]; exact hs1
  have hcp1 : ∀ ty dc sc, (Builtin.copy_ #[83, 83] ty #[.slice (some ⟨g, (i + 1) * 1, none⟩) (n - i) dc, .slice (some ⟨g, i * 1, none⟩) (n + 1 - i) sc]).run Try.prog w.drew = .ok (goInt (n - i : Nat)) (w.drew.setRow g R1) := fun ty dc sc => by
    rw [hR1]
    exact run_copy_any 1 w.drew _ _ ty 93 g ((i + 1) * 1) (n - i) dc ⟨g, i * 1, none⟩ (n + 1 - i) sc cur 93 (xs.drop (i * 1)) Try.underlying83 hsz hC (n - i) (by simp only [Nat.min_def]; split <;> omega) hdl
      (fun j u hj => by
        rw [List.getElem?_drop] at hj
        have hlt := (List.getElem?_eq_some_iff.1 hj).1
        rw [Addr.add_lit]
        show w.cell? _ = _
        rw [hC.cell, hgs _ (by omega)]; exact hj)
      (by rw [hdl]; omega) (fun u hu => h1 u (List.mem_of_mem_drop hu))
  have hcp2 : ∀ (W : World), W.heap = (w.setRow g R1).heap → ∀ ty dc, (Builtin.copy_ #[83, 83] ty #[.slice (some ⟨g, i * 1, none⟩) (n + 1 - i) dc, .slice (some ⟨vb, 0, none⟩) 1 1]).run Try.prog W = .ok (goInt (1 : Nat)) (W.setRow g R2) := fun W hW ty dc => by
    have hV1 : Blk W vb 93 vs.toArray := by unfold Blk; rw [hW, setRow_other w g vb R1 hne]; exact hV
    rw [hR2]
    exact run_copy_any 1 W _ _ ty 93 g (i * 1) (n + 1 - i) dc ⟨vb, 0, none⟩ 1 1 R1 93 vs Try.underlying83 hsz (by rw [hW]; exact setRow_heap w g cur R1 93 (0, 0) hC) 1 (by simp only [Nat.min_def]; split <;> omega) (by omega)
      (fun j u hj => by rw [Addr.add_lit, hV1.cell]; simpa using hj) (by omega) h1v
  have hs0 : ∀ W, (Instr.slice 83 (.slice (some ⟨g, 0, none⟩) n c) (some (.int .i64 (i : Int))) none none).run Try.prog W = .ok (.slice (fromA (some ⟨g, 0, none⟩) i c 1) (n - i) (c - i)) W := fun W => run_from elemLeafs sizeLeafP _ n c i (by omega) W
  have hsA : ∀ W, (Instr.slice 83 (.slice (some ⟨g, 0, none⟩) n c) none (some (.int .i64 ((n : Int) + 1))) none).run Try.prog W = .ok (.slice (some ⟨g, 0, none⟩) (n + 1) c) W := fun W => run_upto elemLeafs sizeLeafP g 0 n c (n + 1) hc W
  have hsB : ∀ W, (Instr.slice 83 (.slice (some ⟨g, 0, none⟩) (n + 1) c) (some (.int .i64 ((i : Int) + 1))) none none).run Try.prog W = .ok (.slice (some ⟨g, (i + 1) * 1, none⟩) (n - i) (c - (i + 1))) W := fun W => by
    rw [← from_at g (i + 1) c 1 (by omega), show n - i = n + 1 - (i + 1) by omega]; exact run_from elemLeafs sizeLeafP _ (n + 1) c (i + 1) (by omega) W
  have hsC : ∀ W, (Instr.slice 83 (.slice (some ⟨g, 0, none⟩) (n + 1) c) (some (.int .i64 (i : Int))) none none).run Try.prog W = .ok (.slice (some ⟨g, i * 1, none⟩) (n + 1 - i) (c - i)) W := fun W => by
    rw [← from_at g i c 1 (by omega)]; exact run_from elemLeafs sizeLeafP _ (n + 1) c i (by omega) W
  have hw1 : IntKind.i64.wrap ((i : Int) + 1) = (i : Int) + 1 := IntWalk.i64_in _ (by omega)
  have hw2 : IntKind.i64.wrap ((n : Int) + 1) = (n : Int) + 1 := IntWalk.i64_in _ (by omega)
  have hin2 : ¬ ((i : Int) = (n : Int)) := by omega
  have HP := Lib.hid (put_shift (i := i) ht hvl (by omega) (by omega))
  have HO : Hid (∀ W : World, W.heap = ((w.setRow g R1).setRow g R2).heap → W.ownsRow B 93 1 (.slice (some ⟨g, 0, none⟩) (n + 1) c) (n + 1) (xs.take (i * 1) ++ vs ++ xs.drop (i * 1))) := Lib.hid (fun W hW => by
    obtain ⟨rest, hr⟩ := HP.out
    rw [← hR1, ← hR2] at hr
    refine own_of_row hB (by rw [hW]; exact setRow_heap _ g R1 R2 93 (0, 0) (setRow_heap w g cur R1 93 (0, 0) hC)) hc (by unfold maxLen; omega) hs2 ?_ hr
    rw [List.length_append, List.length_append, List.length_take, List.length_drop, hxl, hvl]; omega)
  clear hR1 hR2 HP hs1 hs2 hgs hdl ht hC hV
  simp only [Nat.mul_one] at hcp1 hcp2 hs0 hsB hsC
  go_enter Try.func92, Try.ntmps92
  go_wp2_with (simp only [hov])
  go_region_law (refine step_copy_runI rfl (.tmp 73) (.tmp 76) 83 83 rfl (.slice (some ⟨g, (i + 1), none⟩) (n - i) (c - (i + 1))) (.slice (some ⟨g, i, none⟩) (n + 1 - i) (c - i)) (by simp [Act.eval, Act.put]) (by simp [Act.eval, Act.put]) (hcp1 _ _ _) ?_)
  have hcp3 := fun ty dc => hcp2 (w.drew.setRow g R1) rfl ty dc
  go_wp2_with (simp only [hcp3])
  go_ret
  exact ⟨_, rfl, HO.out _ rfl, only_setRow (only_setRow (Below.only (Below.refl _ _).drew) R1) R2, .inl rfl⟩
set_option maxHeartbeats 1000000 in
theorem insGrowLeaf (g n c i vb B : Nat) (xs vs : List Value) (cur : Array Value) (w : World) (hi : i < n) (hn : n ≤ 1048576) (hnc : n ≤ c) (hc : c < n + 1) (hB : B ≤ w.heap.size) (hC : Blk w g 93 cur) (hcs : cur.size = c * 1) (ht : cur.toList.take (n * 1) = xs)
    (hV : Blk w vb 93 vs.toArray) (hvl : vs.length = 1) (h1 : ∀ u ∈ xs, u.oneCell' = true) (h1v : ∀ u ∈ vs, u.oneCell' = true) :
    Calls Try.prog 92 #[.slice (some ⟨g, 0, none⟩) n c, .int .i64 i, .slice (some ⟨vb, 0, none⟩) 1 1] w fun e w' => InsAnsLeaf w w' B (.slice (some ⟨g, 0, none⟩) n c) n i xs vs e := by
  obtain ⟨i0, hi0, hz0, hz1, hz2⟩ := infoInsLeaf
  have hxl : xs.length = n * 1 := by rw [← ht, List.length_take, Array.length_toList]; omega
  have hsz : (Try.prog.info? 93).map (·.size) = some 1 := by rw [hi0]; simp [hz1]
  have hdl : (xs.drop (i * 1)).length = (n - i) * 1 := by rw [List.length_drop, hxl]; omega
  have htl : (xs.take (i * 1)).length = i * 1 := by rw [List.length_take, hxl]; omega
  have hgs : ∀ k, k < n * 1 → cur[k]? = xs[k]? := fun k hk => by rw [← ht, List.getElem?_take_of_lt hk]; simp
  have hgl := hC.lt; have hvb := hV.lt
  have hold : (Builtin.firstCells i0.size i (.slice (some ⟨g, 0, none⟩) i c)).run Try.prog w.drew = .ok (xs.take (i * 1)).toArray w.drew := by
    rw [hz1]
    exact run_firstCells_some w.drew 1 i ⟨g, 0, none⟩ i c (xs.take (i * 1)) htl (fun j u hj => by
      rw [Addr.add_lit]
      rw [List.getElem?_take] at hj
      split at hj
      · show w.cell? _ = _
        rw [hC.cell, hgs _ (by omega)]; simpa using hj
      · cases hj)
  have hkk : (n : Int) + 1 - (i : Int) = ((n + 1 - i : Nat) : Int) := by omega
  have hik : i + (n + 1 - i) = n + 1 := by omega
  obtain ⟨G, hG⟩ : ∃ G, G = grownCap w (n + 1) c 93 := ⟨_, rfl⟩
  obtain ⟨ROW, hROW⟩ : ∃ ROW : Array Value, ROW = (xs.take (i * 1)).toArray ++ Builtin.zeroCells (Value.cells (.pointer none)) (n + 1 - i) ++ Builtin.zeroCells (Value.cells (.pointer none)) (G - (n + 1)) := ⟨_, rfl⟩
  have hGn : n + 1 ≤ G := by rw [hG]; exact grownCap_ge w _ _ _
  have hGm : G ≤ maxLen := by rw [hG]; exact grownCap_le_maxLen w (n + 1) c 93 (by unfold maxLen; omega)
  have hRs : ROW.size = G * 1 := by
    rw [hROW]
    simp only [Array.size_append, List.size_toArray, htl, size_zeroCells]
    show i * 1 + (n + 1 - i) * 1 + (G - (n + 1)) * 1 = G * 1
    omega
  obtain ⟨W1, hW1⟩ : ∃ W1, W1 = w.drew.alloc (.cells ROW 93) := ⟨_, rfl⟩
  have hrz : ∀ ty, (Builtin.append_ #[83, 3] ty #[.slice (some ⟨g, 0, none⟩) i c, .int .i64 ((n : Int) + 1 - (i : Int))]).run Try.prog w = .ok (.slice (some ⟨w.heap.size, 0, none⟩) (n + 1) G) W1 := fun ty => by
    have h := Lib.run_append_grow_zeros w 83 3 ty 93 i0 _ .i64 .i64 Try.underlying83 Try.underlying3 hi0 hz0 (some ⟨g, 0, none⟩) i c (xs.take (i * 1)) hold (n + 1 - i) (by omega) (by omega) (by omega) (by omega) (by rw [hz2]; omega) (by rw [hz2, hik]; exact growslice_fits hc (by omega))
    rw [hik, ← hG, ← hROW, ← hW1] at h
    rw [hkk]
    exact h
  have hNB : Blk W1 w.heap.size 93 ROW := by rw [hW1]; exact Blk.new w.drew _ _
  have hbel : Below w.heap.size w W1 := by rw [hW1]; exact (Below.refl _ _).drew.alloc (Nat.le_refl _) _
  have hV1 := hV.below hbel
  have hC1 := hC.below hbel
  obtain ⟨R1, hR1⟩ : ∃ R1, R1 = putAt ROW (i * 1) vs := ⟨_, rfl⟩
  obtain ⟨R2, hR2⟩ : ∃ R2, R2 = putAt R1 ((i + 1) * 1) (xs.drop (i * 1)) := ⟨_, rfl⟩
  have hs1 : R1.size = G * 1 := by rw [hR1, putAt_size (by rw [hvl]; omega)]; exact hRs
  have hs2 : R2.size = G * 1 := by rw [hR2, putAt_size (by rw [hdl]; omega)]; exact hs1
  have hcp1 : ∀ ty dc, (Builtin.copy_ #[83, 83] ty #[.slice (some ⟨w.heap.size, i * 1, none⟩) (n + 1 - i) dc, .slice (some ⟨vb, 0, none⟩) 1 1]).run Try.prog W1 = .ok (goInt (1 : Nat)) (W1.setRow w.heap.size R1) := fun ty dc => by
    rw [hR1]
    exact run_copy_any 1 W1 _ _ ty 93 w.heap.size (i * 1) (n + 1 - i) dc ⟨vb, 0, none⟩ 1 1 ROW 93 vs Try.underlying83 hsz hNB 1 (by simp only [Nat.min_def]; split <;> omega) (by omega)
      (fun j u hj => by rw [Addr.add_lit, hV1.cell]; simpa using hj) (by omega) h1v
  have hcp2 : ∀ ty dc sc, (Builtin.copy_ #[83, 83] ty #[.slice (some ⟨w.heap.size, (i + 1) * 1, none⟩) (n - i) dc, .slice (some ⟨g, i * 1, none⟩) (n - i) sc]).run Try.prog (W1.setRow w.heap.size R1).drew = .ok (goInt (n - i : Nat)) ((W1.setRow w.heap.size R1).drew.setRow w.heap.size R2) := fun ty dc sc => by
    have hC2 : Blk (W1.setRow w.heap.size R1) g 93 cur := by unfold Blk; rw [setRow_other _ _ _ _ (by omega)]; exact hC1
    rw [hR2]
    exact run_copy_any 1 (W1.setRow w.heap.size R1).drew _ _ ty 93 w.heap.size ((i + 1) * 1) (n - i) dc ⟨g, i * 1, none⟩ (n - i) sc R1 93 (xs.drop (i * 1)) Try.underlying83 hsz (setRow_heap W1 _ ROW R1 93 (0, 0) hNB) (n - i) (by simp) hdl
      (fun j u hj => by
        rw [List.getElem?_drop] at hj
        have hlt := (List.getElem?_eq_some_iff.1 hj).1
        rw [Addr.add_lit]
        show (W1.setRow w.heap.size R1).cell? _ = _
        rw [hC2.cell, hgs _ (by omega)]; exact hj)
      (by rw [hdl]; omega) (fun u hu => h1 u (List.mem_of_mem_drop hu))
  have hsA : ∀ W, (Instr.slice 83 (.slice (some ⟨g, 0, none⟩) n c) (some (.int .i64 (i : Int))) none none).run Try.prog W = .ok (.slice (some ⟨g, i * 1, none⟩) (n - i) (c - i)) W := fun W => by
    rw [← from_at g i c 1 (by omega)]; exact run_from elemLeafs sizeLeafP _ n c i (by omega) W
  have hsB : ∀ W, (Instr.slice 83 (.slice (some ⟨g, 0, none⟩) n c) none (some (.int .i64 (i : Int))) none).run Try.prog W = .ok (.slice (some ⟨g, 0, none⟩) i c) W := fun W => run_upto elemLeafs sizeLeafP g 0 n c i (by omega) W
  have hsC : ∀ W, (Instr.slice 83 (.slice (some ⟨w.heap.size, 0, none⟩) (n + 1) G) (some (.int .i64 ((i : Int) + 1))) none none).run Try.prog W = .ok (.slice (some ⟨w.heap.size, (i + 1) * 1, none⟩) (n - i) (G - (i + 1))) W := fun W => by
    rw [← from_at w.heap.size (i + 1) G 1 (by omega), show n - i = n + 1 - (i + 1) by omega]; exact run_from elemLeafs sizeLeafP _ (n + 1) G (i + 1) (by omega) W
  have hsD : ∀ W, (Instr.slice 83 (.slice (some ⟨w.heap.size, 0, none⟩) (n + 1) G) (some (.int .i64 (i : Int))) none none).run Try.prog W = .ok (.slice (some ⟨w.heap.size, i * 1, none⟩) (n + 1 - i) (G - i)) W := fun W => by
    rw [← from_at w.heap.size i G 1 (by omega)]; exact run_from elemLeafs sizeLeafP _ (n + 1) G i (by omega) W
  have hw1 : IntKind.i64.wrap ((i : Int) + 1) = (i : Int) + 1 := IntWalk.i64_in _ (by omega)
  have hw2 : IntKind.i64.wrap ((n : Int) + 1) = (n : Int) + 1 := IntWalk.i64_in _ (by omega)
  have hw3 : IntKind.i64.wrap ((n : Int) + 1 - (i : Int)) = (n : Int) + 1 - (i : Int) := IntWalk.i64_in _ (by omega)
  have hin2 : ¬ ((i : Int) = (n : Int)) := by omega
  have hcn : (c : Int) < (n : Int) + 1 := by omega
  have HO : Hid (((W1.setRow w.heap.size R1).drew.setRow w.heap.size R2).ownsRow B 93 1 (.slice (some ⟨w.heap.size, 0, none⟩) (n + 1) G) (n + 1) (xs.take (i * 1) ++ vs ++ xs.drop (i * 1))) := Lib.hid (by
    obtain ⟨rest, hr⟩ := put_grow (R := ROW) (xs := xs) (vs := vs) (n := n) (i := i) (sz := 1) (rest := (Builtin.zeroCells (Value.cells (.pointer none)) (n + 1 - i)).toList ++ (Builtin.zeroCells (Value.cells (.pointer none)) (G - (n + 1))).toList) (by rw [hROW]; simp) hxl hvl (by omega)
    rw [← hR1, ← hR2] at hr
    refine own_of_row hB (setRow_heap _ _ R1 R2 93 (0, 0) (setRow_heap W1 _ ROW R1 93 (0, 0) hNB)) hGn hGm hs2 ?_ hr
    rw [List.length_append, List.length_append, htl, hdl, hvl]; omega)
  have HB : Hid (∀ row, w.grownBy ((W1.setRow w.heap.size R1).drew.setRow w.heap.size R2) row) := Lib.hid (fun row => Below.only (below_setRow (below_setRow hbel (Nat.le_refl _) R1).drew (Nat.le_refl _) R2))
  clear hR1 hR2 hs1 hs2 hgs hdl ht hC hV hROW hG hRs hW1 hNB hbel hV1 hC1 hold hkk hik htl
  unfold maxLen at hGm
  generalize hNe : w.heap.size = N at *
  have HN := Lib.hid hNe; clear hNe
  simp only [Nat.mul_one] at hcp1 hcp2 hsA hsC hsD
  go_enter Try.func92, Try.ntmps92
  go_wp2_with (first | (at_builtin; refine Lib.wpList_append_run _ rfl _ _ _ _ rfl _ _ rfl rfl _ _ (hrz _) ?_) | (simp only [hcp1]))
  go_region_law (refine step_copy_runI rfl (.tmp 50) (.tmp 53) 83 83 rfl (.slice (some ⟨N, (i + 1), none⟩) (n - i) (G - (i + 1))) (.slice (some ⟨g, i, none⟩) (n - i) (c - i)) (by simp [Act.eval, Act.put]) (by simp [Act.eval, Act.put]) (hcp2 _ _ _) ?_)
  go_wp2
  go_ret
  exact ⟨_, rfl, HO.out, HB.out _, .inr (by rw [HN.out]; rfl)⟩
/-- An insertion of one element, whatever its place and the room. -/
theorem insertLeaf (v : Value) (n i vb B : Nat) (xs vs : List Value) (w : World) (hi : i ≤ n) (hn : n ≤ 1048576) (hB : B ≤ w.heap.size) (hO : w.ownsRow B 93 1 v n xs) (hV : Blk w vb 93 vs.toArray) (hne : v.ownBlock ≠ some vb) (hvl : vs.length = 1) (h1 : ∀ u ∈ xs, u.oneCell' = true) (h1v : ∀ u ∈ vs, u.oneCell' = true) :
    Calls Try.prog 92 #[v, .int .i64 i, .slice (some ⟨vb, 0, none⟩) 1 1] w fun e w' => InsAnsLeaf w w' B v n i xs vs e := by
  by_cases hin : i = n
  · subst hin
    obtain ⟨A, c, rfl, _, _⟩ := own_form hO
    exact insEndLeaf A i c vb B xs vs w hn hB hO ⟨by omega, fun _ => ⟨vb, 0, rfl, hV.lt, fun j u hu => by rw [Nat.zero_add, hV.cell]; simpa using hu⟩⟩ h1v
  · rcases hO.2 with ⟨_, h0⟩ | ⟨g, c, cur, rfl, hBg, hg, hnc, hcm, hcs, ht⟩
    · omega
    · have hvg : vb ≠ g := fun e => hne (by rw [e]; rfl)
      by_cases hc : n + 1 ≤ c
      · exact insShiftLeaf g n c i vb B xs vs cur w (by omega) hn hc (by unfold maxLen at hcm; omega) hBg hvg hg hcs ht hV hvl h1 h1v
      · exact insGrowLeaf g n c i vb B xs vs cur w (by omega) hn hnc (by omega) hB hg hcs ht hV hvl h1 h1v
end Go.Proofs.Ytfbfapobmhfenaa
