/-
  Contracts and plain laws that the proof of the law ExactExecute leans on. Conditions: as each says.
-/
import Derived.Test.YtbkhnljaajajiaaGreatDoorPExactExecute04
import Derived.Test.YtbkhnljaajajiaaGreatDoorPExactExecute11
import Derived.Test.YtbkhnljaajajiaaGreatDoorPExactExecute12
import Derived.Deep.RegionHeld3
namespace Go.Proofs.YtbkhnljaajajiaaGreatDoor
open Go.ChangeShapes Go.WideShapes Go.ChangeAt Go.RowKit
set_option maxRecDepth 100000
set_option linter.unusedSimpArgs false
set_option linter.unusedVariables false
theorem put1 {w w3 w4 : World} {v1 : Value} {k : Nat} {xs : List Value} {x y : Value} (b3 : Below w.heap.size w w3) (p0 : w3.cell? ⟨w.heap.size, 0, none⟩ = some x) (p1 : w3.cell? ⟨w.heap.size, 1, none⟩ = some y)
  (hg : (w3.alloc (.cells #[] 53)).grownBy w4 (Value.slice (some ⟨w3.heap.size, 0, none⟩) 0 0).ownBlock) (ho : w4.ownsRow w.heap.size 53 2 v1 (0 + k) ([] ++ xs)) :
  Below w.heap.size w w4 ∧ w4.cell? ⟨w.heap.size, 0, none⟩ = some x ∧ w4.cell? ⟨w.heap.size, 1, none⟩ = some y ∧ Hid (w4.ownsRow w.heap.size 53 2 v1 k xs) := by
 have z := World.block_lt_of_cell? _ _ p0; simp only at z; have hne : some w.heap.size ≠ (Value.slice (some ⟨w3.heap.size, 0, none⟩) 0 0).ownBlock := fun e => by
  have e2 : w.heap.size = w3.heap.size := (by injection e); omega
 refine ⟨(b3.alloc b3.size _).grown hg (by simp; omega) (fun q hq => by injection hq with hq; rw [← hq]; exact b3.size), hg.cell (Lib.cell?_alloc_some _ p0) hne, hg.cell (Lib.cell?_alloc_some _ p1) hne, uH ?_⟩; simpa only [Nat.zero_add, List.nil_append] using ho
theorem put_end {w : World} {B n k : Nat} {v : Value} {ps : List Pad} {p : Pad} (hn : ps.length = n) (hk : k ≤ n) (h : w.ownsRow B 53 2 v (k + 1 + (n - k)) ((ps.take k).flatMap padC ++ [.int .i64 p.day, .string p.case] ++ (ps.drop k).flatMap padC)) : PadsOwn w B v (ins ps p k) := by
 unfold PadsOwn; rw [ins_len, hn, show n + 1 = k + 1 + (n - k) by omega]; unfold ins; rw [List.flatMap_append, List.flatMap_cons]; simpa [padC] using h
theorem l8Put (A : Option Addr) (n c : Nat) (ps : List Pad) (p : Pad) (w : World) (hn1 : 1 ≤ n) (hn : n ≤ 1048576) (h : PadsIn w w.heap.size A n c ps) :
  Calls Tryz.prog 144 #[.slice A n c, padVal p] w fun e w' => RowAns w' w.heap.size (ins ps p (putIdx ps p)) e ∧ Below w.heap.size w w' := by
 have hm := h.2.2.1; have hnc := h.2.1; unfold maxLen at hm; have HL := uH h.1; obtain ⟨b, off, eA, hbB, _⟩ := h.2.2.2.1.2 hn1; subst eA; have H := uH h; clear h; obtain ⟨i0, hi, hz0, hz1, hz2⟩ := info_parts infoPad; have HT1 : Hid (∀ k, k ≤ n → ∀ W, Below w.heap.size w W → Row W w.heap.size (some ⟨b, off, none⟩) k 2 ((ps.take k).flatMap padC)) := uH (fun k hk W hW => by rw [← flat_take padC_len]; exact (H.out.2.2.2.1.below hW).take hk); unfold padVal; go_enter Tryz.func144, Tryz.ntmps144
 go_wp2; go_loopw [5] (fun i wr => ∃ k : Nat, k ≤ n ∧ i = .int .i64 k ∧ Hid (∀ j, j < k → ordPad (padAt ps j) p < 0) ∧ Below w.heap.size w wr ∧ wr.cell? ⟨w.heap.size, 0, none⟩ = some (.int .i64 p.day) ∧ wr.cell? ⟨w.heap.size, 1, none⟩ = some (.string p.case)) (fun i _ => n - (intOf i).toNat)
 case atStart => exact ⟨0, Nat.zero_le _, rfl, uH (fun j h => by omega), (Below.refl _ _).alloc (Nat.le_refl _) _, newcell w #[.int .i64 p.day, .string p.case] _ 0 _ rfl, newcell w #[.int .i64 p.day, .string p.case] _ 1 _ rfl⟩
 case round =>
  obtain ⟨k, hk, rfl, hF, hb, p0, p1⟩ := hrel; have ways : (k < n ∧ ordPad (padAt ps k) p < 0) ∨ (Hid (putIdx ps p = k) ∧ ((k < n ∧ 0 ≤ ordPad (padAt ps k) p) ∨ k = n)) := by
   by_cases hlt : k < n
   ·by_cases ho : ordPad (padAt ps k) p < 0
    ·exact .inl ⟨hlt, ho⟩
    ·exact .inr ⟨uH (putIdx_of (by rw [HL.out]; exact hk) hF.out (fun _ => ho)), .inl ⟨hlt, by omega⟩⟩
   ·exact .inr ⟨uH (putIdx_of (by rw [HL.out]; exact hk) hF.out (fun h => by rw [HL.out] at h; omega)), .inr (by omega)⟩
  rcases ways with ⟨hlt, ho⟩ | ⟨HI, ways⟩
  ·obtain ⟨b', off', eA, hbB', c0, c1, hg⟩ := (H.out.below hb).at_ hlt; injection eA with eA; injection eA with e1 e2; subst e1 e2; have hb0 : decide ((k : Int) < n) = true := decide_eq_true (by omega); have HF2 : Hid (∀ j, j < k + 1 → ordPad (padAt ps j) p < 0) := uH (fun j hj => by
    by_cases e : j = k
    ·subst e; exact ho
    ·exact hF.out j (by omega))
   have co : ∀ W, Calls Tryz.prog 143 #[.agg #[.int .i64 (padAt ps k).day, .string (padAt ps k).case], .agg #[.int .i64 p.day, .string p.case]] W fun e w' => e = .returned (.int .i64 (ordPad (padAt ps k) p)) ∧ Below W.heap.size W w' := fun W => l8Order _ _ _ _ W; have CO := uH co; clear co hg hF; have r0 := qcell c0; have r1 := qcell c1; have r2 := qcell p0; have r3 := qcell p1; generalize ordPad (padAt ps k) p = o at *; generalize padAt ps k = q at *; (go_wp2_with fail); refine region_qb (by kernel_rfl) (by kernel_rfl) ?_; repeat (first | go_big_quiet_step ((go_at_call 143; exact quietB (CO.out _))) | quiet_step ((go_at_call 143; exact quietB (CO.out _))))
   refine wpQuiet_nil ?_; intro w3 hb3; have b3 := hb.trans (hb3.mono hb.size); have p0' := kcell hb3 p0; have p1' := kcell hb3 p1; clear r0 r1 r2 r3 c0 c1 p0 p1 hb3; go_wp2; go_roundw
   case rel => exact ⟨k + 1, by omega, by go_num, HF2, b3, p0', p1'⟩
   case measure => simp [intOf]; omega
  ·clear hF; have step : ∀ w3, Below wr.heap.size wr w3 → Below w.heap.size w w3 ∧ w3.cell? ⟨w.heap.size, 0, none⟩ = some (.int .i64 p.day) ∧ w3.cell? ⟨w.heap.size, 1, none⟩ = some (.string p.case) := fun w3 hb3 => ⟨hb.trans (hb3.mono hb.size), kcell hb3 p0, kcell hb3 p1⟩; have STEP := uH step; clear step; rcases ways with ⟨hlt, ho⟩ | hkn
   ·obtain ⟨b', off', eA, hbB', c0, c1, hg⟩ := (H.out.below hb).at_ hlt; injection eA with eA; injection eA with e1 e2; subst e1 e2; have hb0 : decide ((k : Int) < n) = true := decide_eq_true (by omega); have co : ∀ W, Calls Tryz.prog 143 #[.agg #[.int .i64 (padAt ps k).day, .string (padAt ps k).case], .agg #[.int .i64 p.day, .string p.case]] W fun e w' => e = .returned (.int .i64 (ordPad (padAt ps k) p)) ∧ Below W.heap.size W w' := fun W => l8Order _ _ _ _ W; have CO := uH co; clear co hg; have r0 := qcell c0; have r1 := qcell c1; have r2 := qcell p0; have r3 := qcell p1; generalize ordPad (padAt ps k) p = o at *; generalize padAt ps k = q at *; (go_wp2_with fail); refine region_qb (by kernel_rfl) (by kernel_rfl) ?_; repeat (first | go_big_quiet_step ((go_at_call 143; exact quietB (CO.out _))) | quiet_step ((go_at_call 143; exact quietB (CO.out _))))
    refine wpQuiet_nil ?_; intro w3 hb3; obtain ⟨b3, p0', p1'⟩ := STEP.out w3 hb3; clear r0 r1 r2 r3 c0 c1 p0 p1 hb3 hb STEP hb0; have hkc : k < c := (by omega); have HT3 : Hid (∀ W, Below w.heap.size w W → Row W w.heap.size (some ⟨b, off + k * 2, none⟩) (n - k) 2 ((ps.drop k).flatMap padC)) := uH (fun W hW => by rw [← flat_drop padC_len]; exact (H.out.2.2.2.1.below hW).drop hk); have z3 := b3.size; have z3' := World.block_lt_of_cell? _ _ p0'; simp only at z3'; go_wp2_with (first
     | (at_builtin; refine wpList_append_any _ rfl (.tmp 22) (.tmp 25) _ rfl w.heap.size 53 i0 _ 2 24 Tryz.underlying46 hi hz0 hz1 hz2 rfl (by omega) (.slice (some ⟨w3.heap.size, 0, none⟩) 0 0) 0 [] rfl (World.ownsRow_made w3 _ 0 z3 (by simp) (by simp)) w.heap.size (some ⟨b, off, none⟩) k c ((ps.take k).flatMap padC) rfl (HT1.out k hk _ (b3.alloc z3 _)) padC_one (by unfold maxLen; omega) (by omega) (by simp; omega) ?_; intro v1 w4 hown1 hg1 hat1; obtain ⟨b4, p0a, p1a, HO1⟩ := put1 b3 p0' p1' hg1 hown1; have z4 := b4.size; clear hown1 hg1 hat1)
     | (at_builtin; refine wpList_append_any _ rfl (.tmp 27) (.tmp 29) _ rfl w.heap.size 53 i0 _ 2 24 Tryz.underlying46 hi hz0 hz1 hz2 rfl (by omega) v1 k ((ps.take k).flatMap padC) rfl (HO1.out.alloc _) (w4.heap.size + 1) (some ⟨w4.heap.size, 0, none⟩) 1 1 [.int .i64 p.day, .string p.case] rfl (rowNewPad _ _ _ _) (by simp [Value.oneCell']) (by unfold maxLen; omega) (by omega) (by simp; omega) ?_; intro v2 w5 hown2 hg2 hat2; have b5 := (b4.alloc z4 _).grown hg2 (by simp; omega) (fun q hq => own_base HO1.out hq); have HO2 := uH hown2; have z5 := b5.size; clear hown2 hg2 hat2)
     | (at_builtin; refine wpList_append_any _ rfl (.tmp 31) (.tmp 34) _ rfl w.heap.size 53 i0 _ 2 24 Tryz.underlying46 hi hz0 hz1 hz2 rfl (by omega) v2 (k + 1) _ rfl HO2.out w.heap.size (some ⟨b, off + k * 2, none⟩) (n - k) (c - k) ((ps.drop k).flatMap padC) rfl (HT3.out _ b5) padC_one (by unfold maxLen; omega) (by omega) (by omega) ?_; intro v3 w6 hown3 hg3 hat3; have b6 := b5.grown hg3 z5 (fun q hq => own_base HO2.out hq); have HO3 := uH hown3; clear hown3 hg3 hat3))
    go_ret; exact ⟨.of rfl (by rw [HI.out]; exact put_end HL.out hk HO3.out), b6⟩
   ·have hb0 : decide ((k : Int) < n) = false := decide_eq_false (by omega); (go_wp2_with fail); refine region_qb (by kernel_rfl) (by kernel_rfl) ?_; repeat (first | go_big_quiet_step (fail) | quiet_step (fail))
    refine wpQuiet_nil ?_; intro w3 hb3; obtain ⟨b3, p0', p1'⟩ := STEP.out w3 hb3; clear p0 p1 hb3 hb STEP hb0; subst hkn; have z3 := b3.size; have z3' := World.block_lt_of_cell? _ _ p0'; simp only at z3'; have hE : Hid (∀ (w : World) (B : Nat) (v : Value), w.ownsRow B 53 2 v (k + 1 + 0) ((ps.take k).flatMap padC ++ [.int .i64 p.day, .string p.case] ++ []) → PadsOwn w B v (ins ps p k)) := uH (fun w B v h => put_end (n := k) HL.out (Nat.le_refl _) (by
     rw [Nat.sub_self, List.drop_of_length_le (by rw [HL.out]; exact Nat.le_refl _)]; exact h))
    by_cases hkc : k < c
    ·skip
     go_wp2_with (first
      | (at_builtin; refine wpList_append_any _ rfl (.tmp 22) (.tmp 25) _ rfl w.heap.size 53 i0 _ 2 24 Tryz.underlying46 hi hz0 hz1 hz2 rfl (by omega) (.slice (some ⟨w3.heap.size, 0, none⟩) 0 0) 0 [] rfl (World.ownsRow_made w3 _ 0 z3 (by simp) (by simp)) w.heap.size (some ⟨b, off, none⟩) k c ((ps.take k).flatMap padC) rfl (HT1.out k hk _ (b3.alloc z3 _)) padC_one (by unfold maxLen; omega) (by omega) (by simp; omega) ?_; intro v1 w4 hown1 hg1 hat1; obtain ⟨b4, p0a, p1a, HO1⟩ := put1 b3 p0' p1' hg1 hown1; have z4 := b4.size; clear hown1 hg1 hat1)
      | (at_builtin; refine wpList_append_any _ rfl (.tmp 27) (.tmp 29) _ rfl w.heap.size 53 i0 _ 2 24 Tryz.underlying46 hi hz0 hz1 hz2 rfl (by omega) v1 k ((ps.take k).flatMap padC) rfl (HO1.out.alloc _) (w4.heap.size + 1) (some ⟨w4.heap.size, 0, none⟩) 1 1 [.int .i64 p.day, .string p.case] rfl (rowNewPad _ _ _ _) (by simp [Value.oneCell']) (by unfold maxLen; omega) (by omega) (by simp; omega) ?_; intro v2 w5 hown2 hg2 hat2; have b5 := (b4.alloc z4 _).grown hg2 (by simp; omega) (fun q hq => own_base HO1.out hq); have HO2 := uH hown2; have z5 := b5.size; clear hown2 hg2 hat2)
      | (at_builtin; refine wpList_append_any _ rfl (.tmp 31) (.tmp 34) _ rfl w.heap.size 53 i0 _ 2 24 Tryz.underlying46 hi hz0 hz1 hz2 rfl (by omega) v2 (k + 1) _ rfl HO2.out w.heap.size (some ⟨b, off + k * 2, none⟩) 0 (c - k) [] rfl Row.empty (by simp) (by unfold maxLen; omega) (by omega) (by omega) ?_; intro v3 w6 hown3 hg3 hat3; have b6 := b5.grown hg3 z5 (fun q hq => own_base HO2.out hq); have HO3 := uH hown3; clear hown3 hg3 hat3))
     go_ret; exact ⟨.of rfl (by rw [HI.out]; exact hE.out _ _ _ HO3.out), b6⟩
    ·obtain rfl : k = c := (by omega); go_wp2_with (first
      | (at_builtin; refine wpList_append_any _ rfl (.tmp 22) (.tmp 25) _ rfl w.heap.size 53 i0 _ 2 24 Tryz.underlying46 hi hz0 hz1 hz2 rfl (by omega) (.slice (some ⟨w3.heap.size, 0, none⟩) 0 0) 0 [] rfl (World.ownsRow_made w3 _ 0 z3 (by simp) (by simp)) w.heap.size (some ⟨b, off, none⟩) k k ((ps.take k).flatMap padC) rfl (HT1.out k hk _ (b3.alloc z3 _)) padC_one (by unfold maxLen; omega) (by omega) (by simp; omega) ?_; intro v1 w4 hown1 hg1 hat1; obtain ⟨b4, p0a, p1a, HO1⟩ := put1 b3 p0' p1' hg1 hown1; have z4 := b4.size; clear hown1 hg1 hat1)
      | (at_builtin; refine wpList_append_any _ rfl (.tmp 27) (.tmp 29) _ rfl w.heap.size 53 i0 _ 2 24 Tryz.underlying46 hi hz0 hz1 hz2 rfl (by omega) v1 k ((ps.take k).flatMap padC) rfl (HO1.out.alloc _) (w4.heap.size + 1) (some ⟨w4.heap.size, 0, none⟩) 1 1 [.int .i64 p.day, .string p.case] rfl (rowNewPad _ _ _ _) (by simp [Value.oneCell']) (by unfold maxLen; omega) (by omega) (by simp; omega) ?_; intro v2 w5 hown2 hg2 hat2; have b5 := (b4.alloc z4 _).grown hg2 (by simp; omega) (fun q hq => own_base HO1.out hq); have HO2 := uH hown2; have z5 := b5.size; clear hown2 hg2 hat2)
      | (at_builtin; refine wpList_append_any _ rfl (.tmp 31) (.tmp 34) _ rfl w.heap.size 53 i0 _ 2 24 Tryz.underlying46 hi hz0 hz1 hz2 rfl (by omega) v2 (k + 1) _ rfl HO2.out w.heap.size (some ⟨b, off, none⟩) 0 0 [] rfl Row.empty (by simp) (by unfold maxLen; omega) (by omega) (by omega) ?_; intro v3 w6 hown3 hg3 hat3; have b6 := b5.grown hg3 z5 (fun q hq => own_base HO2.out hq); have HO3 := uH hown3; clear hown3 hg3 hat3))
     go_ret; exact ⟨.of rfl (by rw [HI.out]; exact hE.out _ _ _ HO3.out), b6⟩
end Go.Proofs.YtbkhnljaajajiaaGreatDoor
namespace Go.Proofs.YtbkhnljaajajiaaGreatDoor
open Go.ChangeShapes Go.WideShapes Go.ChangeAt Go.RowKit
set_option maxRecDepth 100000
def CabAns (w' : World) (B : Nat) (css : List (List Pad)) (e : Ending) : Prop :=
 ∃ A c ds, e = .returned (.slice A ds.length c) ∧ CabOwn w' B (.slice A ds.length c) ds ∧ ds.map (·.ps) = css
theorem CabAns.of {w' : World} {B : Nat} {css : List (List Pad)} {e : Ending} {v : Value} {ds : List Drawer} (he : e = .returned v) (ho : CabOwn w' B v ds) (hm : ds.map (·.ps) = css) : CabAns w' B css e := by
 obtain ⟨A, c, rfl, _⟩ := ho.form; exact ⟨A, c, ds, he, ho, hm⟩
theorem newPush {wr w1 w2 : World} {B n c1 : Nat} {v v' : Value} {A1 : Option Addr} {ds : List Drawer} {ps : List Pad} (hB : B ≤ wr.heap.size) (h : CabOwn wr B v ds) (hb : Below wr.heap.size wr w1) (hO : w1.ownsRow wr.heap.size 53 2 (.slice A1 n c1) n (ps.flatMap padC)) (hn : ps.length = n) (hgd : ∀ p ∈ ps, p.good)
  (hg : (w1.alloc (.cells #[.slice A1 n c1] 46)).grownBy w2 v.ownBlock) (hown : w2.ownsRow B 46 1 v' (ds.length + 1) (ds.flatMap drawerC ++ [.slice A1 n c1])) :
  CabOwn w2 B v' (ds ++ [⟨A1, n, c1, ps⟩]) ∧ Below B wr w2 := by
 have ha : Below wr.heap.size wr (w1.alloc (.cells #[.slice A1 n c1] 46)) := hb.alloc hb.size _; refine ⟨h.push ha hg (d := ⟨A1, n, c1, ps⟩) hown ⟨hn, ?_, hgd⟩ (fun b hv => own_base hO hv), (ha.mono hB).grown hg (Nat.le_trans hB ha.size) (fun k hk => own_base h.1 hk)⟩
 show PadsOwn _ B (.slice A1 n c1) ps
 unfold PadsOwn; rw [hn]; exact own_mono (hO.alloc _) hB
theorem cabRow1 {w : World} {u : Value} {t : TypeId} : Row (w.alloc (.cells #[u] t)) (w.heap.size + 1) (some ⟨w.heap.size, 0, none⟩) 1 1 [u] := rowNew1 w u t
theorem l8Copy (A : Option Addr) (n c : Nat) (ds : List Drawer) (w : World) (hn : n ≤ 1048576) (hdn : ∀ d ∈ ds, d.n ≤ 1048576) (h : DrawersIn w w.heap.size A n c ds) :
  Calls Tryz.prog 145 #[.slice A n c] w fun e w' => CabAns w' w.heap.size ((ds.map (·.ps)).filter full?) e ∧ Below w.heap.size w w' := by
 have hm := h.2.2.1; have hnc := h.2.1; have HL := uH h.1; unfold maxLen at hm; have H := uH h; clear h; have HDN := uH hdn; clear hdn; obtain ⟨i0, hi, hz0, hz1, hz2⟩ := info_parts infoPad; obtain ⟨i1, hj, hy0, hy1, hy2⟩ := info_parts infoSl; go_enter Tryz.func145, Tryz.ntmps145
 go_wp2; go_loopw [3, 4] (fun v i wr => ∃ (k : Nat) (ds' : List Drawer), k ≤ n ∧ i = .int .i64 k ∧ Hid (CabOwn wr w.heap.size v ds') ∧ Hid (ds'.map (·.ps) = ((ds.take k).map (·.ps)).filter full?) ∧ Below w.heap.size w wr) (fun _ i _ => n - (intOf i).toNat)
 case atStart => exact ⟨0, [], Nat.zero_le _, rfl, uH (CabOwn.made w), uH (by simp), (Below.refl _ _).alloc (Nat.le_refl _) _⟩
 case round =>
  obtain ⟨k, ds', hk, rfl, hO, hM, hb⟩ := hrel; by_cases hlt : k < n
  ·obtain ⟨b, off, eA, hbB, c0, hP⟩ := (H.out.below hb).at_ hlt; have hkl : k < ds.length := (by rw [HL.out]; exact hlt); have hd1 := HDN.out _ (drAt_mem hkl); subst eA; have HT : Hid ((ds.take (k + 1)).map (·.ps) = (ds.take k).map (·.ps) ++ [(drAt ds k).ps]) := uH (by rw [take_step (drAt_some hkl)]; simp); have hl' : ds'.length ≤ n := by
    have h1 := congrArg List.length hM.out; rw [List.length_map] at h1; have h2 := List.length_filter_le full? ((ds.take k).map (·.ps)); rw [List.length_map, List.length_take] at h2; omega
   have HPS := uH hP.1; have HR := uH hP.2.2.2.1; have HGd := uH hP.2.2.2.2; have hcm2 := hP.2.2.1; have hnc2 := hP.2.1; unfold maxLen at hcm2; clear hP hkl; generalize drAt ds k = d at *; by_cases hd0 : 0 < d.n
   ·have hz := hb.size; have HM2 : Hid (((ds' ++ [(⟨none, d.n, 0, d.ps⟩ : Drawer)]).map (·.ps)) = ((ds.take (k + 1)).map (·.ps)).filter full?) := uH (by
     rw [HT.out, List.filter_append, ← hM.out, List.map_append]; have : full? d.ps = true := full_iff.2 (by rw [HPS.out]; exact hd0); simp [this])
    have c0a : (wr.alloc (.cells #[] 53)).cell? ⟨b, off + k, none⟩ = some (.slice d.A d.n d.c) := Lib.cell?_alloc_some _ c0; go_wp2_with (first
     | (at_builtin; refine wpList_append_any _ rfl (.tmp 19) (.tmp 23) _ rfl wr.heap.size 53 i0 _ 2 24 Tryz.underlying46 hi hz0 hz1 hz2 rfl (by omega) (.slice (some ⟨wr.heap.size, 0, none⟩) 0 0) 0 [] rfl (World.ownsRow_made wr _ 0 (Nat.le_refl _) (by simp) (by simp)) w.heap.size d.A d.n d.c (d.ps.flatMap padC) rfl (HR.out.below ((Below.refl _ _).alloc hz _)) padC_one (by unfold maxLen; omega) (by omega) (by simp) ?_; intro v1 w1 hown1 hg1 hat1; simp only [Nat.zero_add, List.nil_append] at hown1; obtain ⟨A1, c1, rfl, hc1, hm1⟩ := own_form hown1; have b1 : Below wr.heap.size wr w1 := ((Below.refl _ _).alloc (Nat.le_refl _) _).grown hg1 (by simp) (fun q hq => by injection hq with hq; rw [← hq]; exact Nat.le_refl _); have HO1 := uH hown1; have HC1 := uH (hO.out.keep b1); have z1 := b1.size; clear hown1 hg1 hat1)
     | (at_builtin; refine wpList_append_any _ rfl (.tmp 18) (.tmp 25) _ rfl w.heap.size 46 i1 _ 1 24 Tryz.underlying48 hj hy0 hy1 hy2 rfl (by omega) _ ds'.length (ds'.flatMap drawerC) rfl (HC1.out.1.alloc _) (w1.heap.size + 1) (some ⟨w1.heap.size, 0, none⟩) 1 1 [.slice A1 d.n c1] rfl cabRow1 (by simp [Value.oneCell']) (by unfold maxLen; omega) (by omega) (by simp; omega) ?_; intro v2 w2 hown2 hg2 hat2; obtain ⟨hcab, hbb⟩ := newPush hz hO.out b1 HO1.out HPS.out HGd.out hg2 hown2; have HC2 := uH hcab; have b2 := hb.trans hbb; clear hown2 hg2 hat2 hcab hbb))
    go_roundw
    case rel => exact ⟨k + 1, _, by omega, by go_num, HC2, uH (by rw [← HM2.out]; simp), b2⟩
    case measure => simp [intOf]; omega
   ·have HM2 : Hid (ds'.map (·.ps) = ((ds.take (k + 1)).map (·.ps)).filter full?) := uH (by
     rw [HT.out, List.filter_append, ← hM.out]; have : full? d.ps = false := by
      cases hx : full? d.ps with
      | false => rfl
      | true => have := full_iff.1 hx; rw [HPS.out] at this; omega
     simp [this])
    go_wp2; go_roundw
    case rel => exact ⟨k + 1, ds', by omega, by go_num, hO, HM2, hb⟩
    case measure => simp [intOf]; omega
  ·have hkn : ds.take k = ds := List.take_of_length_le (by have := HL.out; omega); rw [hkn] at hM; clear hkn; go_wp2; go_ret; exact ⟨.of rfl hO.out hM.out, hb⟩
end Go.Proofs.YtbkhnljaajajiaaGreatDoor
namespace Go.Proofs.YtbkhnljaajajiaaGreatDoor
open Go.ChangeShapes Go.WideShapes Go.ChangeAt Go.RowKit
set_option maxRecDepth 100000
theorem fileO_cases (css : List (List Pad)) (p : Pad) : (¬ cabOK css ∧ fileO css p = none) ∨ (cabOK css ∧ okP p = false ∧ fileO css p = none) ∨ (cabOK css ∧ okP p = true ∧ (∃ x, findO css p = some x) ∧ fileO css p = none) ∨ (cabOK css ∧ okP p = true ∧ findO css p = none ∧ fileO css p = fileS css p) := by
 by_cases h1 : cabOK css
 ·cases h2 : okP p with
  | false => exact .inr (.inl ⟨h1, rfl, fileO_no (fun h => by rw [h2] at h; cases h.2.1)⟩)
  | true =>
   cases h3 : findO css p with
   | some x => exact .inr (.inr (.inl ⟨h1, rfl, ⟨x, rfl⟩, fileO_no (fun h => by rw [h3] at h; cases h.2.2)⟩))
   | none => exact .inr (.inr (.inr ⟨h1, rfl, rfl, fileO_yes h1 h2 h3⟩))
 ·exact .inl ⟨h1, fileO_no (fun h => h1 h.1)⟩
theorem rowNew2 (w : World) (u1 u2 : Value) (t : TypeId) : Row (w.alloc (.cells #[u1, u2] t)) (w.heap.size + 1) (some ⟨w.heap.size, 0, none⟩) 2 1 [u1, u2] := by
 refine ⟨rfl, fun _ => ⟨w.heap.size, 0, rfl, by omega, fun j x hx => ?_⟩⟩; rcases j with _ | _ | j
 ·simp at hx; subst hx; exact newcell w #[u1, u2] t 0 u1 rfl
 ·simp at hx; subst hx; exact newcell w #[u1, u2] t 1 u2 rfl
 ·simp at hx
theorem drC_one {ds : List Drawer} : ∀ u ∈ ds.flatMap drawerC, u.oneCell' = true := by
 intro u hu; obtain ⟨d, _, hu⟩ := List.mem_flatMap.1 hu; simp only [drawerC, List.mem_cons, List.mem_nil_iff, or_false] at hu; subst hu; rfl
theorem partsIn {w w5 w8 : World} {B n c m m5 c5 h N c8 : Nat} {A Af A8 : Option Addr} {ds : List Drawer} {f : List Pad} (H : DrawersIn w w.heap.size A n c ds) (hb8 : Below w.heap.size w w8) (_ : m < n) (hF : PadsIn w5 w5.heap.size Af m5 c5 f) (hb58 : Below w5.heap.size w5 w8) (hh : h ≤ m5)
  (hO : w8.ownsRow B 46 1 (.slice A8 N c8) N ((ds.take m).flatMap drawerC ++ (.slice Af h c5 :: .slice (fromA Af h c5 2) (m5 - h) (c5 - h) :: (ds.drop (m + 1)).flatMap drawerC))) :
  DrawersIn w8 w8.heap.size A8 N c8 (ds.take m ++ ([⟨Af, h, c5, f.take h⟩, ⟨fromA Af h c5 2, m5 - h, c5 - h, f.drop h⟩] ++ ds.drop (m + 1))) := by
 have hN := hO.1; simp only [List.length_append, List.length_cons, flat_len drawerC_len] at hN; obtain ⟨A', c', e, h1, h2⟩ := own_form hO; injection e with e1 e2 e3; subst e1 e3; have hF8 := (hF.below hb58).more hb58.size; refine ⟨?_, h1, h2, ?_, fun d hd => ?_⟩
 ·simp only [List.length_append, List.length_cons, List.length_nil]; omega
 ·have := Row.of_own hO; simpa [drawerC] using this
 ·rcases List.mem_append.1 hd with hd | hd
  ·exact ((H.2.2.2.2 d (List.mem_of_mem_take hd)).below hb8).more hb8.size
  ·rcases List.mem_append.1 hd with hd | hd
   ·simp only [List.mem_cons, List.mem_nil_iff, or_false] at hd; rcases hd with rfl | rfl
    ·exact hF8.upto hh
    ·exact hF8.from_ hh
   ·exact ((H.2.2.2.2 d (List.mem_of_mem_drop hd)).below hb8).more hb8.size
theorem parts_small {w : World} {B n c m m5 c5 h : Nat} {A Af : Option Addr} {ds : List Drawer} {f : List Pad} (H : DrawersIn w B A n c ds) (hc : cabOK (ds.map (·.ps))) (hh : h ≤ m5) (h5 : m5 ≤ 1048576) :
  ∀ d ∈ ds.take m ++ ([⟨Af, h, c5, f.take h⟩, ⟨fromA Af h c5 2, m5 - h, c5 - h, f.drop h⟩] ++ ds.drop (m + 1)), d.n ≤ 1048576 := by
 have key : ∀ d ∈ ds, d.n ≤ 1048576 := fun d hd => by
  have h1 := hc.2.1 d.ps (List.mem_map_of_mem hd); have h2 := (H.2.2.2.2 d hd).1; unfold lenOK at h1; omega
 intro d hd; rcases List.mem_append.1 hd with hd | hd
 ·exact key d (List.mem_of_mem_take hd)
 ·rcases List.mem_append.1 hd with hd | hd
  ·simp only [List.mem_cons, List.mem_nil_iff, or_false] at hd; rcases hd with rfl | rfl
   ·show h ≤ _; omega
   ·show m5 - h ≤ _; omega
  ·exact key d (List.mem_of_mem_drop hd)
theorem parts_res {ds : List Drawer} {f : List Pad} {p : Pad} {m m5 c5 h : Nat} {A5 : Option Addr} (hF : filed (ds.map (·.ps)) p = (partsAt (ds.map (·.ps)) m f).filter full?) (hh : halfOf f.length = h) :
  ((ds.take m ++ ([(⟨A5, h, c5, f.take h⟩ : Drawer), ⟨fromA A5 h c5 2, m5 - h, c5 - h, f.drop h⟩] ++ ds.drop (m + 1))).map (·.ps)).filter full? = filed (ds.map (·.ps)) p := by
 rw [hF, partsAt, hh, List.map_append, List.map_append, List.map_take, List.map_drop]; rfl
theorem oneCab (w : World) (p : Pad) (hp : p.good) : CabOwn ((w.alloc (.cells #[.int .i64 p.day, .string p.case] 53)).alloc (.cells #[.slice (some ⟨w.heap.size, 0, none⟩) 1 1] 46)) w.heap.size (.slice (some ⟨w.heap.size + 1, 0, none⟩) 1 1) [⟨some ⟨w.heap.size, 0, none⟩, 1, 1, [p]⟩] := by
 have h1 : (w.alloc (.cells #[.int .i64 p.day, .string p.case] 53)).ownsRow w.heap.size 53 2 (.slice (some ⟨w.heap.size, 0, none⟩) 1 1) 1 [.int .i64 p.day, .string p.case] :=
  World.ownsRow_lit w #[.int .i64 p.day, .string p.case] 1 (Nat.le_refl _) (by unfold maxLen; omega) rfl
 have h2 : ((w.alloc (.cells #[.int .i64 p.day, .string p.case] 53)).alloc (.cells #[.slice (some ⟨w.heap.size, 0, none⟩) 1 1] 46)).ownsRow w.heap.size 46 1 (.slice (some ⟨(w.alloc (.cells #[.int .i64 p.day, .string p.case] 53)).heap.size, 0, none⟩) 1 1) 1 [.slice (some ⟨w.heap.size, 0, none⟩) 1 1] :=
  World.ownsRow_lit _ #[.slice (some ⟨w.heap.size, 0, none⟩) 1 1] 1 (by simp) (by unfold maxLen; omega) rfl
 rw [show (w.alloc (.cells #[.int .i64 p.day, .string p.case] 53)).heap.size = w.heap.size + 1 by simp] at h2; refine ⟨h2, fun d hd => ?_, by simp [Drawer.v, Value.ownBlock]⟩; simp at hd; subst hd; exact ⟨rfl, h1.alloc _, fun x hx => by simp at hx; subst hx; exact hp⟩
set_option maxHeartbeats 1600000 in
theorem specCabinetFile (A : Option Addr) (n c : Nat) (ds : List Drawer) (p : Pad) (w : World) (hsz : cabSz ds ≤ 1048576) (hp : p.good) (h : DrawersIn w w.heap.size A n c ds) :
  Calls Tryz.prog 79 #[.slice A n c, padVal p] w fun e w' => FileAns w' w.heap.size (fileO (ds.map (·.ps)) p) e ∧ Below w.heap.size w w' := by
 have hm := h.2.2.1; have hnc := h.2.1; have HL : Hid (ds.length = n) := uH h.1; unfold maxLen at hm; have H := uH h; clear h; have hln : n ≤ 1048576 := (by have := cabSz_len ds; have := HL.out; omega); have hal : Below w.heap.size w (w.alloc (.cells #[.int .i64 p.day, .string p.case] 53)) := (Below.refl _ _).alloc (Nat.le_refl _) _; have HF := uH (specCabinetFind A n c ds p _ hsz (H.out.keep hal)); have HV : Hid (∀ W, Below w.heap.size w W → Calls Tryz.prog 119 #[.slice A n c] W fun e w' => e = .returned (.bool (cabB (ds.map (·.ps)))) ∧ Below W.heap.size W w') := uH (fun W hW => specCabinetValid A n c ds W hsz ((H.out.below hW).more hW.size)); have HPv : Hid (∀ W, Calls Tryz.prog 75 #[.agg #[.int .i64 p.day, .string p.case]] W fun e w' => e = .returned (.bool (okP p)) ∧ Below W.heap.size W w') := uH (fun W => specPadValid p.day p.case W hp.2); unfold padVal at HF ⊢; rcases fileO_cases (ds.map (·.ps)) p with ⟨h1, h2⟩ | ⟨h1, h3, h2⟩ | ⟨h1, h3, ⟨⟨x1, x2⟩, h4⟩, h2⟩ | ⟨h1, h3, h4, h2⟩
 ·have HN := uH h2; clear h2; rw [findO_bad h1] at HF; rw [cabB_no h1] at HV; clear h1; go_enter Tryz.func79, Tryz.ntmps79
  (go_wp2_with fail); refine HF.out.mono ?_; rintro e w1 ⟨hA, hb1⟩; unfold FindAns findV at hA; subst hA; have b1 := below_next hal hb1; (go_wp2_with fail); refine (HV.out _ b1).mono ?_; rintro e w2 ⟨rfl, hb2⟩; have b2 := below_next b1 hb2; clear hb1 hb2; go_wp2; go_returns; exact ⟨.no HN.out rfl ((CabOwn.made w2).mono b2.size), b2.alloc b2.size _⟩
 ·have HN := uH h2; clear h2; have HFr := uH (findV_cases (findO (ds.map (·.ps)) p)); rw [cabB_yes h1] at HV; rw [h3] at HPv; clear h1 h3; go_enter Tryz.func79, Tryz.ntmps79
  (go_wp2_with fail); refine HF.out.mono ?_; rintro e w1 ⟨hA, hb1⟩; unfold FindAns at hA; obtain ⟨va, vb, vh, hv⟩ := HFr.out; rw [hv] at hA; subst hA; have HVV := uH hv; clear hv; have b1 := below_next hal hb1; have p0 := kcell hb1 (newcell w #[.int .i64 p.day, .string p.case] 53 0 _ rfl); have p1 := kcell hb1 (newcell w #[.int .i64 p.day, .string p.case] 53 1 _ rfl); clear hb1; (go_wp2_with fail); refine (HV.out _ b1).mono ?_; rintro e w2 ⟨rfl, hb2⟩; have b2 := below_next b1 hb2; have q0 := kcell hb2 p0; have q1 := kcell hb2 p1; clear hb2 p0 p1; (go_wp2_with fail); refine (HPv.out _).mono ?_; rintro e w3 ⟨rfl, hb3⟩; have b3 := below_next b2 hb3; clear hb3 q0 q1; go_wp2; go_returns; exact ⟨.no HN.out rfl ((CabOwn.made w3).mono b3.size), b3.alloc b3.size _⟩
 ·have HN := uH h2; clear h2; rw [h4] at HF; rw [cabB_yes h1] at HV; rw [h3] at HPv; clear h1 h3 h4; go_enter Tryz.func79, Tryz.ntmps79
  (go_wp2_with fail); refine HF.out.mono ?_; rintro e w1 ⟨hA, hb1⟩; unfold FindAns findV at hA; subst hA; have b1 := below_next hal hb1; have p0 := kcell hb1 (newcell w #[.int .i64 p.day, .string p.case] 53 0 _ rfl); have p1 := kcell hb1 (newcell w #[.int .i64 p.day, .string p.case] 53 1 _ rfl); clear hb1; (go_wp2_with fail); refine (HV.out _ b1).mono ?_; rintro e w2 ⟨rfl, hb2⟩; have b2 := below_next b1 hb2; have q0 := kcell hb2 p0; have q1 := kcell hb2 p1; clear hb2 p0 p1; (go_wp2_with fail); refine (HPv.out _).mono ?_; rintro e w3 ⟨rfl, hb3⟩; have b3 := below_next b2 hb3; clear hb3 q0 q1; go_wp2; go_returns; exact ⟨.no HN.out rfl ((CabOwn.made w3).mono b3.size), b3.alloc b3.size _⟩
 ·have HN := uH h2; clear h2; have HC := uH h1; rw [h4] at HF; rw [cabB_yes h1] at HV; rw [h3] at HPv; clear h1 h3 h4; go_enter Tryz.func79, Tryz.ntmps79
  (go_wp2_with fail); refine HF.out.mono ?_; rintro e w1 ⟨hA, hb1⟩; unfold FindAns findV at hA; subst hA; have b1 := below_next hal hb1; have p0 := kcell hb1 (newcell w #[.int .i64 p.day, .string p.case] 53 0 _ rfl); have p1 := kcell hb1 (newcell w #[.int .i64 p.day, .string p.case] 53 1 _ rfl); clear hb1; (go_wp2_with fail); refine (HV.out _ b1).mono ?_; rintro e w2 ⟨rfl, hb2⟩; have b2 := below_next b1 hb2; have q0 := kcell hb2 p0; have q1 := kcell hb2 p1; clear hb2 p0 p1; (go_wp2_with fail); refine (HPv.out _).mono ?_; rintro e w3 ⟨rfl, hb3⟩; have b3 := below_next b2 hb3; have p0 := kcell hb3 q0; have p1 := kcell hb3 q1; clear hb3 q0 q1; by_cases hn0 : n = 0
  ·subst hn0; have HX : Hid (fileO (ds.map (·.ps)) p = some [[p]]) := uH (by
    rw [HN.out, List.eq_nil_of_length_eq_zero HL.out]; rfl)
   go_wp2; go_returns; exact ⟨.yes (ds := [⟨some ⟨w3.heap.size, 0, none⟩, 1, 1, [p]⟩]) HX.out rfl ((oneCab w3 p hp).mono b3.size), (b3.alloc b3.size _).alloc (by simp; have := b3.size; omega) _⟩
  ·have hn1 : 1 ≤ n := (by omega); have hnz : ((n : Int) == 0) = false := beq_eq_false_iff_ne.2 (by omega); clear hn0 HF HV HPv; go_wp2; go_loopw [9, 10] (fun a i wr => ∃ (k m : Nat), k ≤ n ∧ i = .int .i64 k ∧ a = .int .i64 m ∧ Hid (m = fileTo (ds.map (·.ps)) p k) ∧ Below w.heap.size w wr ∧ wr.cell? ⟨w.heap.size, 0, none⟩ = some (.int .i64 p.day) ∧ wr.cell? ⟨w.heap.size, 1, none⟩ = some (.string p.case)) (fun _ i _ => n - (intOf i).toNat)
   case atStart => exact ⟨0, 0, Nat.zero_le _, rfl, rfl, uH rfl, b3, p0, p1⟩
   case round =>
    obtain ⟨k, m, hk, rfl, rfl, hM, hb, p0, p1⟩ := hrel; by_cases hlt : k < n
    ·have hkl : k < ds.length := (by rw [HL.out]; exact hlt); obtain ⟨b, off, eA, hbB, c0, hP⟩ := (H.out.below hb).at_ hlt; have hlo := HC.out.2.1 (drAt ds k).ps (List.mem_map_of_mem (drAt_mem hkl)); unfold lenOK at hlo; rw [hP.1] at hlo; obtain ⟨b2, off2, eA2, hbB2, x0, x1, hg⟩ := hP.at_ (k := 0) (by omega); rw [Nat.zero_mul, Nat.add_zero] at x0 x1; have hlt0 : (0 : Int) < ((drAt ds k).n : Int) := (by omega); have hcm2 := hP.2.2.1; have hnc2 := hP.2.1; unfold maxLen at hcm2; rw [eA2] at c0; have hF2 : fileTo (ds.map (·.ps)) p (k + 1) = if ordPad (padAt (drAt ds k).ps 0) p < 0 then k else m := by
      rw [hM.out, fileTo, drw_dr hkl]
     have HF2 := uH hF2; have co : ∀ W, Calls Tryz.prog 143 #[.agg #[.int .i64 (padAt (drAt ds k).ps 0).day, .string (padAt (drAt ds k).ps 0).case], .agg #[.int .i64 p.day, .string p.case]] W fun e w' => e = .returned (.int .i64 (ordPad (padAt (drAt ds k).ps 0) p)) ∧ Below W.heap.size W w' := fun W => l8Order _ _ _ _ W; have CO := uH co; clear co hF2 hP eA2 hg hM hkl; subst eA; generalize ordPad (padAt (drAt ds k).ps 0) p = o at *; generalize padAt (drAt ds k).ps 0 = q at *; generalize drAt ds k = d at *; have r0 := qcell c0; have r1 := qcell x0; have r2 := qcell x1; have r3 := qcell p0; have r4 := qcell p1; by_cases ho : o < 0
     ·have HM2 : Hid (k = fileTo (ds.map (·.ps)) p (k + 1)) := uH (by rw [HF2.out, if_pos ho]); (go_wp2_with fail); refine region_qb (by kernel_rfl) (by kernel_rfl) ?_; repeat (first | go_big_quiet_step ((go_at_call 143; exact quietB (CO.out _))) | quiet_step ((go_at_call 143; exact quietB (CO.out _))))
      refine wpQuiet_nil ?_; intro w4 hb4; have b4 := hb.trans (hb4.mono hb.size); have p0' := kcell hb4 p0; have p1' := kcell hb4 p1; clear r0 r1 r2 r3 r4 c0 x0 x1 p0 p1 hb4; go_wp2; go_roundw
      case rel => exact ⟨k + 1, k, by omega, by go_num, rfl, HM2, b4, p0', p1'⟩
      case measure => simp [intOf]; omega
     ·have HM2 : Hid (m = fileTo (ds.map (·.ps)) p (k + 1)) := uH (by rw [HF2.out, if_neg ho]); have ho' : 0 ≤ o := (by omega); clear ho; (go_wp2_with fail); refine region_qb (by kernel_rfl) (by kernel_rfl) ?_; repeat (first | go_big_quiet_step ((go_at_call 143; exact quietB (CO.out _))) | quiet_step ((go_at_call 143; exact quietB (CO.out _))))
      refine wpQuiet_nil ?_; intro w4 hb4; have b4 := hb.trans (hb4.mono hb.size); have p0' := kcell hb4 p0; have p1' := kcell hb4 p1; clear r0 r1 r2 r3 r4 c0 x0 x1 p0 p1 hb4; go_wp2; go_roundw
      case rel => exact ⟨k + 1, m, by omega, by go_num, rfl, HM2, b4, p0', p1'⟩
      case measure => simp [intOf]; omega
    ·obtain rfl : k = n := (by omega); have hmk : m < k := by
      have := fileTo_le (ds.map (·.ps)) p k; have := hM.out; omega
     have hml : m < ds.length := (by rw [HL.out]; exact hmk); obtain ⟨b, off, eA, hbB, c0, hP⟩ := (H.out.below hb).at_ hmk; have hlo := HC.out.2.1 (drAt ds m).ps (List.mem_map_of_mem (drAt_mem hml)); unfold lenOK at hlo; rw [hP.1] at hlo; obtain ⟨hlo1, hlo2⟩ := hlo; have HPut : Hid (∀ W, Below wr.heap.size wr W → Calls Tryz.prog 144 #[.slice (drAt ds m).A (drAt ds m).n (drAt ds m).c, .agg #[.int .i64 p.day, .string p.case]] W fun e w' => RowAns w' W.heap.size (ins (drAt ds m).ps p (putIdx (drAt ds m).ps p)) e ∧ Below W.heap.size W w') := uH (fun W hW =>
      l8Put _ _ _ _ p W hlo1 (by omega) ((hP.below (hW.mono hb.size)).more (Nat.le_trans hb.size hW.size)))
     have HIl : Hid ((ins (drAt ds m).ps p (putIdx (drAt ds m).ps p)).length = (drAt ds m).n + 1) := uH (by rw [ins_len, hP.1]); have HFi : Hid (filed (ds.map (·.ps)) p = (partsAt (ds.map (·.ps)) m (ins (drAt ds m).ps p (putIdx (drAt ds m).ps p))).filter full?) := uH (by
      unfold filed; rw [List.length_map, HL.out, ← hM.out, drw_dr hml])
     have HGf : Hid (∀ x ∈ ins (drAt ds m).ps p (putIdx (drAt ds m).ps p), x.good) := uH (fun x hx => by
      unfold ins at hx; rcases List.mem_append.1 hx with hx | hx
      ·exact hP.2.2.2.2 x (List.mem_of_mem_take hx)
      ·rcases List.mem_cons.1 hx with rfl | hx
       ·exact hp
       ·exact hP.2.2.2.2 x (List.mem_of_mem_drop hx))
     subst eA; clear hP hml; generalize ins (drAt ds m).ps p (putIdx (drAt ds m).ps p) = f at *; generalize (drAt ds m).n = nd at *; have d0 : wr.drew.cell? ⟨w.heap.size, 0, none⟩ = some (.int .i64 p.day) := p0; have d1 : wr.drew.cell? ⟨w.heap.size, 1, none⟩ = some (.string p.case) := p1; have d2 : wr.drew.cell? ⟨b, off + m, none⟩ = some (.slice (drAt ds m).A nd (drAt ds m).c) := c0; clear p0 p1 c0; generalize (drAt ds m).A = Ad at *; generalize (drAt ds m).c = cd at *; have hk6 : k ≤ 6 := (by have := HC.out.1; rw [List.length_map, HL.out] at this; exact this); obtain ⟨i1, hj, hy0, hy1, hy2⟩ := info_parts infoSl; have HT1 : Hid (∀ W, Below w.heap.size w W → Row W w.heap.size (some ⟨b, off, none⟩) m 1 ((ds.take m).flatMap drawerC)) := uH (fun W hW => by
      have := (H.out.2.2.2.1.below hW).take (k := m) (by omega)
      rwa [flat_take drawerC_len] at this)
     have HT3 : Hid (∀ W, Below w.heap.size w W → Row W w.heap.size (fromA (some ⟨b, off, none⟩) (m + 1) c 1) (k - (m + 1)) 1 ((ds.drop (m + 1)).flatMap drawerC)) := uH (fun W hW => by
      have := (H.out.2.2.2.1.below hW).from_ (k := m + 1) (c := c) (by omega) hnc
      rwa [flat_drop drawerC_len] at this)
     have hsl2 : ∀ W, (Instr.slice 48 (.slice (some ⟨b, off, none⟩) k c) (some (.int .i64 ((m : Int) + 1))) none none).run Tryz.prog W = .ok (.slice (fromA (some ⟨b, off, none⟩) (m + 1) c 1) (k - (m + 1)) (c - (m + 1))) W := fun W => run_from elemCab sizeSl (some ⟨b, off, none⟩) k c (m + 1) (by omega) W; (go_wp2_with fail); go_region_held3 (fun w' => w'.cell? ⟨w.heap.size, 0, none⟩ = some (.int .i64 p.day) ∧ w'.cell? ⟨w.heap.size, 1, none⟩ = some (.string p.case) ∧ w'.cell? ⟨b, off + m, none⟩ = some (.slice Ad nd cd)) (first | exact ⟨by assumption, by assumption, by assumption⟩ | go_keep)
      (first
       | (go_at_call 144; refine (HPut.out _ (by go_grown)).mono ?_; rintro e w5 ⟨⟨A5, c5, rfl, hO5⟩, hb5⟩; have e0 := kcell hb5 d0; have e1 := kcell hb5 d1; have e2 := kcell hb5 d2))
     have b5 : Below w.heap.size w w5 := hb.trans ((Below.trans (by go_grown) hb5).mono hb.size); have hF5 := hO5.reads rfl HGf.out; obtain ⟨g5, q1, q2, q3, q4⟩ := World.ownsRow.form hO5 (by have := HIl.out; omega); injection q2 with q5 q6 q7; subst q5; have hc5 := hF5.2.1; have hm5 := hF5.2.2.1; have HF5 := uH hF5; unfold maxLen at hm5; have hlen5 : f.length ≤ 5 ∧ 2 ≤ f.length := (by have := HIl.out; omega); clear e0 e1 e2 d0 d1 d2 hb5 hO5 hF5 q3 q4 q7 HPut; generalize hml5 : f.length = m5 at *; have HL5 := uH hml5; clear hml5; obtain ⟨l5a, l5b⟩ := hlen5; by_cases h4 : 4 < m5
     ·have hHH : ((m5 : Int) + 1) / 2 = ((((m5 + 1) / 2 : Nat)) : Int) := (by omega); have HHf : Hid (halfOf f.length = (m5 + 1) / 2) := uH (by rw [HL5.out, halfOf_great h4]); have hH5 : (m5 + 1) / 2 ≤ m5 := (by omega); generalize (m5 + 1) / 2 = HH at *; have hHm : HH ≤ m5 := (by omega); have hsl0 : ∀ W, (Instr.slice 46 (.slice (some ⟨g5, 0, none⟩) m5 c5) none (some (.int .i64 ((HH : Nat) : Int))) none).run Tryz.prog W = .ok (.slice (some ⟨g5, 0, none⟩) HH c5) W := fun W => run_upto elemPads sizePad g5 0 m5 c5 HH (by omega) W; have hsl1 : ∀ W, (Instr.slice 46 (.slice (some ⟨g5, 0, none⟩) m5 c5) (some (.int .i64 ((HH : Nat) : Int))) none none).run Tryz.prog W = .ok (.slice (fromA (some ⟨g5, 0, none⟩) HH c5 2) (m5 - HH) (c5 - HH)) W := fun W => run_from elemPads sizePad (some ⟨g5, 0, none⟩) m5 c5 HH hHm W; go_wp2_with (first
       | (at_builtin; refine wpList_append_any _ rfl (.tmp 69) (.tmp 72) _ rfl w5.heap.size 46 i1 _ 1 24 Tryz.underlying48 hj hy0 hy1 hy2 rfl (by omega) (.slice (some ⟨w5.heap.size, 0, none⟩) 0 0) 0 [] rfl (World.ownsRow_made w5 _ 0 (Nat.le_refl _) (by simp) (by simp)) w.heap.size (some ⟨b, off, none⟩) m c ((ds.take m).flatMap drawerC) rfl (HT1.out _ (b5.alloc b5.size _)) drC_one (by unfold maxLen; omega) (by omega) (by simp) ?_; intro v6 w6 hown6 hg6 hat6; simp only [Nat.zero_add, List.nil_append] at hown6; have b56 : Below w5.heap.size w5 w6 := ((Below.refl _ _).alloc (Nat.le_refl _) _).grown hg6 (by simp) (fun q hq => by injection hq with hq; rw [← hq]; exact Nat.le_refl _); have HO6 := uH hown6; have z6 := b56.size; clear hown6 hg6 hat6))
      have HO6d : Hid (w6.drew.ownsRow w5.heap.size 46 1 v6 m ((ds.take m).flatMap drawerC)) := uH HO6.out; have b56d : Below w5.heap.size w5 w6.drew := b56.drew; go_region_held3 (fun _ => True) (trivial)
       ((refine step_append_any _ (by rfl) (.tmp 74) (.tmp 81) _ (by rfl) w5.heap.size 46 i1 _ 1 24 Tryz.underlying48 hj hy0 hy1 hy2 rfl (by omega) v6 m ((ds.take m).flatMap drawerC) (by rfl) (HO6d.out.alloc _) (w6.drew.heap.size + 1) (some ⟨w6.drew.heap.size, 0, none⟩) 2 2 [.slice (some ⟨g5, 0, none⟩) HH c5, .slice (fromA (some ⟨g5, 0, none⟩) HH c5 2) (m5 - HH) (c5 - HH)] (by rfl) (rowNew2 _ _ _ _) (by simp [Value.oneCell']) (by unfold maxLen; omega) (by omega) (by simp; omega) ?_; intro v7 w7 hown7 hg7 hat7; have b57 := (b56d.alloc z6 _).grown hg7 (by simp; omega) (fun q hq => own_base HO6d.out hq); have HO7 := uH hown7; have z7 := b57.size))
      clear hown7 hg7 hat7 hsl1 hsl0; have hbw7 : Below w.heap.size w w7 := b5.trans (b57.mono b5.size); go_wp2_with (first
       | (at_builtin; refine wpList_append_any _ rfl (.tmp 83) (.tmp 87) _ rfl w5.heap.size 46 i1 _ 1 24 Tryz.underlying48 hj hy0 hy1 hy2 rfl (by omega) v7 (m + 2) _ rfl HO7.out w.heap.size (fromA (some ⟨b, off, none⟩) (m + 1) c 1) (k - (m + 1)) (c - (m + 1)) ((ds.drop (m + 1)).flatMap drawerC) rfl (HT3.out _ hbw7) drC_one (by unfold maxLen; omega) (by omega) z7 ?_; intro v8 w8 hown8 hg8 hat8; have b58 := b57.grown hg8 z7 (fun q hq => own_base HO7.out hq); obtain ⟨A8, c8, rfl, hc8, hm8⟩ := own_form hown8; have HO8 := uH hown8; have z8 := b58.size; clear hown8 hg8 hat8))
      have hbw8 : Below w.heap.size w w8 := b5.trans (b58.mono b5.size); have HPI := uH (partsIn (h := HH) H.out hbw8 hmk HF5.out b58 hHm (by have h8 := HO8.out; simpa using h8)); have HCp := uH (l8Copy A8 _ c8 _ w8 (by omega) (parts_small H.out HC.out hHm (by omega)) HPI.out); have HRes := uH (parts_res (c5 := c5) (A5 := (some ⟨g5, 0, none⟩)) (m5 := m5) HFi.out HHf.out); (go_wp2_with fail); refine HCp.out.mono ?_; rintro e w9 ⟨⟨A9, c9, ds9, rfl, hO9, hM9⟩, hb9⟩; have b9 := below_next hbw8 hb9; have HO9 := uH (hO9.mono hbw8.size); rw [HRes.out] at hM9; have hl9 : (filed (ds.map (·.ps)) p).length = ds9.length := (by rw [← hM9, List.length_map]); have HFS : Hid (fileO (ds.map (·.ps)) p = if 6 < ds9.length then none else some (ds9.map (·.ps))) := uH (by
       rw [HN.out, fileS, if_neg (by rw [List.length_map, HL.out]; omega), hl9, hM9])
      clear hM9 hl9 hO9 hb9 HCp HPI; by_cases h6 : 6 < ds9.length
      ·have HQ : Hid (fileO (ds.map (·.ps)) p = none) := uH (by rw [HFS.out, if_pos h6]); go_wp2; go_returns; exact ⟨.no HQ.out rfl ((CabOwn.made w9).mono b9.size), b9.alloc b9.size _⟩
      ·have HQ : Hid (fileO (ds.map (·.ps)) p = some (ds9.map (·.ps))) := uH (by rw [HFS.out, if_neg h6]); have hcm9 := HO9.out.form; clear hcm9; go_wp2; go_returns; exact ⟨.yes HQ.out rfl HO9.out, b9⟩
     ·have HHf : Hid (halfOf f.length = m5) := uH (by rw [HL5.out, halfOf_small (by omega)]); have hHm : m5 ≤ m5 := (by omega); have hsl0 : ∀ W, (Instr.slice 46 (.slice (some ⟨g5, 0, none⟩) m5 c5) none (some (.int .i64 ((m5 : Nat) : Int))) none).run Tryz.prog W = .ok (.slice (some ⟨g5, 0, none⟩) m5 c5) W := fun W => run_upto elemPads sizePad g5 0 m5 c5 m5 (by omega) W; have hsl1 : ∀ W, (Instr.slice 46 (.slice (some ⟨g5, 0, none⟩) m5 c5) (some (.int .i64 ((m5 : Nat) : Int))) none none).run Tryz.prog W = .ok (.slice (fromA (some ⟨g5, 0, none⟩) m5 c5 2) (m5 - m5) (c5 - m5)) W := fun W => run_from elemPads sizePad (some ⟨g5, 0, none⟩) m5 c5 m5 hHm W; go_wp2_with (first
       | (at_builtin; refine wpList_append_any _ rfl (.tmp 69) (.tmp 72) _ rfl w5.heap.size 46 i1 _ 1 24 Tryz.underlying48 hj hy0 hy1 hy2 rfl (by omega) (.slice (some ⟨w5.heap.size, 0, none⟩) 0 0) 0 [] rfl (World.ownsRow_made w5 _ 0 (Nat.le_refl _) (by simp) (by simp)) w.heap.size (some ⟨b, off, none⟩) m c ((ds.take m).flatMap drawerC) rfl (HT1.out _ (b5.alloc b5.size _)) drC_one (by unfold maxLen; omega) (by omega) (by simp) ?_; intro v6 w6 hown6 hg6 hat6; simp only [Nat.zero_add, List.nil_append] at hown6; have b56 : Below w5.heap.size w5 w6 := ((Below.refl _ _).alloc (Nat.le_refl _) _).grown hg6 (by simp) (fun q hq => by injection hq with hq; rw [← hq]; exact Nat.le_refl _); have HO6 := uH hown6; have z6 := b56.size; clear hown6 hg6 hat6))
      have HO6d : Hid (w6.drew.ownsRow w5.heap.size 46 1 v6 m ((ds.take m).flatMap drawerC)) := uH HO6.out; have b56d : Below w5.heap.size w5 w6.drew := b56.drew; go_region_held3 (fun _ => True) (trivial)
       ((refine step_append_any _ (by rfl) (.tmp 74) (.tmp 81) _ (by rfl) w5.heap.size 46 i1 _ 1 24 Tryz.underlying48 hj hy0 hy1 hy2 rfl (by omega) v6 m ((ds.take m).flatMap drawerC) (by rfl) (HO6d.out.alloc _) (w6.drew.heap.size + 1) (some ⟨w6.drew.heap.size, 0, none⟩) 2 2 [.slice (some ⟨g5, 0, none⟩) m5 c5, .slice (fromA (some ⟨g5, 0, none⟩) m5 c5 2) 0 (c5 - m5)] (by rfl) (rowNew2 _ _ _ _) (by simp [Value.oneCell']) (by unfold maxLen; omega) (by omega) (by simp; omega) ?_; intro v7 w7 hown7 hg7 hat7; have b57 := (b56d.alloc z6 _).grown hg7 (by simp; omega) (fun q hq => own_base HO6d.out hq); have HO7 := uH hown7; have z7 := b57.size))
      clear hown7 hg7 hat7 hsl1 hsl0; have hbw7 : Below w.heap.size w w7 := b5.trans (b57.mono b5.size); go_wp2_with (first
       | (at_builtin; refine wpList_append_any _ rfl (.tmp 83) (.tmp 87) _ rfl w5.heap.size 46 i1 _ 1 24 Tryz.underlying48 hj hy0 hy1 hy2 rfl (by omega) v7 (m + 2) _ rfl HO7.out w.heap.size (fromA (some ⟨b, off, none⟩) (m + 1) c 1) (k - (m + 1)) (c - (m + 1)) ((ds.drop (m + 1)).flatMap drawerC) rfl (HT3.out _ hbw7) drC_one (by unfold maxLen; omega) (by omega) z7 ?_; intro v8 w8 hown8 hg8 hat8; have b58 := b57.grown hg8 z7 (fun q hq => own_base HO7.out hq); obtain ⟨A8, c8, rfl, hc8, hm8⟩ := own_form hown8; have HO8 := uH hown8; have z8 := b58.size; clear hown8 hg8 hat8))
      have hbw8 : Below w.heap.size w w8 := b5.trans (b58.mono b5.size); have HPI := uH (partsIn (h := m5) H.out hbw8 hmk HF5.out b58 hHm (by have h8 := HO8.out; simpa using h8)); have HCp := uH (l8Copy A8 _ c8 _ w8 (by omega) (parts_small H.out HC.out hHm (by omega)) HPI.out); have HRes := uH (parts_res (c5 := c5) (A5 := (some ⟨g5, 0, none⟩)) (m5 := m5) HFi.out HHf.out); (go_wp2_with fail); refine HCp.out.mono ?_; rintro e w9 ⟨⟨A9, c9, ds9, rfl, hO9, hM9⟩, hb9⟩; have b9 := below_next hbw8 hb9; have HO9 := uH (hO9.mono hbw8.size); rw [HRes.out] at hM9; have hl9 : (filed (ds.map (·.ps)) p).length = ds9.length := (by rw [← hM9, List.length_map]); have HFS : Hid (fileO (ds.map (·.ps)) p = if 6 < ds9.length then none else some (ds9.map (·.ps))) := uH (by
       rw [HN.out, fileS, if_neg (by rw [List.length_map, HL.out]; omega), hl9, hM9])
      clear hM9 hl9 hO9 hb9 HCp HPI; by_cases h6 : 6 < ds9.length
      ·have HQ : Hid (fileO (ds.map (·.ps)) p = none) := uH (by rw [HFS.out, if_pos h6]); go_wp2; go_returns; exact ⟨.no HQ.out rfl ((CabOwn.made w9).mono b9.size), b9.alloc b9.size _⟩
      ·have HQ : Hid (fileO (ds.map (·.ps)) p = some (ds9.map (·.ps))) := uH (by rw [HFS.out, if_neg h6]); have hcm9 := HO9.out.form; clear hcm9; go_wp2; go_returns; exact ⟨.yes HQ.out rfl HO9.out, b9⟩
theorem treeCab (t : Nat) (v : Value) (ls : List Leaf) (B : Nat) (w : World) (hn : ls.length ≤ 1048576) (hne : ∀ l ∈ ls, 1 ≤ l.ps.length ∧ l.ps.length ≤ 1048576) (h : TreeIn w B t v ls) :
  Calls Tryz.prog 78 #[.pointer (some ⟨t, 0, none⟩)] w fun e w' => CabAns w' w.heap.size (ls.map (·.ps)) e ∧ Below w.heap.size w w' := by
 obtain ⟨A, c, rfl, hnc, hm⟩ := own_form h.2.2.1; have hc0 := h.2.1.cell 0; have H := uH h.2.2; have htl := h.2.1.lt; generalize hl : ls.length = n at *; have HL := uH hl; clear h hl; have HNe := uH hne; clear hne; unfold maxLen at hm; obtain ⟨i1, hj, hy0, hy1, hy2⟩ := info_parts infoSl; go_enter Tryz.func78, Tryz.ntmps78
 go_wp2; go_loopw [3, 12] (fun v i wr => ∃ (k : Nat) (ds : List Drawer), k ≤ n ∧ i = .int .i64 k ∧ ds.length = k ∧ Hid (CabOwn wr w.heap.size v ds) ∧ Hid (ds.map (·.ps) = (ls.take k).map (·.ps)) ∧ Below w.heap.size w wr) (fun _ i _ => n - (intOf i).toNat)
 case atStart => exact ⟨0, [], Nat.zero_le _, rfl, rfl, uH (CabOwn.made w), uH (by simp), (Below.refl _ _).alloc (Nat.le_refl _) _⟩
 case round =>
  obtain ⟨k, ds, hk, rfl, hdl, hO, hM, hb⟩ := hrel; have HDL := uH hdl; by_cases hlt : k < n
  ·obtain ⟨b, off, eA, hbB, c0, hgl, c1, _, _, hP, hgd⟩ := (H.out.below hb).at_ HL.out hlt; have hkl : k < ls.length := (by rw [HL.out]; exact hlt); have HT : Hid ((ls.take (k + 1)).map (·.ps) = (ls.take k).map (·.ps) ++ [(leafAt ls k).ps]) := uH (by rw [take_step (leafAt_some hkl)]; simp); obtain ⟨h1, h2⟩ := HNe.out _ (leafAt_mem hkl); subst eA; obtain ⟨A2, c2, e2, hnc2, hcm2⟩ := own_form hP; rw [e2] at c1 hP; have HCl := uH (clonePads A2 (leafAt ls k).ps.length c2 (leafAt ls k).ps wr h1 h2 (hP.reads rfl hgd)); have HGd := uH hgd; have hz := hb.size; have hdn : ds.length ≤ n := (by omega); clear hkl hP e2 hgd hdl; generalize leafAt ls k = l at *; generalize hlm : l.ps.length = m at *; have HLM := uH hlm; clear hlm; go_wp2_with (first
    | (go_at_call 141; refine HCl.out.mono ?_; rintro e w1 ⟨g1, c3, rfl, hO1, hg1, hb1⟩; have HO1 := uH hO1; have HC1 := uH (hO.out.keep hb1); have z1 := hb1.size; have b1 := hb1; clear hO1 hb1)
    | (at_builtin; refine wpList_append_any _ rfl (.tmp 16) (.tmp 22) _ rfl w.heap.size 46 i1 _ 1 24 Tryz.underlying48 hj hy0 hy1 hy2 rfl (by omega) _ ds.length (ds.flatMap drawerC) rfl (HC1.out.1.alloc _) (w1.heap.size + 1) (some ⟨w1.heap.size, 0, none⟩) 1 1 [.slice (some ⟨g1, 0, none⟩) m c3] rfl cabRow1 (by simp [Value.oneCell']) (by unfold maxLen; omega) (by omega) (by simp; omega) ?_; intro v2 w2 hown2 hg2 hat2; obtain ⟨hcab, hbb⟩ := newPush hz hO.out b1 (by have h := HO1.out; unfold PadsOwn at h; rw [HLM.out] at h; exact h) HLM.out HGd.out hg2 hown2; have HC2 := uH hcab; have b2 := hb.trans hbb; clear hown2 hg2 hat2 hcab hbb))
   have HM2 : Hid ((ds ++ [(⟨some ⟨g1, 0, none⟩, m, c3, l.ps⟩ : Drawer)]).map (·.ps) = (ls.take (k + 1)).map (·.ps)) := uH (by rw [HT.out, ← hM.out, List.map_append]; rfl); go_roundw
   case rel => exact ⟨k + 1, _, by omega, by go_num, by rw [List.length_append, HDL.out]; rfl, HC2, HM2, b2⟩
   case measure => simp [intOf]; omega
  ·have hkn : ls.take k = ls := List.take_of_length_le (by have := HL.out; omega); rw [hkn] at hM; clear hkn hdl; go_wp2; go_ret; exact ⟨.of rfl hO.out hM.out, hb⟩
end Go.Proofs.YtbkhnljaajajiaaGreatDoor
