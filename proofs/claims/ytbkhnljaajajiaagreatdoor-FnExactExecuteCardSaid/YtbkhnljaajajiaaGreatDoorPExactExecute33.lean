/-
  Contracts and plain laws that the proof of the law ExactExecute leans on. Conditions: as each says.
-/
import Derived.Test.YtbkhnljaajajiaaGreatDoorPExactExecute01
import Derived.Test.YtbkhnljaajajiaaGreatDoorPExactExecute08
import Derived.Test.YtbkhnljaajajiaaGreatDoorPExactExecute09
import Derived.Test.YtbkhnljaajajiaaGreatDoorPExactExecute11
import Derived.Test.YtbkhnljaajajiaaGreatDoorPExactExecute12
import Derived.Test.YtbkhnljaajajiaaGreatDoorPExactExecute14
import Derived.Test.YtbkhnljaajajiaaGreatDoorPExactExecute16
import Derived.Test.YtbkhnljaajajiaaGreatDoorPExactExecute18
import Derived.Test.YtbkhnljaajajiaaGreatDoorPExactExecute21
import Derived.Test.YtbkhnljaajajiaaGreatDoorPExactExecute22
import Derived.RegionTactic
import Derived.BigRegion
import Derived.Deep.RegionHeld3
import Derived.Lib.Overlaps
import Derived.Lib.AppendZerosOnto
import Derived.Laws.CopyRow
import Derived.Laws.CopyOwn
import Derived.Shelf.Spec.SlicesInsert
import Derived.Deep.RegionLaw
set_option maxRecDepth 100000
set_option linter.unusedSimpArgs false
set_option linter.unusedVariables false
set_option linter.unnecessarySimpa false
namespace Go.Proofs.YtbkhnljaajajiaaGreatDoor
open Go.ChangeShapes Go.WideShapes Go.ChangeAt Go.RowKit
set_option maxHeartbeats 800000 in
theorem implSystemAdd (A : Option Addr) (n c : Nat) (xs : List Sg) (l : List UInt8) (d z : Int) (w : World) (hv : sysB xs = true) (hg : ∀ x ∈ xs ++ [⟨l, ⟨d, z⟩⟩], x.st.good) (h : SgsIn w w.heap.size A n c xs) :
  Calls Tryz.prog 164 #[.slice A n c, .agg #[.string (mkStr l), .int .i64 d, .int .i64 z]] w fun e w' => SysAns w' w.heap.size (xs ++ [⟨l, ⟨d, z⟩⟩]) e ∧ Below w.heap.size w w' := by
 obtain ⟨i0, hi, hz0, hz1, hz2⟩ := info_parts infoSg; have HL := uH h.1; have hn : n ≤ 21 := (by have := (sysB_iff.1 hv).1; rw [HL.out] at this; exact this); have B1 : Below w.heap.size w (w.alloc (.cells #[.string (mkStr l), .int .i64 d, .int .i64 z] 65)) := (Below.refl _ _).alloc (Nat.le_refl _) _; have z1 : w.heap.size < (w.alloc (.cells #[.string (mkStr l), .int .i64 d, .int .i64 z] 65)).heap.size := (by simp); have HK0 := uH (newcell w #[.string (mkStr l), .int .i64 d, .int .i64 z] 65 0 _ rfl); have HK1 := uH (newcell w #[.string (mkStr l), .int .i64 d, .int .i64 z] 65 1 _ rfl); have HK2 := uH (newcell w #[.string (mkStr l), .int .i64 d, .int .i64 z] 65 2 _ rfl); obtain ⟨W, hW⟩ : ∃ W, W = w.alloc (.cells #[.string (mkStr l), .int .i64 d, .int .i64 z] 65) := ⟨_, rfl⟩; rw [← hW] at B1 HK0 HK1 HK2 z1; have H2 := uH (h.keep B1); have HV := uH (implSystemValid A n c xs W H2.out); rw [hv] at HV; have HG := uH hg; obtain ⟨cs, hcs, hmk⟩ : ∃ cs : Array Value, cs.size = (n + 1) * 3 ∧ ∀ W, (Instr.makeSlice 55 (.int .i64 0) (.int .i64 ((n : Int) + 1))).run Tryz.prog W = .ok (.slice (some ⟨W.heap.size, 0, none⟩) 0 (n + 1)) (W.alloc (.cells cs 65)) := ⟨_, (madeCells_size (Value.agg #[.string { data := #[] }, .int .i64 0, .int .i64 0]).cells ((n + 1) * 3)), fun W => by
  have h := run_make_rowN (P := Tryz.prog) 55 65 i0 _ Tryz.underlying55 hi hz0 .i64 .i64 0 (n + 1) (by omega) (by rw [hz2]; omega) (by omega) W; rw [hz1] at h
  push_cast at h
  exact h⟩
 have hw1 : IntKind.i64.wrap ((n : Int) + 1) = (n : Int) + 1 := IntWalk.i64_in _ (by omega); have HCs := uH hcs; have HLy : Hid ((xs ++ [(⟨l, ⟨d, z⟩⟩ : Sg)]).length = n + 1) := uH (by simp [HL.out]); have HFy : Hid ((xs ++ [(⟨l, ⟨d, z⟩⟩ : Sg)]).flatMap sgC = xs.flatMap sgC ++ [.string (mkStr l), .int .i64 d, .int .i64 z]) := uH (by rw [List.flatMap_append]; rfl); clear hcs h hv hg; generalize xs ++ [(⟨l, ⟨d, z⟩⟩ : Sg)] = ys at *; go_enter Tryz.func164, Tryz.ntmps164
 (go_wp2_with fail); rw [← hW]; clear hW; refine HV.out.mono ?_; rintro e w1 ⟨rfl, hb1⟩; have b2 : Below W.heap.size W (w1.alloc (.cells cs 65)) := hb1.alloc hb1.size _; have HO2 := uH (World.ownsRow_made (base := W.heap.size) (e := 65) (size := 3) w1 cs (n + 1) hb1.size (by unfold maxLen; omega) HCs.out); have g0 := kcell b2 HK0.out; have g1 := kcell b2 HK1.out; have g2 := kcell b2 HK2.out; clear hb1 HV; go_wp2_with (first
  | (at_builtin; refine wpList_append_any _ rfl (.tmp 14) (.tmp 15) _ rfl W.heap.size 65 i0 _ 3 32 Tryz.underlying55 hi hz0 hz1 hz2 rfl (by omega) _ 0 [] rfl HO2.out _ A n c (xs.flatMap sgC) rfl (H2.out.keep b2).2.2.2.1 sgC_one (by unfold maxLen; omega) (by omega) b2.size ?_; intro v4 w4 hown4 hg4 hat4; have b4 := b2.grown hg4 b2.size (fun q hq => ownG_base HO2.out hq); simp only [Nat.zero_add, List.nil_append] at hown4; have HO4 := uH hown4; clear hown4 hg4 hat4; obtain ⟨A4, c4, rfl, hc4, hm4⟩ := ownG_form HO4.out; have b4a := b4.alloc b4.size (.cells #[.string (mkStr l), .int .i64 d, .int .i64 z] 65); have HO4a := uH (World.ownsRow.alloc HO4.out (.cells #[.string (mkStr l), .int .i64 d, .int .i64 z] 65)); have HR4 := uH (rowNewSg w4 (.string (mkStr l)) (.int .i64 d) (.int .i64 z) 65); have k0 := kcell b4 HK0.out; have k1 := kcell b4 HK1.out; have k2 := kcell b4 HK2.out)
  | (at_builtin; refine wpList_append_any _ rfl (.tmp 17) (.tmp 19) _ rfl W.heap.size 65 i0 _ 3 32 Tryz.underlying55 hi hz0 hz1 hz2 rfl (by omega) _ n (xs.flatMap sgC) rfl HO4a.out (w4.heap.size + 1) (some ⟨w4.heap.size, 0, none⟩) 1 1 [.string (mkStr l), .int .i64 d, .int .i64 z] rfl HR4.out (by simp [Value.oneCell']) (by unfold maxLen; omega) (by omega) b4a.size ?_; intro v5 w5 hown5 hg5 hat5; have b5 := b4a.grown hg5 b4a.size (fun q hq => ownG_base HO4a.out hq); have HO5 := uH hown5; clear hown5 hg5 hat5; obtain ⟨A5, c5, rfl, hc5, hm5⟩ := ownG_form HO5.out)
  | fail)
 have HO6 : Hid (SgOwn w5 W.heap.size (.slice A5 (n + 1) c5) ys) := uH (by unfold SgOwn; rw [HLy.out, HFy.out]; exact HO5.out); have HN : Hid (∀ V B, SgOwn V B (.slice none 0 0) []) := uH (fun V B => World.ownsRow_nil _ _ _ _); have HS := uH (implSystemValid A5 (n + 1) c5 ys w5 (SgOwn.reads HO6.out HLy.out HG.out)); have b6 := below_next B1 b5; clear HO2 HO4 HO4a HO5 HR4 b5 b4 b4a b2 k0 k1 k2 g0 g1 g2 HG; cases hb : sysB ys with
 | false =>
  rw [hb] at HS; have HB := uH hb; clear hb; (go_wp2_with fail); refine HS.out.mono ?_; rintro e w7 ⟨rfl, hb7⟩; have b7 := below_next b6 hb7; go_wp2; go_returns; exact ⟨.inl ⟨HB.out, _, _, rfl, HN.out _ _⟩, b7⟩
 | true =>
  rw [hb] at HS; have HB := uH hb; clear hb; (go_wp2_with fail); refine HS.out.mono ?_; rintro e w7 ⟨rfl, hb7⟩; have b7 := below_next b6 hb7; have HO7 := uH (ownG_mono (ownG_keep HO6.out hb7) (Nat.le_of_lt z1)); go_wp2; go_returns; exact ⟨.inr ⟨HB.out, A5, c5, by rw [HLy.out]; rfl, by rw [HLy.out]; exact HO7.out⟩, b7⟩
end Go.Proofs.YtbkhnljaajajiaaGreatDoor
namespace Go.Proofs.YtbkhnljaajajiaaGreatDoor
open Go.ChangeShapes Go.WideShapes Go.ChangeAt Go.RowKit
theorem addRun2 {w V : World} {v : Value} {xs : List Br} {x : Br} (hV : Below w.heap.size w V) (hO : BrOwn V w.heap.size v xs) (hx : BrIn V V.heap.size x) (hsep : ∀ a, x.A = some a → v.ownBlock ≠ some a.block ∧ a.block < V.heap.size) (hn : xs.length ≤ 1000) :
  ∃ (A2 : Option Addr) (c2 : Nat) (w2 : World),
   (appZ #[26, 26] 26 #[v, .slice (some ⟨V.heap.size, 0, none⟩) 1 1]).run Tryz.prog (V.alloc (.cells #[.string (mkStr x.mark), .slice x.A x.n x.c] 34)) = .ok (.slice A2 (xs.length + 1) c2) w2 ∧
   BrOwn w2 w.heap.size (.slice A2 (xs.length + 1) c2) (xs ++ [x]) ∧ Below w.heap.size w w2 ∧ (∀ (p : Addr) (u : Value), V.cell? p = some u → v.ownBlock ≠ some p.block → w2.cell? p = some u) := by
 obtain ⟨i0, hi, hz0, hz1, hz2⟩ := info_parts infoBr; have hVz := hV.size; have hbox : Below V.heap.size V (V.alloc (.cells #[.string (mkStr x.mark), .slice x.A x.n x.c] 34)) := (Below.refl _ _).alloc (Nat.le_refl _) _; have hO2 := hO.keep hbox; have hnew := rowNewBr V (.string (mkStr x.mark)) (.slice x.A x.n x.c) 34; obtain ⟨v2, w2, g1, g2, g3, g4⟩ := run_append_any (P := Tryz.prog) (w := V.alloc (.cells #[.string (mkStr x.mark), .slice x.A x.n x.c] 34)) w.heap.size 26 26 34 i0 _ 2 40 Tryz.underlying26 hi hz0 hz1 hz2 rfl (by omega) v xs.length (xs.flatMap brC) hO2.1 _ (some ⟨V.heap.size, 0, none⟩) 1 1 [.string (mkStr x.mark), .slice x.A x.n x.c] hnew (by simp [Value.oneCell']) (by unfold maxLen; omega) (by omega) (by simp; omega); obtain ⟨A2, c2, rfl, _, _⟩ := ownG_form g2; have hb2 : ∀ q, v.ownBlock = some q → w.heap.size ≤ q := fun q hq => ownG_base hO.1 hq; exact ⟨A2, c2, w2, g1, BrOwn.push hO2 (x := x) (BrIn.keep hx hbox) (fun hp a ha => ⟨(hsep a ha).1, by simp; have := (hsep a ha).2; omega⟩) g2 g3 g4, (hV.alloc hVz _).grown g3 (by simp; omega) hb2, fun p u h hne => gcell g3 (kcell hbox h) hne⟩
def EndAdd2 (W : World) (L : List Bf) (k : Nat) (w2 : World) (A2 : Option Addr) (c2 : Nat) : Prop :=
 ∃ zs2 : List Br, zs2.length = k + 1 ∧ zs2.map Br.dat = L ∧ OkBs zs2 ∧ BrOwn w2 W.heap.size (.slice A2 (k + 1) c2) zs2 ∧ BrNew W.heap.size zs2 ∧ Below W.heap.size W w2
def EndAdd (W : World) (xs : List Br) (k : Nat) (w2 : World) (A2 : Option Addr) (c2 : Nat) : Prop := EndAdd2 W ((xs.map Br.dat).take (k + 1)) k w2 A2 c2
attribute [local go_sem ↓] appZ_eq
set_option maxHeartbeats 3200000 in
theorem implBriefsAdd (A : Option Addr) (n c : Nat) (xs : List Br) (y : Br) (w : World) (hn : n ≤ 500) (hX : OkBs (xs ++ [y])) (hm : y.n ≤ 1000) (hm1 : 1 ≤ y.n) (h : BrsIn w w.heap.size A n c xs) (hy : BrIn w w.heap.size y) :
  Calls Tryz.prog 165 #[.slice A n c, .agg #[.string (mkStr y.mark), .slice y.A y.n y.c]] w fun e w' => AddAns w' w.heap.size (addO (xs.map Br.dat) y.dat) e ∧ Below w.heap.size w w' := by
 have HL := uH h.1; have H := uH h; have HY := uH hy; have HX := uH hX; clear h hy hX; have b0 : Below w.heap.size w (w.alloc (.cells #[.string (mkStr y.mark), .slice y.A y.n y.c] 34)) := (Below.refl _ _).alloc (Nat.le_refl _) _; have HK0 := uH (newcell w #[.string (mkStr y.mark), .slice y.A y.n y.c] 34 0 _ rfl); have HK1 := uH (newcell w #[.string (mkStr y.mark), .slice y.A y.n y.c] 34 1 _ rfl); have hz0 : w.heap.size < (w.alloc (.cells #[.string (mkStr y.mark), .slice y.A y.n y.c] 34)).heap.size := (by simp); obtain ⟨W, hW⟩ : ∃ W, W = w.alloc (.cells #[.string (mkStr y.mark), .slice y.A y.n y.c] 34) := ⟨_, rfl⟩; rw [← hW] at b0 HK0 HK1 hz0; have H2 := uH (H.out.keep b0); have HY2 := uH (BrIn.keep HY.out b0); have HXs : Hid (OkBs xs) := uH (fun x hx => HX.out x (List.mem_append_left _ hx)); have HV := uH (implBriefsValid A n c xs W HXs.out H2.out); clear H HY; cases hv : brsB (xs.map Br.dat) with
 | false =>
  have HR : Hid (addO (xs.map Br.dat) y.dat = none) := uH (addO_no hv); rw [hv] at HV; clear hv; go_enter Tryz.func165, Tryz.ntmps165
  (go_wp2_with fail); rw [← hW]; clear hW; refine HV.out.mono ?_; rintro e w1 ⟨rfl, hb⟩; have b1 := below_next b0 hb; go_wp2; go_returns; exact ⟨.inl ⟨HR.out, _, _, rfl⟩, b1⟩
 | true =>
  have hn8 : n ≤ 8 := (by have := (brsB_iff.1 hv).1; rw [List.length_map, HL.out] at this; exact this); have HMn : Hid (∀ k, k < n → 1 ≤ (brAt xs k).n ∧ (brAt xs k).n ≤ 3) := uH (fun k hk => by
   have h1 := brsB_mem hv _ (bfAt_mem (bs := xs.map Br.dat) (k := k) (by rw [List.length_map, HL.out]; exact hk)); rw [brAt_dat (by rw [HL.out]; exact hk)] at h1; have h5 := bwB_len (bfB_iff.1 h1).2; have h4 := (H2.out.2.2.2.2 _ (brAt_mem (xs := xs) (k := k) (by rw [HL.out]; exact hk))).1; exact ⟨by rw [← h4]; exact h5.1, by rw [← h4]; exact h5.2⟩)
  rw [hv] at HV; clear hv; obtain ⟨i0, hi, hy0, hy1, hy2⟩ := info_parts infoBr; obtain ⟨cs, hcs, hmk⟩ : ∃ cs : Array Value, cs.size = (n + 1) * 2 ∧ ∀ W, (Instr.makeSlice 26 (.int .i64 0) (.int .i64 ((n : Int) + 1))).run Tryz.prog W = .ok (.slice (some ⟨W.heap.size, 0, none⟩) 0 (n + 1)) (W.alloc (.cells cs 34)) := ⟨_, (madeCells_size (Value.agg #[.string { data := #[] }, .slice none 0 0]).cells ((n + 1) * 2)), fun W => by
   have h := run_make_rowN (P := Tryz.prog) 26 34 i0 _ Tryz.underlying26 hi hy0 .i64 .i64 0 (n + 1) (by omega) (by rw [hy2]; omega) (by omega) W; rw [hy1] at h
   push_cast at h
   exact h⟩
  have hw1 : IntKind.i64.wrap ((n : Int) + 1) = (n : Int) + 1 := IntWalk.i64_in _ (by omega); have HCs := uH hcs; clear hcs; go_enter Tryz.func165, Tryz.ntmps165
  (go_wp2_with fail); rw [← hW]; clear hW; refine HV.out.mono ?_; rintro e w1 ⟨rfl, hb1⟩; have b1 := hb1; have HO0 : Hid (BrOwn (w1.alloc (.cells cs 34)) W.heap.size (.slice (some ⟨w1.heap.size, 0, none⟩) 0 (n + 1)) []) := uH ⟨World.ownsRow_made (base := W.heap.size) (e := 34) (size := 2) w1 cs (n + 1) b1.size (by unfold maxLen; omega) HCs.out, by simp⟩; have b2 : Below W.heap.size W (w1.alloc (.cells cs 34)) := b1.alloc b1.size _; clear hb1 b1 HV; go_wp2; clear hmk; go_loopw [6, 18] (fun s6 s18 wr => ∃ (k : Nat) (zs : List Br) (A6 : Option Addr) (c6 : Nat), k ≤ n ∧ s6 = .slice A6 k c6 ∧ s18 = .int .i64 k ∧ Hid (zs.length = k) ∧ Hid (zs.map Br.dat = (xs.map Br.dat).take k) ∧ Hid (OkBs zs) ∧ Hid (BrOwn wr W.heap.size (.slice A6 k c6) zs) ∧ Hid (BrNew W.heap.size zs) ∧ Below W.heap.size W wr) (fun _ s18 _ => n - (intOf s18).toNat)
  case atStart => exact ⟨0, [], _, n + 1, Nat.zero_le _, rfl, rfl, uH rfl, uH (by simp), uH (by intro x hx; simp at hx), HO0, uH (by intro x hx; simp at hx), b2⟩
  case round =>
   obtain ⟨k, zs, A6, c6, hk, rfl, rfl, HZl, HZd, HZs, HO, HNw, hb⟩ := hrel; have i1 : (0 : Int) ≤ (k : Int) := (by omega); have hzw := hb.size; by_cases hlt : k < n
   ·have i2 : (k : Int) < (n : Int) := (by omega); have hkx : k < xs.length := (by rw [HL.out]; exact hlt); obtain ⟨b, off, rfl, hbB, c0, c1, hI⟩ := (H2.out.keep hb).at_ hlt; have hmn := HMn.out k hlt; have hxm : brAt xs k ∈ xs ++ [y] := List.mem_append_left _ (brAt_mem hkx); have hsm := HX.out _ hxm; have hdk := brAt_dat hkx; have HD : Hid ((xs.map Br.dat).take (k + 1) = (xs.map Br.dat).take k ++ [(brAt xs k).dat]) := uH (by
     rw [List.take_succ_eq_append_getElem (by rw [List.length_map]; exact hkx), bfAt_get (bs := xs.map Br.dat) (k := k) (by rw [List.length_map]; exact hkx), hdk])
    have HS := uH hsm; clear hxm hkx hdk hsm; generalize brAt xs k = x at *; have ba : Below wr.heap.size wr (wr.alloc (.cells #[.string (mkStr x.mark), .slice x.A x.n x.c] 34)) := (Below.refl _ _).alloc (Nat.le_refl _) _; have m0 := newcell wr #[.string (mkStr x.mark), .slice x.A x.n x.c] 34 0 _ rfl; have m1 := newcell wr #[.string (mkStr x.mark), .slice x.A x.n x.c] 34 1 _ rfl; have HCl := uH (cloneWd1 x.A x.n x.c x.words _ hmn.1 (by omega) (BrIn.keep hI ba.drew)); have HO1 := uH (HO.out.keep ba.drew); have HB1 := uH (below_next hb ba.drew); have hza : wr.heap.size < (wr.alloc (.cells #[.string (mkStr x.mark), .slice x.A x.n x.c] 34)).drew.heap.size := (by show wr.heap.size < (wr.alloc _).heap.size; simp); have HVb : Hid (∀ q, (Value.slice A6 k c6).ownBlock = some q → q < wr.heap.size) := uH (fun q hq => ownG_lt HO.out.1 hq); have HXl : Hid (x.words.length = x.n) := uH hI.1; have HAdd : Hid (∀ (g5 c5 : Nat) (w5 : World), w5.ownsRow (wr.alloc (.cells #[.string (mkStr x.mark), .slice x.A x.n x.c] 34)).drew.heap.size 9 1 (.slice (some ⟨g5, 0, none⟩) x.n c5) x.n (x.words.map strP) → Below (wr.alloc (.cells #[.string (mkStr x.mark), .slice x.A x.n x.c] 34)).drew.heap.size (wr.alloc (.cells #[.string (mkStr x.mark), .slice x.A x.n x.c] 34)).drew w5 →
      ∃ (A2 : Option Addr) (c2 : Nat) (w2 : World), (appZ #[26, 26] 26 #[.slice A6 k c6, .slice (some ⟨w5.heap.size, 0, none⟩) 1 1]).run Tryz.prog (w5.alloc (.cells #[.string (mkStr x.mark), .slice (some ⟨g5, 0, none⟩) x.n c5] 34)) = .ok (.slice A2 (k + 1) c2) w2 ∧ (∀ (p : Addr) (u : Value), w5.cell? p = some u → (Value.slice A6 k c6).ownBlock ≠ some p.block → w2.cell? p = some u) ∧ EndAdd W xs k w2 A2 c2) := uH (fun g5 c5 w5 ho5 hb5 => by
     have ho6 : WdOwn w5 wr.heap.size (.slice (some ⟨g5, 0, none⟩) x.n c5) x.words := (by unfold WdOwn; rw [HXl.out]; exact ownG_mono ho5 (Nat.le_of_lt hza)); obtain ⟨A2, c2, w2, r2, o2, b2, k2⟩ := addRun2 (x := ⟨x.mark, some ⟨g5, 0, none⟩, x.n, c5, x.words⟩) (below_next HB1.out hb5) (HO1.out.keep hb5) (WdOwn.reads ho6 HXl.out) (fun a ha => by
      injection ha with ha; subst ha; have e1 := ownG_base ho5 rfl; have e2 := ownG_lt ho5 rfl; exact ⟨fun e => by have := HVb.out _ e; omega, e2⟩) (by rw [HZl.out]; omega)
     rw [HZl.out] at r2 o2; refine ⟨A2, c2, w2, r2, k2, _, by rw [List.length_append, HZl.out]; rfl, by rw [List.map_append, HZd.out, HD.out]; rfl, fun z hz => ?_, o2, fun z hz a ha => ?_, b2⟩
     ·rcases List.mem_append.1 hz with h | h
      ·exact HZs.out z h
      ·have h1 := HS.out; rw [List.mem_singleton] at h; rw [h]; exact ⟨h1.1, h1.2⟩
     ·rcases List.mem_append.1 hz with h | h
      ·exact HNw.out z h a ha
      ·rw [List.mem_singleton] at h; rw [h] at ha; injection ha with ha; subst ha; have e1 := ownG_base ho5 rfl; omega)
    have HNe : Hid ((Value.slice A6 k c6).ownBlock ≠ some wr.heap.size) := uH (fun e => by have := HVb.out _ e; omega); clear hI HO hb HO1 HB1 HVb HXl HZl HZd HZs HNw HD HS; (go_wp2_with fail); go_region_held3 (fun w' => w'.cell? ⟨wr.heap.size, 0, none⟩ = some (.string (mkStr x.mark)) ∧ w'.cell? ⟨wr.heap.size, 1, none⟩ = some (.slice x.A x.n x.c)) (first | (exact ⟨by assumption, by assumption⟩) | go_keep)
     (first
      | (go_at_call 210; refine HCl.out.mono ?_; rintro e w5 ⟨g5, c5, rfl, ho5, hg5, hb5⟩; have n0 := kcell hb5 m0; have n1 := kcell hb5 m1; obtain ⟨A2, c2, w2, r2, hk2, hE⟩ := HAdd.out g5 c5 w5 ho5 hb5; have p0 := hk2 _ _ n0 HNe.out; have p1 := hk2 _ _ n1 HNe.out))
    all_goals
     obtain ⟨zs2, z1, z2, z3, z4, z5, z6⟩ := hE; have Z1 := uH z1; have Z2 := uH z2; have Z3 := uH z3; have Z4 := uH z4; have Z5 := uH z5; clear z1 z2 z3 z4 z5 r2 hk2 p0 p1 HAdd HCl n0 n1 m0 m1 ba hb5 ho5 hg5 c0 c1; go_wp2; go_roundw
     case rel => exact ⟨k + 1, zs2, A2, c2, by omega, rfl, by go_num, Z1, Z2, Z3, Z4, Z5, z6⟩
     case measure => simp [intOf] <;> omega
   ·obtain rfl : k = n := (by omega); have m0 := kcell hb HK0.out; have m1 := kcell hb HK1.out; have hym : y ∈ xs ++ [y] := (by simp); have HS := uH (HX.out y hym); have HCl := uH (cloneWd1 y.A y.n y.c y.words _ hm1 (by omega) (BrIn.keep HY2.out (hb.drew))); have HB1 := uH hb.drew; have HO1 : Hid (BrOwn wr.drew W.heap.size (.slice A6 k c6) zs) := uH (HO.out.keep (Below.refl _ _).drew); have HVb : Hid (∀ q, (Value.slice A6 k c6).ownBlock = some q → q < wr.heap.size) := uH (fun q hq => ownG_lt HO.out.1 hq); have HXl : Hid (y.words.length = y.n) := uH HY2.out.1; have HAdd : Hid (∀ (g5 c5 : Nat) (w5 : World), w5.ownsRow wr.drew.heap.size 9 1 (.slice (some ⟨g5, 0, none⟩) y.n c5) y.n (y.words.map strP) → Below wr.drew.heap.size wr.drew w5 →
      ∃ (A2 : Option Addr) (c2 : Nat) (w2 : World), (appZ #[26, 26] 26 #[.slice A6 k c6, .slice (some ⟨w5.heap.size, 0, none⟩) 1 1]).run Tryz.prog (w5.alloc (.cells #[.string (mkStr y.mark), .slice (some ⟨g5, 0, none⟩) y.n c5] 34)) = .ok (.slice A2 (k + 1) c2) w2 ∧ (∀ (p : Addr) (u : Value), w5.cell? p = some u → (Value.slice A6 k c6).ownBlock ≠ some p.block → w2.cell? p = some u) ∧ EndAdd2 W (xs.map Br.dat ++ [y.dat]) k w2 A2 c2) := uH (fun g5 c5 w5 ho5 hb5 => by
     have ho6 : WdOwn w5 wr.heap.size (.slice (some ⟨g5, 0, none⟩) y.n c5) y.words := (by unfold WdOwn; rw [HXl.out]; exact ho5); obtain ⟨A2, c2, w2, r2, o2, b2, k2⟩ := addRun2 (x := ⟨y.mark, some ⟨g5, 0, none⟩, y.n, c5, y.words⟩) (below_next HB1.out hb5) (HO1.out.keep hb5) (WdOwn.reads ho6 HXl.out) (fun a ha => by
      injection ha with ha; subst ha; have e1 := ownG_base ho5 rfl; have e2 := ownG_lt ho5 rfl; exact ⟨fun e => by have := HVb.out _ e; have : wr.drew.heap.size = wr.heap.size := rfl; omega, e2⟩) (by rw [HZl.out]; omega)
     rw [HZl.out] at r2 o2; refine ⟨A2, c2, w2, r2, k2, _, by rw [List.length_append, HZl.out]; rfl, by rw [List.map_append, HZd.out, List.take_of_length_le (by rw [List.length_map, HL.out]; exact Nat.le_refl _)]; rfl, fun z hz => ?_, o2, fun z hz a ha => ?_, b2⟩
     ·rcases List.mem_append.1 hz with h | h
      ·exact HZs.out z h
      ·have h1 := HS.out; rw [List.mem_singleton] at h; rw [h]; exact ⟨h1.1, h1.2⟩
     ·rcases List.mem_append.1 hz with h | h
      ·exact HNw.out z h a ha
      ·rw [List.mem_singleton] at h; rw [h] at ha; injection ha with ha; subst ha; have e1 := ownG_base ho5 rfl; have : wr.drew.heap.size = wr.heap.size := rfl; omega)
    have bd : Below wr.heap.size wr wr.drew := (Below.refl _ _).drew; have HNe : Hid ((Value.slice A6 k c6).ownBlock ≠ some w.heap.size) := uH (fun e => by have h1 := ownG_base HO.out.1 e; omega); clear HO hb HO1 HB1 HVb HXl HZl HZd HZs HNw HS hym; (go_wp2_with fail); go_region_held3 (fun w' => w'.cell? ⟨w.heap.size, 0, none⟩ = some (.string (mkStr y.mark)) ∧ w'.cell? ⟨w.heap.size, 1, none⟩ = some (.slice y.A y.n y.c)) (first | (exact ⟨by assumption, by assumption⟩) | go_keep)
     (first
      | (go_at_call 210; refine HCl.out.mono ?_; rintro e w5 ⟨g5, c5, rfl, ho5, hg5, hb5⟩; have n0 := kcell (below_next bd hb5) m0; have n1 := kcell (below_next bd hb5) m1; obtain ⟨A2, c2, w2, r2, hk2, hE⟩ := HAdd.out g5 c5 w5 ho5 hb5; have p0 := hk2 _ _ n0 HNe.out; have p1 := hk2 _ _ n1 HNe.out))
    all_goals
     obtain ⟨zs2, z1, z2, z3, z4, z5, z6⟩ := hE; have Z1 := uH z1; have Z2 := uH z2; have Z4 := uH z4; have Z5 := uH z5; have HVa := uH (implBriefsValid A2 (k + 1) c2 zs2 w2 z3 (z4.reads z1)); rw [z2] at HVa; have b3 := below_next b0 z6; have HO3 : Hid (∀ w3, Below w2.heap.size w2 w3 → BrOwn w3 w.heap.size (.slice A2 (k + 1) c2) zs2) := uH (fun w3 h3 => by
      have := Z4.out.keep h3; exact ⟨ownG_mono this.1 (Nat.le_of_lt hz0), this.2⟩)
     have HNw3 : Hid (BrNew w.heap.size zs2) := uH (fun z hz a ha => by have := Z5.out z hz a ha; omega); clear z1 z2 z3 z4 z5 r2 hk2 p0 p1 HAdd HCl n0 n1 m0 m1 hb5 ho5 hg5 z6 Z4 Z5; cases hv : brsB (xs.map Br.dat ++ [y.dat]) with
     | false =>
      have HR : Hid (addO (xs.map Br.dat) y.dat = none) := uH (by unfold addO; rw [hv]; rfl); rw [hv] at HVa; clear hv; (go_wp2_with fail); refine HVa.out.mono ?_; rintro e w6 ⟨rfl, hb6⟩; have b6 := below_next b3 hb6; go_wp2; go_returns; exact ⟨.inl ⟨HR.out, _, _, rfl⟩, b6⟩
     | true =>
      have HR : Hid (addO (xs.map Br.dat) y.dat = some (zs2.map Br.dat)) := uH (by unfold addO; rw [hv, Z2.out]; rfl); rw [hv] at HVa; clear hv; (go_wp2_with fail); refine HVa.out.mono ?_; rintro e w6 ⟨rfl, hb6⟩; have b6 := below_next b3 hb6; have HFin : Hid (AddAns w6 w.heap.size (addO (xs.map Br.dat) y.dat) (.returned (.tuple #[.slice A2 (k + 1) c2, .bool true]))) := uH (.inr ⟨A2, c2, zs2, HR.out, by rw [Z1.out], by rw [Z1.out]; exact HO3.out w6 hb6, HNw3.out⟩); go_wp2; go_returns; exact ⟨HFin.out, b6⟩
end Go.Proofs.YtbkhnljaajajiaaGreatDoor
namespace Go.Proofs.YtbkhnljaajajiaaGreatDoor
open Go.ChangeShapes Go.WideShapes Go.ChangeAt Go.RowKit Go.Shelf
def putAt (cur : Array Value) (o : Nat) (cs : List Value) : Array Value := (cur.toList.take o ++ cs ++ cur.toList.drop (o + cs.length)).toArray
theorem run_copy_any {P : Program} (sz : Nat) (w : World) (dT sT ty elem : TypeId) (g o dLen dCap : Nat) (a : Addr) (sLen sCap : Nat) (cur : Array Value) (t : TypeId) (cs : List Value)
  (hu : P.underlying dT = some (.slice elem)) (hs : (P.info? elem).map (·.size) = some sz)
  (hg : w.heap[g]? = some (.cells cur t (0, 0))) (k : Nat) (hk : Nat.min sLen dLen = k) (hn : cs.length = k * sz)
  (hsrc : ∀ j v, cs[j]? = some v → w.cell? (a.add j) = some v) (hfit : o + cs.length ≤ cur.size) (h1 : ∀ v ∈ cs, v.oneCell' = true) :
  (Builtin.copy_ #[dT, sT] ty #[.slice (some ⟨g, o, none⟩) dLen dCap, .slice (some a) sLen sCap]).run P w = .ok (goInt k) (w.setRow g (putAt cur o cs)) := by
 have hl := run_loadCells_list (P := P) w a cs hsrc; have hst := run_storeCells_at P g o t cs 0 cur w hg (by simpa using hfit) h1; rw [hn] at hl; unfold putAt; cases hq : P.info? elem with
 | none => simp [hq] at hs
 | some i =>
  have hi : i.size = sz := (by simpa [hq] using hs); simp only [Nat.add_zero] at hst; simp [Builtin.copy_, run_underlying hu, Builtin.lenOf, Builtin.firstCells, sizeOf, typeInfo, hq, hi, hk, hl, hst]
theorem putAt_size {cur : Array Value} {o : Nat} {cs : List Value} (h : o + cs.length ≤ cur.size) : (putAt cur o cs).size = cur.size := by
 unfold putAt; simp only [List.size_toArray, List.length_append, List.length_take, List.length_drop, Array.length_toList]; omega
theorem own_of_row {W : World} {B g n cap sz : Nat} {E : TypeId} {R : Array Value} {T rest : List Value} (hB : B ≤ g) (h : W.heap[g]? = some (.cells R E (0, 0))) (hn : n ≤ cap) (hc : cap ≤ maxLen) (hs : R.size = cap * sz) (ht : T.length = n * sz) (hr : R.toList = T ++ rest) :
  W.ownsRow B E sz (.slice (some ⟨g, 0, none⟩) n cap) n T :=
 ⟨ht, .inr ⟨g, cap, R, rfl, hB, h, hn, hc, hs, by rw [hr, ← ht]; exact List.take_left⟩⟩
theorem put_shift {cur : Array Value} {xs vs : List Value} {n i sz : Nat} (ht : cur.toList.take (n * sz) = xs) (hv : vs.length = sz) (hi : i ≤ n) (hc : (n + 1) * sz ≤ cur.size) :
  ∃ rest, (putAt (putAt cur ((i + 1) * sz) (xs.drop (i * sz))) (i * sz) vs).toList = (xs.take (i * sz) ++ vs ++ xs.drop (i * sz)) ++ rest := by
 have e1 : (i + 1) * sz = i * sz + sz := (by rw [Nat.add_mul, Nat.one_mul]); have hin : i * sz ≤ n * sz := Nat.mul_le_mul_right _ hi; have e3 : (n + 1) * sz = n * sz + sz := (by rw [Nat.add_mul, Nat.one_mul]); rw [e3] at hc; have hcl : cur.toList.length = cur.size := Array.length_toList; have hcx : cur.toList = xs ++ cur.toList.drop (n * sz) := (by rw [← ht]; exact (List.take_append_drop _ _).symm); unfold putAt; simp only [e1]; generalize i * sz = a at *; generalize n * sz = b at *; have hk : (cur.toList.take (a + sz)).length = a + sz := (by rw [List.length_take]; omega); have t1 : (cur.toList.take (a + sz) ++ xs.drop a ++ cur.toList.drop (a + sz + (xs.drop a).length)).take a = xs.take a := by
  rw [List.append_assoc, List.take_append_of_le_length (by omega), List.take_take, Nat.min_eq_left (by omega), ← ht, List.take_take, Nat.min_eq_left hin]
 have t2 : (cur.toList.take (a + sz) ++ xs.drop a ++ cur.toList.drop (a + sz + (xs.drop a).length)).drop (a + vs.length) = xs.drop a ++ cur.toList.drop (a + sz + (xs.drop a).length) := by
  rw [hv, List.append_assoc]; exact List.drop_left' hk
 refine ⟨cur.toList.drop (a + sz + (xs.drop a).length), ?_⟩; rw [t1, t2, ← List.append_assoc]
theorem put_grow {R : Array Value} {xs vs rest : List Value} {n i sz : Nat} (hR : R.toList = xs.take (i * sz) ++ rest) (hx : xs.length = n * sz) (hv : vs.length = sz) (hi : i ≤ n) :
  ∃ rest, (putAt (putAt R (i * sz) vs) ((i + 1) * sz) (xs.drop (i * sz))).toList = (xs.take (i * sz) ++ vs ++ xs.drop (i * sz)) ++ rest := by
 have e1 : (i + 1) * sz = i * sz + sz := (by rw [Nat.add_mul, Nat.one_mul]); have hin : i * sz ≤ n * sz := Nat.mul_le_mul_right _ hi; unfold putAt; simp only [e1]; generalize i * sz = a at *; generalize n * sz = b at *; have hl : (xs.take a).length = a := (by rw [List.length_take]; omega); have t0 : R.toList.take a = xs.take a := (by rw [hR]; exact List.take_left' hl); have hl2 : (xs.take a ++ vs).length = a + sz := (by rw [List.length_append, hl, hv]); have t1 : (xs.take a ++ vs ++ R.toList.drop (a + vs.length)).take (a + sz) = xs.take a ++ vs := List.take_left' hl2; refine ⟨(xs.take a ++ vs ++ R.toList.drop (a + vs.length)).drop (a + sz + (xs.drop a).length), ?_⟩; rw [t0, t1]
theorem only_setRow {w W : World} {g : Nat} (h : w.grownBy W (some g)) (cs : Array Value) : w.grownBy (W.setRow g cs) (some g) :=
 ⟨h.os, h.tape, h.output, by simpa using h.size, fun k hk hne => (setRow_other W g k cs (fun e => hne (by rw [e]))).trans (h.block k hk hne)⟩
theorem from_at (g k c sz : Nat) (h : c ≠ k) : fromA (some ⟨g, 0, none⟩) k c sz = some ⟨g, k * sz, none⟩ := by
 unfold fromA; rw [if_neg h]; simp [Addr.add_lit]
end Go.Proofs.YtbkhnljaajajiaaGreatDoor
namespace Go.Proofs.YtbkhnljaajajiaaGreatDoor
open Go.ChangeShapes Go.WideShapes Go.ChangeAt Go.RowKit Go.Shelf Go.Lib
theorem infoInsPad : ∃ i : TypeInfo, Tryz.prog.info? 53 = some i ∧ i.zero = some (.agg #[.int .i64 0, .string ByteArray.empty]) ∧ i.size = 2 ∧ i.bytes = 24 := ⟨_, by rfl, by rfl, by rfl, by rfl⟩
theorem sizeOfPad : ∀ w, (Go.sizeOf 53).run Tryz.prog w = .ok 2 w := fun w => by kernel_rfl
theorem apartPad (w : World) (g o vb n c lb cb : Nat) (cur vs : Array Value) (h : Blk w g 53 cur) (hv : Blk w vb 53 vs) (hs : cur.size ≠ 0) (hne : vb ≠ g) :
  (callFunc 229 #[.slice (some ⟨vb, 0, none⟩) n c, .slice (some ⟨g, o, none⟩) lb cb]).run Tryz.prog w = .ok (.value (.bool false)) w := by
 rw [run_callFunc_extern Tryz.func229 (by kernel_rfl) (by kernel_rfl) (by kernel_rfl) (e := Extern.SlicesOverlaps.overlaps #[46, 46] #[4]) (by kernel_rfl),
  Lib.run_overlaps_apart w 46 4 53 Tryz.underlying46 2 sizeOfPad ⟨vb, 0, none⟩ ⟨g, o, none⟩ n c lb cb hne 53 53 vs.size cur.size (by unfold Blk at hv; simp [World.shape?, hv]) (by unfold Blk at h; simp [World.shape?, h]) hs (hv.free _) (hv.free _)]
 rfl
def InsAnsPad (w w' : World) (B : Nat) (v : Value) (n i : Nat) (xs vs : List Value) (e : Ending) : Prop :=
 ∃ v', e = .returned v' ∧ w'.ownsRow B 53 2 v' (n + 1) (xs.take (i * 2) ++ vs ++ xs.drop (i * 2)) ∧ w.grownBy w' v.ownBlock ∧ (v'.ownBlock = v.ownBlock ∨ v'.ownBlock = some w.heap.size)
set_option maxHeartbeats 1000000 in
theorem insEndPad (A : Option Addr) (n c vb B : Nat) (xs vs : List Value) (w : World) (hn : n ≤ 1048576) (hB : B ≤ w.heap.size) (hO : w.ownsRow B 53 2 (.slice A n c) n xs) (hR : Row w w.heap.size (some ⟨vb, 0, none⟩) 1 2 vs) (h1v : ∀ u ∈ vs, u.oneCell' = true) :
  Calls Tryz.prog 192 #[.slice A n c, .int .i64 n, .slice (some ⟨vb, 0, none⟩) 1 1] w fun e w' => InsAnsPad w w' B (.slice A n c) n n xs vs e := by
 obtain ⟨i0, hi, hz0, hz1, hz2⟩ := infoInsPad; have hsl : ∀ W, (Instr.slice 46 (.slice A n c) (some (.int .i64 (n : Int))) none none).run Tryz.prog W = .ok (.slice (fromA A n c 2) (n - n) (c - n)) W := fun W => run_from elemPads sizePad A n c n (Nat.le_refl _) W; have hx := hO.1; go_enter Tryz.func192, Tryz.ntmps192
 go_wp2_with (at_builtin; refine wpList_append_any _ rfl (.tmp 23) (.tmp 24) _ rfl B 53 i0 _ 2 24 Tryz.underlying46 hi hz0 hz1 hz2 rfl (by omega) _ n xs rfl hO w.heap.size (some ⟨vb, 0, none⟩) 1 1 vs rfl hR h1v (by unfold maxLen; omega) (by omega) hB ?_; intro v2 w2 hown2 hg2 hat2)
 go_ret; refine ⟨v2, rfl, ?_, hg2, hat2⟩; rw [List.take_of_length_le (by omega), List.drop_of_length_le (by omega), List.append_nil]; exact hown2
set_option maxHeartbeats 1000000 in
theorem insShiftPad (g n c i vb B : Nat) (xs vs : List Value) (cur : Array Value) (w : World) (hi : i < n) (hn : n ≤ 1048576) (hc : n + 1 ≤ c) (hcm : c ≤ 9223372036854775807) (hB : B ≤ g) (hne : vb ≠ g) (hC : Blk w g 53 cur) (hcs : cur.size = c * 2) (ht : cur.toList.take (n * 2) = xs)
  (hV : Blk w vb 53 vs.toArray) (hvl : vs.length = 2) (h1 : ∀ u ∈ xs, u.oneCell' = true) (h1v : ∀ u ∈ vs, u.oneCell' = true) :
  Calls Tryz.prog 192 #[.slice (some ⟨g, 0, none⟩) n c, .int .i64 i, .slice (some ⟨vb, 0, none⟩) 1 1] w fun e w' => InsAnsPad w w' B (.slice (some ⟨g, 0, none⟩) n c) n i xs vs e := by
 obtain ⟨i0, hi0, hz0, hz1, hz2⟩ := infoInsPad; have hxl : xs.length = n * 2 := (by rw [← ht, List.length_take, Array.length_toList]; omega); have hsz : (Tryz.prog.info? 53).map (·.size) = some 2 := (by rw [hi0]; simp [hz1]); have hdl : (xs.drop (i * 2)).length = (n - i) * 2 := (by rw [List.length_drop, hxl]; omega); have hgs : ∀ k, k < n * 2 → cur[k]? = xs[k]? := (fun k hk => by rw [← ht, List.getElem?_take_of_lt hk]; simp); have hov : ∀ o lb cb, (callFunc 229 #[.slice (some ⟨vb, 0, none⟩) 1 1, .slice (some ⟨g, o, none⟩) lb cb]).run Tryz.prog w = .ok (.value (.bool false)) w := fun o lb cb => apartPad w g o vb 1 1 lb cb cur _ hC hV (by omega) hne; obtain ⟨R1, hR1⟩ : ∃ R1, R1 = putAt cur ((i + 1) * 2) (xs.drop (i * 2)) := ⟨_, rfl⟩; obtain ⟨R2, hR2⟩ : ∃ R2, R2 = putAt R1 (i * 2) vs := ⟨_, rfl⟩; have hs1 : R1.size = c * 2 := (by rw [hR1, putAt_size (by rw [hdl]; omega)]; exact hcs); have hs2 : R2.size = c * 2 := (by rw [hR2, putAt_size (by rw [hvl]; omega)]; exact hs1); have hcp1 : ∀ ty dc sc, (Builtin.copy_ #[46, 46] ty #[.slice (some ⟨g, (i + 1) * 2, none⟩) (n - i) dc, .slice (some ⟨g, i * 2, none⟩) (n + 1 - i) sc]).run Tryz.prog w.drew = .ok (goInt (n - i : Nat)) (w.drew.setRow g R1) := fun ty dc sc => by
  rw [hR1]; exact run_copy_any 2 w.drew _ _ ty 53 g ((i + 1) * 2) (n - i) dc ⟨g, i * 2, none⟩ (n + 1 - i) sc cur 53 (xs.drop (i * 2)) Tryz.underlying46 hsz hC (n - i) (by simp only [Nat.min_def]; split <;> omega) hdl
   (fun j u hj => by
    rw [List.getElem?_drop] at hj; have hlt := (List.getElem?_eq_some_iff.1 hj).1; rw [Addr.add_lit]
    show w.cell? _ = _
    rw [hC.cell, hgs _ (by omega)]; exact hj)
   (by rw [hdl]; omega) (fun u hu => h1 u (List.mem_of_mem_drop hu))
 have hcp2 : ∀ (W : World), W.heap = (w.setRow g R1).heap → ∀ ty dc, (Builtin.copy_ #[46, 46] ty #[.slice (some ⟨g, i * 2, none⟩) (n + 1 - i) dc, .slice (some ⟨vb, 0, none⟩) 1 1]).run Tryz.prog W = .ok (goInt (1 : Nat)) (W.setRow g R2) := fun W hW ty dc => by
  have hV1 : Blk W vb 53 vs.toArray := (by unfold Blk; rw [hW, setRow_other w g vb R1 hne]; exact hV); rw [hR2]; exact run_copy_any 2 W _ _ ty 53 g (i * 2) (n + 1 - i) dc ⟨vb, 0, none⟩ 1 1 R1 53 vs Tryz.underlying46 hsz (by rw [hW]; exact setRow_heap w g cur R1 53 (0, 0) hC) 1 (by simp only [Nat.min_def]; split <;> omega) (by omega)
   (fun j u hj => by rw [Addr.add_lit, hV1.cell]; simpa using hj) (by omega) h1v
 have hs0 : ∀ W, (Instr.slice 46 (.slice (some ⟨g, 0, none⟩) n c) (some (.int .i64 (i : Int))) none none).run Tryz.prog W = .ok (.slice (fromA (some ⟨g, 0, none⟩) i c 2) (n - i) (c - i)) W := fun W => run_from elemPads sizePad _ n c i (by omega) W; have hsA : ∀ W, (Instr.slice 46 (.slice (some ⟨g, 0, none⟩) n c) none (some (.int .i64 ((n : Int) + 1))) none).run Tryz.prog W = .ok (.slice (some ⟨g, 0, none⟩) (n + 1) c) W := fun W => run_upto elemPads sizePad g 0 n c (n + 1) hc W; have hsB : ∀ W, (Instr.slice 46 (.slice (some ⟨g, 0, none⟩) (n + 1) c) (some (.int .i64 ((i : Int) + 1))) none none).run Tryz.prog W = .ok (.slice (some ⟨g, (i + 1) * 2, none⟩) (n - i) (c - (i + 1))) W := fun W => by
  rw [← from_at g (i + 1) c 2 (by omega), show n - i = n + 1 - (i + 1) by omega]; exact run_from elemPads sizePad _ (n + 1) c (i + 1) (by omega) W
 have hsC : ∀ W, (Instr.slice 46 (.slice (some ⟨g, 0, none⟩) (n + 1) c) (some (.int .i64 (i : Int))) none none).run Tryz.prog W = .ok (.slice (some ⟨g, i * 2, none⟩) (n + 1 - i) (c - i)) W := fun W => by
  rw [← from_at g i c 2 (by omega)]; exact run_from elemPads sizePad _ (n + 1) c i (by omega) W
 have hw1 : IntKind.i64.wrap ((i : Int) + 1) = (i : Int) + 1 := IntWalk.i64_in _ (by omega); have hw2 : IntKind.i64.wrap ((n : Int) + 1) = (n : Int) + 1 := IntWalk.i64_in _ (by omega); have hin2 : ¬ ((i : Int) = (n : Int)) := (by omega); have HP := uH (put_shift (i := i) ht hvl (by omega) (by omega)); have HO : Hid (∀ W : World, W.heap = ((w.setRow g R1).setRow g R2).heap → W.ownsRow B 53 2 (.slice (some ⟨g, 0, none⟩) (n + 1) c) (n + 1) (xs.take (i * 2) ++ vs ++ xs.drop (i * 2))) := uH (fun W hW => by
  obtain ⟨rest, hr⟩ := HP.out; rw [← hR1, ← hR2] at hr; refine own_of_row hB (by rw [hW]; exact setRow_heap _ g R1 R2 53 (0, 0) (setRow_heap w g cur R1 53 (0, 0) hC)) hc (by unfold maxLen; omega) hs2 ?_ hr; rw [List.length_append, List.length_append, List.length_take, List.length_drop, hxl, hvl]; omega)
 clear hR1 hR2 HP hs1 hs2 hgs hdl ht hC hV; go_enter Tryz.func192, Tryz.ntmps192
 go_wp2_with (simp only [hov])
 go_region_law (refine step_copy_runI rfl (.tmp 73) (.tmp 76) 46 46 rfl (.slice (some ⟨g, (i + 1) * 2, none⟩) (n - i) (c - (i + 1))) (.slice (some ⟨g, i * 2, none⟩) (n + 1 - i) (c - i)) (by simp [Act.eval, Act.put]) (by simp [Act.eval, Act.put]) (hcp1 _ _ _) ?_)
 have hcp3 := fun ty dc => hcp2 (w.drew.setRow g R1) rfl ty dc; go_wp2_with (simp only [hcp3])
 go_ret; exact ⟨_, rfl, HO.out _ rfl, only_setRow (only_setRow (Below.only (Below.refl _ _).drew) R1) R2, .inl rfl⟩
set_option maxHeartbeats 1000000 in
theorem insGrowPad (g n c i vb B : Nat) (xs vs : List Value) (cur : Array Value) (w : World) (hi : i < n) (hn : n ≤ 1048576) (hnc : n ≤ c) (hc : c < n + 1) (hB : B ≤ w.heap.size) (hC : Blk w g 53 cur) (hcs : cur.size = c * 2) (ht : cur.toList.take (n * 2) = xs)
  (hV : Blk w vb 53 vs.toArray) (hvl : vs.length = 2) (h1 : ∀ u ∈ xs, u.oneCell' = true) (h1v : ∀ u ∈ vs, u.oneCell' = true) :
  Calls Tryz.prog 192 #[.slice (some ⟨g, 0, none⟩) n c, .int .i64 i, .slice (some ⟨vb, 0, none⟩) 1 1] w fun e w' => InsAnsPad w w' B (.slice (some ⟨g, 0, none⟩) n c) n i xs vs e := by
 obtain ⟨i0, hi0, hz0, hz1, hz2⟩ := infoInsPad; have hxl : xs.length = n * 2 := (by rw [← ht, List.length_take, Array.length_toList]; omega); have hsz : (Tryz.prog.info? 53).map (·.size) = some 2 := (by rw [hi0]; simp [hz1]); have hdl : (xs.drop (i * 2)).length = (n - i) * 2 := (by rw [List.length_drop, hxl]; omega); have htl : (xs.take (i * 2)).length = i * 2 := (by rw [List.length_take, hxl]; omega); have hgs : ∀ k, k < n * 2 → cur[k]? = xs[k]? := (fun k hk => by rw [← ht, List.getElem?_take_of_lt hk]; simp); have hgl := hC.lt; have hvb := hV.lt; have hold : (Builtin.firstCells i0.size i (.slice (some ⟨g, 0, none⟩) i c)).run Tryz.prog w.drew = .ok (xs.take (i * 2)).toArray w.drew := by
  rw [hz1]; exact run_firstCells_some w.drew 2 i ⟨g, 0, none⟩ i c (xs.take (i * 2)) htl (fun j u hj => by
   rw [Addr.add_lit]; rw [List.getElem?_take] at hj; split at hj
   ·show w.cell? _ = _
    rw [hC.cell, hgs _ (by omega)]; simpa using hj
   ·cases hj)
 have hkk : (n : Int) + 1 - (i : Int) = ((n + 1 - i : Nat) : Int) := (by omega); have hik : i + (n + 1 - i) = n + 1 := (by omega); obtain ⟨G, hG⟩ : ∃ G, G = grownCap w (n + 1) c 53 := ⟨_, rfl⟩; obtain ⟨ROW, hROW⟩ : ∃ ROW : Array Value, ROW = (xs.take (i * 2)).toArray ++ Builtin.zeroCells (Value.cells (.agg #[.int .i64 0, .string ByteArray.empty])) (n + 1 - i) ++ Builtin.zeroCells (Value.cells (.agg #[.int .i64 0, .string ByteArray.empty])) (G - (n + 1)) := ⟨_, rfl⟩; have hGn : n + 1 ≤ G := (by rw [hG]; exact grownCap_ge w _ _ _); have hGm : G ≤ maxLen := (by rw [hG]; exact grownCap_le_maxLen w (n + 1) c 53 (by unfold maxLen; omega)); have hRs : ROW.size = G * 2 := by
  rw [hROW]; simp only [Array.size_append, List.size_toArray, htl, size_zeroCells]
  show i * 2 + (n + 1 - i) * 2 + (G - (n + 1)) * 2 = G * 2
  omega
 obtain ⟨W1, hW1⟩ : ∃ W1, W1 = w.drew.alloc (.cells ROW 53) := ⟨_, rfl⟩; have hrz : ∀ ty, (Builtin.append_ #[46, 3] ty #[.slice (some ⟨g, 0, none⟩) i c, .int .i64 ((n : Int) + 1 - (i : Int))]).run Tryz.prog w = .ok (.slice (some ⟨w.heap.size, 0, none⟩) (n + 1) G) W1 := fun ty => by
  have h := Lib.run_append_grow_zeros w 46 3 ty 53 i0 _ .i64 .i64 Tryz.underlying46 Tryz.underlying3 hi0 hz0 (some ⟨g, 0, none⟩) i c (xs.take (i * 2)) hold (n + 1 - i) (by omega) (by omega) (by omega) (by omega) (by rw [hz2]; omega) (by rw [hz2, hik]; exact growslice_fits hc (by omega)); rw [hik, ← hG, ← hROW, ← hW1] at h; rw [hkk]; exact h
 have hNB : Blk W1 w.heap.size 53 ROW := (by rw [hW1]; exact Blk.new w.drew _ _); have hbel : Below w.heap.size w W1 := (by rw [hW1]; exact (Below.refl _ _).drew.alloc (Nat.le_refl _) _); have hV1 := hV.below hbel; have hC1 := hC.below hbel; obtain ⟨R1, hR1⟩ : ∃ R1, R1 = putAt ROW (i * 2) vs := ⟨_, rfl⟩; obtain ⟨R2, hR2⟩ : ∃ R2, R2 = putAt R1 ((i + 1) * 2) (xs.drop (i * 2)) := ⟨_, rfl⟩; have hs1 : R1.size = G * 2 := (by rw [hR1, putAt_size (by rw [hvl]; omega)]; exact hRs); have hs2 : R2.size = G * 2 := (by rw [hR2, putAt_size (by rw [hdl]; omega)]; exact hs1); have hcp1 : ∀ ty dc, (Builtin.copy_ #[46, 46] ty #[.slice (some ⟨w.heap.size, i * 2, none⟩) (n + 1 - i) dc, .slice (some ⟨vb, 0, none⟩) 1 1]).run Tryz.prog W1 = .ok (goInt (1 : Nat)) (W1.setRow w.heap.size R1) := fun ty dc => by
  rw [hR1]; exact run_copy_any 2 W1 _ _ ty 53 w.heap.size (i * 2) (n + 1 - i) dc ⟨vb, 0, none⟩ 1 1 ROW 53 vs Tryz.underlying46 hsz hNB 1 (by simp only [Nat.min_def]; split <;> omega) (by omega)
   (fun j u hj => by rw [Addr.add_lit, hV1.cell]; simpa using hj) (by omega) h1v
 have hcp2 : ∀ ty dc sc, (Builtin.copy_ #[46, 46] ty #[.slice (some ⟨w.heap.size, (i + 1) * 2, none⟩) (n - i) dc, .slice (some ⟨g, i * 2, none⟩) (n - i) sc]).run Tryz.prog (W1.setRow w.heap.size R1).drew = .ok (goInt (n - i : Nat)) ((W1.setRow w.heap.size R1).drew.setRow w.heap.size R2) := fun ty dc sc => by
  have hC2 : Blk (W1.setRow w.heap.size R1) g 53 cur := (by unfold Blk; rw [setRow_other _ _ _ _ (by omega)]; exact hC1); rw [hR2]; exact run_copy_any 2 (W1.setRow w.heap.size R1).drew _ _ ty 53 w.heap.size ((i + 1) * 2) (n - i) dc ⟨g, i * 2, none⟩ (n - i) sc R1 53 (xs.drop (i * 2)) Tryz.underlying46 hsz (setRow_heap W1 _ ROW R1 53 (0, 0) hNB) (n - i) (by simp) hdl
   (fun j u hj => by
    rw [List.getElem?_drop] at hj; have hlt := (List.getElem?_eq_some_iff.1 hj).1; rw [Addr.add_lit]
    show (W1.setRow w.heap.size R1).cell? _ = _
    rw [hC2.cell, hgs _ (by omega)]; exact hj)
   (by rw [hdl]; omega) (fun u hu => h1 u (List.mem_of_mem_drop hu))
 have hsA : ∀ W, (Instr.slice 46 (.slice (some ⟨g, 0, none⟩) n c) (some (.int .i64 (i : Int))) none none).run Tryz.prog W = .ok (.slice (some ⟨g, i * 2, none⟩) (n - i) (c - i)) W := fun W => by
  rw [← from_at g i c 2 (by omega)]; exact run_from elemPads sizePad _ n c i (by omega) W
 have hsB : ∀ W, (Instr.slice 46 (.slice (some ⟨g, 0, none⟩) n c) none (some (.int .i64 (i : Int))) none).run Tryz.prog W = .ok (.slice (some ⟨g, 0, none⟩) i c) W := fun W => run_upto elemPads sizePad g 0 n c i (by omega) W; have hsC : ∀ W, (Instr.slice 46 (.slice (some ⟨w.heap.size, 0, none⟩) (n + 1) G) (some (.int .i64 ((i : Int) + 1))) none none).run Tryz.prog W = .ok (.slice (some ⟨w.heap.size, (i + 1) * 2, none⟩) (n - i) (G - (i + 1))) W := fun W => by
  rw [← from_at w.heap.size (i + 1) G 2 (by omega), show n - i = n + 1 - (i + 1) by omega]; exact run_from elemPads sizePad _ (n + 1) G (i + 1) (by omega) W
 have hsD : ∀ W, (Instr.slice 46 (.slice (some ⟨w.heap.size, 0, none⟩) (n + 1) G) (some (.int .i64 (i : Int))) none none).run Tryz.prog W = .ok (.slice (some ⟨w.heap.size, i * 2, none⟩) (n + 1 - i) (G - i)) W := fun W => by
  rw [← from_at w.heap.size i G 2 (by omega)]; exact run_from elemPads sizePad _ (n + 1) G i (by omega) W
 have hw1 : IntKind.i64.wrap ((i : Int) + 1) = (i : Int) + 1 := IntWalk.i64_in _ (by omega); have hw2 : IntKind.i64.wrap ((n : Int) + 1) = (n : Int) + 1 := IntWalk.i64_in _ (by omega); have hw3 : IntKind.i64.wrap ((n : Int) + 1 - (i : Int)) = (n : Int) + 1 - (i : Int) := IntWalk.i64_in _ (by omega); have hin2 : ¬ ((i : Int) = (n : Int)) := (by omega); have hcn : (c : Int) < (n : Int) + 1 := (by omega); have HO : Hid (((W1.setRow w.heap.size R1).drew.setRow w.heap.size R2).ownsRow B 53 2 (.slice (some ⟨w.heap.size, 0, none⟩) (n + 1) G) (n + 1) (xs.take (i * 2) ++ vs ++ xs.drop (i * 2))) := uH (by
  obtain ⟨rest, hr⟩ := put_grow (R := ROW) (xs := xs) (vs := vs) (n := n) (i := i) (sz := 2) (rest := (Builtin.zeroCells (Value.cells (.agg #[.int .i64 0, .string ByteArray.empty])) (n + 1 - i)).toList ++ (Builtin.zeroCells (Value.cells (.agg #[.int .i64 0, .string ByteArray.empty])) (G - (n + 1))).toList) (by rw [hROW]; simp) hxl hvl (by omega); rw [← hR1, ← hR2] at hr; refine own_of_row hB (setRow_heap _ _ R1 R2 53 (0, 0) (setRow_heap W1 _ ROW R1 53 (0, 0) hNB)) hGn hGm hs2 ?_ hr; rw [List.length_append, List.length_append, htl, hdl, hvl]; omega)
 have HB : Hid (∀ row, w.grownBy ((W1.setRow w.heap.size R1).drew.setRow w.heap.size R2) row) := uH (fun row => Below.only (below_setRow (below_setRow hbel (Nat.le_refl _) R1).drew (Nat.le_refl _) R2)); clear hR1 hR2 hs1 hs2 hgs hdl ht hC hV hROW hG hRs hW1 hNB hbel hV1 hC1 hold hkk hik htl; unfold maxLen at hGm; generalize hNe : w.heap.size = N at *; have HN := uH hNe; clear hNe; go_enter Tryz.func192, Tryz.ntmps192
 go_wp2_with (first | (at_builtin; refine Lib.wpList_append_run _ rfl _ _ _ _ rfl _ _ rfl rfl _ _ (hrz _) ?_) | (simp only [hcp1]))
 go_region_law (refine step_copy_runI rfl (.tmp 50) (.tmp 53) 46 46 rfl (.slice (some ⟨N, (i + 1) * 2, none⟩) (n - i) (G - (i + 1))) (.slice (some ⟨g, i * 2, none⟩) (n - i) (c - i)) (by simp [Act.eval, Act.put]) (by simp [Act.eval, Act.put]) (hcp2 _ _ _) ?_)
 go_wp2; go_ret; exact ⟨_, rfl, HO.out, HB.out _, .inr (by rw [HN.out]; rfl)⟩
theorem insertPad (v : Value) (n i vb B : Nat) (xs vs : List Value) (w : World) (hi : i ≤ n) (hn : n ≤ 1048576) (hB : B ≤ w.heap.size) (hO : w.ownsRow B 53 2 v n xs) (hV : Blk w vb 53 vs.toArray) (hne : v.ownBlock ≠ some vb) (hvl : vs.length = 2) (h1 : ∀ u ∈ xs, u.oneCell' = true) (h1v : ∀ u ∈ vs, u.oneCell' = true) :
  Calls Tryz.prog 192 #[v, .int .i64 i, .slice (some ⟨vb, 0, none⟩) 1 1] w fun e w' => InsAnsPad w w' B v n i xs vs e := by
 by_cases hin : i = n
 ·subst hin; obtain ⟨A, c, rfl, _, _⟩ := own_form hO; exact insEndPad A i c vb B xs vs w hn hB hO ⟨by omega, fun _ => ⟨vb, 0, rfl, hV.lt, fun j u hu => by rw [Nat.zero_add, hV.cell]; simpa using hu⟩⟩ h1v
 ·rcases hO.2 with ⟨_, h0⟩ | ⟨g, c, cur, rfl, hBg, hg, hnc, hcm, hcs, ht⟩
  ·omega
  ·have hvg : vb ≠ g := fun e => hne (by rw [e]; rfl); by_cases hc : n + 1 ≤ c
   ·exact insShiftPad g n c i vb B xs vs cur w (by omega) hn hc (by unfold maxLen at hcm; omega) hBg hvg hg hcs ht hV hvl h1 h1v
   ·exact insGrowPad g n c i vb B xs vs cur w (by omega) hn hnc (by omega) hB hg hcs ht hV hvl h1 h1v
end Go.Proofs.YtbkhnljaajajiaaGreatDoor
namespace Go.Proofs.YtbkhnljaajajiaaGreatDoor
open Go.ChangeShapes Go.WideShapes Go.ChangeAt Go.RowKit
theorem turn_nodup {ls : List Leaf} {l' : Leaf} {k S : Nat} (h : (ls.filterMap (·.v.ownBlock)).Nodup) (hb : ∀ m ∈ ls, ∀ b, m.v.ownBlock = some b → b < S) (hn : ∀ b, l'.v.ownBlock = some b → S ≤ b) : ((ls.set k l').filterMap (·.v.ownBlock)).Nodup := by
 have h1 := List.pairwise_filterMap.1 h; refine List.pairwise_filterMap.2 (List.pairwise_iff_getElem.2 fun i j hi hj hij b e b' e' => ?_); rw [List.length_set] at hi hj; rw [List.getElem_set] at e e'; split at e
 ·split at e'
  ·omega
  ·have := hn b e; have := hb _ (List.getElem_mem hj) b' e'; omega
 ·split at e'
  ·have := hn b' e'; have := hb _ (List.getElem_mem hi) b e; omega
  ·exact List.pairwise_iff_getElem.1 h1 i j hi hj hij b e b' e'
theorem TreeIn.turn2 {w w1 : World} {B t k : Nat} {v v2 : Value} {ls : List Leaf} {l : Leaf} {ps2 : List Pad} (h : TreeIn w B t v ls) (hl : ls[k]? = some l) (hg : w.grownBy w1 l.v.ownBlock) (hO : PadsOwn w1 B v2 ps2) (hv : ∀ b, v2.ownBlock = some b → w.heap.size ≤ b) (hgood : ∀ p ∈ ps2, p.good) :
  TreeIn (w1.setCell ⟨l.g, 0, none⟩ v2) B t v (ls.set k ⟨l.g, v2, ps2⟩) := by
 have hlm := List.mem_of_getElem? hl; have hlI := h.2.2.2.1 l hlm; have hkl : k < ls.length := (List.getElem?_eq_some_iff.1 hl).1; have hty : ∀ {b : Nat} {cs : Array Value} {ty : TypeId}, Blk w b ty cs → ty ≠ 53 → Blk w1 b ty cs := fun {b cs ty} hb hne =>
  (hg.block b hb.lt (fun e => hb.ne_own hlI.2.2.1 (fun e => hne e.symm) e.symm)).trans hb
 have hleaf1 : Blk w1 l.g 192 #[l.v] := hty hlI.2.1 (by decide); have hrow : ∀ b, v.ownBlock = some b → (w1.setCell ⟨l.g, 0, none⟩ v2).heap[b]? = w.heap[b]? := fun b hb => by
  obtain ⟨cur, h1⟩ := own_obj h.2.2.1 hb; have h2 : Blk w1 b 134 cur := hty h1 (by decide); rw [Below.heap_setCell w1 _ v2 b (h2.ne_blk hleaf1 (by decide))]; exact h2.trans h1.symm
 refine ⟨h.1, ?_, own_congr ?_ hrow, ?_, ?_, ?_⟩
 ·have h2 := hty h.2.1 (by decide); exact (Below.heap_setCell w1 _ v2 t (h2.ne_blk hleaf1 (by decide))).trans h2
 ·rw [List.length_set, set_map_same Leaf.ptr ls k l ⟨l.g, v2, ps2⟩ hl rfl]; exact h.2.2.1
 ·intro m hm; obtain ⟨j, hj⟩ := List.getElem?_of_mem hm; by_cases hjk : j = k
  ·subst hjk; rw [List.getElem?_set_self hkl] at hj; injection hj with hj; subst hj; refine ⟨hlI.1, by simpa using hleaf1.set 0 v2, own_congr hO (fun b hb => Below.heap_setCell w1 _ v2 b ?_), hgood⟩; rintro rfl; exact hleaf1.ne_own hO (by decide) hb
  ·rw [List.getElem?_set_ne (fun e => hjk e.symm)] at hj; have hmI := h.2.2.2.1 m (List.mem_of_getElem? hj); have hm1 := hty hmI.2.1 (by decide); refine hmI.congr ?_ (fun b hb => ?_)
   ·rw [Below.heap_setCell w1 _ v2 m.g (g_apart h.2.2.2.2.1 hj hl hjk)]; exact hm1.trans hmI.2.1.symm
   ·obtain ⟨cur, h1⟩ := own_obj hmI.2.2.1 hb; have h2 : w1.heap[b]? = w.heap[b]? := hg.block b (own_lt hmI.2.2.1 hb) (fun e => own_apart h.2.2.2.2.2 hj hl hjk hb e.symm); rw [Below.heap_setCell w1 _ v2 b (by rintro rfl; exact (show Blk w1 l.g 53 cur from h2.trans h1).ne_blk hleaf1 (by decide) rfl)]; exact h2
 ·rw [set_map_same (·.g) ls k l ⟨l.g, v2, ps2⟩ hl rfl]; exact h.2.2.2.2.1
 ·exact turn_nodup h.2.2.2.2.2 (fun m hm b hb => own_lt (h.2.2.2.1 m hm).2.2.1 hb) hv
end Go.Proofs.YtbkhnljaajajiaaGreatDoor
namespace Go.Proofs.YtbkhnljaajajiaaGreatDoor
open Go.ChangeShapes Go.WideShapes Go.ChangeAt Go.RowKit Go.Shelf
set_option maxHeartbeats 1000000 in
theorem leafPut (t k : Nat) (v : Value) (ls : List Leaf) (l : Leaf) (B : Nat) (p : Pad) (w : World) (hB : B ≤ w.heap.size) (h : TreeIn w B t v ls) (hl : ls[k]? = some l) (hn : l.ps.length ≤ 1048575) (hs : sortedOK l.ps) (hp : p.good) :
  Calls Tryz.prog 138 #[.pointer (some ⟨l.g, 0, none⟩), padVal p] w fun e w' => e = .returned (.tuple #[]) ∧ Below B w w' ∧ ∃ v2, TreeIn w' B t v (ls.set k ⟨l.g, v2, ins l.ps p (putIdx l.ps p)⟩) := by
 have hlI := h.2.2.2.1 l (List.mem_of_getElem? hl); obtain ⟨A, c, e1, hnc, hcm⟩ := own_form hlI.2.2.1; have hal : Below w.heap.size w (w.alloc (.cells #[.int .i64 p.day, .string p.case] 53)) := (Below.refl _ _).alloc (Nat.le_refl _) _; have hO := hlI.2.2.1; have hbk := hlI.2.1; rw [e1] at hO hbk; have k0 : (w.alloc (.cells #[.int .i64 p.day, .string p.case] 53)).cell? ⟨l.g, 0, none⟩ = some (.slice A l.ps.length c) := Lib.cell?_alloc_some _ (hbk.cell 0); have HB : Hid (∀ W, Below w.heap.size w W → Calls Tryz.prog 191 #[.slice A l.ps.length c, .agg #[.int .i64 p.day, .string p.case], .func (.func 146) #[] #[]] W fun e w' => e = .returned (.tuple #[.int .i64 (putIdx l.ps p), .bool (bsB l.ps p)]) ∧ Below W.heap.size W w') := uH (fun W hW => bsearchV A _ c l.ps p W (by omega) hs ((hO.keep hW).reads rfl hlI.2.2.2)); have HT := uH h; have HL := uH hl; have HI := uH hlI; have hpi := putIdx_le l.ps p; have p0 := newcell w #[.int .i64 p.day, .string p.case] 53 0 _ rfl; have p1 := newcell w #[.int .i64 p.day, .string p.case] 53 1 _ rfl; have r0 := qcell p0; have r1 := qcell p1; have r2 := qcell k0; clear h hl hlI hO hbk; unfold padVal; generalize putIdx l.ps p = q at *; generalize bsB l.ps p = bb at *; go_enter Tryz.func138, Tryz.ntmps138
 (go_wp2_with fail); refine region_qb (by kernel_rfl) (by kernel_rfl) ?_; repeat (first | go_big_quiet_step ((go_at_call 191; exact quietB (HB.out _ (hal.trans ((below_regrown _ _ _).mono (by simp)))))) | quiet_step ((go_at_call 191; exact quietB (HB.out _ (hal.trans ((below_regrown _ _ _).mono (by simp)))))))
 refine wpQuiet_nil ?_; intro w3 hb3; have b3 := hal.trans (hb3.mono (by simp)); have s0 := kcell hb3 p0; have s1 := kcell hb3 p1; have s2 := kcell hb3 k0; have hT3 := HT.out.below b3; have hlI3 := hT3.2.2.2.1 l (List.mem_of_getElem? HL.out); have hO3 := hlI3.2.2.1; have hbk3 := hlI3.2.1; have hf3 := hbk3.free 0; rw [e1] at hO3; have ha4 : Below w3.heap.size w3 (w3.drew.alloc (.cells #[.int .i64 p.day, .string p.case] 53)) := (Below.refl _ _).drew.alloc (Nat.le_refl _) _; have hc4 : w3.drew.cell? ⟨l.g, 0, none⟩ = some (.slice A l.ps.length c) ∧ w3.drew.frozen? ⟨l.g, 0, none⟩ = false := ⟨s2, hf3⟩; have hc5 := keepAlloc hc4 (.cells #[.int .i64 p.day, .string p.case] 53); have hro : (Value.slice A l.ps.length c).ownBlock ≠ some l.g := hbk3.ne_own hO3 (by decide); have HIn := uH (insertPad (.slice A l.ps.length c) l.ps.length q w3.heap.size B (l.ps.flatMap padC) [.int .i64 p.day, .string p.case] (w3.drew.alloc (.cells #[.int .i64 p.day, .string p.case] 53)) hpi (by omega) (Nat.le_trans hB (b3.trans (ha4.mono b3.size)).size) (PadsOwn.keep hO3 ha4) (Blk.new w3.drew _ _) (fun e => by have := own_lt hO3 e; omega) rfl padC_one (by simp [Value.oneCell'])); have n5 : (w3.alloc (.cells #[.int .i64 p.day, .string p.case] 53)).cell? ⟨l.g, 0, none⟩ = some (.slice A l.ps.length c) := hc5.1; have m5 : (w3.alloc (.cells #[.int .i64 p.day, .string p.case] 53)).cell? ⟨w.heap.size, 0, none⟩ = some (.int .i64 p.day) := Lib.cell?_alloc_some _ s0; have HO3 := uH hO3; have HG4 := uH (b3.trans (ha4.mono b3.size)); clear hT3 hlI3 hO3 hbk3 p0 p1 k0 r0 r1 r2 HB hb3; (go_wp2_with fail); go_region_law (go_simp; go_at_call 192; refine HIn.out.mono ?_; rintro e w5 ⟨v5, rfl, hO5, hg5, hv5⟩; obtain ⟨A5, c5, rfl, _, _⟩ := own_form hO5; have hc6 := keepCell hg5 hro hc5; have n6 := hc6.1; have f6 := hc6.2; dsimp only)
 all_goals (
  have hgr : w.grownBy w5 l.v.ownBlock := (by rw [e1]; exact only_next (Below.only HG4.out) hg5); have hpo : PadsOwn w5 B (.slice A5 (l.ps.length + 1) c5) (ins l.ps p q) := by
   rw [flat_take padC_len, flat_drop padC_len] at hO5; unfold PadsOwn; rw [ins_len]; unfold ins; rw [List.flatMap_append, List.flatMap_cons]; simpa [padC, List.append_assoc] using hO5
  have hgd : ∀ x ∈ ins l.ps p q, x.good := fun x hx => by
   unfold ins at hx; rcases List.mem_append.1 hx with hx | hx
   ·exact HI.out.2.2.2 x (List.mem_of_mem_take hx)
   ·rcases List.mem_cons.1 hx with rfl | hx
    ·exact hp
    ·exact HI.out.2.2.2 x (List.mem_of_mem_drop hx)
  have hbl : Below B w (w5.setCell ⟨l.g, 0, none⟩ (.slice A5 (l.ps.length + 1) c5)) := ((HG4.out.mono hB).grown hg5 (Nat.le_trans hB HG4.out.size) (fun z hz => own_base HO3.out hz)).setCell HI.out.1 _; have hT5 : TreeIn (w5.setCell ⟨l.g, 0, none⟩ (.slice A5 (l.ps.length + 1) c5)) B t v (ls.set k ⟨l.g, .slice A5 (l.ps.length + 1) c5, ins l.ps p q⟩) := by
   rcases hv5 with hv5 | hv5
   ·exact TreeIn.turn HT.out HL.out hgr hpo (by rw [e1]; exact hv5) hgd
   ·exact TreeIn.turn2 HT.out HL.out hgr hpo (fun b hb => by rw [hv5] at hb; injection hb with hb; rw [← hb]; exact HG4.out.size) hgd
  have HT5 := uH hT5; have HB5 := uH hbl; clear hT5 hbl hgd hpo hgr hO5 hg5 hv5; go_wp2; go_returns; exact ⟨rfl, HB5.out, _, HT5.out⟩)
end Go.Proofs.YtbkhnljaajajiaaGreatDoor
