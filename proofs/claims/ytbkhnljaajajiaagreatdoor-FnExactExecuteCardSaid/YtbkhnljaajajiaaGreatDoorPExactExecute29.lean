/-
  Contracts and plain laws that the proof of the law ExactExecute leans on. Conditions: as each says.
-/
import Derived.Test.YtbkhnljaajajiaaGreatDoorPExactExecute00
import Derived.Test.YtbkhnljaajajiaaGreatDoorPExactExecute04
import Derived.Test.YtbkhnljaajajiaaGreatDoorPExactExecute06
import Derived.Test.YtbkhnljaajajiaaGreatDoorPExactExecute11
import Derived.Test.YtbkhnljaajajiaaGreatDoorPExactExecute17
import Derived.Test.YtbkhnljaajajiaaGreatDoorPExactExecute21
import Derived.Test.YtbkhnljaajajiaaGreatDoorPExactExecute23
import Derived.Test.YtbkhnljaajajiaaGreatDoorPExactExecute24
import Derived.Test.YtbkhnljaajajiaaGreatDoorPExactExecute25
import Derived.Test.YtbkhnljaajajiaaGreatDoorPExactExecute26
import Derived.Test.YtbkhnljaajajiaaGreatDoorPExactExecute27
import Derived.Test.YtbkhnljaajajiaaGreatDoorPExactExecute28
import Derived.Lib.AppendIntMem
import Derived.Deep.RegionHeld3
set_option maxRecDepth 100000
set_option linter.unusedSimpArgs false
set_option linter.unusedVariables false
set_option linter.unnecessarySimpa false
namespace Go.Proofs.YtbkhnljaajajiaaGreatDoor
open Go.ChangeShapes Go.WideShapes Go.ChangeAt Go.RowKit
theorem cutB_ne (d : UInt8) (l : List UInt8) : cutB d l ≠ [] := by
 unfold cutB; have : ∀ (l cur : List UInt8), cutQ d cur l ≠ [] := by
  intro l; induction l with
  | nil => intro cur; simp [cutQ]
  | cons c r ih => intro cur; rw [cutQ]; split <;> simp [ih]
 exact this l []
def linesOf (l : List UInt8) : List (List UInt8) := (cutB 10 l).dropLast
def whole (l : List UInt8) : Prop := l = [] ∨ ∃ a, l = a ++ [10]
theorem runS_app : ∀ (a b : List Wd) (s : St), runS s (a ++ b) = ((runS (runS s a).1 b).1, (runS s a).2 ++ (runS (runS s a).1 b).2)
 | [], _, _ => rfl
 | l :: r, b, s => by
  rw [List.cons_append, runS, runS_app r b, runS]; simp only [List.append_assoc]
theorem runS_one (s : St) (l : Wd) : runS s [l] = lineS s (cutB 32 l) := by
 rw [runS, runS]; simp only [List.append_nil]
theorem runS_ok : ∀ (ls : List Wd) (s : St), s.ok → (runS s ls).1.ok
 | [], _, h => h
 | l :: r, s, h => by rw [runS]; exact runS_ok r _ (lineS_ok _ h)
theorem exec_yes {l : Wd} (h : l.length ≤ 500) : exec l = (runS st0 (linesOf l)).2 ++ endS (runS st0 (linesOf l)).1 := by
 unfold exec; rw [if_neg (by omega)]; rfl
theorem exec_no {l : Wd} (h : 500 < l.length) : exec l = sayLong := by unfold exec; rw [if_pos h]
def TabP (w : World) : Prop := Lib.TabIs Tryz.prog w "internal/strconv.uint64pow10" .u64 Lib.pow10Tab
theorem TabP.keep {w w' : World} (h : TabP w) (hb : Below w.heap.size w w') : TabP w' := Lib.tabBelow_of_tabIs h w' hb
theorem itoaDay (d : Int) (w : World) (h0 : 0 ≤ d) (h1 : d ≤ 9223372036854775807) (hT : TabP w) :
  Calls Tryz.prog 50 #[.int .i64 d] w fun e w' => e = .returned (.string (mkStr (Lib.decDigits d.toNat))) ∧ Below w.heap.size w w' := by
 refine (Tryz.strconv_Itoa d (by omega) h1 w hT).mono ?_; rintro e w' ⟨rfl, k, os, rfl⟩; refine ⟨?_, ?_⟩
 ·unfold Lib.itoa; rw [if_neg (by omega)]; rfl
 ·exact Lib.below_grow _ _ (Nat.le_refl _) _ _
theorem grown_cell {W W' : World} {row : Option Nat} {a : Addr} {u : Value} (hg : W.grownBy W' row) (hne : row ≠ some a.block) (h : W.cell? a = some u) : W'.cell? a = some u := by
 have hlt := World.block_lt_of_cell? _ _ h; unfold World.cell? at h ⊢; rw [hg.block _ hlt (fun e => hne e.symm)]; exact h
theorem infoStrT : (Tryz.prog.info? 9).map (fun i => (i.zero, i.size, i.bytes)) = some (some (.string ByteArray.empty), 1, 16) := by kernel_rfl
theorem rowStrT (w : World) (u : Value) (t : TypeId) : Row (w.alloc (.cells #[u] t)) (w.heap.size + 1) (some ⟨w.heap.size, 0, none⟩) 1 1 [u] :=
 ⟨rfl, fun _ => ⟨w.heap.size, 0, rfl, by omega, fun j x hx => by
  rcases j with _ | j
  ·simp at hx; subst hx; exact newcell w #[u] t 0 u rfl
  ·simp at hx⟩⟩
theorem dec_len20 (d : Int) (h0 : 0 ≤ d) (h1 : d ≤ 9999) : (Lib.decDigits d.toNat).length ≤ 20 := by
 rw [Lib.decDigits_length]; exact Lib.nDigits_le20 _ (by omega)
theorem ret_bytes {a b : List UInt8} (h : a = b) : Ending.returned (.string (mkStr a)) = .returned (.string (mkStr b)) := by rw [h]
def dayV (p : Pad) : Value := .string (mkStr (dayT p))
set_option maxHeartbeats 1600000 in
theorem leafText (g : Nat) (A : Option Addr) (n c : Nat) (ps : List Pad) (w : World) (hc : w.cell? ⟨g, 0, none⟩ = some (.slice A n c)) (hP : PadsIn w w.heap.size A n c ps) (hok : ∀ p ∈ ps, okP p = true) (h4 : n ≤ 4) (hT : TabP w) :
  Calls Tryz.prog 82 #[.pointer (some ⟨g, 0, none⟩)] w fun e w' => e = .returned (.string (mkStr (drawT ps))) ∧ Below w.heap.size w w' := by
 have HL := uH hP.1; have hm := hP.2.2.1; have hnc := hP.2.1; unfold maxLen at hm; have H := uH hP; clear hP; have HOk := uH hok; clear hok; have HT := uH hT; clear hT; obtain ⟨i0, hi, hz0, hz1, hz2⟩ := info_parts infoStrT; have hc2 := kcell ((Below.refl w.heap.size w).alloc (Nat.le_refl _) (.cells #[] 9)) hc; go_enter Tryz.func82, Tryz.ntmps82
 go_wp2; go_loopw [3, 12] (fun v i wr => ∃ k : Nat, k ≤ n ∧ i = .int .i64 k ∧ Hid (wr.ownsRow w.heap.size 9 1 v k ((ps.take k).map dayV)) ∧ Below w.heap.size w wr) (fun _ i _ => n - (intOf i).toNat)
 case atStart =>
  refine ⟨0, Nat.zero_le _, rfl, uH ?_, (Below.refl _ _).alloc (Nat.le_refl _) _⟩; exact World.ownsRow_made w #[] 0 (Nat.le_refl _) (by simp) (by simp)
 case round =>
  obtain ⟨k, hk, rfl, HO, hb⟩ := hrel; have hz := hb.size; by_cases hlt : k < n
  ·have hkl : k < ps.length := (by rw [HL.out]; exact hlt); obtain ⟨b, off, eA, hbB, c0, c1, _⟩ := (H.out.keep hb).at_ hlt; have hpo := HOk.out (padAt ps k) (padAt_mem hkl); obtain ⟨hd0, hd1, hcl⟩ := ok_case hpo; have hal : Below wr.heap.size wr (wr.alloc (.cells #[.int .i64 (padAt ps k).day, .string (padAt ps k).case] 53)) := (Below.refl _ _).alloc (Nat.le_refl _) _; have bA := hb.alloc hz (.cells #[.int .i64 (padAt ps k).day, .string (padAt ps k).case] 53); have p0 := newcell wr #[.int .i64 (padAt ps k).day, .string (padAt ps k).case] 53 0 (.int .i64 (padAt ps k).day) rfl; have p1 := newcell wr #[.int .i64 (padAt ps k).day, .string (padAt ps k).case] 53 1 (.string (padAt ps k).case) rfl; have HIt : Hid (∀ W, Below w.heap.size w W → Calls Tryz.prog 50 #[.int .i64 (padAt ps k).day] W fun e w' => e = .returned (.string (mkStr (Lib.decDigits (padAt ps k).day.toNat))) ∧ Below W.heap.size W w') := uH (fun W hW => itoaDay _ W hd0 (by omega) (HT.out.keep hW)); have hdl := dec_len20 (padAt ps k).day hd0 hd1; have hadd1 : ∀ W', (Op.stringOp .add (mkStr (Lib.decDigits (padAt ps k).day.toNat)) { data := #[58] }).run Tryz.prog W' = .ok (.string (mkStr (Lib.decDigits (padAt ps k).day.toNat ++ [58]))) W' := fun W' => run_add _ [58] (by simp; omega) W'; have hadd2 : ∀ W', (Op.stringOp .add (mkStr (Lib.decDigits (padAt ps k).day.toNat ++ [58])) (padAt ps k).case).run Tryz.prog W' = .ok (.string (mkStr (dayT (padAt ps k)))) W' := fun W' => by
    have h := run_add (P := Tryz.prog) (Lib.decDigits (padAt ps k).day.toNat ++ [58]) (padAt ps k).case.data.toList (by rw [List.length_append, List.length_singleton]; omega) W'; rw [mkStr_self] at h; rw [h]; unfold dayT; rw [List.append_assoc]
   have HSt : Hid ((ps.take (k + 1)).map dayV = (ps.take k).map dayV ++ [.string (mkStr (dayT (padAt ps k)))]) := uH (by rw [padTake hkl, List.map_append]; rfl); have HOA := uH (HO.out.alloc (.cells #[.int .i64 (padAt ps k).day, .string (padAt ps k).case] 53)); have HI2 : Hid (∀ W, Below (wr.alloc (.cells #[.int .i64 (padAt ps k).day, .string (padAt ps k).case] 53)).heap.size (wr.alloc (.cells #[.int .i64 (padAt ps k).day, .string (padAt ps k).case] 53)) W → Calls Tryz.prog 50 #[.int .i64 (padAt ps k).day] W fun e w3 => e = .returned (.string (mkStr (Lib.decDigits (padAt ps k).day.toNat))) ∧ Hid (w3.ownsRow w.heap.size 9 1 u3 k ((ps.take k).map dayV)) ∧ Below w.heap.size w w3 ∧ w3.cell? ⟨wr.heap.size, 0, none⟩ = some (.int .i64 (padAt ps k).day) ∧ w3.cell? ⟨wr.heap.size, 1, none⟩ = some (.string (padAt ps k).case) ∧ (∀ o, (w3.alloc o).cell? ⟨wr.heap.size, 0, none⟩ = some (.int .i64 (padAt ps k).day)) ∧ ∀ o, (w3.alloc o).cell? ⟨wr.heap.size, 1, none⟩ = some (.string (padAt ps k).case)) := uH (fun W hW => (HIt.out W (below_step bA bA.size hW)).mono fun e w3 ⟨he, hb3⟩ => by
    have h3 := below_next hW hb3; have q0 := kcell h3 p0; have q1 := kcell h3 p1; exact ⟨he, uH (ownG_keep HOA.out h3), below_step bA bA.size h3, q0, q1, fun o => kcell ((Below.refl _ _).alloc (Nat.le_refl _) o) q0, fun o => kcell ((Below.refl _ _).alloc (Nat.le_refl _) o) q1⟩)
   have HNe : Hid (u3.ownBlock ≠ some wr.heap.size) := uH (fun e => Nat.lt_irrefl _ (ownG_lt HO.out e)); subst eA; clear hkl HO hpo hcl hdl HIt; generalize mkStr (Lib.decDigits (padAt ps k).day.toNat ++ [58]) = t1 at *; generalize mkStr (Lib.decDigits (padAt ps k).day.toNat) = t0 at *; generalize mkStr (dayT (padAt ps k)) = t2 at *; generalize padAt ps k = p at *; generalize (ps.take k).map dayV = L at *; (go_wp2_with fail); go_region_held3 (fun w' => w'.cell? ⟨wr.heap.size, 0, none⟩ = some (.int .i64 p.day) ∧ w'.cell? ⟨wr.heap.size, 1, none⟩ = some (.string p.case)) (first | exact ⟨by assumption, by assumption⟩ | go_keep) (first
    | (go_at_call 50; refine (HI2.out _ (Below.refl _ _).drew).mono ?_; rintro e w3 ⟨rfl, HO3, b3, k0, k1, l0, l1⟩; have hz3 := b3.size)
    | ((refine step_append_any _ rfl (.tmp 16) (.tmp 24) _ rfl w.heap.size 9 i0 _ 1 16 Tryz.underlying27 hi hz0 hz1 hz2 rfl (by omega) u3 k L rfl (HO3.out.alloc _) (w3.heap.size + 1) (some ⟨w3.heap.size, 0, none⟩) 1 1 [.string t2] rfl (rowStrT _ _ _) (by simp [Value.oneCell']) (by unfold maxLen; omega) (by omega) (by simp; omega) ?_; intro v4 w4 hown4 hg4 hat4; have m0 := grown_cell hg4 HNe.out (l0 _); have m1 := grown_cell hg4 HNe.out (l1 _))))
   all_goals (
    have HO4 : Hid (w4.ownsRow w.heap.size 9 1 v4 (k + 1) ((ps.take (k + 1)).map dayV)) := uH (by rw [HSt.out]; exact hown4); have b4 : Below w.heap.size w w4 := (b3.alloc hz3 _).grown hg4 (by simp; omega) (fun z hz => ownG_base HO3.out hz); clear hown4 hg4 hat4 HO3 k0 k1 l0 l1 m0 m1; go_wp2; go_roundw
    case rel => exact ⟨k + 1, by omega, by go_num, HO4, b4⟩
    case measure => simp [intOf]; omega)
  ·obtain rfl : n = k := (by omega); rw [List.take_of_length_le (by rw [HL.out]; exact Nat.le_refl _)] at HO; obtain ⟨A4, c4, rfl, hc4, hm4⟩ := ownG_form HO.out; have HJ : Hid (Calls Tryz.prog 73 #[.slice A4 n c4, .string { data := #[32] }] wr fun e w' => e = .returned (.string (mkStr (drawT ps))) ∧ Below wr.heap.size wr w') := uH (by
    have hO := HO.out; have hle := HL.out; by_cases h0 : n = 0
    ·have hps : ps = [] := List.length_eq_zero_iff.1 (hle.trans h0); subst hps h0; exact (Tryz.strings_Join_none A4 c4 _ wr).mono fun e w' ⟨he, hw⟩ => ⟨by rw [he]; unfold drawT; rw [List.map_nil, Lib.join_nil]; rfl, by rw [hw]; exact Below.refl _ _⟩
    ·obtain ⟨g, cap, hv, _, hlt⟩ := hO.form (by omega); have hA : A4 = some ⟨g, 0, none⟩ := (by injection hv); subst hA; have hS : (ps.map fun p => mkStr (dayT p)).length = n := (by rw [List.length_map]; exact hle); have hJ := Tryz.strings_Join g 0 c4 (ps.map fun p => mkStr (dayT p)) { data := #[32] } wr (fun j x hx => by
      rw [List.getElem?_map] at hx; cases hd : ps[j]? with
      | none => rw [hd] at hx; cases hx
      | some d =>
       rw [hd] at hx; injection hx with hx; subst hx; have : wr.cell? (Addr.add ⟨g, 0, none⟩ j) = some (.string (mkStr (dayT d))) := hO.cells (g := g) rfl j (dayV d) (by rw [List.getElem?_map, hd]; rfl); by_cases hj0 : j = 0
       ·subst hj0; simpa [Addr.add] using this
       ·simpa [Addr.add, hj0] using this) hlt (by rw [hS]; omega) (by rw [hS]; exact hc4) (by
      have := drawT_len HOk.out; unfold drawT at this; rw [show (ps.map fun p => mkStr (dayT p)).map (·.data.toList) = ps.map dayT by rw [List.map_map]; rfl]
      show (Lib.join (ps.map dayT) [32]).length ≤ _
      omega)
     rw [hS] at hJ; rw [show (ps.map fun p => mkStr (dayT p)).map (·.data.toList) = ps.map dayT by rw [List.map_map]; rfl] at hJ; exact hJ)
   clear HO; (go_wp2_with fail); refine HJ.out.mono ?_; rintro e w3 ⟨rfl, hb3⟩; have b3 := below_next hb hb3; go_wp2; go_returns; exact ⟨rfl, b3⟩
theorem cabTxt_step {css : List (List Pad)} {k : Nat} {ps : List Pad} (h : css[k]? = some ps) : cabTxt (css.take (k + 1)) = cabTxt (css.take k) ++ (drawT ps ++ [10]) := by
 rw [take_step h, cabTxt_app]; unfold cabTxt; simp
theorem cabTxt_bd {css : List (List Pad)} (h : cabOK css) (k : Nat) : (cabTxt (css.take k)).length ≤ 822 := by
 have h1 := cabTxt_len (css := css.take k) (fun ps hps => cab_all h ps (List.mem_of_mem_take hps)); have h2 := h.1; rw [List.length_take] at h1; have : min k css.length ≤ 6 := (by omega); omega
set_option maxHeartbeats 1600000 in
theorem implCabinetText (A : Option Addr) (n c : Nat) (ds : List Drawer) (w : World) (h : DrawersIn w w.heap.size A n c ds) (hT : TabP w) :
  Calls Tryz.prog 35 #[.slice A n c] w fun e w' => e = .returned (.string (mkStr (cabText (ds.map (·.ps))))) ∧ Below w.heap.size w w' := by
 have HC := uH (treeOf A n c ds w h); clear h; have HTb := uH hT; clear hT; go_enter Tryz.func35, Tryz.ntmps35
 (go_wp2_with fail); refine HC.out.mono ?_; rintro e w1 ⟨hT, b1⟩; rcases hT with ⟨hn, rfl⟩ | ⟨hy, t, v, ls, rfl, hT, hM⟩
 ·have HR := uH (cabText_no hn); clear hn; go_wp2; go_returns; exact ⟨ret_bytes (a := []) HR.out.symm, b1⟩
 ·have HR : Hid (cabText (ds.map (·.ps)) = cabTxt (ls.map (·.ps))) := uH (by rw [hM]; exact cabText_yes hy); have HOk : Hid (cabOK (ls.map (·.ps))) := uH (by rw [hM]; exact cabB_iff.1 hy); have HT1 := uH (HTb.out.keep b1); have HBu := uH (IsBuilder.new w1); obtain ⟨hBt, hblk, hlv⟩ := hT; obtain ⟨Al, cl, rfl, hcl, hml⟩ := ownG_form hlv.1; have x0 := hblk.cell 0; have x1 := kcell ((Below.refl w1.heap.size w1).alloc (Nat.le_refl _) (.cells #[.pointer none, .slice none 0 0] 82)) x0; have HLv := uH hlv; have h6 : ls.length ≤ 6 := (by have := HOk.out.1; rwa [List.length_map] at this); clear hy hM hlv hblk HC HTb x0; generalize hln : ls.length = N at *; have HLn := uH hln; clear hln; go_wp2; go_loopw [20] (fun i wr => ∃ k : Nat, k ≤ N ∧ i = .int .i64 k ∧ Hid (Lib.IsBuilder 82 5 w1.heap.size w1.heap.size (Lib.byteCells (cabTxt ((ls.map (·.ps)).take k))) wr) ∧ Below w1.heap.size w1 wr) (fun i _ => N - (intOf i).toNat)
  case atStart => exact ⟨0, Nat.zero_le _, rfl, HBu, (Below.refl _ _).alloc (Nat.le_refl _) _⟩
  case round =>
   obtain ⟨k, hk, rfl, HB, hb⟩ := hrel; have b2 := below_next b1 hb; have hz := hb.size; by_cases hlt : k < N
   ·have hkl : k < ls.length := (by rw [HLn.out]; exact hlt); have hcs : (ls.map (·.ps))[k]? = some (leafAt ls k).ps := (by rw [List.getElem?_map, leafAt_some hkl]; rfl); have hall := cab_all HOk.out (leafAt ls k).ps (List.mem_of_getElem? hcs); have HSt := uH (cabTxt_step hcs); have hbd := cabTxt_bd HOk.out k; obtain ⟨b, off, eA, hbB, c0, hg1, c1, _, _, hPo, hgd⟩ := (HLv.out.below hb).at_ HLn.out hlt; obtain ⟨Av, cv, ev, _, _⟩ := ownG_form hPo; rw [ev] at c1 hPo; have hPi := PadsOwn.reads hPo rfl hgd; have hTw := HT1.out.keep hb; have HTx := uH (leafText (leafAt ls k).g Av _ cv (leafAt ls k).ps wr c1 hPi hall.1 hall.2 hTw); have hdl : (drawT (leafAt ls k).ps).length ≤ 136 := (by have := drawT_len hall.1; have := hall.2; omega); have hadd : ∀ W', (Op.stringOp .add (mkStr (drawT (leafAt ls k).ps)) { data := #[10] }).run Tryz.prog W' = .ok (.string (mkStr (drawT (leafAt ls k).ps ++ [10]))) W' := fun W' => run_add _ [10] (by simp; omega) W'; have hsz : (mkStr (drawT (leafAt ls k).ps ++ [10])).size ≤ 137 := (by rw [mkStr_size, List.length_append, List.length_singleton]; omega); have hsc : Lib.strCells (mkStr (drawT (leafAt ls k).ps ++ [10])) = Lib.byteCells (drawT (leafAt ls k).ps ++ [10]) := strCells_mk _; have HSc := uH hsc; subst eA; clear hcs hall hPo hgd hPi hTw hdl hsc hkl ev; generalize mkStr (drawT (leafAt ls k).ps ++ [10]) = s2 at *; generalize drawT (leafAt ls k).ps ++ [10] = tl at *; generalize mkStr (drawT (leafAt ls k).ps) = s1 at *; generalize cabTxt ((ls.map (·.ps)).take k) = tx at *; (go_wp2_with fail); refine HTx.out.mono ?_; rintro e w3 ⟨rfl, hb3⟩; have b3 := hb.trans (hb3.mono hz); have HB3 := uH (IsBuilder.keep HB.out hb3); have HW := uH (writeString w1.heap.size w1.heap.size _ s2 w3 HB3.out (by rw [Lib.byteCells_length]; omega) b3.size); clear c0 c1 hb3 HB; (go_wp2_with fail); refine HW.out.mono ?_; rintro e w4 ⟨rfl, hB4, hb4⟩; have b4 := b3.trans hb4; have HB4 : Hid (Lib.IsBuilder 82 5 w1.heap.size w1.heap.size (Lib.byteCells (cabTxt ((ls.map (·.ps)).take (k + 1)))) w4) := uH (by
     rw [HSt.out, show Lib.byteCells (tx ++ tl) = Lib.byteCells tx ++ Lib.strCells s2 by rw [HSc.out]; unfold Lib.byteCells; rw [List.map_append]]; exact .inr hB4)
    clear hB4 hb4 HB3 HW; go_wp2; go_roundw
    case rel => exact ⟨k + 1, by omega, by go_num, HB4, b4⟩
    case measure => simp [intOf]; omega
   ·have e2 : (ls.map (·.ps)).take k = ls.map (·.ps) := List.take_of_length_le (by rw [List.length_map, HLn.out]; omega); rw [e2] at HB; have HS := uH (Tryz.Builder_String_any w1.heap.size w1.heap.size (cabTxt (ls.map (·.ps))) wr HB.out hz); clear e2 HB; (go_wp2_with fail); refine HS.out.mono ?_; rintro e w3 ⟨rfl, hb3⟩; have b3 := b1.trans ((hb.trans hb3).mono b1.size); go_wp2; go_returns; exact ⟨ret_bytes HR.out.symm, b3⟩
theorem saidO_len {o : Option Wd} {k : Nat} (h : ∀ l, o = some l → l.length ≤ k) : (saidO o).length ≤ k + 3 := by
 cases o with
 | none => simp [saidO]
 | some l => have := h l rfl; simp [saidO]; omega
theorem up_len {α : Type} (s : St) (o : Option α) (f : α → St) : (up s o f).2.length ≤ 3 := by
 cases o with
 | none => simp [up, sayNo]
 | some x => simp [up, sayOk]
theorem ask_len {h : Hd} (ok : h.st.ok) (ws : List Wd) : (ask h.st ws).length ≤ 1000100 := by
 unfold ask; split
 ·refine Nat.le_trans (saidO_len (k := 1000) fun l hl => ?_) (by omega); obtain ⟨L, hL, rfl⟩ := Option.map_eq_some_iff.1 hl; have h1 := lineOf_len20 hL; have h2 := lineText_len9 L; omega
 split
 ·refine Nat.le_trans (saidO_len (k := 1000000) fun l hl => ?_) (by omega); obtain ⟨T, hT, rfl⟩ := Option.map_eq_some_iff.1 hl; have h1 := bestO_len ok.2.1 ok.2.2.1 hT; have h2 : ∀ l ∈ T, l.length ≤ 600 := by
   have e : bestO h.st.brs h.st.sp = some (bestT h.st.brs h.st.sp) := by
    unfold bestO; rw [ok.2.1, ok.2.2.1]; rfl
   rw [e] at hT; injection hT with hT; rw [← hT]; exact bestT_small ok
  have h3 := join_len1 (s := 32) h2; omega
 split
 ·have h1 := cost_le ok; have h2 := decN_len (costOf h.st.brs h.st.sp) (by omega); rw [List.length_append, List.length_singleton]; omega
 split
 ·refine Nat.le_trans (saidO_len (k := 1000000) fun l hl => ?_) (by omega); obtain ⟨M, hM, rfl⟩ := Option.map_eq_some_iff.1 hl; exact marksText_len9 _ _
 split
 ·rw [cabText_yes (cabB_iff.2 ok.2.2.2)]; have := cabTxt_bd ok.2.2.2 h.st.cab.length; rw [List.take_length] at this; omega
 ·simp [sayWhat]
theorem line_len {h : Hd} (ok : h.st.ok) (ws : List Wd) : (lineS h.st ws).2.length ≤ 1000100 := by
 unfold lineS; split
 ·exact Nat.le_trans (up_len _ _ _) (by omega)
 split
 ·exact Nat.le_trans (up_len _ _ _) (by omega)
 split
 ·exact Nat.le_trans (up_len _ _ _) (by omega)
 split
 ·exact Nat.le_trans (up_len _ _ _) (by omega)
 split
 ·exact Nat.le_trans (up_len _ _ _) (by omega)
 ·exact ask_len ok ws
def hdOf (s : St) : Hd := ⟨none, 0, 0, none, 0, 0, none, 0, 0, none, 0, 0, s.sys, s.brs.map fun b => ⟨b.mark, none, 0, 0, b.words⟩, s.sp, s.cab.map fun ps => ⟨none, 0, 0, ps⟩⟩
theorem hdOf_st (s : St) : (hdOf s).st = s := by
 unfold hdOf Hd.st; simp only [List.map_map]; have e1 : (Br.dat ∘ fun b : Bf => (⟨b.mark, none, 0, 0, b.words⟩ : Br)) = id := (by funext b; rfl); have e2 : ((fun d : Drawer => d.ps) ∘ fun ps : List Pad => (⟨none, 0, 0, ps⟩ : Drawer)) = id := (by funext b; rfl); rw [e1, e2, List.map_id, List.map_id]
theorem lineS_len {s : St} (ok : s.ok) (ws : List Wd) : (lineS s ws).2.length ≤ 1000100 := by
 have := line_len (h := hdOf s) (by rw [hdOf_st]; exact ok) ws
 rwa [hdOf_st] at this
theorem runS_len : ∀ (ls : List Wd) (s : St), s.ok → (runS s ls).2.length ≤ 1000100 * ls.length
 | [], _, _ => by simp [runS]
 | l :: r, s, ok => by
  have h1 := lineS_len ok (cutB 32 l); have h2 := runS_len r _ (lineS_ok (cutB 32 l) ok); rw [runS, List.length_append, List.length_cons]; omega
theorem runS_snoc (s : St) (ls : List Wd) (l : Wd) : runS s (ls ++ [l]) = ((lineS (runS s ls).1 (cutB 32 l)).1, (runS s ls).2 ++ (lineS (runS s ls).1 (cutB 32 l)).2) := by
 rw [runS_app, runS_one]
theorem runS_take {s : St} {ls : List Wd} {k : Nat} (h : k < ls.length) : runS s (ls.take (k + 1)) = ((lineS (runS s (ls.take k)).1 (cutB 32 (wdAt ls k))).1, (runS s (ls.take k)).2 ++ (lineS (runS s (ls.take k)).1 (cutB 32 (wdAt ls k))).2) := by
 rw [List.take_succ_eq_append_getElem h, runS_snoc]; have : ls[k] = wdAt ls k := (by unfold wdAt; rw [List.getD_eq_getElem?_getD, List.getElem?_eq_getElem h]; rfl); rw [this]
theorem cutB_len (d : UInt8) (l : Wd) : (cutB d l).length ≤ l.length + 1 := cutQ_len d [] l
theorem cutB_pos (d : UInt8) (l : Wd) : 1 ≤ (cutB d l).length := by
 rcases Nat.lt_or_ge 0 (cutB d l).length with h | h
 ·exact h
 ·exact absurd (List.length_eq_zero_iff.1 (by omega)) (cutB_ne d l)
theorem cutB_bd (d : UInt8) (l : Wd) : ∀ p ∈ cutB d l, p.length ≤ l.length := fun p hp => by
 have := cutQ_bd d [] l p hp; simpa using this
theorem cntI_flat {css : List (List Pad)} (h : cabOK css) : cntI css = (css.flatten.length : Int) := by
 exact cntI_yes (cabB_iff.2 h)
def stVal9 (h : Hd) : Array Value := #[.slice h.A1 h.n1 h.c1, .slice h.A2 h.n2 h.c2, .slice h.A3 h.n3 h.c3, .slice h.A4 h.n4 h.c4]
theorem specLine (h : Hd) (A : Option Addr) (n c : Nat) (ws : List Wd) (w : World) (h1 : 1 ≤ n) (h6 : n ≤ 600) (ok : h.st.ok) (hWl : ∀ l ∈ ws, l.length ≤ 600) (H : StIn w h) (hw : WdsIn w w.heap.size A n c ws) :
  Calls Tryz.prog 54 #[.agg (stVal9 h), .slice A n c] w fun e w' => LineAns w w' h A n c ws (lineS h.st ws) e ∧ Below w.heap.size w w' := by
 obtain ⟨A1, n1, c1, A2, n2, c2, A3, n3, c3, A4, n4, c4, sys, xs, sp, ds⟩ := h; by_cases g0 : wdAt ws 0 = cSign
 ·by_cases e : n = 3
  ·subst e; exact l9LineSign A1 A2 A3 A4 n1 c1 n2 c2 n3 c3 n4 c4 sys xs sp ds A c ws w g0 ok hWl H hw
  ·exact l9LineAskSign A1 A2 A3 A4 n1 c1 n2 c2 n3 c3 n4 c4 sys xs sp ds A n c ws w g0 e h1 ok hWl H hw
 by_cases g1 : wdAt ws 0 = cBrief
 ·by_cases e : 3 ≤ n
  ·exact l9LineBrief A1 A2 A3 A4 n1 c1 n2 c2 n3 c3 n4 c4 sys xs sp ds A n c ws w g1 e h6 ok hWl H hw
  ·exact l9LineAskBrief A1 A2 A3 A4 n1 c1 n2 c2 n3 c3 n4 c4 sys xs sp ds A n c ws w g1 (by omega) h1 ok hWl H hw
 by_cases g2 : wdAt ws 0 = cSpeech
 ·exact l9LineSpeech A1 A2 A3 A4 n1 c1 n2 c2 n3 c3 n4 c4 sys xs sp ds A n c ws w g2 h1 hWl hw
 by_cases g3 : wdAt ws 0 = cFile
 ·by_cases e : n = 3
  ·subst e; exact l9LineFile A1 A2 A3 A4 n1 c1 n2 c2 n3 c3 n4 c4 sys xs sp ds A c ws w g3 ok hWl H hw
  ·exact l9LineAskFile A1 A2 A3 A4 n1 c1 n2 c2 n3 c3 n4 c4 sys xs sp ds A n c ws w g3 e h1 ok hWl H hw
 by_cases g4 : wdAt ws 0 = cClear
 ·by_cases e : n = 2
  ·subst e; exact l9LineClear A1 A2 A3 A4 n1 c1 n2 c2 n3 c3 n4 c4 sys xs sp ds A c ws w g4 ok hWl H hw
  ·exact l9LineAskClear A1 A2 A3 A4 n1 c1 n2 c2 n3 c3 n4 c4 sys xs sp ds A n c ws w g4 e h1 ok hWl H hw
 ·exact l9LineAskNone A1 A2 A3 A4 n1 c1 n2 c2 n3 c3 n4 c4 sys xs sp ds A n c ws w g0 g1 g2 g3 g4 h1 ok hWl H hw
end Go.Proofs.YtbkhnljaajajiaaGreatDoor
