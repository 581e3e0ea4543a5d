/-
  Contracts and plain laws that the proof of the law ExactExecute leans on. Conditions: as each says.
-/
import Derived.Test.YtbkhnljaajajiaaGreatDoorPExactExecute06
import Derived.Test.YtbkhnljaajajiaaGreatDoorPExactExecute28
import Derived.Test.YtbkhnljaajajiaaGreatDoorPExactExecute29
import Derived.Test.YtbkhnljaajajiaaGreatDoorPExactExecute35
import Derived.Deep.DeepHandedRow
import Derived.Deep.DeepWitnessRowRef
import Derived.Lib.LaidIn
import Derived.Lib.LaidU8
import Derived.SizedLaws
set_option maxRecDepth 100000
set_option linter.unusedSimpArgs false
set_option linter.unusedVariables false
set_option linter.unnecessarySimpa false
namespace Go.Proofs.YtbkhnljaajajiaaGreatDoor
open Go.ChangeShapes Go.WideShapes Go.ChangeAt Go.RowKit
def BuildS (S : List Nat) (w : World) (b : Nat) : Prop :=
 b ∈ S ∧ ∀ p v, w.heap[b]? = some (.cells #[p, v] 82 (0, 0)) → ∀ r, v.ownBlock = some r → r ∈ S
theorem BuildS.new (w : World) (S : List Nat) (h : w.heap.size ∈ S) : BuildS S (w.alloc (.cells #[.pointer none, .slice none 0 0] 82)) w.heap.size :=
 ⟨h, fun p v hv r hr => by
  have := Blk.new w 82 #[.pointer none, .slice none 0 0]; unfold Blk at this; rw [this] at hv; injection hv with hv; injection hv with hv; injection hv with hv; injection hv with _ hv; injection hv with hv; subst hv; cases hr⟩
theorem BuildS.off {S S' : List Nat} {w w' : World} {b : Nat} (h : BuildS S w b) (ho : Off S' w w') (hb : b < w.heap.size) (hs : b ∉ S') : BuildS S w' b :=
 ⟨h.1, fun p v hv => h.2 p v (by rw [← ho.block hb hs]; exact hv)⟩
theorem IsBuilder.off {S : List Nat} {T e : TypeId} {B b : Nat} {bs : List Value} {w w' : World} (h : Lib.IsBuilder T e B b bs w) (ho : Off S w w') (hS : ∀ x ∈ S, x < B) : Lib.IsBuilder T e B b bs w' := by
 have key : ∀ p, Lib.BuilderAt T e B b p bs w → Lib.BuilderAt T e B b p bs w' := fun p ⟨hB, v, hk, ho', hne⟩ => by
  refine ⟨hB, v, ?_, ⟨ho'.1, ?_⟩, hne⟩
  ·exact (ho.block (Blk.lt (w := w) (t := T) hk) (fun e => by have := hS _ e; omega)).trans hk
  ·rcases ho'.2 with h2 | ⟨g, cap, cur, rfl, h1, h2, h3⟩
   ·exact .inl h2
   ·exact .inr ⟨g, cap, cur, rfl, h1, (ho.block (Blk.lt (w := w) (t := e) h2) (fun e => by have := hS _ e; omega)).trans h2, h3⟩
 rcases h with h | h
 ·exact .inl (key _ h)
 ·exact .inr (key _ h)
theorem copyCheckS (S : List Nat) (B b : Nat) (bs : List Value) (w : World) (h : Lib.IsBuilder 82 5 B b bs w) (hS : BuildS S w b) :
  Calls Tryz.prog 109 #[.pointer (some ⟨b, 0, none⟩)] w fun e w' => e = .returned (.tuple #[]) ∧ Lib.BuilderAt 82 5 B b (.pointer (some ⟨b, 0, none⟩)) bs w' ∧ Below B w w' ∧ Off S w w' ∧ BuildS S w' b := by
 rcases h with h | h
 ·refine (copyCheckFresh b w h.cell0 h.shape h.frozen0).mono ?_; rintro e w' ⟨rfl, rfl⟩; refine ⟨rfl, h.used _, (Below.refl B w).setCell (p := ⟨b, 0, none⟩) h.1 _, (Off.refl S w).put hS.1 0 _, hS.1, fun p v hv r hr => ?_⟩; obtain ⟨_, v0, hk, _, _⟩ := h; have K : Blk w b 82 #[.pointer none, v0] := hk; have K2 := K.set 0 (.pointer (some ⟨b, 0, none⟩)); unfold Blk at K2; rw [K2] at hv; injection hv with hv; injection hv with hv; have hv2 := congrArg Array.toList hv; simp at hv2; exact hS.2 _ v0 hk r (by rw [hv2.2]; exact hr)
 ·refine (copyCheckUsed b w h.cell0).mono ?_; rintro e w' ⟨rfl, rfl⟩; exact ⟨rfl, h, Below.refl B _, Off.refl S _, hS⟩
section
variable {P : Program} (w : World)
theorem run_append_own_stringX (base : Nat) (t u ty e : TypeId) (i : TypeInfo) (ht : P.underlying t = some (.slice e)) (hu : P.underlying u = some .string) (hi : P.info? e = some i) (hz : i.zero = some (.int .u8 0))
  (hsize : i.size = 1) (hby : i.bytes = 1)
  (v : Value) (n : Nat) (xs : List Value) (hown : w.ownsRow base e 1 v n xs) (s : ByteArray)
  (h63 : n + s.size ≤ maxLen) (hbytes : n + s.size ≤ 140737488355328) (hbase : base ≤ w.heap.size) :
  ∃ v' w', (Builtin.append_ #[t, u] ty #[v, .string s]).run P w = .ok v' w' ∧ w'.ownsRow base e 1 v' (n + s.size) (xs ++ Lib.strCells s) ∧ w.grownBy w' v.ownBlock ∧
   (v'.ownBlock = v.ownBlock ∨ ∃ q, v'.ownBlock = some q ∧ w.heap.size ≤ q) := by
 obtain ⟨v', w', hr, h2, h3, _⟩ := Lib.run_append_own_string (P := P) w base t u ty e i ht hu hi hz hsize hby v n xs hown s h63 hbytes hbase; refine ⟨v', w', hr, h2, h3, ?_⟩; have hsmall : n + s.size ≤ 9223372036854775807 := (by simp only [maxLen] at h63; omega); have hxl : xs.length = n := (by simpa using hown.1); rcases hown.2 with ⟨rfl, rfl⟩ | ⟨g, cap, cur, rfl, hbg, hg, hnc, hcm, hcs, htake⟩
 ·have hx : xs = [] := List.eq_nil_of_length_eq_zero hxl; subst hx; obtain ⟨v2, w2, hr2, h22, _⟩ := Lib.run_append_own_string (P := P) w w.heap.size t u ty e i ht hu hi hz hsize hby (.slice none 0 0) 0 [] (World.ownsRow_nil w w.heap.size e 1) s h63 hbytes (Nat.le_refl _); have hj := hr.symm.trans hr2; obtain ⟨e1, e2⟩ := Result.ok.inj hj; subst e1 e2; cases hq : v'.ownBlock with
  | none => exact .inl rfl
  | some q => exact .inr ⟨q, rfl, ownG_base h22 hq⟩
 ·by_cases hroom : n + s.size ≤ cap
  ·have hcs' : cur.size = cap := (by simpa using hcs); have hr2 := Lib.run_append_room_string (P := P) w t u ty e i ht hu hi hsize g n cap cur hg s hroom (by omega); obtain ⟨e1, _⟩ := Result.ok.inj (hr.symm.trans hr2); exact .inl (by rw [e1]; rfl)
  ·have holds : ∀ j u, xs[j]? = some u → w.cell? ((⟨g, 0, none⟩ : Addr).add j) = some u := hown.cells (g := g) rfl; have hr2 := Lib.run_append_grow_string (P := P) w t u ty e i (.int .u8 0) ht hu hi hz ⟨g, 0, none⟩ n cap xs (by rw [hsize]; simpa using hxl) holds s (by omega) (by omega) (by rw [hby]; exact growslice_fits (by omega) (by omega)); obtain ⟨e1, _⟩ := Result.ok.inj (hr.symm.trans hr2); exact .inr ⟨w.heap.size, by rw [e1]; rfl, Nat.le_refl _⟩
theorem wpList_append_own_stringX {ops : Array Oper} {rest : List Oper} {o : Oper} {a : Act} {Q : Exit → Act → World → Prop} (hgd : o.guard = none) (sl x : Operand) (t u : TypeId)
  (ho : o.op = .call { callee := .builtin .append, args := #[sl, x], argTypes := #[t, u] })
  (base : Nat) (e : TypeId) (i : TypeInfo) (ht : P.underlying t = some (.slice e)) (hu : P.underlying u = some .string) (hi : P.info? e = some i) (hz : i.zero = some (.int .u8 0))
  (hsize : i.size = 1) (hby : i.bytes = 1)
  (v : Value) (n : Nat) (xs : List Value) (hs : a.eval sl = v) (hown : w.ownsRow base e 1 v n xs) (s : ByteArray) (hx : a.eval x = .string s)
  (h63 : n + s.size ≤ maxLen) (hbytes : n + s.size ≤ 140737488355328) (hbase : base ≤ w.heap.size)
  (h : ∀ v' w', w'.ownsRow base e 1 v' (n + s.size) (xs ++ Lib.strCells s) → w.grownBy w' v.ownBlock → (v'.ownBlock = v.ownBlock ∨ ∃ q, v'.ownBlock = some q ∧ w.heap.size ≤ q) → wpList P ops Q rest (a.put o.dst v') w') : wpList P ops Q (o :: rest) a w := by
 refine wpList_plain hgd fun K hK => ?_; obtain ⟨v', w', hr, h2, h3, h4⟩ := run_append_own_stringX (P := P) w base t u o.type e i ht hu hi hz hsize hby v n xs hown s h63 hbytes hbase; unfold Oper.wp execOp; simp only [ho, resolve, invoke, builtin, Sem.run_bind, Sem.run_pure, Result.andThen_ok, List.map_toArray, List.map_cons, List.map_nil, hs, hx, hr]; exact hK _ _ (h v' w' h2 h3 h4)
end
set_option maxHeartbeats 1000000 in
theorem writeStringS (S : List Nat) (B b : Nat) (bs : List Value) (s : ByteArray) (w : World) (h : Lib.IsBuilder 82 5 B b bs w) (hS : BuildS S w b) (hlen : bs.length + s.size ≤ 140737488355328) (hBw : B ≤ w.heap.size) :
  Calls Tryz.prog 48 #[.pointer (some ⟨b, 0, none⟩), .string s] w fun e w' => e = .returned (.tuple #[.int .i64 s.size, .nilIface]) ∧ Lib.IsBuilder 82 5 B b (bs ++ Lib.strCells s) w' ∧ Below B w w' ∧ Off S w w' ∧ ∃ S' : List Nat, (∀ x ∈ S, x ∈ S') ∧ (∀ x ∈ S', x ∈ S ∨ (w.heap.size ≤ x ∧ x < w'.heap.size)) ∧ BuildS S' w' b := by
 obtain ⟨i0, hi, hz0, hz1, hz2⟩ := info_parts infoByte; have HC := uH (copyCheckS S B b bs w h hS); clear h hS; go_enter Tryz.func48, Tryz.ntmps48
 (go_wp2_with fail); refine HC.out.mono ?_; rintro e w1 ⟨rfl, h1, hb1, ho1, hS1⟩; obtain ⟨hB, v, hbk, hown, hne⟩ := h1; have c0 : w1.cell? ⟨b, 0, none⟩ = some (.pointer (some ⟨b, 0, none⟩)) := (by rw [Lib.cell_of_heap hbk]; rfl); have c1 : w1.cell? ⟨b, 1, none⟩ = some v := (by rw [Lib.cell_of_heap hbk]; rfl); have HvS : Hid (∀ r, v.ownBlock = some r → r ∈ S) := uH (hS1.2 _ v hbk); have HbS := uH hS1.1; clear hS1; go_wp2_with (at_builtin; refine wpList_append_own_stringX _ rfl _ _ 22 9 rfl B 5 i0 Tryz.underlying22 Tryz.underlying9 hi hz0 hz1 hz2 _ _ _ rfl hown s rfl ?c3 ?c4 ?c5 ?_)
 case c3 => unfold maxLen; omega
 case c4 => omega
 case c5 => have := hb1.size; omega
 intro v' w2 hown' hgrow hat; have hlt : b < w1.heap.size := Blk.lt (w := w1) (t := 82) hbk; have hb2 : w2.heap[b]? = some (.cells #[.pointer (some ⟨b, 0, none⟩), v] 82 (0, 0)) := by
  rw [hgrow.block b hlt (fun e => hne e.symm)]; exact hbk
 have d0 : w2.cell? ⟨b, 0, none⟩ = some (.pointer (some ⟨b, 0, none⟩)) := (by rw [Lib.cell_of_heap hb2]; rfl); have d1 : w2.cell? ⟨b, 1, none⟩ = some v := (by rw [Lib.cell_of_heap hb2]; rfl); have f1 : w2.frozen? ⟨b, 1, none⟩ = false := Lib.frozen_of_heap hb2 1; have ho2 : Hid (Off S w1 w2) := uH (by
  refine ⟨hgrow.os, hgrow.tape, hgrow.output, by rw [blanks_size, blanks_size]; exact hgrow.size, fun k hk => ?_⟩; rw [blanks_get, blanks_get]; by_cases hkS : k ∈ S
  ·have hk2 : k < w2.heap.size := Nat.lt_of_lt_of_le hk hgrow.size; rw [Array.getElem?_eq_getElem hk, Array.getElem?_eq_getElem hk2]; simp [hkS]
  ·rw [hgrow.block k hk (fun e => hkS (HvS.out k e.symm))])
 have HR : Hid (∃ S' : List Nat, (∀ x ∈ S, x ∈ S') ∧ (∀ x ∈ S', x ∈ S ∨ (w.heap.size ≤ x ∧ x < w2.heap.size)) ∧ ∀ q, v'.ownBlock = some q → q ∈ S') := uH (by
  rcases hat with e | ⟨r, e, hr⟩
  ·exact ⟨S, fun x hx => hx, fun x hx => .inl hx, fun q hq => HvS.out q (by rw [← e]; exact hq)⟩
  ·exact ⟨r :: S, fun x hx => List.mem_cons_of_mem _ hx, fun x hx => by
    rcases List.mem_cons.1 hx with rfl | hx
    ·exact .inr ⟨Nat.le_trans ho1.size hr, ownG_lt hown' e⟩
    ·exact .inl hx, fun q hq => by rw [e] at hq; injection hq with hq; rw [← hq]; exact List.mem_cons_self⟩)
 obtain ⟨ao, n', cap, rfl⟩ : ∃ ao n' cap, v' = .slice ao n' cap := by
  rcases hown'.2 with ⟨hv, _⟩ | ⟨g, cap, cur, hv, _⟩
  ·exact ⟨_, _, _, hv⟩
  ·exact ⟨_, _, _, hv⟩
 have HO := uH hown'; clear hown' hat; go_wp2
 go_ret2
 refine ⟨rfl, .inr ?_, ?_, (ho1.trans ho2.out).put HbS.out 1 _, ?_⟩
 ·exact Lib.BuilderAt.put (T := 82) (e := 5) hB hb2 (bs' := bs ++ Lib.strCells s) (by simpa [Lib.strCells_length] using HO.out) (by decide)
 ·exact (hb1.grown hgrow (by have := hb1.size; omega) (fun k hk => (hown.lt k hk).1)).setCell (p := ⟨b, 1, none⟩) hB _
 ·obtain ⟨S', hs1, hs2, hq⟩ := HR.out; refine ⟨S', hs1, fun x hx => by
   rcases hs2 x hx with h | ⟨h1, h2⟩
   ·exact .inl h
   ·exact .inr ⟨h1, by simpa [World.setCell] using h2⟩, hs1 _ HbS.out, fun p u hu q hqq => ?_⟩
  have K : Blk w2 b 82 #[.pointer (some ⟨b, 0, none⟩), v] := hb2; have K2 := K.set 1 (.slice ao n' cap); unfold Blk at K2; rw [K2] at hu; injection hu with hu; injection hu with hu; have hv2 := congrArg Array.toList hu; simp at hv2; exact hq q (by rw [hv2.2]; exact hqq)
theorem bytes_app (a b : Wd) : Lib.byteCells a ++ Lib.strCells (mkStr b) = Lib.byteCells (a ++ b) := by
 rw [strCells_mk]; unfold Lib.byteCells; rw [List.map_append]
def hdN : Hd := ⟨none, 0, 0, none, 0, 0, none, 0, 0, none, 0, 0, [], [], [], []⟩
set_option maxHeartbeats 3200000 in
theorem implExecute (s : ByteArray) (w : World) (hs : s.size ≤ 1048576) (hT : TabP w) :
  Calls Tryz.prog 12 #[.string s] w fun e w' => e = .returned (.string (mkStr (exec s.data.toList))) ∧ Below w.heap.size w w' := by
 by_cases h5 : 500 < s.size
 ·have HE : Hid (exec s.data.toList = sayLong) := uH (exec_no (by simpa using h5)); have i1 : (500 : Int) < (s.size : Int) := (by omega); clear h5; go_enter Tryz.func12, Tryz.ntmps12
  go_wp2; go_ret; exact ⟨by rw [HE.out]; rfl, Below.refl _ _⟩
 have i1 : ¬ (500 : Int) < (s.size : Int) := (by omega); have HE : Hid (exec s.data.toList = (runS st0 (linesOf s.data.toList)).2 ++ endS (runS st0 (linesOf s.data.toList)).1) := uH (exec_yes (by simpa using h5)); have HC := uH (fun V => implSplit 10 s V (by omega)); have HLd : Hid (linesOf s.data.toList = (cutB 10 s.data.toList).dropLast) := uH rfl; have HN1 := uH (cutB_pos 10 s.data.toList); have esz : s.data.toList.length = s.size := (by simp); have HN2 : Hid ((cutB 10 s.data.toList).length ≤ 501) := uH (by have := cutB_len 10 s.data.toList; omega); have HBd : Hid (∀ l ∈ cutB 10 s.data.toList, l.length ≤ 500) := uH (fun l hl => by have := cutB_bd 10 s.data.toList l hl; omega); have HT := uH hT; clear h5 hs esz hT; generalize cutB 10 s.data.toList = L at *; obtain ⟨M, hM⟩ : ∃ M, L.length = M + 1 := ⟨L.length - 1, by have := HN1.out; omega⟩; rw [hM] at HC; have HM := uH hM; clear hM HN1; have KO := Blk.new w 76 (offV hdN); have b0 : Below w.heap.size w (w.alloc (.cells (offV hdN) 76)) := (Below.refl _ _).alloc (Nat.le_refl _) _; have hz0 : (w.alloc (.cells (offV hdN) 76)).heap.size = w.heap.size + 1 := (by simp); have HTab := uH (commandTable (w.alloc (.cells (offV hdN) 76))); obtain ⟨W, hW⟩ : ∃ W, W = w.alloc (.cells (offV hdN) 76) := ⟨_, rfl⟩; rw [← hW] at KO b0 hz0 HTab; rw [hz0] at HTab; go_enter Tryz.func12, Tryz.ntmps12
 (go_wp2_with fail); rw [show w.alloc (.cells #[.slice none 0 0, .slice none 0 0, .slice none 0 0, .slice none 0 0] 76) = W from hW.symm]; refine HTab.out.mono ?_; rintro e w1 ⟨rfl, hMap, hb1⟩; have bw1 := b0.trans (hb1.mono (by omega)); have KO1 := KO.below (w' := w1) (by rw [hz0]; exact hb1); have hTl := hMap.lt; (go_wp2_with fail); refine (HC.out w1).mono ?_; rintro e w2 ⟨rfl, hO, hb2⟩; have bw2 := bw1.trans (hb2.mono bw1.size); have KO2 := KO1.below hb2; have HMap2 := uH (hMap.keep hb2); have hz2 := hb2.size; have hO' : WdOwn w2 w1.heap.size (.slice (some ⟨w1.heap.size, 0, none⟩) (M + 1) (M + 1)) L := (by unfold WdOwn; rw [HM.out]; exact hO); obtain ⟨T, hTT⟩ : ∃ T, T = w.heap.size + 1 := ⟨_, rfl⟩; obtain ⟨q, hq⟩ : ∃ q, q = w1.heap.size := ⟨_, rfl⟩; have hoT : w.heap.size ≠ T := (by omega); have hTq : T < q := (by omega); have hoq : w.heap.size < q := (by omega); have hqlt : q < w2.heap.size := by
  have h1 : WdsIn w2 w2.heap.size (some ⟨w1.heap.size, 0, none⟩) (M + 1) (M + 1) L := WdOwn.reads hO' HM.out; obtain ⟨_, _, ea, hb, _⟩ := h1.at_ (k := 0) (by omega); injection ea with ea; injection ea with ea1 ea2; omega
 rw [← hTT] at HMap2 ⊢; rw [← hq] at hO' ⊢; have HWd : Hid (WdsIn (blanks [w.heap.size, w2.heap.size] w2) (blanks [w.heap.size, w2.heap.size] w2).heap.size (some ⟨q, 0, none⟩) (M + 1) (M + 1) L) := uH (WdsIn.reblanks (WdOwn.reads hO' HM.out) (fun a ha => by
  injection ha with ha; subst ha; simp only [List.mem_cons, List.not_mem_nil, or_false]; omega))
 have HBu := uH (IsBuilder.new w2); have HBs : Hid (BuildS [w.heap.size, w2.heap.size] (w2.alloc (.cells #[.pointer none, .slice none 0 0] 82)) w2.heap.size) := uH (BuildS.new w2 _ (by simp)); have hB2 : Below w2.heap.size w2 (w2.alloc (.cells #[.pointer none, .slice none 0 0] 82)) := (Below.refl _ _).alloc (Nat.le_refl _) _; have HW3 := uH (HWd.out.off (Off.of hB2)); have HS3 : Hid (StIn (blanks [w.heap.size, w2.heap.size] (w2.alloc (.cells #[.pointer none, .slice none 0 0] 82))) hdN) := uH (StIn.none_ _ _ _ _ _); have HK3 := uH (KO2.below hB2); have HM3 := uH (HMap2.out.keep hB2); have bw3 := bw2.trans (hB2.mono bw2.size); have hz3 : w2.heap.size < (w2.alloc (.cells #[.pointer none, .slice none 0 0] 82)).heap.size := (by simp); have hst0 : Hid (hdN.st = st0) := uH rfl; generalize hdN = h0 at *; have hwB : w.heap.size < w2.heap.size := (by omega); have hTB : T < w2.heap.size := (by omega); have hS0 : Hid (w.heap.size ∈ [w.heap.size, w2.heap.size] ∧ (∀ x ∈ [w.heap.size, w2.heap.size], x = w.heap.size ∨ w2.heap.size ≤ x) ∧ (∀ x ∈ [w.heap.size, w2.heap.size], x < (w2.alloc (.cells #[.pointer none, .slice none 0 0] 82)).heap.size)) := uH (by
  refine ⟨by simp, fun x hx => ?_, fun x hx => ?_⟩ <;> simp only [List.mem_cons, List.not_mem_nil, or_false] at hx <;> rcases hx with rfl | rfl
  ·exact .inl rfl
  ·exact .inr (Nat.le_refl _)
  ·omega
  ·exact hz3)
 have hfr : ∀ V, (Instr.slice 27 (.slice (some ⟨q, 0, none⟩) (M + 1) (M + 1)) none (some (.int .i64 (M : Int))) none).run Tryz.prog V = .ok (.slice (some ⟨q, 0, none⟩) M (M + 1)) V := fun V => run_uptoA elemW sizeW _ (M + 1) (M + 1) M (by omega) V; clear hW HTab HC KO b0 hz0 hMap hb1 bw1 KO1 hTl hO hO' hb2 bw2 KO2 HMap2 hz2 HWd hB2 hTT hq; have hM5 : M ≤ 500 := (by have := HN2.out; rw [HM.out] at this; omega); go_wp2; go_loopw [23] (fun v23 wr => ∃ (k : Nat) (h : Hd) (S : List Nat), k ≤ M ∧ v23 = .int .i64 k ∧ Hid (h.st = (runS st0 (L.take k)).1) ∧ Hid (Blk wr w.heap.size 76 (offV h)) ∧ Hid (StIn (blanks S wr) h) ∧ Hid (WdsIn (blanks S wr) (blanks S wr).heap.size (some ⟨q, 0, none⟩) (M + 1) (M + 1) L) ∧
  Hid (MapHas wr T (cmds tabL)) ∧ Hid (Lib.IsBuilder 82 5 w2.heap.size w2.heap.size (Lib.byteCells (runS st0 (L.take k)).2) wr) ∧ Hid (BuildS S wr w2.heap.size) ∧ Hid (w.heap.size ∈ S ∧ (∀ x ∈ S, x = w.heap.size ∨ w2.heap.size ≤ x) ∧ ∀ x ∈ S, x < wr.heap.size) ∧ w2.heap.size < wr.heap.size ∧ Below w.heap.size w wr) (fun v23 _ => M - (intOf v23).toNat)
 case atStart => exact ⟨0, h0, _, Nat.zero_le _, rfl, hst0, HK3, HS3, HW3, HM3, HBu, HBs, hS0, hz3, bw3⟩
 case round =>
  obtain ⟨k, h, S, hk, rfl, HSt, HK, HS, HW, HMp, HBd2, HBS, HSS, hzr, hb⟩ := hrel; have ok : h.st.ok := (by rw [HSt.out]; exact runS_ok _ _ st0_ok); have hsl := runS_len (L.take k) st0 st0_ok; rw [List.length_take, Nat.min_eq_left (by have := HM.out; omega)] at hsl; have i3 : (0 : Int) ≤ (k : Int) := (by omega); by_cases hlt : k < M
  ·have i4 : (k : Int) < (M : Int) := (by omega); have hkl : k < L.length := (by have := HM.out; omega); obtain ⟨b, off, ea, hbB, e0⟩ := (HW.out.unblanks).at_ (k := k) (by omega); injection ea with ea; injection ea with ea1 ea2; subst ea1 ea2; have e0' : wr.cell? ⟨q, k, none⟩ = some (.string (mkStr (wdAt L k))) := (by simpa using e0); have hlk : (wdAt L k).length ≤ 500 := HBd.out _ (wdAt_mem hkl); have HRun := uH (runLine h w.heap.size T (mkStr (wdAt L k)) wr (by rw [mkStr_size]; exact hlk) ok HK.out HS.out.unblanks HMp.out (HT.out.keep hb)); rw [mkStr_data] at HRun; have HNx := uH (runS_take (s := st0) hkl); have hll := lineS_len ok (cutB 32 (wdAt L k)); clear e0 hlk ok; generalize cutB 32 (wdAt L k) = ws at *; generalize wdAt L k = u at *; (go_wp2_with fail); refine HRun.out.mono ?_; rintro e w3 ⟨h', rfl, hst', K3, ho3, htr⟩; have hz3' := ho3.size; have HS' := htr S HSS.out.1 HSS.out.2.2 HS.out; have hoS : Off S wr w3 := ho3.more (fun b hb => by rw [List.mem_singleton] at hb; rw [hb]; exact HSS.out.1); have HW' := HW.out.off hoS; have HM' := HMp.out.off ho3 (by rw [List.mem_singleton]; omega); have HB' := IsBuilder.off HBd2.out ho3 (fun x hx => by rw [List.mem_singleton] at hx; omega); have HBS' := HBS.out.off ho3 hzr (by rw [List.mem_singleton]; omega); have hb3 : Below w.heap.size w w3 := hb.trans (ho3.below hb.size (fun b hb => by rw [List.mem_singleton] at hb; omega)); have HWr := uH (writeStringS S w2.heap.size w2.heap.size _ (mkStr (lineS h.st ws).2) w3 HB' HBS' (by rw [Lib.byteCells_length, mkStr_size]; omega) (by omega)); clear HRun HB' HBS' htr; (go_wp2_with fail); refine HWr.out.mono ?_; rintro e w4 ⟨rfl, HB4, hb4, ho4, S', hs1, hs2, HBS4⟩; have hz4 := hb4.size; have ho4' : Off S' w3 w4 := ho4.more hs1; have hsb : ∀ b ∈ S', b < w3.heap.size → b ∈ S := fun b hb hl => (hs2 b hb).resolve_right (by omega); have HS4 := uH (StIn.more HS' ho4' hsb hs1); have HW4 := uH (WdsIn.moreS HW' ho4' hsb hs1); have HM4 := uH (HM'.same (hb4.block T hTB)); have K4 : Hid (Blk w4 w.heap.size 76 (offV h')) := uH ((hb4.block _ hwB).trans K3); have HSS4 : Hid (w.heap.size ∈ S' ∧ (∀ x ∈ S', x = w.heap.size ∨ w2.heap.size ≤ x) ∧ ∀ x ∈ S', x < w4.heap.size) := uH ⟨hs1 _ HSS.out.1, fun x hx => by
    rcases hs2 x hx with h | ⟨h1, h2⟩
    ·exact HSS.out.2.1 x h
    ·exact .inr (by omega), fun x hx => by
    rcases hs2 x hx with h | ⟨h1, h2⟩
    ·have := HSS.out.2.2 x h; omega
    ·exact h2⟩
   have HSn : Hid (h'.st = (runS st0 (L.take (k + 1))).1) := uH (by rw [HNx.out, ← HSt.out]; exact hst'); have HB4' : Hid (Lib.IsBuilder 82 5 w2.heap.size w2.heap.size (Lib.byteCells (runS st0 (L.take (k + 1))).2) w4) := uH (by
    rw [HNx.out, ← HSt.out, show Lib.byteCells ((runS st0 (L.take k)).2 ++ (lineS h.st ws).2) = Lib.byteCells (runS st0 (L.take k)).2 ++ Lib.strCells (mkStr (lineS h.st ws).2) by unfold Lib.byteCells; rw [List.map_append]; rfl]; exact HB4)
   have HBS5 := uH HBS4; have hb5 := hb3.trans (hb4.mono (by omega)); have hz5 : w2.heap.size < w4.heap.size := (by omega); clear HWr HB4 HBS4 hs1 hs2 hsb ho4 ho4' HS' HW' HM' K3 hst' hb4 HBu HBs HW3 HM3 HS3 HK3 hst0 hS0; go_wp2; go_roundw
   case rel => exact ⟨k + 1, h', S', by omega, by go_num, HSn, K4, HS4, HW4, HM4, HB4', HBS5, HSS4, hz5, hb5⟩
   case measure => simp [intOf]; omega
  ·obtain rfl : k = M := (by omega); have HTk : Hid (L.take k = linesOf s.data.toList) := uH (by rw [HLd.out, List.dropLast_eq_take, HM.out]; rfl); have hz := stSz ok; have HWn := (HS.out.unblanks).wd.1; have hcn : h.st.cab.flatten.length ≤ 1000000 := by
    have := allPads_len h.ds; have h1 := hz.sz; have e : allPads h.ds = h.st.cab.flatten := allPads_flat h.ds; rw [← e]; omega
   have HCc : Hid (∀ V, Off S wr V → Calls Tryz.prog 51 #[.slice h.A4 h.n4 h.c4] V fun e w' => e = .returned (.int .i64 ((h.st.cab.flatten.length : Nat) : Int)) ∧ Below V.heap.size V w') := uH (fun V hV => by
    have := implCabinetCount h.A4 h.n4 h.c4 h.ds V (by have := hz.sz; omega) ((HS.out.off hV).unblanks).dr; rw [show h.ds.map (·.ps) = h.st.cab from rfl, cntI_flat ok.2.2.2] at this; exact this)
   have hsp : h.n3 ≤ 20 := (by have := hz.n3; omega); have HEn : Hid (exec s.data.toList = (runS st0 (L.take k)).2 ++ ([119, 111, 114, 100, 115, 32] ++ Lib.decDigits h.n3) ++ ([32, 112, 97, 100, 115, 32] ++ Lib.decDigits h.st.cab.flatten.length ++ [10])) := uH (by
    rw [HE.out, ← HTk.out, ← HSt.out]; unfold endS; rw [show h.st.sp.length = h.n3 from HWn]; simp only [List.append_assoc])
   generalize h.st.cab.flatten.length = m2 at *; have HKx : Hid (Blk wr w.heap.size 76 #[.slice h.A1 h.n1 h.c1, .slice h.A2 h.n2 h.c2, .slice h.A3 h.n3 h.c3, .slice h.A4 h.n4 h.c4]) := HK; clear HK; obtain ⟨k0, k1, k2, k3, _⟩ := officeCells HKx.out; generalize h.n3 = m1 at *; have hd1 := decN_len m1 (by omega); have hd2 := decN_len m2 (by omega); generalize (runS st0 (L.take k)).2 = X at *; have HI1 : Hid (∀ V, Below w.heap.size w V → Calls Tryz.prog 50 #[.int .i64 (m1 : Int)] V fun e w' => e = .returned (.string (mkStr (Lib.decDigits m1))) ∧ Below V.heap.size V w') := uH (fun V hV => itoaDay m1 V (by omega) (by omega) (HT.out.keep hV)); have HI2 : Hid (∀ V, Below w.heap.size w V → Calls Tryz.prog 50 #[.int .i64 (m2 : Int)] V fun e w' => e = .returned (.string (mkStr (Lib.decDigits m2))) ∧ Below V.heap.size V w') := uH (fun V hV => itoaDay m2 V (by omega) (by omega) (HT.out.keep hV)); obtain ⟨x1, a1, ex1⟩ : ∃ x1 : ByteArray, (∀ W', (Op.stringOp .add { data := #[119, 111, 114, 100, 115, 32] } (mkStr (Lib.decDigits m1))).run Tryz.prog W' = .ok (.string x1) W') ∧ x1 = mkStr ([119, 111, 114, 100, 115, 32] ++ Lib.decDigits m1) := ⟨_, fun W' => run_add [119, 111, 114, 100, 115, 32] _ (by simp only [List.length_cons, List.length_nil]; omega) W', rfl⟩; obtain ⟨x2, x3, a2, a3, ex3⟩ : ∃ x2 x3 : ByteArray, (∀ W', (Op.stringOp .add { data := #[32, 112, 97, 100, 115, 32] } (mkStr (Lib.decDigits m2))).run Tryz.prog W' = .ok (.string x2) W') ∧ (∀ W', (Op.stringOp .add x2 { data := #[10] }).run Tryz.prog W' = .ok (.string x3) W') ∧ x3 = mkStr ([32, 112, 97, 100, 115, 32] ++ Lib.decDigits m2 ++ [10]) := ⟨_, _, fun W' => run_add [32, 112, 97, 100, 115, 32] _ (by simp only [List.length_cons, List.length_nil]; omega) W', fun W' => run_add _ [10] (by simp only [List.length_append, List.length_cons, List.length_nil]; omega) W', rfl⟩; have hx1 : x1.size ≤ 100 := (by rw [ex1, mkStr_size]; simp only [List.length_append, List.length_cons, List.length_nil]; omega); have hx3 : x3.size ≤ 100 := (by rw [ex3, mkStr_size]; simp only [List.length_append, List.length_cons, List.length_nil]; omega); have HX1 : Hid (Lib.byteCells X ++ Lib.strCells x1 = Lib.byteCells (X ++ ([119, 111, 114, 100, 115, 32] ++ Lib.decDigits m1))) := uH (by rw [ex1]; exact bytes_app _ _); have HX3 : Hid (Lib.byteCells (X ++ ([119, 111, 114, 100, 115, 32] ++ Lib.decDigits m1)) ++ Lib.strCells x3 = Lib.byteCells (exec s.data.toList)) := uH (by rw [HEn.out, ex3]; exact bytes_app _ _); have hXl : X.length ≤ 1000000000 := (by omega); have hXd : (X ++ ([119, 111, 114, 100, 115, 32] ++ Lib.decDigits m1)).length ≤ 1000000100 := (by simp only [List.length_append, List.length_cons, List.length_nil]; omega); clear HEn HE HLd HTk hsl hcn hsp HWn hz ok hk hlt ex1 ex3 hd1 hd2 HBu HBs HW3 HM3 HS3 HK3 hst0 hS0; (go_wp2_with fail); refine (HI1.out _ hb).mono ?_; rintro e w3 ⟨rfl, hb3⟩; have hz3' := hb3.size; have K3 := HKx.out.below hb3; have b3 := hb.trans (hb3.mono hb.size); have HB3 := IsBuilder.keep HBd2.out hb3; have HBS3 := HBS.out.off (S' := []) (Off.of hb3) hzr List.not_mem_nil; have HWr := uH (writeStringS S w2.heap.size w2.heap.size _ x1 w3 HB3 HBS3 (by rw [Lib.byteCells_length]; omega) (by omega)); clear HB3 HBS3 HI1; (go_wp2_with fail); refine HWr.out.mono ?_; rintro e w4 ⟨rfl, HB4, hb4, ho4, _⟩; rw [HX1.out] at HB4; have hz4 := hb4.size; have b4 := b3.trans (hb4.mono (by omega)); have K4 : Blk w4 w.heap.size 76 #[.slice h.A1 h.n1 h.c1, .slice h.A2 h.n2 h.c2, .slice h.A3 m1 h.c3, .slice h.A4 h.n4 h.c4] := (hb4.block _ hwB).trans K3; obtain ⟨r0, r1, r2, r3, _⟩ := officeCells K4; have HCc4 := uH (HCc.out w4 ((Off.of hb3).trans ho4)); have HB4' := uH HB4; clear HWr HB4 HCc K3 K4 hb4 ho4 hb3; (go_wp2_with fail); refine HCc4.out.mono ?_; rintro e w5 ⟨rfl, hb5⟩; have hz5 := hb5.size; have b5 := b4.trans (hb5.mono b4.size); have HB5 := uH (IsBuilder.keep HB4'.out hb5); clear HCc4 HB4' hb5; (go_wp2_with fail); refine (HI2.out _ b5).mono ?_; rintro e w6 ⟨rfl, hb6⟩; have hz6 := hb6.size; have b6 := b5.trans (hb6.mono b5.size); have HB6 := IsBuilder.keep HB5.out hb6; have HWr2 := uH (writeString w2.heap.size w2.heap.size _ x3 w6 HB6 (by rw [Lib.byteCells_length]; omega) (by omega)); clear HB5 HB6 HI2 hb6; (go_wp2_with fail); refine HWr2.out.mono ?_; rintro e w7 ⟨rfl, HB7, hb7⟩; have b7 := b6.trans (hb7.mono (by omega)); have hz7 := hb7.size; rw [HX3.out] at HB7; have HStr := uH (Tryz.Builder_String_any w2.heap.size w2.heap.size (exec s.data.toList) w7 (.inr HB7) (by omega)); clear HWr2 HB7 hb7; (go_wp2_with fail); refine HStr.out.mono ?_; rintro e w8 ⟨rfl, hb8⟩; have b8 := b7.trans (hb8.mono (by omega)); go_wp2; go_ret; exact ⟨rfl, b8⟩
def cellOf : DataW Unit → Value
 | .lit (.int k z) => .int k z
 | _ => undef
def cellsOf : DataW Unit → Array Value
 | .agg l => (l.flatMap fun d => match d with | .agg l2 => l2.map cellOf | d => [cellOf d]).toArray
 | _ => #[]
abbrev laidL : List (String × DataW Unit) := [("math/bits.deBruijn32tab", Rows.laid_math_bits_deBruijn32tab), ("math/bits.deBruijn64tab", Rows.laid_math_bits_deBruijn64tab), ("internal/strconv.uint64pow10", Rows.laid_internal_strconv_uint64pow10), ("unicode/utf8.acceptRanges", Rows.laid_unicode_utf8_acceptRanges), ("unicode/utf8.first", Rows.laid_unicode_utf8_first)]
noncomputable def laidWorld (os : Os) : World :=
 let w0 := World.holding Tryz.prog os ⟨#[], #[], []⟩
 let put (h : Array Obj) (g : Nat) (cs : Array Value) : Array Obj := h.modify g fun
  | .cells _ t frozen => .cells cs t frozen
  | o => o
 { w0 with heap := put (put (put (put (put w0.heap 4 (cellsOf Rows.laid_math_bits_deBruijn32tab)) 5 (cellsOf Rows.laid_math_bits_deBruijn64tab)) 1 (cellsOf Rows.laid_internal_strconv_uint64pow10)) 3 (cellsOf Rows.laid_unicode_utf8_acceptRanges)) 2 (cellsOf Rows.laid_unicode_utf8_first) }
theorem laid_met (os : Os) (args : Array Value) : laidMet Tryz.prog laidL ((laidWorld os).forCall (fun _ _ => 0) ⟨#[], args, []⟩).memory :=
 (LaidIn.of_run (l := laidL) [4, 5, 1, 3, 2] 8 (by kernel_rfl) (by kernel_rfl) (by kernel_rfl) (by kernel_rfl)).met
theorem tabOf {W : World} (hL : laidMet Tryz.prog laidL W) : TabP W := by
 obtain ⟨g', t', cs, fuel, p, hg', ht', hvar, hd⟩ := Lib.laidMet.reads hL (.tail _ (.tail _ (.head _))); obtain rfl := Option.some.inj ((show Tryz.prog.globalNamed "internal/strconv.uint64pow10" = some 1 by kernel_rfl).symm.trans hg'); obtain rfl := Option.some.inj ((show (Tryz.prog.globals[1]?).map (·.type) = some 273 by kernel_rfl).symm.trans ht'); unfold TabP Lib.TabIs; rw [hvar, ← Lib.cells_of_tab (n := 20) (e := 252) (k := .u64) (zs := Lib.pow10Tab) (by kernel_rfl) (by kernel_rfl) (by kernel_rfl) (by kernel_rfl) hd]
end Go.Proofs.YtbkhnljaajajiaaGreatDoor
