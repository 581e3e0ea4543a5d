/-
  The end and the touches of an outline, of the program. Conditions: the two tables of steps read as the program's text lays them.
-/
import Derived.Test.YtdejgnlmofgdjaaDoorPoints
import Derived.Maps.OwnOps
import Derived.WideKeyEntry
import Derived.DeepKeys4
namespace Go.Proofs.YtdejgnlmofgdjaaDoor
open Go.ChangeShapes Go.WideShapes Go.ChangeAt Go.RowKit Go.Maps
set_option maxRecDepth 100000
set_option linter.unusedSimpArgs false

theorem rowPt : (55 : TypeId) < Tryd.prog.types.size := of_decide_eq_true (by kernel_rfl)
theorem widePt : (match Tryd.prog.underlying 55 with | some (.array _ _) | some (.struct _) => true | _ => false) = true := by kernel_rfl
theorem klawPt : WideMaps.KeyLaw Tryd.prog 55 := deep_law_laid laidOut (m := 2) (by omega) rowPt (by kernel_rfl) widePt
theorem lawPt : Keyed Tryd.prog 55 := Keyed.of_law klawPt
theorem zeroInt (w : World) : (zeroValue 3).run Tryd.prog w = .ok (.int .i64 0) w := by kernel_rfl
def ptV (p : Pt) : Value := .agg #[.int .i64 p.1, .int .i64 p.2]
theorem keyPt (p : Pt) (h1 : (Lit.int .i64 p.1).wf = true) (h2 : (Lit.int .i64 p.2).wf = true) : ∃ l, keyOf Tryd.prog 55 (ptV p) = some l := by
  have hk : Tryd.prog.keyType 55 = true := by kernel_rfl
  have hc : Tryd.prog.cellsOf 55 = 2 := by kernel_rfl
  have hi : Tryd.prog.cellsOf 3 = 1 := by kernel_rfl
  obtain ⟨m, hm⟩ : ∃ m, Tryd.prog.types.size + 1 = m + 2 := ⟨Tryd.prog.types.size - 1, by have h : (55 : Nat) < Tryd.prog.types.size := rowPt; omega⟩
  unfold keyOf ptV
  rw [hm]
  simp [Tryd.underlying55, Tryd.underlying3, hk, Value.formed, hc, hi, Program.keyLits, Value.cells, h1, h2]

/-- A map of this call's own that counts points. -/
def Seen (w : World) (B n : Nat) (l : List Pt) : Prop :=
  ∃ D : DataW Unit, w.ownsMap Tryd.prog 55 (plainElem Tryd.prog 3) B n D ∧ IsMap D ∧ ∀ p kl, keyOf Tryd.prog 55 (ptV p) = some kl → D.atKey kl (.lit (.int .i64 0)) = .lit (.int .i64 (l.count p : Int))
theorem Seen.made (w : World) : Seen (w.alloc (.map #[] 0)) w.heap.size 0 [] :=
  ⟨.map [], World.ownsMap_made _ _ _ _, isMap_empty, fun _ _ _ => rfl⟩
theorem Seen.kept {w w' : World} {B n : Nat} {l : List Pt} {row : Option Nat} (h : Seen w B n l) (hg : w.grownBy w' row) (hne : some B ≠ row) : Seen w' B n l := by
  obtain ⟨D, h1, h2, h3⟩ := h
  exact ⟨D, h1.kept hg hne, h2, h3⟩
theorem Seen.alloc {w : World} {B n : Nat} {l : List Pt} (h : Seen w B n l) (o : Obj) : Seen (w.alloc o) B n l := h.kept (World.grownBy_alloc w o none) (by simp)
theorem Seen.look {w : World} {B n : Nat} {l : List Pt} (h : Seen w B n l) (p : Pt) (h1 : (Lit.int .i64 p.1).wf = true) (h2 : (Lit.int .i64 p.2).wf = true) :
    (Instr.lookup 60 (.map (some B)) (.agg #[.int .i64 p.1, .int .i64 p.2]) false).run Tryd.prog w = .ok (.int .i64 (l.count p : Int)) w := by
  obtain ⟨D, hD, _, hat⟩ := h
  obtain ⟨kl, hk⟩ := keyPt p h1 h2
  obtain ⟨c, hr, hc, _⟩ := hD.lookup_int lawPt Tryd.underlying60 Tryd.underlying3 (zeroInt _) hk
  have e := hat p kl hk
  rw [hc] at e
  injection e with e
  injection e with _ e
  rw [← e]
  exact hr
theorem ptV_inj {p q : Pt} (h : ptV p = ptV q) : p = q := by
  unfold ptV at h
  injection h with h
  have := congrArg Array.toList h
  simp at this
  exact Prod.ext this.1 this.2
theorem set_same {w : World} {b : Nat} {o : Obj} (h : w.heap[b]? = some o) : ChangeMaps.setBlock w b o = w := by
  have e : w.heap.setIfInBounds b o = w.heap := by
    apply Array.ext_getElem?
    intro i
    rw [Array.getElem?_setIfInBounds]
    by_cases hi : b = i
    · subst hi
      have hlt : b < w.heap.size := (Array.getElem?_eq_some_iff.1 h).1
      rw [if_pos rfl, if_pos hlt, h]
    · rw [if_neg hi]
  unfold ChangeMaps.setBlock
  rw [e]
/-- Behind the entry's making the key is looked up as before. -/
theorem entryLook {P : Program} {w V : World} {t k e : TypeId} {b : Nat} {es : Array MapEntry} {clock : Nat} (K : Keyed P k) (ht : P.underlying t = some (.map k e)) {z : Value} (hz : ∀ u : World, (zeroValue e).run P u = .ok z u) (hb : w.heap[b]? = some (.map es clock))
    (hkeys : ∀ x ∈ es.toList, ∃ l, keyOf P k x.key = some l) {key : Value} {kl : Lit} (hkey : keyOf P k key = some kl) {v c : Value}
    (he : (Instr.mapEntry t (.map (some b)) key).run P w = .ok v V) (hl : (Instr.lookup t (.map (some b)) key false).run P w = .ok c w) : (Instr.lookup t (.map (some b)) key false).run P V = .ok c V := by
  rcases K.find w hkey es.toList hkeys with ⟨h1, h2⟩ | ⟨j, e0, h1, h2, h3⟩
  · have e1 : (Instr.mapEntry t (.map (some b)) key).run P w = .ok (.tuple #[z, goInt clock]) (ChangeMaps.setBlock w b (.map (es.push ⟨key, z, clock⟩) (clock + 1))) := by
      simp [Instr.mapEntry, run_underlying ht, MapKept.run_getObj_map hb, K.check w false hkey, h1, hz, MapKept.run_setObj_map _ hb, Result.andThen, ChangeMaps.setBlock]
    have l1 : (Instr.lookup t (.map (some b)) key false).run P w = .ok z w := by
      simp [Instr.lookup, run_underlying ht, MapKept.run_getObj_map hb, K.check w _ hkey, h1, hz, Result.andThen]
    obtain ⟨_, rfl⟩ := Result.ok.inj (e1.symm.trans he)
    obtain ⟨rfl, _⟩ := Result.ok.inj (l1.symm.trans hl)
    have hb' := ChangeMaps.heap_setBlock_same hb (.map (es.push ⟨key, z, clock⟩) (clock + 1))
    rcases K.find (ChangeMaps.setBlock w b (.map (es.push ⟨key, z, clock⟩) (clock + 1))) hkey (es.push ⟨key, z, clock⟩).toList (fun x hx => by
      simp at hx
      rcases hx with hx | rfl
      · exact hkeys x (by simpa using hx)
      · exact ⟨kl, hkey⟩) with ⟨g1, g2⟩ | ⟨j, e0, g1, g2, g3⟩
    · exact absurd rfl (g2 ⟨key, z, clock⟩ (by simp))
    · have hv : e0.val = z := by
        have hm := List.mem_of_getElem? g2
        simp at hm
        rcases hm with hm | rfl
        · exact absurd g3 (h2 _ (by simpa using hm))
        · rfl
      simp only [Array.toList_push] at g1
      simp [Instr.lookup, run_underlying ht, MapKept.run_getObj_map hb', K.check _ _ hkey, g1, Result.andThen, hv]
  · have hj : es[j]? = some e0 := by simpa using h2
    have hsame : es.modify j (fun e => { e with key := key }) = es := by
      apply Array.ext'
      rw [Array.toList_modify, ChangeMaps.modify_eq_set _ _ _ _ h2]
      have : ({ e0 with key := key } : MapEntry) = e0 := by rw [← h3]
      rw [this]
      exact WideElems.set_self _ _ _ h2
    have e1 : (Instr.mapEntry t (.map (some b)) key).run P w = .ok (.tuple #[e0.val, goInt e0.born]) (ChangeMaps.setBlock w b (.map es clock)) := by
      simp [Instr.mapEntry, run_underlying ht, MapKept.run_getObj_map hb, K.check w false hkey, h1, hj, h3, K.stays w hkey, hsame, MapKept.run_setObj_map _ hb, Result.andThen, ChangeMaps.setBlock]
    rw [set_same hb] at e1
    obtain ⟨_, rfl⟩ := Result.ok.inj (e1.symm.trans he)
    exact hl
theorem Seen.store {w : World} {B n : Nat} {l : List Pt} (h : Seen w B n l) (hn : n < maxLen) (hl : l.length < 1000) (p : Pt) (h1 : (Lit.int .i64 p.1).wf = true) (h2 : (Lit.int .i64 p.2).wf = true) :
    ∃ v0 st V1 V2, (Instr.mapEntry 60 (.map (some B)) (.agg #[.int .i64 p.1, .int .i64 p.2])).run Tryd.prog w = .ok (.tuple #[v0, .int .i64 st]) V1 ∧
      (Instr.entryStore 60 (.map (some B)) (.int .i64 st) (.int .i64 ((l.count p : Int) + 1))).run Tryd.prog V1 = .ok () V2 ∧
      (Instr.lookup 60 (.map (some B)) (.agg #[.int .i64 p.1, .int .i64 p.2]) false).run Tryd.prog V1 = .ok (.int .i64 (l.count p : Int)) V1 ∧ Seen V2 B (n + 1) (l ++ [p]) ∧ w.grownBy V2 (some B) := by
  have hlk := h.look p h1 h2
  obtain ⟨D, hD, hM, hat⟩ := h
  obtain ⟨kl, hk⟩ := keyPt p h1 h2
  have hw : (Lit.int .i64 ((l.count p : Int) + 1)).wf = true := by
    have := List.count_le_length (a := p) (l := l)
    exact WalkArith.wf_i64 (by omega)
  obtain ⟨w', hrun, r1, r2⟩ := hD.update (t := 60) lawPt Tryd.underlying60 hn hk (plainElem_int Tryd.underlying3 hw)
  have hD0 := hD
  obtain ⟨es, clock, hb, F, hs, _⟩ := hD0
  obtain ⟨v0, st, es1, clock1, he, _, hst⟩ := WideElems.entry_then_store klawPt Tryd.underlying60 (fun u => zeroInt u) hb F hk
  obtain ⟨es', clock', h3, h4⟩ := hst (ChangeMaps.setBlock w B (.map es1 clock1)) (.int .i64 ((l.count p : Int) + 1)) (ChangeMaps.heap_setBlock_same hb _)
  obtain ⟨_, hrun⟩ := Result.ok.inj (h4.symm.trans hrun)
  refine ⟨v0, st, _, _, he, h3, entryLook lawPt Tryd.underlying60 (fun u => zeroInt u) hb F.keys hk he hlk, ?_, ?_⟩
  · have e : ChangeMaps.setBlock (ChangeMaps.setBlock w B (.map es1 clock1)) B (.map es' clock') = w' := by rw [← hrun]; unfold ChangeMaps.setBlock; simp
    rw [e]
    refine ⟨_, r1, hM.put _ _, fun q kl' hk' => ?_⟩
    by_cases hq : q = p
    · subst hq
      obtain rfl := Option.some.inj (hk'.symm.trans hk)
      rw [atKey_put_same hM (lawPt.key hk), List.count_append]
      have h1' : List.count q [q] = 1 := List.count_singleton_self
      rw [h1', Int.natCast_add]
      rfl
    · have hne : kl' ≠ kl := fun e => by
        subst e
        exact hq (ptV_inj (lawPt.inj hk' hk))
      have h0 : List.count q [p] = 0 := List.count_eq_zero.2 (fun h => hq (List.mem_singleton.1 h))
      rw [atKey_put_other hne, hat q kl' hk', List.count_append, h0, Nat.add_zero]
  · have e : ChangeMaps.setBlock (ChangeMaps.setBlock w B (.map es1 clock1)) B (.map es' clock') = w' := by rw [← hrun]; unfold ChangeMaps.setBlock; simp
    rw [e]; exact r2

/-- A point in a list of points that lies in memory. -/
theorem PtOwn.at_ {w : World} {B n c : Nat} {A : Option Addr} {l : List Pt} (h : PtOwn w B (.slice A n c) l) (hn : l.length = n) {k : Nat} {p : Pt} (hk : l[k]? = some p) :
    ∃ g, A = some ⟨g, 0, none⟩ ∧ w.cell? ⟨g, k * 2, none⟩ = some (.int .i64 p.1) ∧ w.cell? ⟨g, k * 2 + 1, none⟩ = some (.int .i64 p.2) ∧ w.frozen? ⟨g, k * 2, none⟩ = false ∧ g < w.heap.size := by
  have hlt : k < l.length := (List.getElem?_eq_some_iff.1 hk).1
  unfold PtOwn at h
  rcases h.2 with ⟨_, h0⟩ | ⟨g, cap, cur, e, hB, hg, h1, h2, h3, h4⟩
  · omega
  · injection e with e1 e2 e3
    subst e1
    have hc : ∀ j u, (l.flatMap ptC)[j]? = some u → w.cell? ⟨g, j, none⟩ = some u := fun j u hu => by
      rw [← h4] at hu
      have hj : j < l.length * 2 := by
        rcases Nat.lt_or_ge j (l.length * 2) with h | h
        · exact h
        · rw [List.getElem?_eq_none (by rw [List.length_take]; omega)] at hu; cases hu
      rw [List.getElem?_take_of_lt hj] at hu
      rw [Blk.cell (w := w) (t := 55) hg j]
      simpa using hu
    have x0 := hc _ _ (flat_at ptC_len l k p 0 _ hk rfl)
    have x1 := hc _ _ (flat_at ptC_len l k p 1 _ hk rfl)
    exact ⟨g, rfl, x0, x1, Blk.free (w := w) (t := 55) hg _, Blk.lt (w := w) (t := 55) hg⟩

set_option maxHeartbeats 800000 in
theorem implOutlineEnd (A : Option Addr) (n c : Nat) (ss : List Stroke) (w : World) (h : StrokesIn w w.heap.size A n c ss) (ho : outB ss = true) (hT : TabS w) :
    Calls Tryd.prog 10 #[.slice A n c] w fun e w' => e = .returned (.tuple #[.int .i64 (endS ss).1, .int .i64 (endS ss).2, .bool true]) ∧ Below w.heap.size w w' := by
  have HC := Lib.hid (chainOf A n c ss w h); clear h
  have HO := Lib.hid ho
  have HT := Lib.hid hT; clear hT
  have hk : (ptsS ss)[(unitsS ss).length]? = some (endS ss) := trailU_last _ _
  have hl : (ptsS ss).length = (unitsS ss).length + 1 := trailU_len _ _
  have hu := unitsS_len (ss := ss) fun s hs => outB_ok ho hs
  have h8 := outB_len ho
  clear ho
  generalize (unitsS ss).length = m at *
  have HK := Lib.hid hk; have HL := Lib.hid hl; clear hk hl
  go_enter Tryd.func10, Tryd.ntmps10
  go_wp2_with fail
  refine HC.out.mono ?_
  rintro e w1 ⟨hA, b1⟩
  rcases hA with ⟨hn, _⟩ | ⟨_, v, rfl, hCh⟩
  · rw [HO.out] at hn; cases hn
  have HP := Lib.hid (chainPoints v ss w1 hCh HO.out (HT.out.keep b1))
  clear hCh HC
  rw [HL.out] at HP
  go_wp2_with fail
  refine HP.out.mono ?_
  rintro e w2 ⟨⟨A2, c2, rfl, hP2⟩, hb2⟩
  have b2 := below_next b1 hb2
  obtain ⟨g, rfl, x0, x1, f0, hg⟩ := hP2.at_ HL.out HK.out
  obtain ⟨px, py, hE⟩ : ∃ px py, endS ss = (px, py) := ⟨_, _, rfl⟩
  rw [hE] at x0 x1
  have HE := Lib.hid hE; clear hE
  dsimp only at x0 x1
  have hw : IntKind.i64.wrap (((m : Int) + 1) - 1) = (m : Int) := by rw [show ((m : Int) + 1) - 1 = (m : Int) by omega]; exact IntWalk.i64_in _ (by omega)
  have i1 : (0 : Int) ≤ (m : Int) := by omega
  have i2 : (m : Int) < (m : Int) + 1 := by omega
  have K := Blk.new w2 55 #[.int .i64 px, .int .i64 py]
  obtain ⟨k0, k1, _, _⟩ := K.two
  have b3 := b2.alloc b2.size (.cells #[.int .i64 px, .int .i64 py] 55)
  clear hP2 hb2 HP
  have r0 := qcell k0; have r1 := qcell k1
  go_wp2_with fail
  refine region_qb (by kernel_rfl) (by kernel_rfl) ?_
  repeat (first | go_big_quiet_step (fail) | quiet_step (fail))
  refine wpQuiet_nil ?_
  intro w4 hb4
  have b4 := below_next b3 hb4
  clear r0 r1 hb4
  go_wp2
  go_returns
  refine ⟨?_, b4⟩
  rw [HE.out]; rfl

set_option maxHeartbeats 1600000 in
theorem implOutlineTouches (A : Option Addr) (n c : Nat) (ss : List Stroke) (w : World) (h : StrokesIn w w.heap.size A n c ss) (ho : outB ss = true) (hT : TabS w) :
    Calls Tryd.prog 12 #[.slice A n c] w fun e w' => e = .returned (.int .i64 (touchS ss : Int)) ∧ Below w.heap.size w w' := by
  have hmm := @run_makeMap Tryd.prog
  have HC := Lib.hid (chainOf A n c ss w h); clear h
  have HO := Lib.hid ho
  have HT := Lib.hid hT; clear hT
  have hl : (ptsS ss).length = (unitsS ss).length + 1 := trailU_len _ _
  have hu := unitsS_len (ss := ss) fun s hs => outB_ok ho hs
  have h8 := outB_len ho
  have hbd := trailU_bd (0, 0) (unitsS ss) 24 (by omega)
  have hm25 : (ptsS ss).length ≤ 25 := by omega
  have HBd : Hid (∀ q ∈ ptsS ss, -24 ≤ q.1 ∧ q.1 ≤ 24 ∧ -24 ≤ q.2 ∧ q.2 ≤ 24) := Lib.hid (fun q hq => by have := hbd q hq; dsimp only at this; omega)
  have HR : Hid (touchS ss = touchN [] (ptsS ss)) := Lib.hid rfl
  clear ho hbd hl hu
  obtain ⟨m, hm⟩ : ∃ m, m = (ptsS ss).length := ⟨_, rfl⟩
  rw [← hm] at hm25
  have HL := Lib.hid hm.symm; clear hm
  go_enter Tryd.func12, Tryd.ntmps12
  go_wp2_with fail
  refine HC.out.mono ?_
  rintro e w1 ⟨hA, b1⟩
  rcases hA with ⟨hn, _⟩ | ⟨_, v, rfl, hCh⟩
  · rw [HO.out] at hn; cases hn
  have b1a := b1.alloc b1.size (.map #[] 0)
  have hCa : ChainIn (w1.alloc (.map #[] 0)) v ss := hCh.keep ((Below.refl _ _).alloc (Nat.le_refl _) _)
  have HP := Lib.hid (chainPoints v ss (w1.alloc (.map #[] 0)) hCa HO.out (HT.out.keep b1a))
  have hS1 := Seen.made w1
  have hlt1 : w1.heap.size < (w1.alloc (.map #[] 0)).heap.size := by simp
  clear hCh HC hCa
  rw [HL.out] at HP
  go_wp2_with fail
  refine HP.out.mono ?_
  rintro e w2 ⟨⟨A2, c2, rfl, hP2⟩, hb2⟩
  have b2 := below_next b1a hb2
  have hS2 : Seen w2 w1.heap.size 0 [] := by
    obtain ⟨D, h1, h2, h3⟩ := hS1
    refine ⟨D, ?_, h2, h3⟩
    obtain ⟨es, clock, hb, F, hs, hD⟩ := h1
    exact ⟨es, clock, (hb2.block _ hlt1).trans hb, F, hs, hD⟩
  have HP2 := Lib.hid hP2; have HS2 := Lib.hid hS2
  have hBz := b1.size
  have hAB : ∀ q, (Value.slice A2 m c2).ownBlock = some q → w1.heap.size < q ∧ q < w2.heap.size := fun q hq => ⟨by have := ownG_base hP2 hq; omega, ownG_lt hP2 hq⟩
  have HAB := Lib.hid hAB
  have hz2 := b2.size
  clear hP2 hb2 HP hS1 hS2 hAB
  go_wp2
  go_loopw [5, 20] (fun t i wr => ∃ k : Nat, k ≤ m ∧ i = .int .i64 k ∧ t = .int .i64 (touchN [] ((ptsS ss).take k) : Int) ∧ Hid (Seen wr w1.heap.size k ((ptsS ss).take k)) ∧ Hid (PtOwn wr (w1.heap.size + 1) (.slice A2 m c2) (ptsS ss)) ∧ Below w.heap.size w wr) (fun _ i _ => m - (intOf i).toNat)
  case atStart => exact ⟨0, Nat.zero_le _, rfl, rfl, HS2, Lib.hid (by have h := HP2.out; simpa using h), b2⟩
  case round =>
    obtain ⟨k, hk, rfl, rfl, HS, HPk, hb⟩ := hrel
    have hz := hb.size
    by_cases hlt : k < m
    · have hkl : k < (ptsS ss).length := by rw [HL.out]; exact hlt
      obtain ⟨P, hP⟩ : ∃ P, (ptsS ss)[k]? = some P := ⟨_, List.getElem?_eq_getElem hkl⟩
      have hbP := HBd.out P (List.mem_of_getElem? hP)
      obtain ⟨px, py⟩ := P
      dsimp only at hbP
      have hf1 : (Lit.int .i64 px).wf = true := WalkArith.wf_i64 (by omega)
      have hf2 : (Lit.int .i64 py).wf = true := WalkArith.wf_i64 (by omega)
      obtain ⟨g, rfl, x0, x1, _, hg⟩ := HPk.out.at_ HL.out hP
      dsimp only at x0 x1
      have hTk : (ptsS ss).take (k + 1) = (ptsS ss).take k ++ [(px, py)] := by rw [List.take_add_one, hP]; rfl
      have HTk := Lib.hid hTk
      have hlen : ((ptsS ss).take k).length ≤ 25 := by rw [List.length_take]; omega
      have hcl := List.count_le_length (a := ((px, py) : Pt)) (l := (ptsS ss).take k)
      have htl := touchN_le [] ((ptsS ss).take k)
      have HTn : Hid (touchN [] ((ptsS ss).take (k + 1)) = touchN [] ((ptsS ss).take k) + (if 0 < ((ptsS ss).take k).count (px, py) then 1 else 0)) := Lib.hid (by
        rw [hTk, touchN_snoc]
        simp only [List.count_pos_iff])
      have bA := hb.alloc hz (.cells #[.int .i64 px, .int .i64 py] 55)
      have K := Blk.new wr 55 #[.int .i64 px, .int .i64 py]
      have hSA := HS.out.alloc (.cells #[.int .i64 px, .int .i64 py] 55)
      have hlk := hSA.look (px, py) hf1 hf2
      obtain ⟨v0, st, V1, V2, he, hs, hlV, hSV, hgV⟩ := Seen.store (w := (wr.alloc (.cells #[.int .i64 px, .int .i64 py] 55)).drew) hSA (by unfold maxLen; omega) (by omega) (px, py) hf1 hf2
      have hlk2 : (Instr.lookup 60 (.map (some w1.heap.size)) (.agg #[.int .i64 px, .int .i64 py]) false).run Tryd.prog (wr.alloc (.cells #[.int .i64 px, .int .i64 py] 55)).drew = .ok (.int .i64 (((ptsS ss).take k).count (px, py) : Int)) (wr.alloc (.cells #[.int .i64 px, .int .i64 py] 55)).drew :=
        Seen.look (w := (wr.alloc (.cells #[.int .i64 px, .int .i64 py] 55)).drew) hSA (px, py) hf1 hf2
      have bV : Below w.heap.size w V2 := bA.drew.grown hgV (by simp; omega) (fun q hq => by injection hq with hq; omega)
      have HPV : Hid (PtOwn V2 (w1.heap.size + 1) (.slice (some ⟨g, 0, none⟩) m c2) (ptsS ss)) := Lib.hid (ownG_congr HPk.out fun q hq => by
        have h1 := ownG_base HPk.out hq
        have h2 := ownG_lt HPk.out hq
        exact (hgV.block q (by simp; omega) (fun e => by injection e with e; omega)).trans (Below.heap_alloc wr _ q h2))
      have HSV : Hid (Seen V2 w1.heap.size (k + 1) ((ptsS ss).take (k + 1))) := Lib.hid (by rw [hTk]; exact hSV)
      obtain ⟨k0, k1, _, _⟩ := K.two
      have hw1 : IntKind.i64.wrap ((((ptsS ss).take k).count (px, py) : Int) + 1) = (((ptsS ss).take k).count (px, py) : Int) + 1 := IntWalk.i64_in _ (by omega)
      clear hTk hSV hgV hSA hP hbP hkl K bA
      generalize ((ptsS ss).take k).count (px, py) = C at *
      generalize touchN [] ((ptsS ss).take k) = N at *
      by_cases hC : 0 < C
      · rw [if_pos hC] at HTn
        dsimp only at he hs hlV hlk
        go_wp2_with fail
        obtain ⟨W, hW⟩ : ∃ W, W = wr.alloc (.cells #[.int .i64 px, .int .i64 py] 55) := ⟨_, rfl⟩
        rw [← hW] at he hlk2 k0 k1 ⊢
        clear hW hlk
        go_region_with (fail)
        all_goals (
          clear he hlk2 k0 k1 hlV hs
          go_wp2
          go_roundw
          case rel => exact ⟨k + 1, by omega, by go_num, by rw [HTn.out]; rfl, HSV, HPV, bV⟩
          case measure => simp [intOf]; omega)
      · rw [if_neg hC] at HTn
        dsimp only at he hs hlV hlk
        go_wp2_with fail
        obtain ⟨W, hW⟩ : ∃ W, W = wr.alloc (.cells #[.int .i64 px, .int .i64 py] 55) := ⟨_, rfl⟩
        rw [← hW] at he hlk2 k0 k1 ⊢
        clear hW hlk
        go_region_with (fail)
        all_goals (
          clear he hlk2 k0 k1 hlV hs
          go_wp2
          go_roundw
          case rel => exact ⟨k + 1, by omega, by go_num, by rw [HTn.out]; rfl, HSV, HPV, bV⟩
          case measure => simp [intOf]; omega)
    · have e2 : (ptsS ss).take k = ptsS ss := List.take_of_length_le (by rw [HL.out]; omega)
      rw [e2]
      go_wp2
      go_returns
      exact ⟨by rw [HR.out]; rfl, hb⟩
end Go.Proofs.YtdejgnlmofgdjaaDoor
