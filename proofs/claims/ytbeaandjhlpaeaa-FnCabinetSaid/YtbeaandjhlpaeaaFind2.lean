/-
  find of a cabinet's tree; CabinetFind of both packages. Conditions: no more drawers and pads than a law lets by.
-/
import Derived.Test.YtbeaandjhlpaeaaFind
import Derived.Test.YtbeaandjhlpaeaaCopyCab
import Derived.Test.YtbeaandjhlpaeaaFileLaw
namespace Go.Proofs.Ytbeaandjhlpaeaa
open Go.ChangeShapes Go.WideShapes Go.ChangeAt Go.RowKit Go.Shelf
set_option maxRecDepth 100000

/-- What a search answers: the place of the pad, and whether it has one. -/
def findV : Option (Nat × Nat) → Value
  | some (i, k) => .tuple #[.int .i64 i, .int .i64 k, .bool true]
  | none => .tuple #[.int .i64 0, .int .i64 0, .bool false]
def FindAns (o : Option (Nat × Nat)) (e : Ending) : Prop := e = .returned (findV o)
theorem FindAns.no {o : Option (Nat × Nat)} {e : Ending} (h : o = none) (he : e = .returned (.tuple #[.int .i64 0, .int .i64 0, .bool false])) : FindAns o e := by subst h; exact he
theorem FindAns.yes {o : Option (Nat × Nat)} {e : Ending} {i k : Nat} (h : o = some (i, k)) (he : e = .returned (.tuple #[.int .i64 i, .int .i64 k, .bool true])) : FindAns o e := by subst h; exact he
theorem findV_cases (o : Option (Nat × Nat)) : ∃ (a b : Int) (h : Bool), findV o = .tuple #[.int .i64 a, .int .i64 b, .bool h] := by
  rcases o with _ | ⟨i, k⟩
  · exact ⟨_, _, _, rfl⟩
  · exact ⟨_, _, _, rfl⟩
theorem sorted_drw {css : List (List Pad)} (hs : sortedOK css.flatten) {i : Nat} (hi : i < css.length) : sortedOK (drw css i) := fun k hk => by
  obtain ⟨a1, a2⟩ := cpos_at hi hk
  refine ⟨?_, fun h0 => cab_lt hs hi (by omega) hi hk (.inr ⟨rfl, by omega⟩)⟩
  rw [← a2]
  exact (hs _ a1).1

theorem putIdx_lt : ∀ {l : List Pad} {p : Pad} {j : Nat}, j < putIdx l p → ordPad (padAt l j) p < 0
  | [], p, j, h => by simp [putIdx] at h
  | q :: r, p, j, h => by
    unfold putIdx at h
    split at h
    · rename_i h0
      rcases j with _ | j
      · rw [padAt_cons_zero]; exact h0
      · rw [padAt_cons_succ]; exact putIdx_lt (by omega)
    · omega
theorem putIdx_ge : ∀ {l : List Pad} {p : Pad}, putIdx l p < l.length → 0 ≤ ordPad (padAt l (putIdx l p)) p
  | [], p, h => by simp at h
  | q :: r, p, h => by
    by_cases h0 : ordPad q p < 0
    · have e : putIdx (q :: r) p = putIdx r p + 1 := by rw [putIdx, if_pos h0]
      rw [e] at h ⊢
      rw [padAt_cons_succ]
      exact putIdx_ge (by simpa using h)
    · have e : putIdx (q :: r) p = 0 := by rw [putIdx, if_neg h0]
      rw [e, padAt_cons_zero]; omega
theorem putIdx_place {l : List Pad} {p : Pad} (hs : sortedOK l) : PlaceOf l p (putIdx l p) :=
  ⟨putIdx_le l p, fun j hj => putIdx_lt hj, fun j h1 h2 => by
    have h0 := putIdx_ge (l := l) (p := p) (by omega)
    exact (Srch.left (i := 0) (j := l.length) hs (Srch.start l p) h0).2 j h1 h2⟩
def bsB (ps : List Pad) (p : Pad) : Bool := decide (putIdx ps p < ps.length ∧ ordPad (padAt ps (putIdx ps p)) p = 0)
theorem bsearchV (A : Option Addr) (n c : Nat) (ps : List Pad) (p : Pad) (w : World) (hn : n ≤ 1048576) (hs : sortedOK ps) (h : PadsIn w w.heap.size A n c ps) :
    Calls Try.prog 74 #[.slice A n c, padVal p, .func (.func 53) #[] #[]] w fun e w' => e = .returned (.tuple #[.int .i64 (putIdx ps p), .bool (bsB ps p)]) ∧ Below w.heap.size w w' :=
  (bsearch A n c ps p w hn hs h).mono fun e w' ⟨⟨a, b, he, hP, hb⟩, hw⟩ => by
    refine ⟨?_, hw⟩
    have e1 := place_idx hP
    subst e1
    have hbb : b = bsB ps p := by unfold bsB; rw [Bool.eq_iff_iff, hb]; simp
    rw [he, hbb]

theorem treeFind (t : Nat) (v : Value) (ls : List Leaf) (B : Nat) (p : Pad) (w : World) (hc : cabOK (ls.map (·.ps))) (h : TreeIn w B t v ls) :
    Calls Try.prog 62 #[.pointer (some ⟨t, 0, none⟩), padVal p] w fun e w' => FindAns (findO (ls.map (·.ps)) p) e ∧ Below w.heap.size w w' := by
  obtain ⟨A, c, rfl, hnc, hm⟩ := own_form h.2.2.1
  have hal : Below w.heap.size w (w.alloc (.cells #[.int .i64 p.day, .string p.case] 26)) := (Below.refl _ _).alloc (Nat.le_refl _) _
  have k0 : (w.alloc (.cells #[.int .i64 p.day, .string p.case] 26)).cell? ⟨t, 0, none⟩ = some (.slice A ls.length c) := Lib.cell?_alloc_some _ (h.2.1.cell 0)
  have hlen : ∀ l ∈ ls, lenOK l.ps := fun l hl => hc.2.1 l.ps (List.mem_map_of_mem hl)
  have HT := Lib.hid h
  have HC := Lib.hid hc
  unfold maxLen at hm
  by_cases hn : ls.length = 0
  · have HN : Hid (findO (ls.map (·.ps)) p = none) := Lib.hid (findO_no fun i k hf => by have := hf.1; rw [List.length_map, hn] at this; omega)
    clear h hc hlen
    rw [hn] at k0 hnc
    clear hn
    unfold padVal
    go_enter Try.func62, Try.ntmps62
    go_wp2
    go_returns
    exact ⟨.no HN.out rfl, hal⟩
  · have hn1 : 1 ≤ ls.length := by omega
    have HD := Lib.hid (drawerFor t _ ls B p _ hn1 (fun l hl => (hlen l hl).1) (h.below hal))
    have HLn := Lib.hid hlen
    have hn0 : ((ls.length : Int) == 0) = false := beq_eq_false_iff_ne.2 (by omega)
    clear h hc hlen hn
    unfold padVal at HD ⊢
    go_enter Try.func62, Try.ntmps62
    go_wp2_with fail
    refine HD.out.mono ?_
    rintro e w1 ⟨⟨d, rfl, hd⟩, hb1⟩
    have b1 : Below w.heap.size w w1 := below_next hal hb1
    have hdl : d < ls.length := by have := hd.1; rwa [List.length_map] at this
    have p0 := kcell hb1 (newcell w #[.int .i64 p.day, .string p.case] 26 0 _ rfl)
    have p1 := kcell hb1 (newcell w #[.int .i64 p.day, .string p.case] 26 1 _ rfl)
    have t0 := kcell hb1 k0
    have hTr := HT.out.below b1
    obtain ⟨b, off, eA, hbB, c0, hgl, c1, _, _, hPo, hgd⟩ := hTr.2.2.at_ rfl hdl
    obtain ⟨A2, c2, e2, hnc2, hcm2⟩ := own_form hPo
    rw [e2] at c1 hPo
    subst eA
    have hml := HLn.out _ (leafAt_mem hdl)
    unfold maxLen at hcm2
    have HPR := Lib.hid (hPo.reads rfl hgd)
    have hdw := drw_leaf (ls := ls) hdl
    have hsd : sortedOK (leafAt ls d).ps := by rw [← hdw]; exact sorted_drw HC.out.2.2 (by rw [List.length_map]; exact hdl)
    have HBS : Hid (∀ W, Below w1.heap.size w1 W → Calls Try.prog 74 #[.slice A2 (leafAt ls d).ps.length c2, .agg #[.int .i64 p.day, .string p.case], .func (.func 53) #[] #[]] W fun e w' => e = .returned (.tuple #[.int .i64 (putIdx (leafAt ls d).ps p), .bool (bsB (leafAt ls d).ps p)]) ∧ Below W.heap.size W w') := Lib.hid (fun W hW =>
      bsearchV A2 _ c2 (leafAt ls d).ps p W (by have := hml.2; omega) hsd ((HPR.out.below hW).more hW.size))
    have HPl := Lib.hid (putIdx_place (p := p) hsd)
    have HD2 := Lib.hid hd
    have HDW := Lib.hid hdw
    clear hTr hPo hgd e2 hml hsd hd hdw hnc2 hcm2
    generalize hps : (leafAt ls d).ps = ps at *
    clear hps
    generalize (leafAt ls d).g = gl at *
    have r0 := qcell t0; have r1 := qcell c0; have r2 := qcell c1; have r3 := qcell p0; have r4 := qcell p1
    go_wp2_with fail
    refine region_qb (by kernel_rfl) (by kernel_rfl) ?_
    repeat (first | go_big_quiet_step ((go_at_call 74; exact quietB (HBS.out _ (below_regrown w1 _ _)))) | quiet_step ((go_at_call 74; exact quietB (HBS.out _ (below_regrown w1 _ _)))))
    refine wpQuiet_nil ?_
    intro w3 hb3
    have b3 := below_next b1 hb3
    clear r0 r1 r2 r3 r4 t0 c0 c1 p0 p1 hb3
    have hdw2 := HDW.out
    cases hq : bsB ps p with
    | true =>
      have HY : Hid (findO (ls.map (·.ps)) p = some (d, putIdx ps p)) := Lib.hid (by
        have h1 := of_decide_eq_true hq
        have h2 := HPl.out
        rw [← hdw2] at h1 h2 ⊢
        exact find_yes HC.out HD2.out h2 h1.1 h1.2)
      clear hq hdw2
      go_wp2
      go_returns
      exact ⟨.yes HY.out rfl, b3⟩
    | false =>
      have HY : Hid (findO (ls.map (·.ps)) p = none) := Lib.hid (by
        have h1 := of_decide_eq_false hq
        have h2 := HPl.out
        rw [← hdw2] at h1 h2
        exact find_not HC.out HD2.out h2 h1)
      clear hq hdw2
      go_wp2
      go_returns
      exact ⟨.no HY.out rfl, b3⟩

theorem implCabinetFind (A : Option Addr) (n c : Nat) (ds : List Drawer) (p : Pad) (w : World) (h : DrawersIn w w.heap.size A n c ds) :
    Calls Try.prog 30 #[.slice A n c, padVal p] w fun e w' => FindAns (findO (ds.map (·.ps)) p) e ∧ Below w.heap.size w w' := by
  have hal : Below w.heap.size w (w.alloc (.cells #[.int .i64 p.day, .string p.case] 26)) := (Below.refl _ _).alloc (Nat.le_refl _) _
  have HT := Lib.hid (treeOf A n c ds _ (h.keep hal)); clear h
  unfold padVal
  go_enter Try.func30, Try.ntmps30
  go_wp2_with fail
  refine HT.out.mono ?_
  rintro e w1 ⟨hT, hb1⟩
  have b1 : Below w.heap.size w w1 := below_next hal hb1
  have p0 := kcell hb1 (newcell w #[.int .i64 p.day, .string p.case] 26 0 _ rfl)
  have p1 := kcell hb1 (newcell w #[.int .i64 p.day, .string p.case] 26 1 _ rfl)
  rcases hT with ⟨hn, rfl⟩ | ⟨hy, t, v, ls, rfl, hT, hM⟩
  · have HN : Hid (findO (ds.map (·.ps)) p = none) := Lib.hid (findO_bad (fun hc => by rw [cabB_yes hc] at hn; cases hn)); clear hn
    go_wp2
    go_returns
    exact ⟨.no HN.out rfl, b1⟩
  · have hc : cabOK (ls.map (·.ps)) := by rw [hM]; exact cabB_iff.1 hy
    have HF := Lib.hid (treeFind t v ls _ p w1 hc hT)
    unfold padVal at HF
    rw [hM] at HF
    clear hy hT hM hc
    go_wp2_with fail
    refine HF.out.mono ?_
    rintro e w2 ⟨hF, hb2⟩
    have b2 := below_next b1 hb2
    clear hb1 hb2 p0 p1
    unfold FindAns at hF
    cases hq : findO (ds.map (·.ps)) p with
    | none =>
      rw [hq] at hF
      have HQ := Lib.hid hq; clear hq
      subst hF
      unfold findV
      go_wp2
      go_returns
      exact ⟨.no HQ.out rfl, b2⟩
    | some x =>
      rw [hq] at hF
      rcases x with ⟨i, k⟩
      have HQ := Lib.hid hq; clear hq
      subst hF
      unfold findV
      go_wp2
      go_returns
      exact ⟨.yes HQ.out rfl, b2⟩

end Go.Proofs.Ytbeaandjhlpaeaa
