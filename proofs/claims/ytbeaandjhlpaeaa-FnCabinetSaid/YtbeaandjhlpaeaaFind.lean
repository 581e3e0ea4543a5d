/-
  drawerFor, BinarySearchFunc and find of a cabinet's tree: the place of a pad. Conditions: no more drawers and pads than a law lets by.
-/
import Derived.Test.YtbeaandjhlpaeaaTreePads
import Derived.Test.YtbeaandjhlpaeaaFindLaw
import Derived.Shelf.Abstract
namespace Go.Proofs.Ytbeaandjhlpaeaa
open Go.ChangeShapes Go.WideShapes Go.ChangeAt Go.RowKit Go.Shelf
set_option maxRecDepth 100000

def padVal (p : Pad) : Value := .agg #[.int .i64 p.day, .string p.case]
theorem drw_leaf {ls : List Leaf} {i : Nat} (h : i < ls.length) : drw (ls.map (·.ps)) i = (leafAt ls i).ps := by
  unfold drw; rw [List.getD, List.getElem?_map, leafAt_some h]; rfl
theorem drw_dr {ds : List Drawer} {i : Nat} (h : i < ds.length) : drw (ds.map (·.ps)) i = (drAt ds i).ps := by
  unfold drw; rw [List.getD, List.getElem?_map, drAt_some h]; rfl
/-- The k-th pad of a row of the call's own, as the program reads it. -/
theorem PadsOwn.cell {w : World} {B n c k : Nat} {A : Option Addr} {ps : List Pad} (h : PadsOwn w B (.slice A n c) ps) (hn : ps.length = n) (hg : ∀ p ∈ ps, p.good) (hk : k < n) :
    ∃ g, A = some ⟨g, 0, none⟩ ∧ g < w.heap.size ∧ w.cell? ⟨g, k * 2, none⟩ = some (.int .i64 (padAt ps k).day) ∧ w.cell? ⟨g, k * 2 + 1, none⟩ = some (.string (padAt ps k).case) := by
  obtain ⟨b, off, e, hb, c0, c1, _⟩ := (h.reads hn hg).at_ hk
  have h2 := h
  unfold PadsOwn at h2
  obtain ⟨g, cap, hv, _, _⟩ := h2.form (by omega)
  injection hv with hv1 hv2 hv3
  rw [e] at hv1
  injection hv1 with hv1; injection hv1 with e1 e2
  subst e1 e2
  refine ⟨b, e, hb, ?_, ?_⟩
  · rw [← c0]; congr 2; omega
  · rw [← c1]; congr 2; omega

theorem drawerFor (t : Nat) (v : Value) (ls : List Leaf) (B : Nat) (p : Pad) (w : World) (hn : 1 ≤ ls.length) (hne : ∀ l ∈ ls, 1 ≤ l.ps.length) (h : TreeIn w B t v ls) :
    Calls Try.prog 73 #[.pointer (some ⟨t, 0, none⟩), padVal p] w fun e w' => (∃ d : Nat, e = .returned (.int .i64 d) ∧ DrawerOf (ls.map (·.ps)) p d) ∧ Below w.heap.size w w' := by
  obtain ⟨A, c, rfl, hnc, hm⟩ := own_form h.2.2.1
  have k0 : (w.alloc (.cells #[.int .i64 p.day, .string p.case] 26)).cell? ⟨t, 0, none⟩ = some (.slice A ls.length c) := Lib.cell?_alloc_some _ (h.2.1.cell 0)
  have HT := Lib.hid h; clear h
  have HNe := Lib.hid hne; clear hne
  unfold maxLen at hm
  unfold padVal
  generalize hl : ls.length = n at *
  have HL := Lib.hid hl; clear hl
  go_enter Try.func73, Try.ntmps73
  go_wp2
  go_loopw [5] (fun i wr => ∃ (k : Nat), k < n ∧ i = .int .i64 k ∧ Hid (∀ i, k < i → i < n → 0 < ordPad (padAt (leafAt ls i).ps 0) p) ∧ Below w.heap.size w wr ∧ wr.cell? ⟨w.heap.size, 0, none⟩ = some (.int .i64 p.day) ∧ wr.cell? ⟨w.heap.size, 1, none⟩ = some (.string p.case)) (fun i _ => (intOf i).toNat)
  case atStart => exact ⟨n - 1, by omega, by congr 1; omega, Lib.hid (fun i h1 h2 => by omega), (Below.refl _ _).alloc (Nat.le_refl _) _, newcell w #[.int .i64 p.day, .string p.case] _ 0 _ rfl, newcell w #[.int .i64 p.day, .string p.case] _ 1 _ rfl⟩
  case round =>
    obtain ⟨k, hk, rfl, hK, hb, p0, p1⟩ := hrel
    by_cases hk0 : 0 < k
    · have hTr := HT.out.below hb
      have t0 : wr.cell? ⟨t, 0, none⟩ = some (.slice A n c) := hTr.2.1.cell 0
      obtain ⟨b, off, eA, hbB, c0, hgl, c1, _, _, hPo, hgd⟩ := hTr.2.2.at_ HL.out hk
      obtain ⟨A2, c2, e2, hnc2, hcm2⟩ := own_form hPo
      have hl1 := HNe.out _ (leafAt_mem (ls := ls) (k := k) (by rw [HL.out]; exact hk))
      rw [e2] at c1 hPo
      obtain ⟨g2, eA2, hg2, q0, q1⟩ := hPo.cell rfl hgd hl1
      subst eA eA2
      have HPA := Lib.hid hl1
      unfold maxLen at hcm2
      have hlt0 : (0 : Int) < ((leafAt ls k).ps.length : Int) := by omega
      have HL2 := Lib.hid (leafAt_some (ls := ls) (k := k) (by rw [HL.out]; exact hk))
      have co : ∀ W, Calls Try.prog 53 #[.agg #[.int .i64 (padAt (leafAt ls k).ps 0).day, .string (padAt (leafAt ls k).ps 0).case], .agg #[.int .i64 p.day, .string p.case]] W fun e w' => e = .returned (.int .i64 (ordPad (padAt (leafAt ls k).ps 0) p)) ∧ Below W.heap.size W w' := fun W => comparePads _ _ _ _ W
      have CO := Lib.hid co; clear co
      clear hTr hPo hgd e2 hl1
      rw [Nat.zero_mul] at q0
      rw [Nat.zero_mul, Nat.zero_add] at q1
      generalize hm : (leafAt ls k).ps.length = m at *
      have HM := Lib.hid hm; clear hm
      generalize (leafAt ls k).g = gl at *
      have r0 := qcell t0; have r1 := qcell c0; have r2 := qcell c1; have r3 := qcell q0; have r4 := qcell q1; have r5 := qcell p0; have r6 := qcell p1
      by_cases ho : ordPad (padAt (leafAt ls k).ps 0) p ≤ 0
      · have HD : Hid (DrawerOf (ls.map (·.ps)) p k) := Lib.hid ⟨by rw [List.length_map, HL.out]; exact hk, fun _ => by rw [drw_leaf (by rw [HL.out]; exact hk)]; exact ho, fun i h1 h2 => by
          rw [List.length_map, HL.out] at h2
          rw [drw_leaf (by rw [HL.out]; exact h2)]; exact hK.out i h1 h2⟩
        clear hK
        generalize ordPad (padAt (leafAt ls k).ps 0) p = o at *
        generalize padAt (leafAt ls k).ps 0 = q at *
        go_wp2_with fail
        refine region_qb (by kernel_rfl) (by kernel_rfl) ?_
        repeat (first | go_big_quiet_step ((go_at_call 53; exact quietB (CO.out _))) | quiet_step ((go_at_call 53; exact quietB (CO.out _))))
        refine wpQuiet_nil ?_
        intro w3 hb3
        have b3 := hb.trans (hb3.mono hb.size)
        clear r0 r1 r2 r3 r4 r5 r6 t0 c0 c1 q0 q1 p0 p1 hb3
        go_wp2
        go_ret
        exact ⟨⟨k, rfl, HD.out⟩, b3⟩
      · have HK2 : Hid (∀ i, k - 1 < i → i < n → 0 < ordPad (padAt (leafAt ls i).ps 0) p) := Lib.hid (fun i h1 h2 => by
          by_cases e : i = k
          · subst e; omega
          · exact hK.out i (by omega) h2)
        have ho' : 0 < ordPad (padAt (leafAt ls k).ps 0) p := by omega
        clear hK ho
        generalize ordPad (padAt (leafAt ls k).ps 0) p = o at *
        generalize padAt (leafAt ls k).ps 0 = q at *
        go_wp2_with fail
        refine region_qb (by kernel_rfl) (by kernel_rfl) ?_
        repeat (first | go_big_quiet_step ((go_at_call 53; exact quietB (CO.out _))) | quiet_step ((go_at_call 53; exact quietB (CO.out _))))
        refine wpQuiet_nil ?_
        intro w3 hb3
        have b3 := hb.trans (hb3.mono hb.size)
        have p0' := kcell hb3 p0
        have p1' := kcell hb3 p1
        clear r0 r1 r2 r3 r4 r5 r6 t0 c0 c1 q0 q1 p0 p1 hb3
        go_wp2
        go_roundw
        case rel => exact ⟨k - 1, by omega, by congr 1; omega, HK2, b3, p0', p1'⟩
        case measure => simp [intOf]; omega
    · obtain rfl : k = 0 := by omega
      have HD : Hid (DrawerOf (ls.map (·.ps)) p 0) := Lib.hid ⟨by rw [List.length_map, HL.out]; exact hk, fun h => by omega, fun i h1 h2 => by
        rw [List.length_map, HL.out] at h2
        rw [drw_leaf (by rw [HL.out]; exact h2)]; exact hK.out i h1 h2⟩
      clear hK
      go_wp2
      go_ret
      exact ⟨⟨0, rfl, HD.out⟩, hb⟩

/-- The head of a search: what lies ahead of i comes ahead of p, what lies from j on does not. -/
def Srch (ps : List Pad) (p : Pad) (i j : Nat) : Prop := (∀ q, q < i → ordPad (padAt ps q) p < 0) ∧ ∀ q, j ≤ q → q < ps.length → 0 ≤ ordPad (padAt ps q) p
theorem Srch.start (ps : List Pad) (p : Pad) : Srch ps p 0 ps.length := ⟨fun q h => by omega, fun q h1 h2 => by omega⟩
theorem Srch.right {ps : List Pad} {p : Pad} {i j h : Nat} (hs : sortedOK ps) (hp : h < ps.length) (hS : Srch ps p i j) (ho : ordPad (padAt ps h) p < 0) : Srch ps p (h + 1) j :=
  ⟨fun q hq => by
    by_cases e : q = h
    · subst e; exact ho
    · exact ordPad_trans (sorted_lt hs (by omega) hp) ho, hS.2⟩
theorem Srch.left {ps : List Pad} {p : Pad} {i j h : Nat} (hs : sortedOK ps) (hS : Srch ps p i j) (ho : 0 ≤ ordPad (padAt ps h) p) : Srch ps p i h :=
  ⟨hS.1, fun q h1 h2 => by
    by_cases e : q = h
    · subst e; exact ho
    · have h3 := sorted_lt hs (show h < q by omega) h2
      rcases Int.lt_or_le (ordPad (padAt ps q) p) 0 with h4 | h4
      · have := ordPad_trans h3 h4; omega
      · exact h4⟩
def BsAns (ps : List Pad) (p : Pad) (e : Ending) : Prop := ∃ (a : Nat) (h : Bool), e = .returned (.tuple #[.int .i64 a, .bool h]) ∧ PlaceOf ps p a ∧ (h = true ↔ a < ps.length ∧ ordPad (padAt ps a) p = 0)
theorem mid_eq (i j : Nat) (h : i < j) : (i + j) / 2 < j ∧ i ≤ (i + j) / 2 := by omega

theorem bsearch (A : Option Addr) (n c : Nat) (ps : List Pad) (p : Pad) (w : World) (hn : n ≤ 1048576) (hs : sortedOK ps) (h : PadsIn w w.heap.size A n c ps) :
    Calls Try.prog 74 #[.slice A n c, padVal p, .func (.func 53) #[] #[]] w fun e w' => BsAns ps p e ∧ Below w.heap.size w w' := by
  have hcm := h.2.2.1; have hnc := h.2.1
  unfold maxLen at hcm
  have HL := Lib.hid h.1
  have H := Lib.hid h; clear h
  have HS := Lib.hid hs; clear hs
  have eg : ∀ args w, (callFunc 53 args).run Try.prog w = .ok (.enter 53 args) w := enters_of Try.func53 (by kernel_rfl) rfl
  unfold padVal
  go_enter Try.func74, Try.ntmps74
  go_wp2
  go_loopw [9, 10] (fun a b wr => ∃ (i j : Nat), i ≤ j ∧ j ≤ n ∧ a = .int .i64 i ∧ b = .int .i64 j ∧ Hid (Srch ps p i j) ∧ Below w.heap.size w wr ∧ wr.cell? ⟨w.heap.size, 0, none⟩ = some (.int .i64 p.day) ∧ wr.cell? ⟨w.heap.size, 1, none⟩ = some (.string p.case)) (fun a b _ => (intOf b - intOf a).toNat)
  case atStart => exact ⟨0, n, by omega, Nat.le_refl _, rfl, rfl, Lib.hid (by rw [← HL.out]; exact Srch.start ps p), (Below.refl _ _).alloc (Nat.le_refl _) _, newcell w #[.int .i64 p.day, .string p.case] _ 0 _ rfl, newcell w #[.int .i64 p.day, .string p.case] _ 1 _ rfl⟩
  case round =>
    obtain ⟨i, j, hij, hj, rfl, rfl, hSr, hb, p0, p1⟩ := hrel
    by_cases hlt : i < j
    · obtain ⟨m1, m2⟩ := mid_eq i j hlt
      have HH := Lib.hid (show ((i : Int) + j) / 2 = (((i + j) / 2 : Nat) : Int) by omega)
      generalize (i + j) / 2 = h at *
      have hhn : h < n := by omega
      obtain ⟨b, off, eA, hbB, c0, c1, hg⟩ := (H.out.below hb).at_ hhn
      have co : ∀ W, Calls Try.prog 53 #[.agg #[.int .i64 (padAt ps h).day, .string (padAt ps h).case], .agg #[.int .i64 p.day, .string p.case]] W fun e w' => e = .returned (.int .i64 (ordPad (padAt ps h) p)) ∧ Below W.heap.size W w' := fun W => comparePads _ _ _ _ W
      have CO := Lib.hid co; clear co
      have r0 := qcell c0; have r1 := qcell c1; have r2 := qcell p0; have r3 := qcell p1
      have hhl : h < ps.length := by rw [HL.out]; exact hhn
      by_cases ho : ordPad (padAt ps h) p < 0
      · have HSr := Lib.hid (hSr.out.right HS.out hhl ho)
        subst eA
        clear hSr hg hhl
        generalize ordPad (padAt ps h) p = o at *
        generalize padAt ps h = q at *
        go_wp2_with fail
        rw [HH.out]
        refine region_qb (by kernel_rfl) (by kernel_rfl) ?_
        repeat (first | go_big_quiet_step ((go_at_fn 53; exact quietB (CO.out _))) | quiet_step ((go_at_fn 53; exact quietB (CO.out _))))
        refine wpQuiet_nil ?_
        intro w3 hb3
        have b3 := hb.trans (hb3.mono hb.size)
        have p0' := kcell hb3 p0
        have p1' := kcell hb3 p1
        clear r0 r1 r2 r3 c0 c1 p0 p1 hb3
        go_wp2
        go_roundw
        case rel => exact ⟨h + 1, j, by omega, hj, by go_num, rfl, HSr, b3, p0', p1'⟩
        case measure => simp [intOf]; omega
      · have ho' : 0 ≤ ordPad (padAt ps h) p := by omega
        have HSr := Lib.hid (hSr.out.left HS.out ho')
        subst eA
        clear hSr hg hhl ho
        generalize ordPad (padAt ps h) p = o at *
        generalize padAt ps h = q at *
        go_wp2_with fail
        rw [HH.out]
        refine region_qb (by kernel_rfl) (by kernel_rfl) ?_
        repeat (first | go_big_quiet_step ((go_at_fn 53; exact quietB (CO.out _))) | quiet_step ((go_at_fn 53; exact quietB (CO.out _))))
        refine wpQuiet_nil ?_
        intro w3 hb3
        have b3 := hb.trans (hb3.mono hb.size)
        have p0' := kcell hb3 p0
        have p1' := kcell hb3 p1
        clear r0 r1 r2 r3 c0 c1 p0 p1 hb3
        go_wp2
        go_roundw
        case rel => exact ⟨i, h, by omega, by omega, rfl, rfl, HSr, b3, p0', p1'⟩
        case measure => simp [intOf]; omega
    · obtain rfl : i = j := by omega
      have HP : Hid (PlaceOf ps p i) := Lib.hid ⟨by rw [HL.out]; exact hj, hSr.out.1, hSr.out.2⟩
      clear hSr
      by_cases hin : i < n
      · obtain ⟨b, off, eA, hbB, c0, c1, hg⟩ := (H.out.below hb).at_ hin
        have hb0 : decide ((i : Int) < n) = true := decide_eq_true (by omega)
        have co : ∀ W, Calls Try.prog 53 #[.agg #[.int .i64 (padAt ps i).day, .string (padAt ps i).case], .agg #[.int .i64 p.day, .string p.case]] W fun e w' => e = .returned (.int .i64 (ordPad (padAt ps i) p)) ∧ Below W.heap.size W w' := fun W => comparePads _ _ _ _ W
        have CO := Lib.hid co; clear co
        have r0 := qcell c0; have r1 := qcell c1; have r2 := qcell p0; have r3 := qcell p1
        have HX : Hid (∀ e, e = Ending.returned (.tuple #[.int .i64 i, .bool (ordPad (padAt ps i) p == 0)]) → BsAns ps p e) := Lib.hid (fun e he => ⟨i, _, he, HP.out, by rw [HL.out]; simp [hin]⟩)
        subst eA
        clear hg
        generalize ordPad (padAt ps i) p = o at *
        generalize padAt ps i = q at *
        go_wp2_with fail
        refine region_qb (by kernel_rfl) (by kernel_rfl) ?_
        repeat (first | go_big_quiet_step ((go_at_fn 53; exact quietB (CO.out _))) | quiet_step ((go_at_fn 53; exact quietB (CO.out _))))
        refine wpQuiet_nil ?_
        intro w3 hb3
        have b3 := hb.trans (hb3.mono hb.size)
        clear r0 r1 r2 r3 c0 c1 p0 p1 hb3
        go_wp2
        go_ret2
        exact ⟨HX.out _ rfl, b3⟩
      · have hb0 : decide ((i : Int) < n) = false := decide_eq_false (by omega)
        have HX : Hid (false = true ↔ i < ps.length ∧ ordPad (padAt ps i) p = 0) := Lib.hid ⟨(fun h => by cases h), (fun h => by have := h.1; rw [HL.out] at this; omega)⟩
        go_wp2_with fail
        refine region_qb (by kernel_rfl) (by kernel_rfl) ?_
        repeat (first | go_big_quiet_step (fail) | quiet_step (fail))
        refine wpQuiet_nil ?_
        intro w3 hb3
        have b3 := hb.trans (hb3.mono hb.size)
        clear p0 p1 hb3
        go_wp2
        go_ret2
        exact ⟨⟨i, _, rfl, HP.out, HX.out⟩, b3⟩
end Go.Proofs.Ytbeaandjhlpaeaa
