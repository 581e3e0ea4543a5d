/-
  A pad is filed into a cabinet's tree. Conditions: the tree is a cabinet's, the pad is valid.
-/
import Derived.Test.YtfbfapobmhfenaaTreeIns
import Derived.Test.YtfbfapobmhfenaaFindA
namespace Go.Proofs.Ytfbfapobmhfenaa
open Go.ChangeShapes Go.WideShapes Go.ChangeAt Go.RowKit Go.Shelf
set_option maxRecDepth 100000

/-- The answer of filing, and the tree behind it. -/
def FTAns (w' : World) (B t : Nat) (o : Option (List (List Pad))) (e : Ending) : Prop :=
  (o = none ∧ e = .returned (.bool false)) ∨ ∃ v' ls', o = some (ls'.map (·.ps)) ∧ e = .returned (.bool true) ∧ TreeIn w' B t v' ls'
theorem FTAns.no {w' : World} {B t : Nat} {o : Option (List (List Pad))} {e : Ending} (h : o = none) (he : e = .returned (.bool false)) : FTAns w' B t o e := .inl ⟨h, he⟩
theorem FTAns.yes {w' : World} {B t : Nat} {o : Option (List (List Pad))} {e : Ending} {v' : Value} {ls' : List Leaf} (h : o = some (ls'.map (·.ps))) (he : e = .returned (.bool true)) (ht : TreeIn w' B t v' ls') : FTAns w' B t o e := .inr ⟨v', ls', h, he, ht⟩
theorem FTAns.end {w' : World} {B t n : Nat} {css : List (List Pad)} {v' : Value} {ls' : List Leaf} (h : css = ls'.map (·.ps)) (hn : ls'.length = n) (ht : TreeIn w' B t v' ls') : FTAns w' B t (if 6 < css.length then none else some css) (.returned (.bool (decide (n ≤ 6)))) := by
  subst h
  rw [List.length_map, hn]
  by_cases h6 : 6 < n
  · rw [if_pos h6, decide_eq_false (by omega)]; exact .no rfl rfl
  · rw [if_neg h6, decide_eq_true (by omega)]; exact .yes rfl rfl ht

theorem turned_whole {ls : List Leaf} {d g : Nat} {l : Leaf} {v2 : Value} {f : List Pad} (hl : ls[d]? = some l) (hf : f.length ≤ 4) : turned (ls.map (·.ps)) d f = (ls.set d ⟨g, v2, f⟩).map (·.ps) := by
  unfold turned
  rw [if_neg (by omega), List.map_set, List.set_eq_take_append_cons_drop, if_pos (by rw [List.length_map]; exact (List.getElem?_eq_some_iff.1 hl).1)]
theorem turned_split {ls : List Leaf} {d g G : Nat} {l : Leaf} {v2 sv : Value} {f : List Pad} (hl : ls[d]? = some l) (hf : 4 < f.length) : turned (ls.map (·.ps)) d f = (insL (ls.set d ⟨g, v2, f.take ((f.length + 1) / 2)⟩) ⟨G, sv, f.drop ((f.length + 1) / 2)⟩ (d + 1)).map (·.ps) := by
  have hd := (List.getElem?_eq_some_iff.1 hl).1
  unfold turned insL
  rw [if_pos hf, List.set_eq_take_append_cons_drop, if_pos hd]
  have h1 : (ls.take d ++ (⟨g, v2, f.take ((f.length + 1) / 2)⟩ : Leaf) :: ls.drop (d + 1)).take (d + 1) = ls.take d ++ [⟨g, v2, f.take ((f.length + 1) / 2)⟩] := by
    rw [List.take_append, List.take_of_length_le (by rw [List.length_take]; omega), List.length_take, Nat.min_eq_left (by omega), show d + 1 - d = 0 + 1 by omega, List.take_succ_cons, List.take_zero]
  have h2 : (ls.take d ++ (⟨g, v2, f.take ((f.length + 1) / 2)⟩ : Leaf) :: ls.drop (d + 1)).drop (d + 1) = ls.drop (d + 1) := by
    rw [List.drop_append, List.drop_eq_nil_of_le (by rw [List.length_take]; omega), List.length_take, Nat.min_eq_left (by omega), show d + 1 - d = 0 + 1 by omega, List.drop_succ_cons, List.drop_zero, List.nil_append]
  rw [h1, h2]
  simp [List.map_take, List.map_drop]
theorem insL_len {ls : List Leaf} {l : Leaf} {d : Nat} : (insL ls l d).length = ls.length + 1 := by rw [(insL_perm ls l d).length_eq, List.length_cons]
theorem drw_of {ls : List Leaf} {d : Nat} {l : Leaf} (hl : ls[d]? = some l) : drw (ls.map (·.ps)) d = l.ps := by
  unfold drw; rw [List.getD_eq_getElem?_getD, List.getElem?_map, hl]; rfl

theorem TreeIn.push2 {w0 w1 w2 : World} {B t G : Nat} {v v' sv : Value} {ls : List Leaf} {ps : List Pad} (hG : w1.heap.size = G) (h : TreeIn w0 B t v ls) (hB : B ≤ w0.heap.size) (hb1 : Below w0.heap.size w0 w1) (hO : PadsOwn w1 w0.heap.size sv ps) (hgood : ∀ p ∈ ps, p.good)
    (hg2 : ((w1.alloc (.cells #[sv] 95)).alloc (.cells #[.pointer (some ⟨G, 0, none⟩)] 93)).grownBy w2 v.ownBlock)
    (hown : w2.ownsRow B 93 1 v' (ls.length + 1) (ls.map Leaf.ptr ++ [.pointer (some ⟨G, 0, none⟩)])) :
    TreeIn (w2.setCell ⟨t, 0, none⟩ v') B t v' (ls ++ [⟨G, sv, ps⟩]) ∧ Below B w0 (w2.setCell ⟨t, 0, none⟩ v') := by
  subst hG
  exact TreeIn.push h hB hb1 hO hgood hg2 hown

theorem rowNew3 (w1 : World) (o o2 : Obj) (u : Value) (t : TypeId) : Row (((w1.alloc o).alloc o2).alloc (.cells #[u] t)) (w1.heap.size + 3) (some ⟨w1.heap.size + 2, 0, none⟩) 1 1 [u] := by
  have h := rowNew (w1.alloc o) o2 u t
  rwa [show (w1.alloc o).heap.size = w1.heap.size + 1 by simp] at h
set_option maxHeartbeats 1000000 in
theorem fileNew (t : Nat) (v : Value) (B : Nat) (p : Pad) (w : World) (hB : B ≤ w.heap.size) (hp : p.good) (h : TreeIn w B t v []) :
    Calls Try.prog 71 #[.pointer (some ⟨t, 0, none⟩), padVal p] w fun e w' => (∃ v' l, e = .returned (.bool true) ∧ l.ps = [p] ∧ TreeIn w' B t v' [l]) ∧ Below B w w' := by
  have hal : Below w.heap.size w (w.alloc (.cells #[.int .i64 p.day, .string p.case] 49)) := (Below.refl _ _).alloc (Nat.le_refl _) _
  have HF := Lib.hid (treeFind t v [] B p _ cab_nil (h.below hal))
  have e0 : findO ([] : List (List Pad)) p = none := findO_no (fun i k hf => by have := hf.1; simp at this)
  obtain ⟨i0, hi, hz0, hz1, hz2⟩ := infoLeafP
  unfold padVal at HF ⊢
  rw [show findO (List.map (·.ps) ([] : List Leaf)) p = none from e0] at HF
  unfold FindAns findV at HF
  have HT := Lib.hid h
  clear h e0
  go_enter Try.func71, Try.ntmps71
  go_wp2_with fail
  refine HF.out.mono ?_
  rintro e w1 ⟨rfl, hb1⟩
  have b1 := below_next hal hb1
  have p0 := kcell hb1 (newcell w #[.int .i64 p.day, .string p.case] 49 0 _ rfl)
  have p1 := kcell hb1 (newcell w #[.int .i64 p.day, .string p.case] 49 1 _ rfl)
  have hT1 := HT.out.below b1
  obtain ⟨A, c, e1, hnc, hcm⟩ := own_form hT1.2.2.1
  have HNe : Hid (v.ownBlock ≠ some t) := Lib.hid (hT1.2.1.ne_own hT1.2.2.1 (by decide))
  subst e1
  have hcf0 : w1.cell? ⟨t, 0, none⟩ = some (.slice A ([] : List Leaf).length c) ∧ w1.frozen? ⟨t, 0, none⟩ = false := ⟨hT1.2.1.cell 0, hT1.2.1.free 0⟩
  rw [List.length_nil] at hcf0
  have hcf1 := keepAlloc hcf0 (.cells #[.int .i64 p.day, .string p.case] 49)
  have hcf2 := keepAlloc hcf1 (.cells #[.slice (some ⟨w1.heap.size, 0, none⟩) 1 1] 95)
  have hcf3 := keepAlloc hcf2 (.cells #[.pointer (some ⟨w1.heap.size + 1, 0, none⟩)] 93)
  have HO : Hid (∀ W, Below w1.heap.size w1 W → W.ownsRow B 93 1 (.slice A 0 c) 0 []) := Lib.hid (fun W hW => own_congr hT1.2.2.1 (fun b hb => hW.block _ (own_lt hT1.2.2.1 hb)))
  have HT1 := Lib.hid hT1
  have hBz := Nat.le_trans hB b1.size
  have n0 := hcf0.1; have n1 := hcf1.1; have n2 := hcf2.1; have n3 := hcf3.1; have f3 := hcf3.2
  clear hT1 hb1 HF
  have HOp : Hid (PadsOwn (w1.drew.alloc (.cells #[.int .i64 p.day, .string p.case] 49)) w1.heap.size (.slice (some ⟨w1.heap.size, 0, none⟩) 1 1) [p]) := Lib.hid (World.ownsRow_lit w1.drew #[.int .i64 p.day, .string p.case] 1 (Nat.le_refl _) (by unfold maxLen; omega) rfl)
  go_wp2_with fail
  go_region_law ((refine step_append_any _ rfl (.tmp 28) (.tmp 33) _ rfl B 93 i0 _ 1 8 Try.underlying83 hi hz0 hz1 hz2 rfl (by omega) (.slice A 0 c) 0 [] rfl (HO.out _ (by go_grown)) (w1.heap.size + 3) (some ⟨w1.heap.size + 2, 0, none⟩) 1 1 [.pointer (some ⟨w1.heap.size + 1, 0, none⟩)] rfl (rowNew3 _ _ _ _ _) (by simp [Value.oneCell']) (by unfold maxLen; omega) (by omega) (by simp; omega) ?_; intro v2 w2 hown2 hg2 hat2; obtain ⟨A2, cc2, rfl, hcc2, hcm2⟩ := own_form hown2; have hcf4 := keepCell hg2 HNe.out hcf3; have n4 := hcf4.1; have f4 := hcf4.2))
  all_goals (
    have hpush := TreeIn.push2 (G := w1.heap.size + 1) (by simp) HT1.out hBz (by go_grown) HOp.out (fun x hx => by rw [List.mem_singleton] at hx; subst hx; exact hp) hg2 hown2
    have HT2 := Lib.hid hpush.1
    have b4 := (b1.mono hB).trans hpush.2
    clear hpush hown2 hg2 hat2 HOp HT1 HO
    go_wp2
    go_returns
    exact ⟨⟨_, _, rfl, rfl, HT2.out⟩, b4⟩)
theorem leafAt_set {ls : List Leaf} {d : Nat} {x : Leaf} (h : d < ls.length) : leafAt (ls.set d x) d = x := by
  unfold leafAt; rw [List.getD_eq_getElem?_getD, List.getElem?_set_self h]; rfl
theorem set_get {ls : List Leaf} {d : Nat} {l x : Leaf} (h : ls[d]? = some l) : (ls.set d x)[d]? = some x := List.getElem?_set_self (List.getElem?_eq_some_iff.1 h).1

theorem fileHas (t : Nat) (v : Value) (ls : List Leaf) (B : Nat) (p : Pad) (x : Nat × Nat) (w : World) (hc : cabOK (ls.map (·.ps))) (hq : findO (ls.map (·.ps)) p = some x) (h : TreeIn w B t v ls) :
    Calls Try.prog 71 #[.pointer (some ⟨t, 0, none⟩), padVal p] w fun e w' => e = .returned (.bool false) ∧ Below w.heap.size w w' := by
  have hal : Below w.heap.size w (w.alloc (.cells #[.int .i64 p.day, .string p.case] 49)) := (Below.refl _ _).alloc (Nat.le_refl _) _
  have HF := Lib.hid (treeFind t v ls B p _ hc (h.below hal))
  unfold padVal at HF ⊢
  rw [hq] at HF
  unfold FindAns at HF
  clear h hc hq
  rcases x with ⟨i, k⟩
  unfold findV at HF
  go_enter Try.func71, Try.ntmps71
  go_wp2_with fail
  refine HF.out.mono ?_
  rintro e w1 ⟨rfl, hb1⟩
  have b1 := below_next hal hb1
  go_wp2
  go_returns
  exact ⟨rfl, b1⟩

set_option maxHeartbeats 2000000 in
theorem fileIn (t : Nat) (v : Value) (ls : List Leaf) (B : Nat) (p : Pad) (w : World) (hB : B ≤ w.heap.size) (hg : p.good) (hc : cabOK (ls.map (·.ps))) (hq : findO (ls.map (·.ps)) p = none) (hn : 1 ≤ ls.length) (h : TreeIn w B t v ls) :
    Calls Try.prog 71 #[.pointer (some ⟨t, 0, none⟩), padVal p] w fun e w' => FTAns w' B t (fileS (ls.map (·.ps)) p) e ∧ Below B w w' := by
  obtain ⟨A, c, rfl, hnc, hcm⟩ := own_form h.2.2.1
  have hal : Below w.heap.size w (w.alloc (.cells #[.int .i64 p.day, .string p.case] 49)) := (Below.refl _ _).alloc (Nat.le_refl _) _
  have hlen : ∀ l ∈ ls, lenOK l.ps := fun l hl => hc.2.1 l.ps (List.mem_map_of_mem hl)
  have h6 : ls.length ≤ 6 := by have := hc.1; rwa [List.length_map] at this
  have HF := Lib.hid (treeFind t _ ls B p _ hc (h.below hal))
  have HD : Hid (∀ W, Below w.heap.size w W → Calls Try.prog 87 #[.pointer (some ⟨t, 0, none⟩), padVal p] W fun e w' => (∃ d : Nat, e = .returned (.int .i64 d) ∧ DrawerOf (ls.map (·.ps)) p d) ∧ Below W.heap.size W w') := Lib.hid (fun W hW => drawerFor t _ ls B p W hn (fun l hl => (hlen l hl).1) (h.below hW))
  have hn0 : ((ls.length : Int) == 0) = false := beq_eq_false_iff_ne.2 (by omega)
  have k0 : (w.alloc (.cells #[.int .i64 p.day, .string p.case] 49)).cell? ⟨t, 0, none⟩ = some (.slice A ls.length c) := Lib.cell?_alloc_some _ (h.2.1.cell 0)
  have HT := Lib.hid h; have HC := Lib.hid hc; have HQ := Lib.hid hq; have HLn := Lib.hid hlen
  unfold padVal at HF HD ⊢
  rw [hq] at HF
  unfold FindAns findV at HF
  unfold maxLen at hcm
  clear h hc hq hlen
  go_enter Try.func71, Try.ntmps71
  go_wp2_with fail
  refine HF.out.mono ?_
  rintro e w1 ⟨rfl, hb1⟩
  have b1 := below_next hal hb1
  have p0 := kcell hb1 (newcell w #[.int .i64 p.day, .string p.case] 49 0 _ rfl)
  have p1 := kcell hb1 (newcell w #[.int .i64 p.day, .string p.case] 49 1 _ rfl)
  have t0 := kcell hb1 k0
  clear hb1 HF k0
  go_wp2_with fail
  refine (HD.out _ b1).mono ?_
  rintro e w2 ⟨⟨d, rfl, hd⟩, hb2⟩
  have b2 := below_next b1 hb2
  have q0 := kcell hb2 p0; have q1 := kcell hb2 p1; have t1 := kcell hb2 t0
  clear hb2 p0 p1 t0 HD hn0
  have hdl : d < ls.length := by have := hd.1; rwa [List.length_map] at this
  have hT2 := HT.out.below b2
  obtain ⟨b, off, eA, hbB, c0, _⟩ := hT2.2.2.at_ rfl hdl
  subst eA
  have hl := leafAt_some hdl
  have hlm := leafAt_mem hdl
  have hsd : sortedOK (leafAt ls d).ps := by rw [← drw_leaf hdl]; exact sorted_drw HC.out.2.2 (by rw [List.length_map]; exact hdl)
  have hl4 := HLn.out _ hlm
  have HPt := Lib.hid (leafPut t d _ ls (leafAt ls d) B p w2.drew (Nat.le_trans hB b2.size) (hT2.below (Below.refl _ _).drew) hl (by unfold lenOK at hl4; omega) hsd hg)
  unfold padVal at HPt
  have HL := Lib.hid hl; have HS := Lib.hid hsd; have HD2 := Lib.hid hd
  have hlo := hl4.2
  clear hT2 hl hlm hsd hd hl4
  generalize leafAt ls d = l at *
  go_wp2_with fail
  refine region_still_tail 8 (by kernel_rfl) (by kernel_rfl) ?_
  simp only [List.take_succ_cons, List.take_zero, List.drop_succ_cons, List.drop_zero]
  repeat still_step
  refine wpStill_nil ?_
  go_wp2_with fail
  refine HPt.out.mono ?_
  rintro e w3 ⟨rfl, hb3, v3, hT3⟩
  have b3 : Below B w w3 := (b2.mono hB).drew.trans hb3
  have hB3 : B ≤ w3.heap.size := Nat.le_trans hB b3.size
  have hgm : ∀ m ∈ ls, m.g < w3.heap.size ∧ ∀ b, m.v.ownBlock = some b → b < w3.heap.size := fun m hm => by
    have hmI := HT.out.2.2.2.1 m hm
    exact ⟨Nat.lt_of_lt_of_le hmI.2.1.lt b3.size, fun b hb => Nat.lt_of_lt_of_le (own_lt hmI.2.2.1 hb) b3.size⟩
  have hlg := (hgm l (List.mem_of_getElem? HL.out)).1
  obtain ⟨b', off', eA', hbB', d0, hgl, d1, _, _, _, _⟩ := hT3.2.2.at_ (List.length_set ..) hdl
  rw [leafAt_set hdl] at d0 d1 hgl
  have t3 := hT3.2.1.cell 0
  obtain ⟨rfl, rfl⟩ : b = b' ∧ off = off' := by simpa using eA'
  have HP := Lib.hid (putIdx_place (p := p) HS.out)
  have hl3 := set_get (x := (⟨l.g, v3, ins l.ps p (putIdx l.ps p)⟩ : Leaf)) HL.out
  have HFS := Lib.hid (fileS_turned HC.out HQ.out HD2.out (by rw [drw_of HL.out]; exact HP.out))
  rw [drw_of HL.out] at HFS
  have HGM := Lib.hid hgm
  clear hgm eA' hb3 c0 t1 q0 q1 HPt hbB
  by_cases h4 : l.ps.length + 1 ≤ 4
  · have HSp := Lib.hid (leafWhole t d _ _ _ B w3 hT3 hl3 (by rw [ins_len]; exact h4))
    have HX : Hid (fileS (ls.map (·.ps)) p = some ((ls.set d ⟨l.g, v3, ins l.ps p (putIdx l.ps p)⟩).map (·.ps))) := Lib.hid (by
      rw [HFS.out, turned_whole HL.out (by rw [ins_len]; exact h4), if_neg (by rw [List.length_map, List.length_set]; omega)])
    have HT3 := Lib.hid hT3
    clear hT3 hl3 HFS
    generalize ins l.ps p (putIdx l.ps p) = f at *
    go_wp2_with fail
    refine HSp.out.mono ?_
    rintro e w4 ⟨rfl, rfl⟩
    have hd6 : decide ((ls.length : Int) ≤ 6) = true := decide_eq_true (by omega)
    go_wp2
    go_returns
    exact ⟨.yes HX.out rfl HT3.out, b3⟩
  · have HSp := Lib.hid (leafSplit t d _ _ _ B w3 hB3 hT3 hl3 (by rw [ins_len]; omega) (by rw [ins_len]; omega))
    have HFS : Hid (∀ g G v2 sv, fileS (ls.map (·.ps)) p = if 6 < ls.length + 1 then none else some ((insL (ls.set d ⟨g, v2, (ins l.ps p (putIdx l.ps p)).take (((ins l.ps p (putIdx l.ps p)).length + 1) / 2)⟩) ⟨G, sv, (ins l.ps p (putIdx l.ps p)).drop (((ins l.ps p (putIdx l.ps p)).length + 1) / 2)⟩ (d + 1)).map (·.ps))) := Lib.hid (fun g G v2 sv => by
      rw [HFS.out, turned_split (g := g) (G := G) (v2 := v2) (sv := sv) HL.out (by rw [ins_len]; omega), List.length_map, insL_len, List.length_set])
    have hfl : 4 < (ins l.ps p (putIdx l.ps p)).length := by rw [ins_len]; omega
    have HFl := Lib.hid hfl
    clear hT3 hl3 hfl
    generalize ins l.ps p (putIdx l.ps p) = f at *
    go_wp2_with fail
    refine HSp.out.mono ?_
    rintro e w4 ⟨G, sv, v2, rfl, hb4, hG, hsv, hv2, hlI, hT4⟩
    rw [List.set_set] at hT4
    have b4 := b3.trans hb4
    have hB4 : B ≤ w4.heap.size := Nat.le_trans hB b4.size
    have hne : ∀ m ∈ ls.set d (⟨l.g, v2, f.take ((f.length + 1) / 2)⟩ : Leaf), m.g ≠ G ∧ ∀ b, m.v.ownBlock = some b → sv.ownBlock ≠ some b := fun m hm => by
      rcases List.mem_or_eq_of_mem_set hm with hm | rfl
      · have := HGM.out m hm
        refine ⟨by omega, fun b hb e => ?_⟩
        have h1 := this.2 b hb
        have h2 := hsv b e
        omega
      · exact ⟨by show l.g ≠ G; omega, fun b hb => (hv2 b hb).2⟩
    have hcf4 : w4.cell? ⟨t, 0, none⟩ = some (.slice (some ⟨b, off, none⟩) ls.length c) ∧ w4.frozen? ⟨t, 0, none⟩ = false := ⟨hT4.2.1.cell 0, hT4.2.1.free 0⟩
    have hcf5 := keepAlloc hcf4 (.cells #[.pointer (some ⟨G, 0, none⟩)] 93)
    have HNe : Hid ((Value.slice (some ⟨b, off, none⟩) ls.length c).ownBlock ≠ some t) := Lib.hid (hT4.2.1.ne_own hT4.2.2.1 (by decide))
    have hO4 := hT4.2.2.1
    rw [List.length_set] at hO4
    have HIn := Lib.hid (insertLeaf (.slice (some ⟨b, off, none⟩) ls.length c) ls.length (d + 1) w4.heap.size B _ [.pointer (some ⟨G, 0, none⟩)] (w4.alloc (.cells #[.pointer (some ⟨G, 0, none⟩)] 93)) (by omega) (by omega) (Nat.le_trans hB4 (by simp)) (hO4.alloc _) (Blk.new w4 _ _) (fun e => by have := own_lt hO4 e; omega) rfl (fun u hu => by
      obtain ⟨m, _, rfl⟩ := List.mem_map.1 hu; rfl) (by simp [Value.oneCell']))
    rw [show ((d + 1 : Nat) : Int) = (d : Int) + 1 from rfl] at HIn
    have HT4 := Lib.hid hT4; have HLI := Lib.hid hlI; have HNE := Lib.hid hne
    have n4 := hcf4.1; have n5 := hcf5.1
    clear hT4 hlI hne hO4 hv2 hsv hb4 HSp HGM t3 d0 d1
    go_wp2_with fail
    refine HIn.out.mono ?_
    rintro e w5 ⟨v5, rfl, hO5, hg5, _⟩
    rw [Nat.mul_one] at hO5
    obtain ⟨A5, c5, rfl, hnc5, hcm5⟩ := own_form hO5
    have hcf6 := keepCell hg5 HNe.out hcf5
    have n6 := hcf6.1; have f6 := hcf6.2
    obtain ⟨hT6, hb6⟩ := TreeIn.insert (v' := .slice A5 (ls.length + 1) c5) (l := ⟨G, sv, f.drop ((f.length + 1) / 2)⟩) (d := d + 1) HT4.out hB4 (by go_grown) hg5 HLI.out HNE.out (by rw [List.length_set]; exact hO5)
    have b6 := b4.trans hb6
    have HT6 := Lib.hid hT6
    have hX := HFS.out l.g G v2 sv
    clear hT6 hb6 hO5 hg5 HIn HT4 HNE HLI n4 n5 hcf4 hcf5 HFS
    by_cases h7 : ls.length ≤ 5
    · rw [if_neg (by omega)] at hX
      have HX := Lib.hid hX
      have hd6 : decide ((ls.length : Int) + 1 ≤ 6) = true := decide_eq_true (by omega)
      clear hX
      go_wp2
      go_returns
      exact ⟨.yes HX.out rfl HT6.out, b6⟩
    · rw [if_pos (by omega)] at hX
      have HX := Lib.hid hX
      have hd6 : decide ((ls.length : Int) + 1 ≤ 6) = false := decide_eq_false (by omega)
      clear hX
      go_wp2
      go_returns
      exact ⟨.no HX.out rfl, b6⟩

theorem treeFile (t : Nat) (v : Value) (ls : List Leaf) (B : Nat) (p : Pad) (w : World) (hB : B ≤ w.heap.size) (hp : okP p = true) (hg : p.good) (hc : cabOK (ls.map (·.ps))) (h : TreeIn w B t v ls) :
    Calls Try.prog 71 #[.pointer (some ⟨t, 0, none⟩), padVal p] w fun e w' => FTAns w' B t (fileO (ls.map (·.ps)) p) e ∧ Below B w w' := by
  cases hq : findO (ls.map (·.ps)) p with
  | some x =>
    rw [fileO_no (fun h => by rw [h.2.2] at hq; cases hq)]
    exact (fileHas t v ls B p x w hc hq h).mono fun _ _ h => ⟨.no rfl h.1, h.2.mono hB⟩
  | none =>
    rw [fileO_yes hc hp hq]
    cases ls with
    | nil =>
      refine (fileNew t v B p w hB hg h).mono fun e w' ⟨⟨v', l, he, hl, hT⟩, hb⟩ => ⟨.yes (ls' := [l]) ?_ he hT, hb⟩
      rw [List.map_singleton, hl]; exact fileS_nil p
    | cons l ls => exact fileIn t v (l :: ls) B p w hB hg hc hq (by simp) h
end Go.Proofs.Ytfbfapobmhfenaa
