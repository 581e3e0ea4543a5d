/-
  l92Cabinet draws a list of drawers in new memory. Conditions: the reader has not been asked too often.
-/
import Derived.Test.YtbeaandjhlpaeaaDrawPads
import Derived.Test.YtbeaandjhlpaeaaFileS
import Derived.Test.YtbeaandjhlpaeaaFileLaw2
import Derived.Deep.RegionLaw
namespace Go.Proofs.Ytbeaandjhlpaeaa
open Go.ChangeShapes Go.WideShapes Go.ChangeAt Go.RowKit
set_option maxRecDepth 100000

theorem CabOwn.only {w w' : World} {B : Nat} {v : Value} {ds : List Drawer} {row : Option Nat} (h : CabOwn w B v ds) (hg : w.grownBy w' row) (h0 : ∀ b, v.ownBlock = some b → row ≠ some b) (h1 : ∀ d ∈ ds, ∀ b, d.v.ownBlock = some b → row ≠ some b) : CabOwn w' B v ds :=
  h.congr (fun b hb => hg.block b (own_lt h.1 hb) (fun e => h0 b hb e.symm)) fun d hd b hb => hg.block b (own_lt (h.2.1 d hd).2.1 hb) (fun e => h1 d hd b hb e.symm)
/-- The reader and a list of drawers do not meet. -/
theorem RdIn.cab {w w' : World} {B B' g lim : Nat} {v : Value} {ds : List Drawer} (hr : RdIn w B g lim) (h : CabOwn w B' v ds) (hg : w.grownBy w' (some g)) : CabOwn w' B' v ds :=
  h.only hg (fun b hb => hr.ne_own h.1 (by decide) b hb) (fun d hd b hb => hr.ne_own (h.2.1 d hd).2.1 (by decide) b hb)

theorem CabOwn.head {w : World} {B : Nat} {v : Value} {d : Drawer} {r : List Drawer} (h : CabOwn w B v (d :: r)) : (∀ d' ∈ r, ∀ b, d'.v.ownBlock = some b → d.v.ownBlock ≠ some b) := by
  intro d' hd' b hb e
  have h3 := h.2.2
  rw [List.filterMap_cons, e] at h3
  exact (List.nodup_cons.1 h3).1 (List.mem_filterMap.2 ⟨d', hd', hb⟩)
/-- The first drawer is another list, in the row that it had or in a new one. -/
theorem CabOwn.turn0 {w w1 : World} {B g0 n c : Nat} {ds : List Drawer} {d d2 : Drawer} {r : List Drawer} (hds : ds = d :: r) (h : CabOwn w B (.slice (some ⟨g0, 0, none⟩) n c) ds) (hg : w.grownBy w1 d.v.ownBlock) (hO : DrIn w1 B d2) (hat : ∀ b, d2.v.ownBlock = some b → d.v.ownBlock = some b ∨ w.heap.size ≤ b) :
    CabOwn (w1.setCell ⟨g0, 0, none⟩ d2.v) B (.slice (some ⟨g0, 0, none⟩) n c) (d2 :: r) := by
  subst hds
  have h1 := h.1
  have hn := h.len
  obtain ⟨cur, hb0⟩ := own_obj h1 (b := g0) rfl
  have ho : w1.ownsRow B 49 1 (.slice (some ⟨g0, 0, none⟩) n c) (d :: r).length ((d :: r).flatMap drawerC) := own_only h1 hg (fun b hb e => by
    obtain ⟨cur2, h2⟩ := own_obj (h.2.1 d (by simp)).2.1 e
    obtain ⟨cur3, h3⟩ := own_obj h1 hb
    rw [h2] at h3; injection h3 with h3; injection h3 with _ h3; exact absurd h3 (by decide))
  obtain ⟨cur1, hb1⟩ := own_obj ho (b := g0) rfl
  have hfar : ∀ (m : Drawer), DrIn w1 B m → DrIn (w1.setCell ⟨g0, 0, none⟩ d2.v) B m := fun m hm => hm.congr (fun b hb => Below.heap_setCell w1 _ _ b (by
    rintro rfl
    obtain ⟨cur2, h2⟩ := own_obj hm.2.1 hb
    rw [hb1] at h2; injection h2 with h2; injection h2 with _ h2; exact absurd h2 (by decide)))
  refine ⟨?_, fun m hm => ?_, ?_⟩
  · rw [hn] at ho
    have h4 := ho.stored 0 d2.v
    rw [List.flatMap_cons] at h4
    rw [show (d2 :: r).length = n by rw [← hn]; rfl]
    exact h4.1
  · rcases List.mem_cons.1 hm with rfl | hm
    · exact hfar _ hO
    · exact hfar m ((h.2.1 m (by simp [hm])).congr (fun b hb => hg.block b (own_lt (h.2.1 m (by simp [hm])).2.1 hb) (fun e => h.head m hm b hb e.symm)))
  · have h3 := h.2.2
    have h5 : (r.filterMap (·.v.ownBlock)).Nodup := by
      rw [List.filterMap_cons] at h3
      cases e : d.v.ownBlock with
      | none => rw [e] at h3; exact h3
      | some q => rw [e] at h3; exact (List.nodup_cons.1 h3).2
    rw [List.filterMap_cons]
    cases e : d2.v.ownBlock with
    | none => exact h5
    | some q =>
      refine List.nodup_cons.2 ⟨fun hq => ?_, h5⟩
      obtain ⟨m, hm, hmq⟩ := List.mem_filterMap.1 hq
      rcases hat q e with h6 | h6
      · exact h.head m hm q hmq h6
      · have := own_lt (h.2.1 m (by simp [hm])).2.1 hmq; omega
theorem CabOwn.poke {w : World} {B gd n c : Nat} {v : Value} {q : Pad} {qs : List Pad} {r : List Drawer} (x : Int) (hx : (⟨x, q.case⟩ : Pad).good) (h : CabOwn w B v (⟨some ⟨gd, 0, none⟩, n, c, q :: qs⟩ :: r)) :
    CabOwn (w.setCell ⟨gd, 0, none⟩ (.int .i64 x)) B v (⟨some ⟨gd, 0, none⟩, n, c, ⟨x, q.case⟩ :: qs⟩ :: r) := by
  have hd := h.2.1 _ (by simp : (⟨some ⟨gd, 0, none⟩, n, c, q :: qs⟩ : Drawer) ∈ _)
  obtain ⟨d1, d2, d3⟩ := hd
  obtain ⟨cur, hb0⟩ := own_obj d2 (b := gd) rfl
  have ho2 : w.ownsRow B 26 2 (.slice (some ⟨gd, 0, none⟩) n c) n ((q :: qs).flatMap padC) := by
    have := d2
    unfold PadsOwn Drawer.v at this
    rw [d1] at this; exact this
  have hst := (ho2.stored 0 (.int .i64 x)).1
  refine ⟨own_congr h.1 (fun b hb => Below.heap_setCell w _ _ b (by
    rintro rfl
    obtain ⟨cur2, h2⟩ := own_obj h.1 hb
    rw [hb0] at h2; injection h2 with h2; injection h2 with _ h2; exact absurd h2 (by decide))), fun m hm => ?_, h.2.2⟩
  rcases List.mem_cons.1 hm with rfl | hm
  · refine ⟨d1, ?_, fun p hp => ?_⟩
    · show PadsOwn _ B (.slice (some ⟨gd, 0, none⟩) n c) (⟨x, q.case⟩ :: qs)
      unfold PadsOwn
      rw [show (((⟨x, q.case⟩ : Pad) :: qs).length) = n from d1]
      exact hst
    · rcases List.mem_cons.1 hp with rfl | hp
      · exact hx
      · exact d3 p (by simp [hp])
  · refine (h.2.1 m (by simp [hm])).congr (fun b hb => Below.heap_setCell w _ _ b (fun e => ?_))
    exact h.head m hm b hb (by show some gd = some b; rw [e])
theorem grown_poke {w w1 : World} {row : Option Nat} (hg : w.grownBy w1 row) {p : Addr} (hp : row = some p.block) (u : Value) : w.grownBy (w1.setCell p u) row := by
  subst hp
  exact only_set hg rfl u

/-- What l92Cabinet answers. -/
def DrawnCab (B g lim : Nat) (w : World) (e : Ending) (w' : World) : Prop :=
  ∃ A c ds, e = .returned (.slice A ds.length c) ∧ DrawersIn w' w'.heap.size A ds.length c ds ∧ cabSz ds ≤ 4096 ∧ w.grownBy w' (some g) ∧ RdIn w' B g (lim + 200)

theorem DrawnCab.of {B g lim n c : Nat} {w w' : World} {e : Ending} {A : Option Addr} {ds : List Drawer} (he : e = .returned (.slice A n c)) (hD : DrawersIn w' w'.heap.size A n c ds) (hs : cabSz ds ≤ 4096) (hg : w.grownBy w' (some g)) (hr : RdIn w' B g (lim + 200)) : DrawnCab B g lim w e w' := by
  have := hD.1
  subst this
  exact ⟨A, c, ds, he, hD, hs, hg, hr⟩

theorem l92Cabinet (g B lim : Nat) (w : World) (hl : lim ≤ 700000000) (hr : RdIn w B g lim) (hBw : B ≤ w.heap.size) :
    Calls Try.prog 63 #[.pointer (some ⟨g, 0, none⟩)] w (DrawnCab B g lim w) := by
  obtain ⟨i0, hi, hz0, hz1, hz2⟩ := info_parts infoPad
  obtain ⟨i1, hj, hy0, hy1, hy2⟩ := info_parts infoSl
  have hg0 := hr.lt
  go_enter Try.func63, Try.ntmps63
  go_wp2_with fail
  refine (l92Pads g B lim _ (by omega) (hr.alloc _) (by simp; omega)).mono ?_
  rintro e w1 ⟨A1, c1, ps, rfl, hO1, hl1, hs1, hg1, hr1⟩
  have G1 : w.grownBy w1 (some g) := only_next (World.grownBy_alloc w _ _) hg1
  have hC1 : CabOwn w1 w.heap.size (.slice (some ⟨w.heap.size, 0, none⟩) 0 0) [] := (hr.alloc (.cells #[] 49)).cab (CabOwn.made w) hg1
  have HG := Lib.hid G1; have HR := Lib.hid hr1; have HC := Lib.hid hC1
  have HO : Hid (PadsOwn w1 w.heap.size (.slice A1 ps.length c1) ps) := Lib.hid (own_mono hO1 (by simp))
  have HS := Lib.hid hs1
  obtain ⟨A0, c0, e0, hc0, hm0⟩ := own_form hO1
  injection e0 with e1 e2 e3
  subst e1 e3
  unfold maxLen at hm0
  generalize hpl : ps.length = N at *
  have HPL := Lib.hid hpl
  have hz1' := G1.size
  clear G1 hr1 hC1 hO1 hg1 hs1 hpl e2 hr
  go_wp2
  go_loopw [3, 5] (fun v i wr => ∃ (k : Nat) (ds : List Drawer), k ≤ N ∧ i = .int .i64 k ∧ Hid (CabOwn wr w.heap.size v ds) ∧ Hid (cabOK (ds.map (·.ps))) ∧ Hid (PadsOwn wr w.heap.size (.slice A1 N c1) ps) ∧ Hid (w.grownBy wr (some g)) ∧ Hid (RdIn wr B g (lim + 100))) (fun _ i _ => N - (intOf i).toNat)
  case atStart => exact ⟨0, [], Nat.zero_le _, rfl, HC, Lib.hid cab_nil, HO, HG, HR⟩
  case round =>
    obtain ⟨k, ds, hk, rfl, hC, hK, hO, hG, hR⟩ := hrel
    by_cases hlt : k < N
    · have hgd : ∀ p ∈ ps, p.good := fun p hp => small_good (HS.out p hp)
      obtain ⟨g1, eA, hg1, q0, q1⟩ := hO.out.cell HPL.out hgd hlt
      subst eA
      obtain ⟨Ao, co, e, hco, hmo⟩ := hC.out.form
      subst e
      have hF := specCabinetFile Ao ds.length co ds (padAt ps k) wr (by have := cab_small hK.out; omega) (hgd _ (padAt_mem (by rw [HPL.out]; exact hlt))) (hC.out.reads rfl)
      unfold padVal at hF
      have HF := Lib.hid hF; clear hF hgd
      generalize padAt ps k = p at *
      have hz := hG.out.size
      go_wp2_with fail
      refine HF.out.mono ?_
      rintro e w2 ⟨hA, hb2⟩
      have HO2 := Lib.hid (hO.out.keep hb2)
      have HG2 := Lib.hid (only_next hG.out (Below.only hb2))
      have HR2 := Lib.hid (hR.out.below hb2)
      rcases hA with ⟨_, A2, c2, rfl, _⟩ | ⟨A2, c2, ds2, hf, rfl, hC2⟩
      · have HC2 := Lib.hid (hC.out.keep hb2)
        clear hb2
        go_wp2
        go_roundw
        case rel => exact ⟨k + 1, ds, by omega, by go_num, HC2, hK, HO2, HG2, HR2⟩
        case measure => simp [intOf]; omega
      · have HC2 := Lib.hid (hC2.mono hz)
        have HK2 := Lib.hid (fileO_ok hf)
        clear hb2 hC2 hf
        go_wp2
        go_roundw
        case rel => exact ⟨k + 1, ds2, by omega, by go_num, HC2, HK2, HO2, HG2, HR2⟩
        case measure => simp [intOf]; omega
    · obtain rfl : k = N := by omega
      have hsz := cab_small hK.out
      have hz := hG.out.size
      rcases ds with _ | ⟨d, r⟩
      · obtain ⟨Ao, co, e, hco, hmo⟩ := hC.out.form
        subst e
        have HD : Hid (DrawersIn wr wr.heap.size Ao 0 co []) := Lib.hid (hC.out.reads rfl)
        have HR2 := Lib.hid (hR.out.more (show lim + 100 ≤ lim + 200 by omega))
        go_wp2
        go_ret
        exact ⟨Ao, co, [], rfl, HD.out, by omega, hG.out, HR2.out⟩
      · obtain ⟨go, co, e, hgo, hgl⟩ := World.ownsRow.form hC.out.1 (by simp)
        subst e
        have hlo := hK.out.2.1 d.ps (by simp)
        have hl6 := hK.out.1
        simp only [List.map_cons, List.length_cons, List.length_map] at hl6
        unfold lenOK at hlo
        generalize hnd : (d :: r).length = nd at *
        have hnd2 : nd = r.length + 1 := by rw [← hnd]; rfl
        have HND := Lib.hid hnd
        have hnd1 : 1 ≤ nd := by omega
        have hnd6 : nd ≤ 6 := by omega
        clear hnd
        have HP := Lib.hid (pick 40 g B (lim + 100) wr (by omega) (by omega) (by omega) hR.out)
        clear hnd2
        go_wp2_with fail
        refine HP.out.mono ?_
        rintro e w2 ⟨m, rfl, hm0, hm1, hg2, hr2⟩
        have HC2 := Lib.hid (hR.out.cab hC.out hg2)
        have HG2 := Lib.hid (only_next hG.out hg2)
        have HR2 := Lib.hid hr2
        clear hg2 hr2 HP
        have hsd : cabSz (d :: r) ≤ 318 := hsz
        simp only [cabSz] at hsd
        have hdI := HC2.out.2.1 d (by simp)
        obtain ⟨gd, cd, ed, hgd, hgl2⟩ := World.ownsRow.form hdI.2.1 (by omega)
        rcases d with ⟨Ad, n0, c0, ps0⟩
        unfold Drawer.v at ed
        simp only at ed hlo hsd
        injection ed with e1 e2 e3
        subst e1
        have hn0 : ps0.length = n0 := hdI.1
        obtain ⟨q, qs, eq⟩ : ∃ q qs, ps0 = q :: qs := by
          rcases ps0 with _ | ⟨q, qs⟩
          · simp at hlo
          · exact ⟨q, qs, rfl⟩
        have o0 : w2.cell? ⟨go, 0, none⟩ = some (.slice (some ⟨gd, 0, none⟩) n0 c0) := by
          have h1 := HC2.out.1
          rw [HND.out] at h1
          rw [h1.cellAt 0 (by omega)]; rfl
        have f0 : w2.frozen? ⟨go, 0, none⟩ = false := by
          have h1 := HC2.out.1
          rw [HND.out] at h1
          exact h1.frozenAt 0
        have hown : w2.ownsRow w.heap.size 26 2 (.slice (some ⟨gd, 0, none⟩) n0 c0) n0 (ps0.flatMap padC) := by
          have h1 := hdI.2.1
          unfold PadsOwn Drawer.v at h1
          rw [hn0] at h1; exact h1
        have HOw := Lib.hid hown
        have x0 : w2.cell? ⟨gd, 0, none⟩ = some (.int .i64 q.day) := by
          rw [hown.cellAt 0 (by omega), eq]; rfl
        have y0 := hown.frozenAt 0
        have hc0 : n0 ≤ c0 ∧ c0 ≤ maxLen := by
          obtain ⟨A', c', e, h1, h2⟩ := own_form hown
          injection e with e1 e2 e3; subst e3; exact ⟨h1, h2⟩
        obtain ⟨hc1, hc2⟩ := hc0
        unfold maxLen at hc2
        rw [hn0] at hlo
        have HN0 := Lib.hid hn0
        have HEq := Lib.hid eq
        have hgo2 : go < w2.heap.size := by have := World.block_lt_of_cell? _ _ o0; simpa using this
        clear hdI hown e2 e3 hn0 eq hgl2
        by_cases h0 : m = 0
        · subst h0
          have hq := hlo
          rw [HEq.out] at HC2
          have hgx : (⟨9999, q.case⟩ : Pad).good := by
            have h1 := (HC2.out.2.1 _ (by simp : (⟨some ⟨gd, 0, none⟩, n0, c0, q :: qs⟩ : Drawer) ∈ _)).2.2 q (by simp)
            exact ⟨rfl, h1.2⟩
          have HC3 := Lib.hid (HC2.out.poke 9999 hgx)
          have HD : Hid (DrawersIn (w2.setCell ⟨gd, 0, none⟩ (.int .i64 9999)) (w2.setCell ⟨gd, 0, none⟩ (.int .i64 9999)).heap.size (some ⟨go, 0, none⟩) nd co (⟨some ⟨gd, 0, none⟩, n0, c0, ⟨9999, q.case⟩ :: qs⟩ :: r)) := Lib.hid (HC3.out.reads HND.out)
          have HR3 := Lib.hid ((HR2.out.setCell (p := ⟨gd, 0, none⟩) (fun e => by
            have := HR2.out.ne_own HOw.out (by decide) gd rfl
            exact this (by rw [← e])) (by show B ≤ gd; omega) (.int .i64 9999)).more (show lim + 100 + 1 ≤ lim + 200 by omega))
          have HG3 := Lib.hid (only_setCell HG2.out (p := ⟨gd, 0, none⟩) (.inr hgd) (.int .i64 9999))
          have hsz3 : cabSz ((⟨some ⟨gd, 0, none⟩, n0, c0, ⟨9999, q.case⟩ :: qs⟩ : Drawer) :: r) ≤ 4096 := by
            rw [HEq.out] at hsd
            simp only [cabSz, padsSz] at hsd ⊢; omega
          clear hgx hsd hsz
          go_wp2
          go_ret
          exact .of rfl HD.out hsz3 HG3.out HR3.out
        · have h0' : (m == 0) = false := by simpa using h0
          by_cases h1 : m = 1
          · subst h1
            clear x0 y0 o0 f0
            have hz2' : w.heap.size ≤ w2.heap.size := HG2.out.size
            have hE : Below w2.heap.size w2 (w2.alloc (.cells #[] 26)) := (Below.refl _ _).alloc (Nat.le_refl _) _
            have hC2 := HC2.out.1
            rw [HND.out] at hC2
            have HC2o := Lib.hid hC2; clear hC2
            go_wp2_with (at_builtin; refine wpList_append_any _ rfl (.tmp 42) (.tmp 44) _ rfl w.heap.size 49 i1 _ 1 24 Try.underlying39 hj hy0 hy1 hy2 rfl (by omega) (.slice (some ⟨go, 0, none⟩) nd co) nd _ rfl ((HC2o.out.alloc _).alloc _) (w2.heap.size + 2) (some ⟨w2.heap.size + 1, 0, none⟩) 1 1 [.slice (some ⟨w2.heap.size, 0, none⟩) 0 0] rfl (rowNew _ _ _ _) (by simp [Value.oneCell']) (by unfold maxLen; omega) (by omega) (by simp; omega) ?_; intro v3 w3 hown3 hg3 hat3)
            have hpush := newPush (ps := []) hz2' HC2.out hE (World.ownsRow_made w2 #[] 0 (Nat.le_refl _) (by simp) (by simp)) rfl (by simp) hg3 (by rw [HND.out]; exact hown3)
            obtain ⟨A3, c3, rfl, hc3, hm3⟩ := own_form hown3
            have HD : Hid (DrawersIn w3 w3.heap.size A3 (nd + 1) c3 ((⟨some ⟨gd, 0, none⟩, n0, c0, ps0⟩ :: r) ++ [⟨some ⟨w2.heap.size, 0, none⟩, 0, 0, []⟩])) := Lib.hid (hpush.1.reads (by rw [List.length_append, HND.out]; rfl))
            have HG3 : Hid (w.grownBy w3 (some g)) := Lib.hid (HG2.out.andThen (row' := some go) ⟨hg3.os, hg3.tape, hg3.output, by have := hg3.size; simp at this; omega, fun i hi hne => by
              rw [hg3.block i (by simp; omega) hne]
              rw [Below.heap_alloc _ _ i (by simp; omega), Below.heap_alloc _ _ i hi]⟩ (fun j hj => by injection hj with hj; left; omega))
            have HR3 : Hid (RdIn w3 B g (lim + 200)) := Lib.hid (by
              have h1 := (HR2.out.alloc (.cells #[] 26)).alloc (.cells #[.slice (some ⟨w2.heap.size, 0, none⟩) 0 0] 49)
              exact (h1.only hg3 (fun q hq => h1.ne_own ((HC2o.out.alloc _).alloc _) (by decide) q hq) (fun q hq => by have := own_base HC2o.out hq; omega) (by simp; omega)).more (by omega))
            have hsz3 : cabSz ((⟨some ⟨gd, 0, none⟩, n0, c0, ps0⟩ :: r) ++ [(⟨some ⟨w2.heap.size, 0, none⟩, 0, 0, []⟩ : Drawer)]) ≤ 4096 := by
              rw [cabSz_append]; simp only [cabSz, padsSz]; omega
            clear hpush hown3 hg3 hat3 hE hsd hsz
            go_wp2
            go_ret
            exact .of rfl HD.out hsz3 HG3.out HR3.out
          · have h1' : (m == 1) = false := by simpa using h1
            by_cases h2 : m = 2
            · subst h2
              have hcd : w2.drew.cell? ⟨go, 0, none⟩ = some (.slice (some ⟨gd, 0, none⟩) n0 c0) ∧ w2.drew.frozen? ⟨go, 0, none⟩ = false := ⟨o0, f0⟩
              have k0 := hcd.1
              have HOd : Hid (w2.drew.ownsRow w.heap.size 26 2 (.slice (some ⟨gd, 0, none⟩) n0 c0) n0 (ps0.flatMap padC)) := Lib.hid HOw.out
              have HCd : Hid (CabOwn w2.drew w.heap.size (.slice (some ⟨go, 0, none⟩) nd co) (⟨some ⟨gd, 0, none⟩, n0, c0, ps0⟩ :: r)) := Lib.hid HC2.out
              have HGd : Hid (w.grownBy w2.drew (some g)) := Lib.hid (only_drewN HG2.out 1)
              have HRd : Hid (RdIn w2.drew B g (lim + 100 + 1)) := Lib.hid HR2.out
              have hgd2 : (Value.slice (some ⟨gd, 0, none⟩) n0 c0).ownBlock ≠ some go := fun e => by
                obtain ⟨cur2, q2⟩ := own_obj HOd.out e
                obtain ⟨cur3, q3⟩ := own_obj HCd.out.1 (b := go) rfl
                rw [q2] at q3; injection q3 with q3; injection q3 with _ q3; exact absurd q3 (by decide)
              have HNe := Lib.hid hgd2
              have hz2' : w.heap.size ≤ w2.drew.heap.size := HG2.out.size
              clear x0 y0 o0 f0 hgd2
              go_wp2_with fail
              go_region_law
                ((refine step_append_any _ (by rfl) (.tmp 51) (.tmp 54) _ (by rfl) w.heap.size 26 i0 _ 2 24 Try.underlying49 hi hz0 hz1 hz2 rfl (by omega) (.slice (some ⟨gd, 0, none⟩) n0 c0) n0 (ps0.flatMap padC) (by rfl) HOd.out w2.drew.heap.size (some ⟨gd, 0, none⟩) n0 c0 (ps0.flatMap padC) (by rfl) (Row.of_own HOd.out) padC_one (by unfold maxLen; omega) (by omega) hz2' ?_; intro v3 w3 hown3 hg3 hat3; obtain ⟨A3, c3, rfl, hc3, hm3⟩ := own_form hown3; have hk3 := keepCell hg3 HNe.out hcd; have k3 := hk3.1; have k4 := hk3.2))
              all_goals (
                have hps : (ps0 ++ ps0).length = n0 + n0 := by rw [List.length_append, HN0.out]
                have HC3 := Lib.hid (CabOwn.turn0 (d2 := ⟨A3, n0 + n0, c3, ps0 ++ ps0⟩) rfl HCd.out hg3 ⟨hps, by
                  show PadsOwn _ _ (.slice A3 (n0 + n0) c3) (ps0 ++ ps0)
                  unfold PadsOwn
                  rw [hps, List.flatMap_append]; exact hown3, fun p hp => by
                  have h1 := (HCd.out.2.1 _ (by simp : (⟨some ⟨gd, 0, none⟩, n0, c0, ps0⟩ : Drawer) ∈ _)).2.2 p
                  rcases List.mem_append.1 hp with hp | hp <;> exact h1 hp⟩ (fun b hb => by
                  rcases hat3 with h | h
                  · left; exact h.symm.trans hb
                  · right
                    have hb2 : (Value.slice A3 (n0 + n0) c3).ownBlock = some b := hb
                    rw [h] at hb2; injection hb2 with hb2; omega))
                have HD := Lib.hid (HC3.out.reads (by rw [← HND.out]; rfl))
                have HG3 := Lib.hid (only_setCell (own_after HGd.out hg3 (fun q hq => own_base HOd.out hq)) (p := ⟨go, 0, none⟩) (.inr hgo) (.slice A3 (n0 + n0) c3))
                have HR3 := Lib.hid (((HRd.out.only hg3 (fun q hq => HRd.out.ne_own HOd.out (by decide) q hq) (fun q hq => by have := own_base HOd.out hq; omega) (by omega)).setCell (p := ⟨go, 0, none⟩) (fun e => by
                  exact HRd.out.ne_own HCd.out.1 (by decide) go rfl (by rw [← e])) (by show B ≤ go; omega) (.slice A3 (n0 + n0) c3)).more (show lim + 100 + 1 ≤ lim + 200 by omega))
                have hsz3 : cabSz ((⟨A3, n0 + n0, c3, ps0 ++ ps0⟩ : Drawer) :: r) ≤ 4096 := by
                  simp only [cabSz, padsSz_append]; omega
                unfold Drawer.v at HD
                clear hown3 hg3 hat3 hps hsd hsz hcd hk3
                go_wp2
                go_ret
                exact .of rfl HD.out hsz3 HG3.out HR3.out)
            · have h2' : (m == 2) = false := by simpa using h2
              have HD : Hid (DrawersIn w2 w2.heap.size (some ⟨go, 0, none⟩) nd co (⟨some ⟨gd, 0, none⟩, n0, c0, ps0⟩ :: r)) := Lib.hid (HC2.out.reads HND.out)
              have HR3 := Lib.hid (HR2.out.more (show lim + 100 + 1 ≤ lim + 200 by omega))
              clear x0 y0 o0 f0
              go_wp2
              go_ret
              exact .of rfl HD.out (by omega) HG2.out HR3.out
end Go.Proofs.Ytbeaandjhlpaeaa
