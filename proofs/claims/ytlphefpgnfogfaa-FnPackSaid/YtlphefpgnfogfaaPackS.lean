/-
  The reference's CabinetPack. Conditions: the drawers hold no more than a law lets by.
-/
import Derived.Test.YtlphefpgnfogfaaPackLaw
import Derived.Test.YtlphefpgnfogfaaDrawA
import Derived.Test.YtlphefpgnfogfaaTreeB
import Derived.Test.YtlphefpgnfogfaaOwnG
namespace Go.Proofs.Ytlphefpgnfogfaa
open Go.ChangeShapes Go.WideShapes Go.ChangeAt Go.RowKit
set_option maxRecDepth 100000

theorem nodup_last {α : Type} {f : α → Option Nat} {r : List α} {d d2 : α} (h : ((r ++ [d]).filterMap f).Nodup) (h2 : ∀ b, f d2 = some b → f d = some b ∨ ∀ m ∈ r, f m ≠ some b) : ((r ++ [d2]).filterMap f).Nodup := by
  rw [List.filterMap_append] at h ⊢
  obtain ⟨h3, h4, h5⟩ := List.nodup_append.1 h
  refine List.nodup_append.2 ⟨h3, ?_, fun a ha b hb e => ?_⟩
  · cases e : f d2 with
    | none => simp [e]
    | some q => simp [e]
  · obtain ⟨m, hm, hma⟩ := List.mem_filterMap.1 ha
    obtain ⟨m2, hm2, hmb⟩ := List.mem_filterMap.1 hb
    simp at hm2; subst hm2 e
    rcases h2 a hmb with h6 | h6
    · exact h5 a ha a (List.mem_filterMap.2 ⟨d, by simp, h6⟩) rfl
    · exact h6 m hm hma
/-- The last drawer is another list, in the row that it had or in a new one. -/
theorem CabOwn.turnLast {w w1 : World} {B g0 n c : Nat} {d d2 : Drawer} {r : List Drawer} (h : CabOwn w B (.slice (some ⟨g0, 0, none⟩) n c) (r ++ [d])) (hg : w.grownBy w1 d.v.ownBlock) (hO : DrIn w1 B d2) (hat : ∀ b, d2.v.ownBlock = some b → d.v.ownBlock = some b ∨ w.heap.size ≤ b) :
    CabOwn (w1.setCell ⟨g0, r.length, none⟩ d2.v) B (.slice (some ⟨g0, 0, none⟩) n c) (r ++ [d2]) := by
  have h1 := h.1
  have hn := h.len
  have hd : d ∈ r ++ [d] := by simp
  obtain ⟨cur, hb0⟩ := ownG_obj h1 (b := g0) rfl
  have ho : w1.ownsRow B 33 1 (.slice (some ⟨g0, 0, none⟩) n c) (r ++ [d]).length ((r ++ [d]).flatMap drawerC) := own_only h1 hg (fun b hb e => by
    obtain ⟨cur2, h2⟩ := ownG_obj (h.2.1 d hd).2.1 e
    obtain ⟨cur3, h3⟩ := ownG_obj h1 hb
    rw [h2] at h3; injection h3 with h3; injection h3 with _ h3; exact absurd h3 (by decide))
  obtain ⟨cur1, hb1⟩ := ownG_obj ho (b := g0) rfl
  have hfar : ∀ (m : Drawer), DrIn w1 B m → DrIn (w1.setCell ⟨g0, r.length, none⟩ d2.v) B m := fun m hm => hm.congr (fun b hb => Below.heap_setCell w1 _ _ b (by
    rintro rfl
    obtain ⟨cur2, h2⟩ := ownG_obj hm.2.1 hb
    rw [hb1] at h2; injection h2 with h2; injection h2 with _ h2; exact absurd h2 (by decide)))
  have hne : ∀ m ∈ r, ∀ b, m.v.ownBlock = some b → d.v.ownBlock ≠ some b := fun m hm b hb e => by
    have h3 := h.2.2
    rw [List.filterMap_append] at h3
    exact (List.nodup_append.1 h3).2.2 b (List.mem_filterMap.2 ⟨m, hm, hb⟩) b (List.mem_filterMap.2 ⟨d, by simp, e⟩) rfl
  refine ⟨?_, fun m hm => ?_, ?_⟩
  · rw [hn] at ho
    have h4 := (ho.stored r.length d2.v).1
    have e1 : ((r ++ [d]).flatMap drawerC).set r.length d2.v = (r ++ [d2]).flatMap drawerC := by
      have hl : (r.flatMap drawerC).length = r.length := by
        have := flat_len drawerC_len r
        omega
      rw [List.flatMap_append, List.flatMap_append, List.set_append_right _ _ (by rw [hl]; exact Nat.le_refl _), hl, Nat.sub_self]
      rfl
    rw [e1] at h4
    rw [show (r ++ [d2]).length = n by rw [← hn]; simp]
    exact h4
  · rcases List.mem_append.1 hm with hm | hm
    · have hm' : m ∈ r ++ [d] := by simp [hm]
      exact hfar m ((h.2.1 m hm').congr (fun b hb => hg.block b (ownG_lt (h.2.1 m hm').2.1 hb) (fun e => hne m hm b hb e.symm)))
    · simp at hm; subst hm; exact hfar _ hO
  · refine nodup_last h.2.2 (fun b hb => ?_)
    rcases hat b hb with h6 | h6
    · exact .inl h6
    · exact .inr (fun m hm hmb => by have := ownG_lt (h.2.1 m (by simp [hm])).2.1 hmb; omega)
theorem padAt_is {ps : List Pad} {k : Nat} (h : k < ps.length) : ps[k] = padAt ps k := by
  have := padAt_some h
  rw [List.getElem?_eq_getElem h] at this
  injection this
theorem pad_new {ps : List Pad} {k : Nat} (h : k % 4 = 0) (hl : k < ps.length) : pieces ps (k + 1) = pieces ps k ++ [[] ++ [padAt ps k]] := by
  obtain ⟨j, rfl⟩ : ∃ j, k = 4 * j := ⟨k / 4, by omega⟩
  rw [pieces_new hl, padAt_is hl]; rfl
theorem pad_on {ps : List Pad} {k : Nat} (h : ¬ k % 4 = 0) (hl : k < ps.length) : ∃ L p, pieces ps k = L ++ [p] ∧ p.length ≤ 3 ∧ pieces ps (k + 1) = L ++ [p ++ [padAt ps k]] := by
  obtain ⟨h1, h2⟩ := pieces_on (l := ps) (t := k) (j := k / 4) (by omega) (by omega) hl
  exact ⟨_, _, h1, by rw [pieceAt_len (by omega)]; omega, by rw [h2, padAt_is hl]⟩
theorem drawers_last {ds : List Drawer} {L : List (List Pad)} {p : List Pad} (h : ds.map (·.ps) = L ++ [p]) : ∃ r d, ds = r ++ [d] ∧ r.map (·.ps) = L ∧ d.ps = p := by
  obtain ⟨r, s, h1, h2, h3⟩ := List.map_eq_append_iff.1 h
  obtain ⟨d, t, rfl, h4, h5⟩ := List.map_eq_cons_iff.1 h3
  have := List.map_eq_nil_iff.1 h5
  subst this
  exact ⟨r, d, h1, h2, h4⟩
/-- What the loop has made, and the pads that it reads. -/
def PackS (B B1 N c : Nat) (A : Option Addr) (w : World) (ps : List Pad) (P : List (List Pad)) (v : Value) (wr : World) : Prop :=
  ∃ ds, CabOwn wr B v ds ∧ ds.map (·.ps) = P ∧ (∀ d ∈ ds, ∀ b, d.v.ownBlock = some b → B1 ≤ b) ∧ PadsOwn wr B (.slice A N c) ps ∧ (∀ b, (Value.slice A N c).ownBlock = some b → b < B1) ∧ Below w.heap.size w wr ∧ B1 ≤ wr.heap.size

set_option maxHeartbeats 3200000 in
theorem specCabinetPack (A : Option Addr) (n c : Nat) (ds : List Drawer) (w : World) (hsz : cabSz ds ≤ 1048576) (h : DrawersIn w w.heap.size A n c ds) :
    Calls Try.prog 6 #[.slice A n c] w fun e w' => FileAns w' w.heap.size (packO (ds.map (·.ps))) e ∧ Below w.heap.size w w' := by
  obtain ⟨i0, hi, hz0, hz1, hz2⟩ := info_parts infoPad
  obtain ⟨i1, hj, hy0, hy1, hy2⟩ := info_parts infoSl
  have hal : Below w.heap.size w (w.alloc (.cells #[] 33)) := (Below.refl _ _).alloc (Nat.le_refl _) _
  have HC := Lib.hid (specCabinetPads A n c ds (w.alloc (.cells #[] 33)) hsz (h.keep hal))
  have hO0 : CabOwn (w.alloc (.cells #[] 33)) w.heap.size (.slice (some ⟨w.heap.size, 0, none⟩) 0 0) [] := CabOwn.made w
  have hP : allPads ds = (ds.map (·.ps)).flatten := (allPads_flat ds).symm
  have hfl : (ds.map (·.ps)).flatten.length ≤ 1048576 := by rw [← hP]; exact flat_len_le hsz
  have hgood : ∀ p ∈ (ds.map (·.ps)).flatten, p.good := by rw [← hP]; exact allPads_good h
  clear h hP
  cases hc : cabB (ds.map (·.ps)) with
  | false =>
    have HN := Lib.hid (packO_no hc)
    have HA := Lib.hid (ansP_no hc)
    have HB := Lib.hid hc
    clear hc hfl hgood
    go_enter Try.func6, Try.ntmps6
    go_wp2_with fail
    refine HC.out.mono ?_
    rintro e w1 ⟨⟨A1, c1, rfl, _⟩, hb1⟩
    rw [HA.out, HB.out]
    have b1 := below_next hal hb1
    have HO1 := Lib.hid (hO0.keep hb1)
    clear hb1 HC hal hO0
    go_wp2_with fail
    refine wp_loop_rounds 1 ?_
    rw [rounds_succ]
    go_wp2
    go_returns
    exact ⟨.no HN.out rfl HO1.out, b1⟩
  | true =>
    have HN := Lib.hid (packO_yes hc)
    have HA := Lib.hid (ansP_yes hc)
    have HB := Lib.hid hc
    clear hc
    generalize (ds.map (·.ps)).flatten = ps at *
    go_enter Try.func6, Try.ntmps6
    go_wp2_with fail
    refine HC.out.mono ?_
    rintro e w1 ⟨⟨A1, c1', rfl, hO1⟩, hb1⟩
    rw [HA.out, HB.out] at *
    have b1 := below_next hal hb1
    have hz1' := hb1.size
    have HS0 : Hid (PackS w.heap.size w1.heap.size ps.length c1' A1 w ps (pieces ps 0) (.slice (some ⟨w.heap.size, 0, none⟩) 0 0) w1) := Lib.hid ⟨[], hO0.keep hb1, rfl, fun d hd => by simp at hd, own_mono hO1 (by simp), fun b hb => own_lt hO1 hb, b1, Nat.le_refl _⟩
    have HGd := Lib.hid hgood
    have hwz : w.heap.size ≤ w1.heap.size := b1.size
    have HLn := Lib.hid (show ps.length = ps.length from rfl)
    clear hb1 HC hal hO0 hO1 hgood b1 hz1'
    generalize hN : ps.length = N at *
    have HNl := Lib.hid hN
    clear hN HLn
    go_wp2
    go_loopw [4, 7] (fun v i wr => ∃ k : Nat, k ≤ N ∧ i = .int .i64 k ∧ Hid (PackS w.heap.size w1.heap.size N c1' A1 w ps (pieces ps k) v wr)) (fun _ i _ => N - (intOf i).toNat)
    case atStart => exact ⟨0, Nat.zero_le _, rfl, HS0⟩
    case round =>
      obtain ⟨k, hk, rfl, HS⟩ := hrel
      by_cases hlt : k < N
      · have hkl : k < ps.length := by rw [HNl.out]; exact hlt
        by_cases hk4 : k % 4 = 0
        · have hkI : ((k : Int).tmod 4 == 0) = true := by rw [Int.tmod_eq_emod_of_nonneg (by omega)]; exact beq_iff_eq.2 (by omega)
          have hkJ : ((k : Int) % 4 == 0) = true := beq_iff_eq.2 (by omega)
          obtain ⟨ds', hC, hM, hD, hP, hPb, hb, hz⟩ := HS.out
          obtain ⟨Av, cv, rfl, _, _⟩ := hC.form
          have hdl : ds'.length ≤ 1048576 := by
            have := congrArg List.length hM
            rw [List.length_map, pieces_len] at this
            omega
          have HPp := Lib.hid (pad_new hk4 hkl)
          have HCo := Lib.hid hC.1
          have HC0 := Lib.hid hC
          clear HS
          go_wp2_with (at_builtin; refine wpList_append_any _ rfl (.tmp 23) (.tmp 25) _ rfl w.heap.size 33 i1 _ 1 24 Try.underlying24 hj hy0 hy1 hy2 rfl (by omega) (.slice Av ds'.length cv) ds'.length _ rfl ((HCo.out.alloc _).alloc _) (wr.heap.size + 2) (some ⟨wr.heap.size + 1, 0, none⟩) 1 1 [.slice (some ⟨wr.heap.size, 0, none⟩) 0 0] rfl (rowNew _ _ _ _) (by simp [Value.oneCell']) (by unfold maxLen; omega) (by omega) (by simp; omega) ?_; intro v3 w3 hown3 hg3 hat3)
          have hE : Below wr.heap.size wr (wr.alloc (.cells #[] 41)) := (Below.refl _ _).alloc (Nat.le_refl _) _
          have hwr : w.heap.size ≤ wr.heap.size := by omega
          have hpush := newPush (ps := []) hwr HC0.out hE (World.ownsRow_made wr #[] 0 (Nat.le_refl _) (by simp) (by simp)) rfl (by simp) hg3 hown3
          obtain ⟨A3, c3, rfl, hc3, hm3⟩ := own_form hown3
          have hvne : ∀ b, (Value.slice A1 N c1').ownBlock = some b → (Value.slice Av ds'.length cv).ownBlock ≠ some b := fun b hb e => by
            obtain ⟨cur2, q2⟩ := ownG_obj hP hb
            obtain ⟨cur3, q3⟩ := ownG_obj HCo.out e
            rw [q2] at q3; injection q3 with q3; injection q3 with _ q3; exact absurd q3 (by decide)
          have HP3 := Lib.hid ((hP.keep (hE.alloc hE.size (.cells #[.slice (some ⟨wr.heap.size, 0, none⟩) 0 0] 33))).only hg3 hvne)
          have HC3 := Lib.hid hpush.1
          have HB3 : Hid (Below w.heap.size w w3) := Lib.hid (hb.trans hpush.2)
          have hz3 : w1.heap.size ≤ w3.heap.size := by have h1 := hg3.size; simp at h1; omega
          have HM3 : Hid ((ds' ++ [(⟨some ⟨wr.heap.size, 0, none⟩, 0, 0, []⟩ : Drawer)]).map (·.ps) = pieces ps k ++ [[]]) := Lib.hid (by rw [List.map_append, hM]; rfl)
          have HD3 : Hid (∀ d ∈ ds' ++ [(⟨some ⟨wr.heap.size, 0, none⟩, 0, 0, []⟩ : Drawer)], ∀ b, d.v.ownBlock = some b → w1.heap.size ≤ b) := Lib.hid (fun d hd b hb => by
            rcases List.mem_append.1 hd with hd | hd
            · exact hD d hd b hb
            · simp at hd; subst hd
              have : b = wr.heap.size := by injection hb with hb; exact hb.symm
              omega)
          have HPb := Lib.hid hPb
          clear hown3 hg3 hat3 hE hpush hC hP hM hD HCo HC0 hvne hPb hb hz hkI hkJ
          generalize (⟨some ⟨wr.heap.size, 0, none⟩, 0, 0, []⟩ : Drawer) = d0 at *
          generalize hdl' : ds'.length + 1 = m at *
          have HMl := Lib.hid hdl'
          clear hdl'
          obtain ⟨hM4, hM5⟩ : ds'.map (·.ps) = (pieces ps k) ∧ d0.ps = [] := by
            have h := HM3.out
            rw [List.map_append] at h
            have h2 := List.append_inj' h rfl
            exact ⟨h2.1, by simpa using h2.2⟩
          have HM4 := Lib.hid hM4
          clear HM3 hM4
          obtain ⟨hdn, hdo, hdg⟩ := HC3.out.2.1 d0 (by simp)
          obtain ⟨go, capG, hvG, _, hgoW⟩ := HC3.out.1.form (by simp)
          obtain rfl : A3 = some ⟨go, 0, none⟩ := by injection hvG
          have hcd0 : w3.cell? ⟨go, ds'.length, none⟩ = some d0.v := by
            have hl : (ds'.flatMap drawerC).length = ds'.length := by
              have := flat_len drawerC_len ds'
              omega
            have h1 := HC3.out.1.cells (g := go) rfl ds'.length d0.v (by rw [List.flatMap_append, List.getElem?_append_right (by omega), hl, Nat.sub_self]; rfl)
            by_cases h0 : ds'.length = 0
            · rw [h0] at h1 ⊢; simpa [Addr.add] using h1
            · simpa [Addr.add, h0] using h1
          obtain ⟨curG, hG⟩ := ownG_obj HC3.out.1 (b := go) rfl
          have hfd0 : w3.frozen? ⟨go, ds'.length, none⟩ = false := Blk.free (t := 33) hG _
          have hne0 : d0.v.ownBlock ≠ some go := fun e => by
            obtain ⟨cur2, q2⟩ := ownG_obj hdo e
            rw [hG] at q2; injection q2 with q2; injection q2 with _ q2; exact absurd q2 (by decide)
          obtain ⟨pb, po, rfl, hpb, c0, c1⟩ := (PadsOwn.reads HP3.out HNl.out HGd.out).at_ hlt
          have hpg := c1.2
          have c1 := c1.1
          obtain ⟨Ad, nd, cd, qs⟩ := d0
          simp only at hM5 hdn hdg
          have hnd3 : nd ≤ 3 := by rw [← hdn, hM5]; exact (by simp)
          have HM5 := Lib.hid hM5
          clear hM5
          have HOd : Hid (w3.drew.ownsRow w.heap.size 41 2 (.slice Ad nd cd) nd (qs.flatMap padC)) := Lib.hid (by
            have h := hdo
            unfold PadsOwn Drawer.v at h
            rw [show qs.length = nd from hdn] at h
            exact h)
          have hcd : w3.cell? ⟨go, ds'.length, none⟩ = some (.slice Ad nd cd) := hcd0
          have hcdA : (w3.drew.alloc (.cells #[.int .i64 (padAt ps k).day, .string (padAt ps k).case] 41)).cell? ⟨go, ds'.length, none⟩ = some (.slice Ad nd cd) ∧ (w3.drew.alloc (.cells #[.int .i64 (padAt ps k).day, .string (padAt ps k).case] 41)).frozen? ⟨go, ds'.length, none⟩ = false := by
            have hE : Below w3.heap.size w3 (w3.drew.alloc (.cells #[.int .i64 (padAt ps k).day, .string (padAt ps k).case] 41)) := ((Below.refl _ w3).drew).alloc (Nat.le_refl _) _
            exact ⟨kcell hE hcd, kfree hE hcd hfd0⟩
          have HcdA := Lib.hid hcdA
          have HNe : Hid ((Value.slice Ad nd cd).ownBlock ≠ some go) := Lib.hid hne0
          have HDn := Lib.hid hdn
          have HDg := Lib.hid hdg
          have HPg := Lib.hid hpg
          generalize hjl : ds'.length = j at *
          have HJ := Lib.hid hjl
          have hmj : j + 1 = m := HMl.out
          have hw : IntKind.i64.wrap ((m : Int) - 1) = (j : Int) := by rw [IntWalk.i64_in _ (by omega)]; omega
          have e1 : (0 : Int) ≤ (j : Int) := by omega
          have e2 : (j : Int) < (m : Int) := by omega
          have e3 : (0 : Int) ≤ (k : Int) := by omega
          have e4 : (k : Int) < (N : Int) := by omega
          have hwz3 : w.heap.size ≤ w3.heap.size := by omega
          clear hcd0 hdn hdo hdg hpg hfd0 hcdA hne0 hG hvG hjl hmj
          go_region_law
            ((refine step_append_any _ (by rfl) (.tmp 36) (.tmp 41) _ (by rfl) w.heap.size 41 i0 _ 2 24 Try.underlying33 hi hz0 hz1 hz2 rfl (by omega) (.slice Ad nd cd) nd (qs.flatMap padC) (by rfl) (HOd.out.alloc _) (w3.drew.heap.size + 1) (some ⟨w3.drew.heap.size, 0, none⟩) 1 1 [.int .i64 (padAt ps k).day, .string (padAt ps k).case] (by rfl) (rowNewPad _ _ _ _) (by simp [Value.oneCell']) (by unfold maxLen; omega) (by omega) (by show w.heap.size ≤ (w3.alloc _).heap.size; simp; omega) ?_; intro v5 w5 hown5 hg5 hat5; obtain ⟨A5, c5, rfl, hc5, hm5⟩ := own_form hown5; have hk5 := keepCell hg5 HNe.out HcdA.out; have k5 := hk5.1; have f5 := hk5.2))
          all_goals (
            have hE : Below w3.heap.size w3 (w3.drew.alloc (.cells #[.int .i64 (padAt ps k).day, .string (padAt ps k).case] 41)) := ((Below.refl _ w3).drew).alloc (Nat.le_refl _) _
            have hpsl : (qs ++ [padAt ps k]).length = nd + 1 := by rw [List.length_append, HDn.out]; rfl
            have hC6 := CabOwn.turnLast (d2 := ⟨A5, nd + 1, c5, qs ++ [padAt ps k]⟩) (HC3.out.keep hE) hg5 ⟨hpsl, by
              show PadsOwn _ _ (.slice A5 (nd + 1) c5) (qs ++ [padAt ps k])
              unfold PadsOwn
              rw [hpsl, List.flatMap_append]; exact hown5, fun p hp => by
              rcases List.mem_append.1 hp with hp | hp
              · exact HDg.out p hp
              · simp at hp; subst hp; exact HPg.out⟩ (fun b hb => by
              rcases hat5 with h | h
              · left; exact h.symm.trans hb
              · right
                have hb2 : (Value.slice A5 (nd + 1) c5).ownBlock = some b := hb
                rw [h] at hb2; injection hb2 with hb2; exact Nat.le_of_eq hb2)
            rw [HJ.out] at hC6
            have hdbk : ∀ b, (Value.slice Ad nd cd).ownBlock = some b → w1.heap.size ≤ b := fun b hb => HD3.out ⟨Ad, nd, cd, qs⟩ (by simp) b hb
            have hsz5 := hg5.size
            have HS6 : Hid (PackS w.heap.size w1.heap.size N c1' (some ⟨pb, po, none⟩) w ps (pieces ps (k + 1)) (.slice (some ⟨go, 0, none⟩) m c3) (w5.setCell ⟨go, j, none⟩ (.slice A5 (nd + 1) c5))) := Lib.hid ⟨_, hC6, by rw [List.map_append, HM4.out, HPp.out, ← HM5.out]; rfl, fun d hd b hb => by
              rcases List.mem_append.1 hd with hd | hd
              · exact HD3.out d (by simp [hd]) b hb
              · simp at hd; subst hd
                rcases hat5 with h | h
                · exact hdbk b (h.symm.trans hb)
                · have hb2 : (Value.slice A5 (nd + 1) c5).ownBlock = some b := hb
                  rw [h] at hb2; injection hb2 with hb2
                  have : b = w3.heap.size + 1 := by rw [← hb2]; show (w3.alloc _).heap.size = _; simp
                  omega,
              own_congr ((HP3.out.keep hE).only hg5 (fun b hb e => by have h1 := HPb.out b hb; have h2 := hdbk b e; omega)) (fun b hb => Below.heap_setCell w5 _ _ b (by
                intro e
                have e : b = go := e
                obtain ⟨cur2, q2⟩ := ownG_obj (HP3.out) hb
                obtain ⟨cur3, q3⟩ := ownG_obj HC3.out.1 (b := go) rfl
                rw [e, q3] at q2; injection q2 with q2; injection q2 with _ q2; exact absurd q2 (by decide))),
              HPb.out, ((HB3.out.trans (hE.mono hwz3)).grown hg5 (by show w.heap.size ≤ (w3.alloc _).heap.size; simp; omega) (fun b hb => by have := hdbk b hb; omega)).setCell (p := ⟨go, j, none⟩) (by
                have := ownG_base HC3.out.1 (k := go) rfl
                exact this) _, by
                show w1.heap.size ≤ (w5.setCell _ _).heap.size
                rw [World.size_setCell]
                exact Nat.le_trans hz3 (Nat.le_trans hE.size hsz5)⟩
            clear hown5 hg5 hat5 hk5 k5 f5 hC6 hE c0 c1 hcd hdbk
            go_wp2
            go_roundw
            case rel => exact ⟨k + 1, by omega, by go_num, HS6⟩
            case measure => simp [intOf]; omega)
        · have hkI : ((k : Int).tmod 4 == 0) = false := by rw [Int.tmod_eq_emod_of_nonneg (by omega)]; exact beq_eq_false_iff_ne.2 (by omega)
          have hkJ : ((k : Int) % 4 == 0) = false := beq_eq_false_iff_ne.2 (by omega)
          obtain ⟨dsA, hC, hM, hD, hP, hPb, hb, hz⟩ := HS.out
          obtain ⟨L0, q0, hL0, hq3, hL1⟩ := pad_on hk4 hkl
          rw [hL0] at hM
          obtain ⟨R0, d0, rfl, hR0, hd0⟩ := drawers_last hM
          obtain ⟨A3, c3, rfl, hc3, hm3⟩ := hC.form
          have hdl : R0.length ≤ 1048576 := by
            have h1 := congrArg List.length hL0
            have h2 := congrArg List.length hR0
            rw [pieces_len, List.length_append] at h1
            rw [List.length_map] at h2
            omega
          have HPp := Lib.hid hL1
          have HMl : Hid (R0.length + 1 = (R0 ++ [d0]).length) := Lib.hid (by simp)
          have HM3 := Lib.hid hM
          have HD3 := Lib.hid hD
          have HP3 := Lib.hid hP
          have HPb := Lib.hid hPb
          have HB3 := Lib.hid hb
          have hz3 := hz
          have HC3 := Lib.hid hC
          clear HS hC hM hD hP hPb hb hz hL0 hL1 hR0 hd0
          generalize (R0 ++ [d0]).length = m at *
          go_wp2_with fail
          obtain ⟨hM4, hM5⟩ : R0.map (·.ps) = L0 ∧ d0.ps = q0 := by
            have h := HM3.out
            rw [List.map_append] at h
            have h2 := List.append_inj' h rfl
            exact ⟨h2.1, by simpa using h2.2⟩
          have HM4 := Lib.hid hM4
          clear HM3 hM4
          obtain ⟨hdn, hdo, hdg⟩ := HC3.out.2.1 d0 (by simp)
          obtain ⟨go, capG, hvG, _, hgoW⟩ := HC3.out.1.form (by simp)
          obtain rfl : A3 = some ⟨go, 0, none⟩ := by injection hvG
          have hcd0 : wr.cell? ⟨go, R0.length, none⟩ = some d0.v := by
            have hl : (R0.flatMap drawerC).length = R0.length := by
              have := flat_len drawerC_len R0
              omega
            have h1 := HC3.out.1.cells (g := go) rfl R0.length d0.v (by rw [List.flatMap_append, List.getElem?_append_right (by omega), hl, Nat.sub_self]; rfl)
            by_cases h0 : R0.length = 0
            · rw [h0] at h1 ⊢; simpa [Addr.add] using h1
            · simpa [Addr.add, h0] using h1
          obtain ⟨curG, hG⟩ := ownG_obj HC3.out.1 (b := go) rfl
          have hfd0 : wr.frozen? ⟨go, R0.length, none⟩ = false := Blk.free (t := 33) hG _
          have hne0 : d0.v.ownBlock ≠ some go := fun e => by
            obtain ⟨cur2, q2⟩ := ownG_obj hdo e
            rw [hG] at q2; injection q2 with q2; injection q2 with _ q2; exact absurd q2 (by decide)
          obtain ⟨pb, po, rfl, hpb, c0, c1⟩ := (PadsOwn.reads HP3.out HNl.out HGd.out).at_ hlt
          have hpg := c1.2
          have c1 := c1.1
          obtain ⟨Ad, nd, cd, qs⟩ := d0
          simp only at hM5 hdn hdg
          have hnd3 : nd ≤ 3 := by rw [← hdn, hM5]; exact hq3
          have HM5 := Lib.hid hM5
          clear hM5
          have HOd : Hid (wr.drew.ownsRow w.heap.size 41 2 (.slice Ad nd cd) nd (qs.flatMap padC)) := Lib.hid (by
            have h := hdo
            unfold PadsOwn Drawer.v at h
            rw [show qs.length = nd from hdn] at h
            exact h)
          have hcd : wr.cell? ⟨go, R0.length, none⟩ = some (.slice Ad nd cd) := hcd0
          have hcdA : (wr.drew.alloc (.cells #[.int .i64 (padAt ps k).day, .string (padAt ps k).case] 41)).cell? ⟨go, R0.length, none⟩ = some (.slice Ad nd cd) ∧ (wr.drew.alloc (.cells #[.int .i64 (padAt ps k).day, .string (padAt ps k).case] 41)).frozen? ⟨go, R0.length, none⟩ = false := by
            have hE : Below wr.heap.size wr (wr.drew.alloc (.cells #[.int .i64 (padAt ps k).day, .string (padAt ps k).case] 41)) := ((Below.refl _ wr).drew).alloc (Nat.le_refl _) _
            exact ⟨kcell hE hcd, kfree hE hcd hfd0⟩
          have HcdA := Lib.hid hcdA
          have HNe : Hid ((Value.slice Ad nd cd).ownBlock ≠ some go) := Lib.hid hne0
          have HDn := Lib.hid hdn
          have HDg := Lib.hid hdg
          have HPg := Lib.hid hpg
          generalize hjl : R0.length = j at *
          have HJ := Lib.hid hjl
          have hmj : j + 1 = m := HMl.out
          have hw : IntKind.i64.wrap ((m : Int) - 1) = (j : Int) := by rw [IntWalk.i64_in _ (by omega)]; omega
          have e1 : (0 : Int) ≤ (j : Int) := by omega
          have e2 : (j : Int) < (m : Int) := by omega
          have e3 : (0 : Int) ≤ (k : Int) := by omega
          have e4 : (k : Int) < (N : Int) := by omega
          have hwz3 : w.heap.size ≤ wr.heap.size := by omega
          clear hcd0 hdn hdo hdg hpg hfd0 hcdA hne0 hG hvG hjl hmj
          go_region_law
            ((refine step_append_any _ (by rfl) (.tmp 36) (.tmp 41) _ (by rfl) w.heap.size 41 i0 _ 2 24 Try.underlying33 hi hz0 hz1 hz2 rfl (by omega) (.slice Ad nd cd) nd (qs.flatMap padC) (by rfl) (HOd.out.alloc _) (wr.drew.heap.size + 1) (some ⟨wr.drew.heap.size, 0, none⟩) 1 1 [.int .i64 (padAt ps k).day, .string (padAt ps k).case] (by rfl) (rowNewPad _ _ _ _) (by simp [Value.oneCell']) (by unfold maxLen; omega) (by omega) (by show w.heap.size ≤ (wr.alloc _).heap.size; simp; omega) ?_; intro v5 w5 hown5 hg5 hat5; obtain ⟨A5, c5, rfl, hc5, hm5⟩ := own_form hown5; have hk5 := keepCell hg5 HNe.out HcdA.out; have k5 := hk5.1; have f5 := hk5.2))
          all_goals (
            have hE : Below wr.heap.size wr (wr.drew.alloc (.cells #[.int .i64 (padAt ps k).day, .string (padAt ps k).case] 41)) := ((Below.refl _ wr).drew).alloc (Nat.le_refl _) _
            have hpsl : (qs ++ [padAt ps k]).length = nd + 1 := by rw [List.length_append, HDn.out]; rfl
            have hC6 := CabOwn.turnLast (d2 := ⟨A5, nd + 1, c5, qs ++ [padAt ps k]⟩) (HC3.out.keep hE) hg5 ⟨hpsl, by
              show PadsOwn _ _ (.slice A5 (nd + 1) c5) (qs ++ [padAt ps k])
              unfold PadsOwn
              rw [hpsl, List.flatMap_append]; exact hown5, fun p hp => by
              rcases List.mem_append.1 hp with hp | hp
              · exact HDg.out p hp
              · simp at hp; subst hp; exact HPg.out⟩ (fun b hb => by
              rcases hat5 with h | h
              · left; exact h.symm.trans hb
              · right
                have hb2 : (Value.slice A5 (nd + 1) c5).ownBlock = some b := hb
                rw [h] at hb2; injection hb2 with hb2; exact Nat.le_of_eq hb2)
            rw [HJ.out] at hC6
            have hdbk : ∀ b, (Value.slice Ad nd cd).ownBlock = some b → w1.heap.size ≤ b := fun b hb => HD3.out ⟨Ad, nd, cd, qs⟩ (by simp) b hb
            have hsz5 := hg5.size
            have HS6 : Hid (PackS w.heap.size w1.heap.size N c1' (some ⟨pb, po, none⟩) w ps (pieces ps (k + 1)) (.slice (some ⟨go, 0, none⟩) m c3) (w5.setCell ⟨go, j, none⟩ (.slice A5 (nd + 1) c5))) := Lib.hid ⟨_, hC6, by rw [List.map_append, HM4.out, HPp.out, ← HM5.out]; rfl, fun d hd b hb => by
              rcases List.mem_append.1 hd with hd | hd
              · exact HD3.out d (by simp [hd]) b hb
              · simp at hd; subst hd
                rcases hat5 with h | h
                · exact hdbk b (h.symm.trans hb)
                · have hb2 : (Value.slice A5 (nd + 1) c5).ownBlock = some b := hb
                  rw [h] at hb2; injection hb2 with hb2
                  have : b = wr.heap.size + 1 := by rw [← hb2]; show (wr.alloc _).heap.size = _; simp
                  omega,
              own_congr ((HP3.out.keep hE).only hg5 (fun b hb e => by have h1 := HPb.out b hb; have h2 := hdbk b e; omega)) (fun b hb => Below.heap_setCell w5 _ _ b (by
                intro e
                have e : b = go := e
                obtain ⟨cur2, q2⟩ := ownG_obj (HP3.out) hb
                obtain ⟨cur3, q3⟩ := ownG_obj HC3.out.1 (b := go) rfl
                rw [e, q3] at q2; injection q2 with q2; injection q2 with _ q2; exact absurd q2 (by decide))),
              HPb.out, ((HB3.out.trans (hE.mono hwz3)).grown hg5 (by show w.heap.size ≤ (wr.alloc _).heap.size; simp; omega) (fun b hb => by have := hdbk b hb; omega)).setCell (p := ⟨go, j, none⟩) (by
                have := ownG_base HC3.out.1 (k := go) rfl
                exact this) _, by
                show w1.heap.size ≤ (w5.setCell _ _).heap.size
                rw [World.size_setCell]
                exact Nat.le_trans hz3 (Nat.le_trans hE.size hsz5)⟩
            clear hown5 hg5 hat5 hk5 k5 f5 hC6 hE c0 c1 hcd hdbk
            go_wp2
            go_roundw
            case rel => exact ⟨k + 1, by omega, by go_num, HS6⟩
            case measure => simp [intOf]; omega)
      · obtain rfl : N = k := by omega
        obtain ⟨ds', hC, hM, _, _, _, hb, _⟩ := HS.out
        obtain ⟨Av, cv, rfl, _, _⟩ := hC.form
        have HC3 := Lib.hid hC
        have HY : Hid (packO (ds.map (·.ps)) = some (ds'.map (·.ps))) := Lib.hid (by rw [HN.out, hM]; unfold packed; rw [HNl.out])
        clear HS hC hM
        go_wp2
        go_returns
        exact ⟨.yes HY.out rfl HC3.out, hb⟩
end Go.Proofs.Ytlphefpgnfogfaa
