/-
  l92There draws drawers and a pad that is often one of theirs; DrawCabinetTake, DrawCabinetFind. Conditions: none.
-/
import Derived.Test.YtfbfapobmhfenaaDrawA
import Derived.Deep.RegionHeld3
namespace Go.Proofs.Ytfbfapobmhfenaa
open Go.ChangeShapes Go.WideShapes Go.ChangeAt Go.RowKit
set_option maxRecDepth 100000

/-- What l92There answers. -/
def DrawnThere (B : Nat) (w : World) (e : Ending) (w' : World) : Prop :=
  ∃ A c ds p, e = .returned (.tuple #[.slice A ds.length c, padVal p]) ∧ CabOwn w' w.heap.size (.slice A ds.length c) ds ∧ cabSz ds ≤ 4096 ∧ p.good ∧ Below B w w'
theorem mem_good {w : World} {B n c : Nat} {A : Option Addr} {ps : List Pad} (h : PadsIn w B A n c ps) {k : Nat} (hk : k < n) : (padAt ps k).good := h.2.2.2.2 _ (padAt_mem (by rw [h.1]; exact hk))

theorem CabOwn.farCell {w : World} {B : Nat} {v : Value} {ds : List Drawer} (h : CabOwn w B v ds) {p : Addr} (hp : p.block < B) (u : Value) : CabOwn (w.setCell p u) B v ds :=
  h.congr (fun b hb => Below.heap_setCell w p u b (by have := own_base h.1 hb; omega)) fun d hd b hb => Below.heap_setCell w p u b (by have := own_base (h.2.1 d hd).2.1 hb; omega)
set_option maxHeartbeats 1600000 in
theorem l92There (g B lim : Nat) (w : World) (hl : lim ≤ 600000000) (hr : RdIn w B g lim) (hBw : B ≤ w.heap.size) :
    Calls Try.prog 69 #[.pointer (some ⟨g, 0, none⟩)] w (DrawnThere B w) := by
  have hg0 := hr.lt
  have hBg : B ≤ g := by obtain ⟨_, _, _, _, _, _, _, _, _, h⟩ := hr; exact h
  go_enter Try.func69, Try.ntmps69
  go_wp2_with fail
  refine (l92Cabinet g B lim _ (by omega) (hr.alloc _) (by simp; omega)).mono ?_
  rintro e w1 ⟨A1, c1, ds, rfl, hO1, hs1, hg1, hr1⟩
  have K1 := (Blk.new w _ _).only hg1 (by omega)
  have b1 : Below B w w1 := ((Below.refl _ _).alloc hBw _).grown hg1 (by simp; omega) (fun k hk => by injection hk with hk; omega)
  simp only [World.size_alloc] at hO1
  have HO1 := Lib.hid hO1; have HR1 := Lib.hid hr1
  have hz1 : w.heap.size + 1 ≤ w1.heap.size := by have := hg1.size; simpa using this
  have hdl : ds.length ≤ 4096 := by have := cabSz_len ds; omega
  clear hO1 hr1 hg1 hr
  go_wp2_with fail
  refine (l8Pads A1 ds.length c1 ds w1 (by omega) (HO1.out.reads rfl)).mono ?_
  rintro e w2 ⟨A2, c2, rfl, hO2, hb2⟩
  have hpl : (allPads ds).length ≤ 4096 := Nat.le_trans (allPads_len ds) hs1
  have hgd : ∀ p ∈ allPads ds, p.good := allPads_good (HO1.out.reads rfl)
  have HP2 := Lib.hid (hO2.reads rfl hgd)
  have HPO2 := Lib.hid hO2
  have hcm2 := HP2.out.2.2.1; have hnc2 := HP2.out.2.1
  unfold maxLen at hcm2
  have K2 := K1.below hb2
  have hz2 : w.heap.size + 1 ≤ w2.heap.size := Nat.le_trans hz1 hb2.size
  have b2 := b1.trans (hb2.mono (by omega))
  have HO2 := Lib.hid (HO1.out.keep hb2)
  have HR2 := Lib.hid (HR1.out.below hb2)
  have HGd := Lib.hid hgd
  clear hO2 hgd K1 b1 hb2 HO1 HR1
  generalize hap : allPads ds = ps at *
  clear hap
  generalize hpn : ps.length = N at *
  have HPN := Lib.hid hpn; clear hpn
  -- what another pad comes to
  have tailP : ∀ (w3 : World) (l3 : Nat), l3 ≤ 800000000 → Blk w3 w.heap.size 49 #[.int .i64 0, .string ByteArray.empty] → Below B w w3 → w.heap.size + 1 ≤ w3.heap.size → CabOwn w3 (w.heap.size + 1) (.slice A1 ds.length c1) ds → RdIn w3 B g l3 →
      Calls Try.prog 79 #[.pointer (some ⟨g, 0, none⟩)] w3 fun e w4 => ∃ (d : Int) (s : ByteArray), e = .returned (.agg #[.int .i64 d, .string s]) ∧ (⟨d, s⟩ : Pad).good ∧ Blk w4 w.heap.size 49 #[.int .i64 0, .string ByteArray.empty] ∧ Below B w w4 ∧ CabOwn w4 (w.heap.size + 1) (.slice A1 ds.length c1) ds :=
    fun w3 l3 h1 h2 h3 h4 h5 h6 => (l92Pad g B l3 w3 (by omega) h6 (by omega)).mono fun e w4 ⟨d, s, he, hs, hg, _⟩ => ⟨d, s, he, small_good hs, h2.only hg (by omega), h3.grown hg (by omega) (fun k hk => by injection hk with hk; omega), h6.cab h5 hg⟩
  have HT := Lib.hid tailP; clear tailP
  by_cases hp0 : N = 0
  · subst hp0
    go_wp2_with fail
    refine (HT.out w2 (lim + 200) (by omega) K2 b2 hz2 HO2.out HR2.out).mono ?_
    rintro e w4 ⟨d, s, rfl, hgood, K4, b4, hO4⟩
    obtain ⟨k0, k1, kf0, kf1⟩ := K4.two
    have HO5 := Lib.hid (((hO4.farCell (p := ⟨w.heap.size, 0, none⟩) (by simp) (.int .i64 d)).farCell (p := ⟨w.heap.size, 1, none⟩) (by simp) (.string s)).mono (Nat.le_succ _))
    have HB5 := Lib.hid ((b4.setCell (p := ⟨w.heap.size, 0, none⟩) hBw (.int .i64 d)).setCell (p := ⟨w.heap.size, 1, none⟩) hBw (.string s))
    have HGo := Lib.hid hgood
    clear hO4 K4 b4 hgood
    go_wp2
    refine bodyPost_ret (v := .tuple #[.slice A1 ds.length c1, .agg #[.int .i64 d, .string s]]) (by simp [results, Try.results69, go_sem, k0, k1]) rfl ?_
    exact ⟨A1, c1, ds, ⟨d, s⟩, rfl, HO5.out, hs1, HGo.out, HB5.out⟩
  · have hpp : 0 < N := by omega
    have hd0 : decide ((0 : Int) < N) = true := decide_eq_true (by omega)
    clear hp0
    go_wp2_with fail
    refine (pick 4 g B (lim + 200) w2 (by omega) (by omega) (by omega) HR2.out).mono ?_
    rintro e w3 ⟨m, rfl, hm0, hm1, hg3, hr3⟩
    have K3 := K2.only hg3 (by omega)
    have b3 := b2.grown hg3 (by omega) (fun k hk => by injection hk with hk; omega)
    have HO3 := Lib.hid (HR2.out.cab HO2.out hg3)
    have HPO3 := Lib.hid (HPO2.out.only hg3 (fun b hb => HR2.out.ne_own HPO2.out (by decide) b hb))
    have HR3 := Lib.hid hr3
    have hz3 : w.heap.size + 1 ≤ w3.heap.size := Nat.le_trans hz2 hg3.size
    clear hg3 hr3 K2 b2 HO2 HR2 HPO2 HP2
    by_cases hm : 0 < m
    · have HPk : Hid (∀ W : World, W = w3.drew → Calls Try.prog 65 #[.pointer (some ⟨g, 0, none⟩), .int .i64 N] W fun e w4 => ∃ j : Nat, e = .returned (.int .i64 (j : Int)) ∧ j < N ∧ (∃ bq oq, A2 = some ⟨bq, oq, none⟩ ∧ w4.cell? ⟨bq, oq + j * 2, none⟩ = some (.int .i64 (padAt ps j).day) ∧ w4.cell? ⟨bq, oq + j * 2 + 1, none⟩ = some (.string (padAt ps j).case)) ∧ Blk w4 w.heap.size 49 #[.int .i64 0, .string ByteArray.empty] ∧ Below B w w4 ∧ CabOwn w4 (w.heap.size + 1) (.slice A1 ds.length c1) ds) := Lib.hid (fun W hW => by
        subst hW
        have hr4 : RdIn w3.drew B g (lim + 200 + 1) := HR3.out
        have hp4 : PadsOwn w3.drew w1.heap.size (.slice A2 N c2) ps := HPO3.out
        refine (pick N g B (lim + 200 + 1) w3.drew (by omega) (by omega) (by omega) hr4).mono ?_
        rintro e w4 ⟨q, rfl, hq0, hq1, hg4, _⟩
        obtain ⟨j, rfl⟩ := Int.eq_ofNat_of_zero_le hq0
        have hjN : j < N := by omega
        have hp5 := PadsOwn.only hp4 hg4 (fun b hb => hr4.ne_own hp4 (by decide) b hb)
        obtain ⟨bq, oq, eA, _, q0, q1, _⟩ := (hp5.reads HPN.out HGd.out).at_ hjN
        have hK : Blk w3.drew w.heap.size 49 #[.int .i64 0, .string ByteArray.empty] := K3
        have hO : CabOwn w3.drew (w.heap.size + 1) (.slice A1 ds.length c1) ds := HO3.out
        exact ⟨j, rfl, hjN, ⟨bq, oq, eA, q0, q1⟩, hK.only hg4 (by omega), b3.drew.grown hg4 (by show B ≤ w3.heap.size; omega) (fun k hk => by injection hk with hk; omega), hr4.cab hO hg4⟩)
      clear K3 b3 HO3 HPO3 HR3
      go_wp2_with fail
      go_region_with (go_at_call 65; refine (HPk.out _ rfl).mono ?_; rintro e w4 ⟨j, rfl, hjN, ⟨bq, oq, rfl, q0, q1⟩, K4, b4, hO4⟩; obtain ⟨k0, k1, kf0, kf1⟩ := K4.two)
      all_goals (
        have HO5 := Lib.hid (((hO4.farCell (p := ⟨w.heap.size, 0, none⟩) (by simp) (.int .i64 (padAt ps j).day)).farCell (p := ⟨w.heap.size, 1, none⟩) (by simp) (.string (padAt ps j).case)).mono (Nat.le_succ _))
        have HB5 := Lib.hid ((b4.setCell (p := ⟨w.heap.size, 0, none⟩) hBw (.int .i64 (padAt ps j).day)).setCell (p := ⟨w.heap.size, 1, none⟩) hBw (.string (padAt ps j).case))
        have HGo := Lib.hid (HGd.out _ (padAt_mem (by rw [HPN.out]; exact hjN)))
        clear hO4 K4 b4
        go_wp2
        refine bodyPost_ret (v := .tuple #[.slice A1 ds.length c1, padVal (padAt ps j)]) (by simp [results, Try.results69, go_sem, k0, k1, padVal]) rfl ?_
        exact ⟨A1, c1, ds, padAt ps j, rfl, HO5.out, hs1, HGo.out, HB5.out⟩)
    · have hm' : m = 0 := by omega
      subst hm'
      go_wp2_with fail
      refine (HT.out w3 (lim + 200 + 1) (by omega) K3 b3 hz3 HO3.out HR3.out).mono ?_
      rintro e w4 ⟨d, s, rfl, hgood, K4, b4, hO4⟩
      obtain ⟨k0, k1, kf0, kf1⟩ := K4.two
      have HO5 := Lib.hid (((hO4.farCell (p := ⟨w.heap.size, 0, none⟩) (by simp) (.int .i64 d)).farCell (p := ⟨w.heap.size, 1, none⟩) (by simp) (.string s)).mono (Nat.le_succ _))
      have HB5 := Lib.hid ((b4.setCell (p := ⟨w.heap.size, 0, none⟩) hBw (.int .i64 d)).setCell (p := ⟨w.heap.size, 1, none⟩) hBw (.string s))
      have HGo := Lib.hid hgood
      clear hO4 K4 b4 hgood
      go_wp2
      refine bodyPost_ret (v := .tuple #[.slice A1 ds.length c1, .agg #[.int .i64 d, .string s]]) (by simp [results, Try.results69, go_sem, k0, k1]) rfl ?_
      exact ⟨A1, c1, ds, ⟨d, s⟩, rfl, HO5.out, hs1, HGo.out, HB5.out⟩
end Go.Proofs.Ytfbfapobmhfenaa
