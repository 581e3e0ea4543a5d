/-
  The program's CabinetPack. Conditions: the drawers hold no more than a law lets by.
-/
import Derived.Test.YtlphefpgnfogfaaChunk
import Derived.Test.YtlphefpgnfogfaaMarkLaw
import Derived.Test.YtlphefpgnfogfaaDrawA
import Derived.Test.YtlphefpgnfogfaaOwnG
import Derived.Maps.AppendAt
import Derived.Stop.RegionWithIn
namespace Go.Proofs.Ytlphefpgnfogfaa
open Go.ChangeShapes Go.WideShapes Go.ChangeAt Go.RowKit Go.Shelf
set_option maxRecDepth 100000

attribute [local go_sem] Oper.semAt_some
/-- append, closed to the walk. -/
def appS (ats : Array TypeId) (ty : TypeId) (args : Array Value) := Builtin.append_ ats ty args
theorem appS_eq (ats : Array TypeId) (ty : TypeId) (args : Array Value) : Builtin.append_ ats ty args = appS ats ty args := rfl
attribute [local go_sem ↓] appS_eq

theorem chunkStops (n Bs Bn lo q N c : Nat) (w : World) (A : Option Addr) (ps : List Pad) (HP : PadsIn w w.heap.size A N c ps) (hN : N ≤ 1048576) (hn : 1 ≤ n) (hBs : Bs < w.heap.size) (hBn : Bn < w.heap.size) (hqs : q < Bs) (hqn : q < Bn) (hA : ∀ a, A = some a → q < a.block)
    (hs : w.cell? ⟨Bs, 0, none⟩ = some (.slice A N c)) (h4 : w.cell? ⟨Bn, 0, none⟩ = some (.int .i64 4)) :
    SeqStopsK Fence.wide n Try.prog 34 #[.pointer (some ⟨Bs, 0, none⟩), .pointer (some ⟨Bn, 0, none⟩)] (fun x : Piece w w.heap.size q => #[x.1.v]) (KeepB w.heap.size lo q) (fun ys => ys.map (·.1) = (List.range ((N + 3) / 4)).map (pieceD A N ps)) (fun _ => True) ((N + 3) / 4) w :=
  fun l J Jx W hW hJ _ hY h0 => chunkIn n l Bs Bn w.heap.size lo q N c w A ps HP hN hn hBs hBn hqs hqn hA J Jx (fun s W1 h => hJ s W1 W1.drew none h ⟨rfl, rfl, rfl, Nat.le_refl _, fun _ _ _ => rfl⟩ (fun _ e => by cases e)) hY W
    ((hW.cell (p := ⟨Bs, 0, none⟩) hBs).trans hs) ((hW.cell (p := ⟨Bn, 0, none⟩) hBn).trans h4) h0
theorem packed_pieces (A : Option Addr) (ps : List Pad) : ((List.range ((ps.length + 3) / 4)).map (pieceD A ps.length ps)).map (·.ps) = packed ps := by
  rw [List.map_map]; rfl
/-- What the loop has made. -/
def PackInv (B q n₀ : Nat) (w w3 : World) (D : List Drawer) (W : World) : Prop :=
  ∃ v ds, Blk W q 24 #[v] ∧ CabOwn W B v ds ∧ ds.map (·.ps) = D.map (·.ps) ∧ Below w.heap.size w W ∧ KeepB n₀ B q w3 W ∧ n₀ ≤ W.heap.size ∧ (∀ g, v.ownBlock = some g → g ≤ q ∨ n₀ ≤ g)
theorem PackInv.own {α : Type} {B q n₀ : Nat} {w w3 : World} (f : List α → List Drawer) (hw : w.heap.size ≤ n₀) : OwnFrom n₀ (fun pre W => PackInv B q n₀ w w3 (f pre) W) := by
  rintro pre W W' row ⟨v, ds, h1, h2, h3, h4, h5, h6, h7⟩ hg hr
  have hne : ∀ b cs t, W.heap[b]? = some (.cells cs t (0, 0)) → row ≠ some b := fun b cs t hb e => by
    obtain ⟨_, o, ho, hc⟩ := hr b e
    rw [hb] at ho; injection ho with ho; subst ho; cases hc
  refine ⟨v, ds, ?_, h2.only hg (fun b hb => ?_) (fun d hd b hb => ?_), h3, ?_, ?_, Nat.le_trans h6 hg.size, h7⟩
  · exact (hg.block q h1.lt (fun e => hne _ _ _ h1 e.symm)).trans h1
  · obtain ⟨cur, h⟩ := ownG_obj h2.1 hb
    exact hne _ _ _ h
  · obtain ⟨cur, h⟩ := ownG_obj (h2.2.1 d hd).2.1 hb
    exact hne _ _ _ h
  · exact h4.grown hg (h4.size) (fun k e => Nat.le_trans hw (hr k e).1)
  · exact h5.trans (fun b hb _ => hg.block b (Nat.lt_of_lt_of_le hb h6) (fun e => by have := (hr b e.symm).1; omega))
/-- A piece is put behind what the loop has made. -/
theorem pack_step {W W4 w w3 : World} {B q n₀ : Nat} {D : List Drawer} {v : Value} {ds : List Drawer} {d d0 : Drawer} (hK : Blk W q 24 #[v]) (hC : CabOwn W B v ds) (hM : ds.map (·.ps) = D.map (·.ps)) (hB : Below w.heap.size w W) (hk3 : KeepB n₀ B q w3 W) (hz : n₀ ≤ W.heap.size)
    (hv : ∀ g, v.ownBlock = some g → g ≤ q ∨ n₀ ≤ g) (hwB : w.heap.size ≤ B) (hBq : B ≤ q) (hq : q < n₀) (hd : ds.length ≤ 1048576) (hb4 : Below W.heap.size W W4) (hO4 : PadsOwn W4 W.heap.size d.v d.ps) (hn : d.ps.length = d.n) (hg : ∀ p ∈ d.ps, p.good) (e0 : d0.ps = d.ps) :
    ∃ A' c' W5, (Builtin.append_ #[24, 24] 24 #[v, .slice (some ⟨W4.heap.size, 0, none⟩) 1 1]).run Try.prog (W4.alloc (.cells #[d.v] 33)) = .ok (.slice A' (ds.length + 1) c') W5 ∧
      W5.cell? ⟨q, 0, none⟩ = some v ∧ W5.frozen? ⟨q, 0, none⟩ = false ∧
      KeepsFrom n₀ W (W5.setCell ⟨q, 0, none⟩ (.slice A' (ds.length + 1) c')) ∧ KeepB n₀ B q W (W5.setCell ⟨q, 0, none⟩ (.slice A' (ds.length + 1) c')) ∧ PackInv B q n₀ w w3 (D ++ [d0]) (W5.setCell ⟨q, 0, none⟩ (.slice A' (ds.length + 1) c')) := by
  obtain ⟨i0, hi, hz0, hz1, hz2⟩ := info_parts infoSl
  have hC4 := hC.keep hb4
  have hK4 := hK.below hb4
  obtain ⟨v', W5, hrun, hown, hgr, hat⟩ := run_append_any (P := Try.prog) (W4.alloc (.cells #[d.v] 33)) B 24 24 33 i0 _ 1 24 Try.underlying24 hi hz0 hz1 hz2 rfl (by omega) v ds.length (ds.flatMap drawerC) (hC4.1.alloc _) (W4.heap.size + 1) (some ⟨W4.heap.size, 0, none⟩) 1 1 [d.v] (rowNew1 _ _ _) (by simp [Value.oneCell', Drawer.v]) (by unfold maxLen; omega) (by omega) (by have := hb4.size; simp; omega)
  have bA : Below W.heap.size W (W4.alloc (.cells #[d.v] 33)) := hb4.alloc hb4.size _
  have hqne : some q ≠ v.ownBlock := fun e => by
    obtain ⟨cur, h⟩ := ownG_obj hC.1 e.symm
    unfold Blk at hK
    rw [hK] at h; injection h with h; injection h with _ h _; exact absurd h (by decide)
  have hK5 : Blk W5 q 24 #[v] := (hgr.block q (hK4.alloc _).lt hqne).trans (hK4.alloc _)
  have hbg : ∀ g, v.ownBlock = some g → B ≤ g := fun g e => ownG_base hC.1 e
  obtain ⟨A', c', rfl, _, _⟩ := ownG_form hown
  have hC5 : CabOwn W5 B (.slice A' (ds.length + 1) c') (ds ++ [d]) := CabOwn.push (w := W) (w1 := W4.alloc (.cells #[d.v] 33)) hC bA hgr hown ⟨hn, (ownG_mono (hO4.keep ((Below.refl _ _).alloc (Nat.le_refl _) _)) (by omega)), hg⟩ (fun b hb => ownG_base hO4 hb)
  refine ⟨A', c', W5, hrun, hK5.cell 0, hK5.free 0, ⟨?_, ?_⟩, ?_, ⟨_, ds ++ [d], by simpa using hK5.set 0 (.slice A' (ds.length + 1) c'), ?_, by rw [List.map_append, hM, List.map_append, List.map_cons, List.map_cons, e0], ?_, ?_, ?_, ?_⟩⟩
  · have h1 := bA.size; have h2 := hgr.size; simp; omega
  · intro k o hk ho hc
    have hkl : k < W.heap.size := (Array.getElem?_eq_some_iff.1 ho).1
    rw [Below.heap_setCell W5 _ _ k (by show k ≠ q; omega)]
    refine (hgr.block k (Nat.lt_of_lt_of_le hkl bA.size) (fun e => ?_)).trans ((bA.block k hkl).trans ho)
    obtain ⟨cur, h⟩ := ownG_obj hC.1 e.symm
    rw [ho] at h; injection h with h; subst h; cases hc
  · intro b hb hr
    rw [Below.heap_setCell W5 _ _ b (by show b ≠ q; omega)]
    refine (hgr.block b (Nat.lt_of_lt_of_le hb (Nat.le_trans hz bA.size)) (fun e => ?_)).trans (bA.block b (by omega))
    have h1 := hbg b e.symm
    have h2 := hv b e.symm
    omega
  · refine hC5.congr (fun b hb => Below.heap_setCell W5 _ _ b ?_) (fun d' hd' b hb => Below.heap_setCell W5 _ _ b ?_)
    · intro e
      obtain ⟨cur, h⟩ := ownG_obj hC5.1 hb
      have e : b = q := e
      subst e
      unfold Blk at hK5
      rw [hK5] at h; injection h with h; injection h with _ h _; exact absurd h (by decide)
    · intro e
      obtain ⟨cur, h⟩ := ownG_obj (hC5.2.1 d' hd').2.1 hb
      have e : b = q := e
      subst e
      unfold Blk at hK5
      rw [hK5] at h; injection h with h; injection h with _ h _; exact absurd h (by decide)
  · exact ((hB.trans (bA.mono hB.size)).grown hgr (by have := hB.size; have := bA.size; omega) (fun g e => Nat.le_trans hwB (hbg g e))).setCell (p := ⟨q, 0, none⟩) (by show w.heap.size ≤ q; omega) _
  · refine hk3.trans ?_
    intro b hb hr
    rw [Below.heap_setCell W5 _ _ b (by show b ≠ q; omega)]
    refine (hgr.block b (Nat.lt_of_lt_of_le hb (Nat.le_trans hz bA.size)) (fun e => ?_)).trans (bA.block b (by omega))
    have h1 := hbg b e.symm
    have h2 := hv b e.symm
    omega
  · have h1 := bA.size; have h2 := hgr.size; simp; omega
  · intro g hg
    rcases hat with h | h
    · exact hv g (h ▸ hg)
    · right
      rw [h] at hg; injection hg with hg
      have := bA.size; omega

set_option maxHeartbeats 4000000 in
theorem implCabinetPack (A : Option Addr) (n c : Nat) (ds : List Drawer) (w : World) (hsz : cabSz ds ≤ 1048576) (h : DrawersIn w w.heap.size A n c ds) :
    Calls Try.prog 8 #[.slice A n c] w fun e w' => FileAns w' w.heap.size (packO (ds.map (·.ps))) e ∧ Below w.heap.size w w' := by
  have HT := Lib.hid (treeOf A n c ds w h)
  have hD0 := h
  clear h
  cases hc : cabB (ds.map (·.ps)) with
  | false =>
    have HN := Lib.hid (packO_no hc)
    go_enter Try.func8, Try.ntmps8
    go_wp2_with fail
    refine HT.out.mono ?_
    rintro e w1 ⟨hT, b1⟩
    rcases hT with ⟨_, rfl⟩ | ⟨hy, _⟩
    rotate_left
    · rw [hc] at hy; cases hy
    clear hc
    go_wp2
    go_returns
    exact ⟨.no HN.out rfl (CabOwn.nil _ _), b1⟩
  | true =>
  have HN := Lib.hid (packO_yes hc)
  refine (callsIn_wide (n := 5)).1 ?_
  refine callsIn_of_wp_marks Try.func8 rfl trivial ?_ rfl
  simp only [Try.ntmps8, List.size_toArray, List.length_cons, List.length_nil, Nat.reduceAdd, Nat.reduceSub, Array.replicate_succ, Array.replicate_zero, List.push_toArray, List.append_toArray, List.nil_append, List.cons_append]
  gi_wp2_with fail
  refine ⟨trivial, ?_⟩
  refine (callsIn_wide.2 HT.out).mono ?_
  rintro e w1 ⟨hT, b1⟩
  rcases hT with ⟨hn, _⟩ | ⟨_, t, v, ls, rfl, hT, hM⟩
  · rw [hc] at hn; cases hn
  have hP : allPads ds = (ds.map (·.ps)).flatten := allPads_flat ds |>.symm
  have HA := Lib.hid ((leaf_all hM).trans hP); clear hM
  have hfl : (ds.map (·.ps)).flatten.length ≤ 1048576 := by rw [← hP]; exact flat_len_le hsz
  have hgood : ∀ p ∈ (ds.map (·.ps)).flatten, p.good := by rw [← hP]; exact allPads_good hD0
  clear hc HT hP hD0
  generalize (ds.map (·.ps)).flatten = ps at *
  have K0 := Blk.new (w1.alloc (.cells #[] 33)) 24 #[.slice (some ⟨w1.heap.size, 0, none⟩) 0 0]
  have hO0 : CabOwn ((w1.alloc (.cells #[] 33)).alloc (.cells #[.slice (some ⟨w1.heap.size, 0, none⟩) 0 0] 24)) w1.heap.size (.slice (some ⟨w1.heap.size, 0, none⟩) 0 0) [] := (CabOwn.made w1).keep ((Below.refl _ _).alloc (Nat.le_refl _) _)
  rw [World.size_alloc] at K0
  have bA : Below w1.heap.size w1 ((w1.alloc (.cells #[] 33)).alloc (.cells #[.slice (some ⟨w1.heap.size, 0, none⟩) 0 0] 24)) := ((Below.refl _ _).alloc (Nat.le_refl _) _).alloc (by simp) _
  have hTA := hT.below bA
  have hzA : ((w1.alloc (.cells #[] 33)).alloc (.cells #[.slice (some ⟨w1.heap.size, 0, none⟩) 0 0] 24)).heap.size = w1.heap.size + 2 := by simp
  have bA2 := below_next b1 bA
  have HT2 := Lib.hid (treePads t v ls _ _ (by rw [HA.out]; exact hfl) hTA)
  rw [HA.out] at HT2
  clear hT HA bA hTA
  gi_wp2_with fail
  refine ⟨trivial, ?_⟩
  refine (callsIn_wide.2 HT2.out).mono ?_
  rintro e w2 ⟨A2, c2, rfl, hO2, hb2⟩
  have b2 := below_next bA2 hb2
  have K2 := K0.below hb2
  have hO2c := hO0.keep hb2
  have hz2 := hb2.size
  rw [hzA] at hz2 hO2
  clear HT2 hb2 hzA
  gi_wp2_with fail
  refine ⟨trivial, ?_⟩
  refine (callsIn_wide.2 (chunkVal A2 _ c2 _)).mono ?_
  rintro e w3 ⟨rfl, rfl⟩
  have bB : Below w2.heap.size w2 ((w2.alloc (.cells #[.slice A2 ps.length c2] 33)).alloc (.cells #[.int .i64 4] 3)) := ((Below.refl _ _).alloc (Nat.le_refl _) _).alloc (by simp) _
  gi_wp2_with fail
  have hP3 : PadsIn ((w2.alloc (.cells #[.slice A2 ps.length c2] 33)).alloc (.cells #[.int .i64 4] 3)) ((w2.alloc (.cells #[.slice A2 ps.length c2] 33)).alloc (.cells #[.int .i64 4] 3)).heap.size A2 ps.length c2 ps := (PadsOwn.reads hO2 rfl hgood).keep bB
  have hA2 : ∀ a, A2 = some a → w1.heap.size + 1 < a.block := fun a ha => by
    subst ha
    have := ownG_base (k := a.block) hO2 rfl
    omega
  have hz3 : ((w2.alloc (.cells #[.slice A2 ps.length c2] 33)).alloc (.cells #[.int .i64 4] 3)).heap.size = w2.heap.size + 2 := by simp
  have q0 := newcell w2 #[.slice A2 ps.length c2] 33 0 (.slice A2 ps.length c2) rfl
  have q0' := kcell ((Below.refl _ _).alloc (Nat.le_refl _) (.cells #[.int .i64 4] 3)) q0
  have q1 := newcell (w2.alloc (.cells #[.slice A2 ps.length c2] 33)) #[.int .i64 4] 3 0 (.int .i64 4) rfl
  rw [World.size_alloc] at q1
  have b3 := below_next b2 bB
  have K3 := K2.below bB
  have hO3c := hO2c.keep bB
  clear q0 bB hO2 b2 K2 hO2c
  generalize hW3 : ((w2.alloc (.cells #[.slice A2 ps.length c2] 33)).alloc (.cells #[.int .i64 4] 3)) = w3 at *
  clear hW3
  refine wpIn_rangeFunc_ownG rfl (by omega) (gf := 34) (lb := #[.pointer (some ⟨w2.heap.size, 0, none⟩), .pointer (some ⟨w2.heap.size + 1, 0, none⟩)]) rfl trivial (enters_of Try.func34 (by kernel_rfl) rfl)
    (chunkStops 4 w2.heap.size (w2.heap.size + 1) w1.heap.size (w1.heap.size + 1) ps.length c2 w3 A2 ps hP3 hfl (by omega) (by omega) (by omega) (by omega) (by omega) hA2 q0' q1)
    (fun h1 h2 => h1.trans h2) (fun W l o o' hl _ _ _ b hb _ => ?kb) (Below.refl _ _) (fun _ => rfl)
    (fun pre W => PackInv w1.heap.size (w1.heap.size + 1) w3.heap.size w w3 (pre.map (·.1)) W)
    (fun _ _ _ => False)
    (PackInv.own (fun pre : List (Piece w3 w3.heap.size (w1.heap.size + 1)) => pre.map (·.1)) (by have := b1.size; omega))
    (fun _ _ _ _ _ hs _ _ => hs)
    ⟨_, [], K3, hO3c, rfl, b3, KeepB.refl _ _ _ _, Nat.le_refl _, fun g e => by injection e with e; left; simp at e; omega⟩
    (fun x => { tmps := #[.slice A n c, undef, .slice none 0 0, .bool false, .pointer (some ⟨t, 0, none⟩), .bool true, .pointer (some ⟨w1.heap.size + 1, 0, none⟩), x.1.v, .tuple #[.pointer (some ⟨t, 0, none⟩), .bool true], .slice A n c, .tuple #[.pointer (some ⟨t, 0, none⟩), .bool true], .pointer (some ⟨t, 0, none⟩), .bool true, .bool true, .bool false, .slice (some ⟨w1.heap.size, 0, none⟩) 0 0, .pointer (some ⟨t, 0, none⟩), .slice A2 ps.length c2, .func (.func 34) #[] #[.pointer (some ⟨w2.heap.size, 0, none⟩), .pointer (some ⟨w2.heap.size + 1, 0, none⟩)], x.1.v, undef, undef, undef, undef, undef, undef], defers := [] }) ?assign ?body ?done ?stop
  case kb =>
    show (W.putObj l o').heap[b]? = W.heap[b]?
    show (W.heap.setIfInBounds l o')[b]? = W.heap[b]?
    rw [Array.getElem?_setIfInBounds_ne (by omega)]
  case assign =>
    intro l x W K hK
    gi_wp2
    exact hK
  case body =>
    rintro l pre x W ⟨v, ds', hK, hC, hM, hB, hk3, hz, hv⟩ hlt
    have hc := hK.cell 0
    have hf := hK.free 0
    have hd : ds'.length ≤ 1048576 := by
      have := congrArg List.length hM
      rw [List.length_map, List.length_map, List.length_map] at this
      omega
    have hxn := x.2.2.2
    have hxv : x.1.v = .slice x.1.A x.1.n x.1.c := rfl
    have HC : Hid (∀ W', Below W.heap.size W W' → Calls Try.prog 22 #[.slice x.1.A x.1.n x.1.c] W' fun e w' => ∃ g c', e = .returned (.slice (some ⟨g, 0, none⟩) x.1.n c') ∧ PadsOwn w' W'.heap.size (.slice (some ⟨g, 0, none⟩) x.1.n c') x.1.ps ∧ W'.heap.size ≤ g ∧ Below W'.heap.size W' w') := Lib.hid (fun W' hW' =>
      clonePads x.1.A x.1.n x.1.c x.1.ps W' hxn.1 (by omega) (((hk3.pads x.2.1 x.2.2.1).more hz).keep hW'))
    have HApp : Hid (∀ W4 g c4, Below W.heap.size W W4 → PadsOwn W4 W.heap.size (.slice (some ⟨g, 0, none⟩) x.1.n c4) x.1.ps → ∃ A' c' W5, (appS #[24, 24] 24 #[v, .slice (some ⟨W4.heap.size, 0, none⟩) 1 1]).run Try.prog (W4.alloc (.cells #[.slice (some ⟨g, 0, none⟩) x.1.n c4] 33)) = .ok (.slice A' (ds'.length + 1) c') W5 ∧
      W5.cell? ⟨w1.heap.size + 1, 0, none⟩ = some v ∧ W5.frozen? ⟨w1.heap.size + 1, 0, none⟩ = false ∧
      Hid (KeepsFrom w3.heap.size W (W5.setCell ⟨w1.heap.size + 1, 0, none⟩ (.slice A' (ds'.length + 1) c')) ∧ KeepB w3.heap.size w1.heap.size (w1.heap.size + 1) W (W5.setCell ⟨w1.heap.size + 1, 0, none⟩ (.slice A' (ds'.length + 1) c')) ∧ PackInv w1.heap.size (w1.heap.size + 1) w3.heap.size w w3 ((pre ++ [x]).map (·.1)) (W5.setCell ⟨w1.heap.size + 1, 0, none⟩ (.slice A' (ds'.length + 1) c')))) := Lib.hid (fun W4 g c4 hb4 hO4 => by
      obtain ⟨A', c', W5, h1, h2, h3, h4⟩ := pack_step (d := ⟨some ⟨g, 0, none⟩, x.1.n, c4, x.1.ps⟩) (d0 := x.1) hK hC hM hB hk3 hz hv b1.size (by omega) (by omega) hd hb4 hO4 x.2.1.1 x.2.1.2.2.2.2 rfl
      exact ⟨A', c', W5, h1, h2, h3, Lib.hid ⟨h4.1, h4.2.1, by rw [List.map_append]; exact h4.2.2⟩⟩)
    rw [hxv]
    gi_wp2
    gi_region_with ((refine ⟨trivial, ?_⟩; gi_at_call 22; refine (CallsIn.inRound l (callsIn_wide.2 (HC.out _ (Below.refl _ _).drew))).mono ?_; rintro e W4 ⟨g, c4, rfl, hO4, hg4, hb4⟩; obtain ⟨A5, c5, W5, hrun, h5c, h5f, h5⟩ := HApp.out W4 g c4 ((Below.refl _ W).drew.trans hb4) hO4; have k4 := kcell ((Below.refl _ W).drew.trans hb4) hc; have k5 := kcell ((Below.refl W4.heap.size W4).alloc (Nat.le_refl _) (.cells #[.slice (some ⟨g, 0, none⟩) x.1.n c4] 33)) k4; clear hO4 hg4 hb4))
    all_goals (
      gi_wp2
      exact h5.out)
  case done =>
    rintro D ys W hD hS ⟨v, ds', hK, hC, hM, hB, hk3, hz, hv⟩ hKD
    have hc := hK.cell 0
    have hps : ds'.map (·.ps) = packed ps := by
      rw [hM, hS]
      exact packed_pieces A2 ps
    have hDne : ∀ {b cs t}, W.heap[b]? = some (.cells cs t (0, 0)) → some D ≠ some b := fun h e => by
      injection e with e
      subst e
      rw [hKD] at h; cases h
    have hC2 : CabOwn (W.putObj D (.deferred none)) w1.heap.size v ds' := hC.only (grownBy_putObj' W D (.deferred none))
      (fun b hb => by obtain ⟨cur, h⟩ := ownG_obj hC.1 hb; exact hDne h)
      (fun d hd b hb => by obtain ⟨cur, h⟩ := ownG_obj (hC.2.1 d hd).2.1 hb; exact hDne h)
    have hB2 : Below w.heap.size w (W.putObj D (.deferred none)) := hB.grown (grownBy_putObj' W D (.deferred none)) hB.size (fun k e => by injection e with e; have := b1.size; omega)
    have hz1 := b1.size
    have HC2 := Lib.hid (hC2.mono hz1)
    have HPs := Lib.hid hps
    clear hK hC hM hB hk3 hS hps hC2
    obtain ⟨A9, c9, rfl, _, _⟩ := CabOwn.form HC2.out
    gi_wp2
    refine ⟨by simp, .inl ⟨_, _, rfl, run_takeDeferred hKD, ?_⟩⟩
    exact ⟨_, results_tmp2 rfl _ _ _, .yes (by rw [HN.out, HPs.out]) rfl HC2.out, hB2⟩
  case stop =>
    rintro D c pre W _ _ h _
    exact h.elim
end Go.Proofs.Ytlphefpgnfogfaa
