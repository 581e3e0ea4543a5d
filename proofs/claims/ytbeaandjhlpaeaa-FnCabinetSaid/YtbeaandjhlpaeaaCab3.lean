/-
  Lists of pads and of drawers copied into new memory: toPadS, toPadSS; drawers compared: eqPadSS. Conditions: none but those of Go's own sizes.
-/
import Derived.Test.YtbeaandjhlpaeaaCab2
import Derived.Test.YtbeaandjhlpaeaaBlk
import Derived.Laws.MakeOwn
namespace Go.Proofs.Ytbeaandjhlpaeaa
open Go.ChangeShapes Go.WideShapes Go.ChangeAt Go.RowKit
set_option maxRecDepth 100000

theorem cabSz_len : ∀ ds : List Drawer, ds.length ≤ cabSz ds
  | [] => by simp [cabSz]
  | p :: r => by have := cabSz_len r; simp only [cabSz, List.length_cons]; omega
theorem cabSz_mem {d : Drawer} : ∀ {ds : List Drawer}, d ∈ ds → padsSz d.ps + 1 ≤ cabSz ds
  | [], h => by cases h
  | q :: r, h => by
    simp only [cabSz]
    rcases List.mem_cons.1 h with rfl | h
    · omega
    · have := cabSz_mem h; omega

/-- The first m cells of an array are those of a list as long. -/
def Filled (arr : Array Value) (xs : List Value) (m : Nat) : Prop := arr.size = xs.length ∧ ∀ j, j < m → arr[j]? = xs[j]?
theorem Filled.zero {arr : Array Value} {xs : List Value} (h : arr.size = xs.length) : Filled arr xs 0 := ⟨h, fun j hj => absurd hj (by omega)⟩
theorem Filled.step {arr : Array Value} {xs : List Value} {m : Nat} {u : Value} (h : Filled arr xs m) (hu : xs[m]? = some u) : Filled (arr.setIfInBounds m u) xs (m + 1) := by
  have hm : m < arr.size := by rw [h.1]; exact (List.getElem?_eq_some_iff.1 hu).1
  refine ⟨by simp [h.1], fun j hj => ?_⟩
  by_cases e : j = m
  · subst e; rw [hu]; simp [hm]
  · rw [Array.getElem?_setIfInBounds, if_neg (by omega)]
    exact h.2 j (by omega)
theorem Filled.done {arr : Array Value} {xs : List Value} (h : Filled arr xs xs.length) : arr = xs.toArray := by
  apply Array.ext_getElem?
  intro j
  by_cases hj : j < xs.length
  · rw [h.2 j hj]; simp
  · rw [Array.getElem?_eq_none (by have := h.1; omega)]; simp; omega
theorem Filled.there {arr : Array Value} {xs : List Value} {m : Nat} (h : Filled arr xs m) {j : Nat} (hj : j < xs.length) : ∃ x, arr[j]? = some x := by
  have : j < arr.size := by rw [h.1]; exact hj
  exact ⟨_, Array.getElem?_eq_getElem this⟩

theorem run_make_rowN {P : Program} (t e : TypeId) (i : TypeInfo) (z : Value) (ht : P.underlying t = some (.slice e)) (hi : P.info? e = some i) (hz : i.zero = some z)
    (kl kc : IntKind) (n c : Nat) (hnc : n ≤ c) (hbytes : i.bytes * c ≤ 281474976710656) (h63 : c ≤ 9223372036854775807) (w : World) :
    (Instr.makeSlice t (.int kl (n : Int)) (.int kc (c : Int))).run P w = .ok (.slice (some ⟨w.heap.size, 0, none⟩) n c) (w.alloc (.cells (madeCells z.cells (c * i.size)) e)) := by
  have hb : (i.bytes : Int) * (c : Int) ≤ 281474976710656 := by
    have h : ((i.bytes * c : Nat) : Int) ≤ 281474976710656 := by omega
    rwa [Int.natCast_mul] at h
  have hr := run_make (P := P) w t e i z ht hi hz kl kc n c (by omega) (by omega) hb (by omega)
  simp only [Int.toNat_natCast] at hr
  exact hr

theorem madeCells_size (z : Array Value) (n : Nat) : (madeCells z n).size = n := by simp [madeCells]

theorem infoPad : (Try.prog.info? 26).map (fun i => (i.zero, i.size, i.bytes)) = some (some (.agg #[.int .i64 0, .string ByteArray.empty]), 2, 24) := by kernel_rfl

/-- A block whose cells are the pads of a list, as a slice's own row. -/
theorem toPadS (A : Option Addr) (n c : Nat) (ps : List Pad) (w : World) (hn : n ≤ 1048576) (h : PadsIn w w.heap.size A n c ps) :
    Calls Try.prog 59 #[.slice A n c] w fun e w' => e = .returned (.slice (some ⟨w.heap.size, 0, none⟩) n n) ∧ Blk w' w.heap.size 26 (ps.flatMap padC).toArray ∧ Below w.heap.size w w' := by
  have HL : Hid (ps.length = n) := Lib.hid h.1
  have HX : Hid ((ps.flatMap padC).length = n * 2) := Lib.hid h.2.2.2.1.1
  have H := Lib.hid h; clear h
  obtain ⟨i0, hi, hz0, hz1, hz2⟩ := info_parts infoPad
  have hmk := fun W => run_make_rowN (P := Try.prog) 49 26 i0 _ Try.underlying49 hi hz0 .i64 .i64 n n (Nat.le_refl _) (by rw [hz2]; omega) (by omega) W
  rw [hz1] at hmk
  go_enter Try.func59, Try.ntmps59
  go_wp2
  go_loopw [4] (fun i wr => ∃ (k : Nat) (arr : Array Value), k ≤ n ∧ i = .int .i64 k ∧ Blk wr w.heap.size 26 arr ∧ Hid (Filled arr (ps.flatMap padC) (k * 2)) ∧ Below w.heap.size w wr) (fun i _ => n - (intOf i).toNat)
  case atStart => exact ⟨0, _, Nat.zero_le _, rfl, Blk.new _ _ _, Lib.hid (Filled.zero (by rw [madeCells_size, HX.out])), (Below.refl _ _).alloc (Nat.le_refl _) _⟩
  case round =>
    obtain ⟨k, arr, hk, rfl, hB, hF, hb⟩ := hrel
    by_cases hlt : k < n
    · obtain ⟨b, off, eA, hbB, c0, c1, hg⟩ := (H.out.below hb).at_ hlt
      subst eA
      have hx0 := flat_at padC_len ps k _ 0 (.int .i64 (padAt ps k).day) (padAt_some (by have := HL.out; omega)) rfl
      have hx1 := flat_at padC_len ps k _ 1 (.string (padAt ps k).case) (padAt_some (by have := HL.out; omega)) rfl
      have HF2 : Hid (Filled ((arr.setIfInBounds (k * 2) (.int .i64 (padAt ps k).day)).setIfInBounds (k * 2 + 1) (.string (padAt ps k).case)) (ps.flatMap padC) ((k + 1) * 2)) := Lib.hid (by
        rw [show (k + 1) * 2 = k * 2 + 1 + 1 by omega]
        exact (hF.out.step (by simpa using hx0)).step hx1)
      obtain ⟨x0, hy0⟩ := hF.out.there (j := k * 2) (by rw [HX.out]; omega)
      obtain ⟨x1, hy1⟩ := hF.out.there (j := k * 2 + 1) (by rw [HX.out]; omega)
      generalize padAt ps k = p at *
      go_wp2_with fail
      refine (toPad _ _ _).mono ?_; rintro e w1 ⟨rfl, hb1⟩
      have b1 := hb.trans (hb1.mono hb.size)
      have B1 := hB.below hb1
      have d0 : w1.cell? ⟨w.heap.size, k * 2, none⟩ = some x0 := (B1.cell _).trans hy0
      have d1 : w1.cell? ⟨w.heap.size, k * 2 + 1, none⟩ = some x1 := (B1.cell _).trans hy1
      have f0 := B1.free (k * 2)
      have f1 := B1.free (k * 2 + 1)
      have B2 := Lib.hid ((B1.set (k * 2) (.int .i64 p.day)).set (k * 2 + 1) (.string p.case))
      have b2 := Lib.hid ((b1.setCell (p := ⟨w.heap.size, k * 2, none⟩) (Nat.le_refl _) (.int .i64 p.day)).setCell (p := ⟨w.heap.size, k * 2 + 1, none⟩) (Nat.le_refl _) (.string p.case))
      clear hb1 c0 c1 hx0 hx1 hy0 hy1 B1 b1 hF hB hb
      go_wp2
      go_roundw
      case rel => exact ⟨k + 1, _, by omega, by go_num, B2.out, HF2, b2.out⟩
      case measure => simp [intOf]; omega
    · obtain rfl : k = n := by omega
      have e : arr = (ps.flatMap padC).toArray := Filled.done (by rw [HX.out]; exact hF.out)
      subst e
      go_wp2
      go_ret
      exact ⟨rfl, hB, hb⟩

/-- A drawer whose slice is just a block of its own, from block B on. -/
def DrOwn (w : World) (B : Nat) (d : Drawer) : Prop := ∃ g, B ≤ g ∧ d.A = some ⟨g, 0, none⟩ ∧ d.c = d.n ∧ d.ps.length = d.n ∧ Blk w g 26 (d.ps.flatMap padC).toArray ∧ ∀ p ∈ d.ps, p.good
def drBlock (d : Drawer) : Nat := match d.A with | some a => a.block | none => 0
theorem DrOwn.below {w w' : World} {B : Nat} {d : Drawer} (h : DrOwn w B d) (hb : Below w.heap.size w w') : DrOwn w' B d := by
  obtain ⟨g, h1, h2, h3, h4, h5, h6⟩ := h
  exact ⟨g, h1, h2, h3, h4, h5.below hb, h6⟩
theorem DrOwn.more {w : World} {B B' : Nat} {d : Drawer} (h : DrOwn w B d) (hB : B' ≤ B) : DrOwn w B' d := by
  obtain ⟨g, h1, h2⟩ := h
  exact ⟨g, by omega, h2⟩

theorem infoSl : (Try.prog.info? 49).map (fun i => (i.zero, i.size, i.bytes)) = some (some (.slice none 0 0), 1, 24) := by kernel_rfl

/-- The drawers of toPadSS: each in a block of its own, all above the outer row. -/
def CopiedTo (w' : World) (g : Nat) (ds ds' : List Drawer) : Prop :=
  Blk w' g 49 (ds'.flatMap drawerC).toArray ∧ ds'.map (·.ps) = ds.map (·.ps) ∧ (∀ d ∈ ds', DrOwn w' (g + 1) d) ∧ (ds'.map drBlock).Nodup

def CopyTo (wr : World) (base n k : Nat) (arr : Array Value) (ds' : List Drawer) (pss : List (List Pad)) : Prop :=
  arr.size = n ∧ ds'.length = k ∧ (∀ (j : Nat) (d : Drawer), ds'[j]? = some d → arr[j]? = some (Value.slice d.A d.n d.c)) ∧ ds'.map (·.ps) = pss ∧ (∀ d ∈ ds', DrOwn wr base d) ∧ (ds'.map drBlock).Nodup
theorem drBlock_of {w : World} {B : Nat} {d : Drawer} (h : DrOwn w B d) : B ≤ drBlock d ∧ drBlock d < w.heap.size ∧ d.A = some ⟨drBlock d, 0, none⟩ ∧ Blk w (drBlock d) 26 (d.ps.flatMap padC).toArray := by
  obtain ⟨g, h1, h2, h3, h4, h5, h6⟩ := h
  have e : drBlock d = g := by unfold drBlock; rw [h2]
  rw [e]; exact ⟨h1, h5.lt, h2, h5⟩
theorem DrOwn.far {w : World} {B : Nat} {d : Drawer} (h : DrOwn w B d) {p : Addr} (hp : p.block < B) (u : Value) : DrOwn (w.setCell p u) B d := by
  obtain ⟨g, h1, h2, h3, h4, h5, h6⟩ := h
  exact ⟨g, h1, h2, h3, h4, h5.far (by omega) u, h6⟩
theorem CopyTo.step {wr w1 : World} {base n k o : Nat} {arr : Array Value} {ds' : List Drawer} {pss : List (List Pad)} {nd : Drawer} (h : CopyTo wr base n k arr ds' pss) (hk : k < n) (hb : Below wr.heap.size wr w1) (hg : drBlock nd = wr.heap.size)
    (hd : DrOwn w1 base nd) (ho : o < base) : CopyTo (w1.setCell ⟨o, k, none⟩ (.slice nd.A nd.n nd.c)) base n (k + 1) (arr.setIfInBounds k (.slice nd.A nd.n nd.c)) (ds' ++ [nd]) (pss ++ [nd.ps]) := by
  obtain ⟨f1, f2, f3, f4, f5, f6⟩ := h
  refine ⟨by simp [f1], by simp [f2], fun j d hj => ?_, by simp [f4], fun d hd' => ?_, ?_⟩
  · by_cases hjk : j = k
    · subst hjk
      rw [List.getElem?_append_right (by omega)] at hj
      simp [f2] at hj; subst hj
      simp [f1, hk]
    · have hjl : j < ds'.length := by
        have := (List.getElem?_eq_some_iff.1 hj).1
        simp at this; omega
      rw [List.getElem?_append_left hjl] at hj
      rw [Array.getElem?_setIfInBounds, if_neg (by omega)]
      exact f3 j d hj
  · rcases List.mem_append.1 hd' with h | h
    · exact ((f5 d h).below hb).far ho _
    · simp at h; subst h; exact hd.far ho _
  · rw [List.map_append, List.nodup_append]
    refine ⟨f6, by simp, fun a ha b hb' => ?_⟩
    simp at hb'; subst hb'
    obtain ⟨d, hd1, rfl⟩ := List.mem_map.1 ha
    have := (drBlock_of (f5 d hd1)).2.1
    omega
theorem CopyTo.done {wr : World} {o n : Nat} {arr : Array Value} {ds ds' : List Drawer} (h : CopyTo wr (o + 1) n n arr ds' (ds.map (·.ps))) (hB : Blk wr o 49 arr) : CopiedTo wr o ds ds' := by
  obtain ⟨f1, f2, f3, f4, f5, f6⟩ := h
  have e : arr = (ds'.flatMap drawerC).toArray := by
    apply Array.ext_getElem?
    intro j
    by_cases hj : j < ds'.length
    · have h1 := List.getElem?_eq_getElem hj
      rw [f3 j _ h1]
      have h2 := flat_at drawerC_len ds' j _ 0 _ h1 rfl
      simpa using h2.symm
    · have hfl := flat_len drawerC_len ds'
      rw [Array.getElem?_eq_none (by omega), Array.getElem?_eq_none (by simp at hfl ⊢; omega)]
  exact ⟨by rw [← e]; exact hB, f4, f5, f6⟩

theorem toPadSS (A : Option Addr) (n c : Nat) (ds : List Drawer) (w : World) (hn : cabSz ds ≤ 1048576) (h : DrawersIn w w.heap.size A n c ds) :
    Calls Try.prog 24 #[.slice A n c] w fun e w' => ∃ ds', e = .returned (.slice (some ⟨w.heap.size, 0, none⟩) n n) ∧ CopiedTo w' w.heap.size ds ds' ∧ Below w.heap.size w w' := by
  have HL : Hid (ds.length = n) := Lib.hid h.1
  have hn' : n ≤ 1048576 := by have := cabSz_len ds; have := HL.out; omega
  have H := Lib.hid h; clear h
  obtain ⟨i0, hi, hz0, hz1, hz2⟩ := info_parts infoSl
  have hmk := fun W => run_make_rowN (P := Try.prog) 39 49 i0 _ Try.underlying39 hi hz0 .i64 .i64 n n (Nat.le_refl _) (by rw [hz2]; omega) (by omega) W
  rw [hz1] at hmk
  go_enter Try.func24, Try.ntmps24
  go_wp2
  go_loopw [4] (fun i wr => ∃ (k : Nat) (arr : Array Value) (ds' : List Drawer), k ≤ n ∧ i = .int .i64 k ∧ Blk wr w.heap.size 49 arr ∧ Hid (CopyTo wr (w.heap.size + 1) n k arr ds' ((ds.take k).map (·.ps))) ∧ Below w.heap.size w wr) (fun i _ => n - (intOf i).toNat)
  case atStart => exact ⟨0, _, [], Nat.zero_le _, rfl, Blk.new _ _ _, Lib.hid ⟨by rw [madeCells_size], rfl, by simp, rfl, by simp, by simp⟩, (Below.refl _ _).alloc (Nat.le_refl _) _⟩
  case round =>
    obtain ⟨k, arr, ds', hk, rfl, hB, hF, hb⟩ := hrel
    by_cases hlt : k < n
    · obtain ⟨b, off, eA, hbB, c0, hP⟩ := (H.out.below hb).at_ hlt
      subst eA
      have hds := drAt_some (ds := ds) (k := k) (by have := HL.out; omega)
      have hpz : (drAt ds k).n ≤ 1048576 := by
        have h1 := padsSz_len (drAt ds k).ps
        have h2 := cabSz_mem (List.mem_of_getElem? hds)
        have h3 := hP.1
        omega
      have HTK : Hid ((ds.take (k + 1)).map (·.ps) = (ds.take k).map (·.ps) ++ [(drAt ds k).ps]) := Lib.hid (by rw [take_step hds]; simp)
      clear hds
      generalize drAt ds k = d at *
      have HP := Lib.hid (hP.more hb.size); clear hP
      have hwlt := hB.lt
      go_wp2_with fail
      refine (toPadS _ _ _ _ _ hpz HP.out).mono ?_; rintro e w1 ⟨rfl, hrow, hb1⟩
      have b1 := hb.trans (hb1.mono hb.size)
      have B1 := hB.below hb1
      obtain ⟨x0, hy0⟩ : ∃ x, arr[k]? = some x := ⟨_, Array.getElem?_eq_getElem (by have := hF.out.1; omega)⟩
      have d0 : w1.cell? ⟨w.heap.size, k, none⟩ = some x0 := (B1.cell _).trans hy0
      have f0 := B1.free k
      have HB2 := Lib.hid (B1.set k (.slice (some ⟨wr.heap.size, 0, none⟩) d.n d.n))
      have b2 := Lib.hid (b1.setCell (p := ⟨w.heap.size, k, none⟩) (Nat.le_refl _) (.slice (some ⟨wr.heap.size, 0, none⟩) d.n d.n))
      have HN := Lib.hid (hF.out.step (nd := ⟨some ⟨wr.heap.size, 0, none⟩, d.n, d.n, d.ps⟩) hlt hb1 rfl ⟨wr.heap.size, by omega, rfl, rfl, HP.out.1, hrow, HP.out.2.2.2.2⟩ (o := w.heap.size) (by omega))
      rw [← HTK.out] at HN
      clear hb1 c0 hy0 B1 b1 hF hB hb hrow
      go_wp2
      go_roundw
      case rel => exact ⟨k + 1, _, _, by omega, by go_num, HB2.out, HN, b2.out⟩
      case measure => simp [intOf]; omega
    · obtain rfl : k = n := by omega
      have e2 : ds.take k = ds := List.take_of_length_le (by have := HL.out; omega)
      rw [e2] at hF
      have hC : Hid (CopiedTo wr w.heap.size ds ds') := Lib.hid (hF.out.done hB)
      clear e2 hF
      go_wp2
      go_ret
      exact ⟨ds', rfl, hC.out, hb⟩

theorem DrOwn.pads {w : World} {B : Nat} {d : Drawer} (h : DrOwn w B d) (hn : d.n ≤ maxLen) : PadsIn w w.heap.size d.A d.n d.c d.ps := by
  obtain ⟨g, h1, h2, h3, h4, h5, h6⟩ := h
  refine ⟨h4, by omega, by omega, ⟨by rw [flat_len padC_len, h4], fun _ => ⟨g, 0, h2, h5.lt, fun j u hu => ?_⟩⟩, h6⟩
  rw [Nat.zero_add, h5.cell]; simpa using hu
theorem CopiedTo.drawers {w : World} {g : Nat} {ds ds' : List Drawer} (h : CopiedTo w g ds ds') (hsz : cabSz ds ≤ 1048576) : DrawersIn w w.heap.size (some ⟨g, 0, none⟩) ds.length ds.length ds' := by
  obtain ⟨h1, h2, h3, h4⟩ := h
  have hl : ds'.length = ds.length := by have := congrArg List.length h2; simpa using this
  have hd := cabSz_len ds
  refine ⟨hl, Nat.le_refl _, by unfold maxLen; omega, ⟨by rw [flat_len drawerC_len, hl], fun _ => ⟨g, 0, rfl, h1.lt, fun j u hu => ?_⟩⟩, fun d hd' => (h3 d hd').pads ?_⟩
  · rw [Nat.zero_add, h1.cell]; simpa using hu
  · have hm : d.ps ∈ ds.map (·.ps) := by rw [← h2]; exact List.mem_map_of_mem hd'
    obtain ⟨d0, hd0, e⟩ := List.mem_map.1 hm
    have h5 := cabSz_mem hd0
    have h6 := padsSz_len d0.ps
    obtain ⟨_, _, _, _, h7, _⟩ := h3 d hd'
    have e' : d0.ps.length = d.ps.length := by rw [show d0.ps = d.ps from e]
    unfold maxLen; omega

theorem eqPadSS (A A' : Option Addr) (n c c' : Nat) (ds ds' : List Drawer) (w : World) (hps : ds.map (·.ps) = ds'.map (·.ps)) (h : DrawersIn w w.heap.size A n c ds) (h' : DrawersIn w w.heap.size A' n c' ds') :
    Calls Try.prog 26 #[.slice A n c, .slice A' n c'] w fun e w' => e = .returned (.bool true) ∧ Below w.heap.size w w' := by
  have hm := h.2.2.1; have hnc := h.2.1
  have HL : Hid (ds.length = n) := Lib.hid h.1
  unfold maxLen at hm
  have H := Lib.hid h; have H' := Lib.hid h'; have HP := Lib.hid hps; clear h h' hps
  go_enter Try.func26, Try.ntmps26
  go_wp2
  go_loopw [5] (fun i wr => ∃ k : Nat, k ≤ n ∧ i = .int .i64 k ∧ Below w.heap.size w wr) (fun i _ => n - (intOf i).toNat)
  case atStart => exact ⟨0, Nat.zero_le _, rfl, Below.refl _ _⟩
  case round =>
    obtain ⟨k, hk, rfl, hb⟩ := hrel
    by_cases hlt : k < n
    · obtain ⟨b, off, eA, hbB, c0, hp⟩ := (H.out.below hb).at_ hlt
      obtain ⟨b', off', eA', hbB', c0', hp'⟩ := (H'.out.below hb).at_ hlt
      have e : (drAt ds k).ps = (drAt ds' k).ps := by
        have h1 := drAt_some (ds := ds) (k := k) (by have := HL.out; omega)
        have h2 := drAt_some (ds := ds') (k := k) (by have := H'.out.1; omega)
        have h3 : (ds.map (·.ps))[k]? = (ds'.map (·.ps))[k]? := by rw [HP.out]
        rw [List.getElem?_map, List.getElem?_map, h1, h2] at h3
        simpa using h3
      have en : (drAt ds k).n = (drAt ds' k).n := by rw [← hp.1, ← hp'.1, e]
      subst eA eA'
      generalize drAt ds k = d at *
      generalize drAt ds' k = d' at *
      obtain ⟨dA, dn, dc, dps⟩ := d
      obtain ⟨dA', dn', dc', dps'⟩ := d'
      simp only at e en hp hp' c0 c0'
      subst e en
      have r0 := qcell c0; have r0' := qcell c0'
      have HQ := Lib.hid hp; have HQ' := Lib.hid hp'; clear hp hp'
      have call : ∀ (q : Nat) (os : Array Obj), Calls Try.prog 34 #[.slice dA dn dc, .slice dA' dn dc'] (Go.Sort.grow (redrawn wr q) os) fun e w'' => e = .returned (.bool true) ∧ ∃ p : Regrown, w'' = Go.Sort.grow (redrawn wr p.d) p.os := fun q os => by
        have hbb := below_regrown wr q os
        exact quietB (eqPadS _ _ _ _ _ _ _ ((HQ.out.below (hbb.mono hb.size)).more (Nat.le_trans hb.size hbb.size)) ((HQ'.out.below (hbb.mono hb.size)).more (Nat.le_trans hb.size hbb.size)))
      have HC := Lib.hid call; clear call
      go_wp2_with fail
      refine region_qb (by kernel_rfl) (by kernel_rfl) ?_
      repeat (quiet_step ((go_at_call 34; exact HC.out _ _)))
      refine wpQuiet_nil ?_
      intro w1 hb1; have b1 := hb.trans (hb1.mono hb.size)
      clear r0 r0' c0 c0' hb1
      go_wp2
      go_roundw
      case rel => exact ⟨k + 1, by omega, by go_num, b1⟩
      case measure => simp [intOf]; omega
    · go_wp2
      go_ret
      exact ⟨rfl, hb⟩
end Go.Proofs.Ytbeaandjhlpaeaa
