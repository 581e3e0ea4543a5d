/-
  treeOf makes the tree of a cabinet, and says whether the list is one. Conditions: none but Go's own sizes.
-/
import Derived.Test.YtlphefpgnfogfaaDoorCabA
import Derived.Deep.RegionHeld3
import Derived.Deep.RegionLaw
namespace Go.Proofs.YtlphefpgnfogfaaDoor
open Go.ChangeShapes Go.WideShapes Go.ChangeAt Go.RowKit
set_option maxRecDepth 100000

theorem infoLeafP : ∃ i : TypeInfo, Tryd.prog.info? 51 = some i ∧ i.zero = some (.pointer none) ∧ i.size = 1 ∧ i.bytes = 8 := ⟨_, by rfl, by rfl, by rfl, by rfl⟩

theorem LastIs.isNil {w : World} {B : Nat} {v : Value} (h : LastIs w B v []) : v = .pointer none := by
  rcases h with ⟨_, h⟩ | ⟨l', p, b, o, h, _⟩
  · exact h
  · simp at h
theorem LastIs.isLast {w : World} {B : Nat} {v : Value} {l : List Pad} {q : Pad} (h : LastIs w B v l) (hq : l.getLast? = some q) :
    ∃ b o, v = .pointer (some ⟨b, o, none⟩) ∧ b < B ∧ w.cell? ⟨b, o, none⟩ = some (.int .i64 q.day) ∧ w.cell? ⟨b, o + 1, none⟩ = some (.string q.case) ∧ q.good := by
  rcases h with ⟨rfl, _⟩ | ⟨l', p, b, o, rfl, h⟩
  · cases hq
  · simp at hq; subst hq; exact ⟨b, o, h⟩
theorem take_flat {ds : List Drawer} {k : Nat} (h : k < ds.length) : allPads (ds.take (k + 1)) = allPads (ds.take k) ++ (drAt ds k).ps := allPads_step h
theorem allPads_split {ds : List Drawer} {k : Nat} : ∃ r, allPads ds = allPads (ds.take k) ++ r := ⟨allPads (ds.drop k), by
  unfold allPads
  rw [← List.flatMap_append, List.take_append_drop]⟩
theorem padsTake_snoc {ps : List Pad} {j : Nat} (h : j < ps.length) : ps.take (j + 1) = ps.take j ++ [padAt ps j] := by
  rw [List.take_add_one, padAt_some h]; rfl
theorem sorted_not {ds : List Drawer} {k j : Nat} (hk : k < ds.length) (h : ¬ sortedOK (allPads (ds.take k) ++ (drAt ds k).ps.take j)) : cabB (ds.map (·.ps)) = false := cabB_no (fun hc => h (by
  have h1 := hc.2.2
  rw [allPads_flat] at h1
  obtain ⟨r, hr⟩ := allPads_split (ds := ds) (k := k + 1)
  rw [hr, take_flat hk, List.append_assoc] at h1
  have h2 : (drAt ds k).ps = (drAt ds k).ps.take j ++ (drAt ds k).ps.drop j := (List.take_append_drop _ _).symm
  rw [h2, List.append_assoc, ← List.append_assoc] at h1
  exact sorted_left h1))

theorem keepCell {W W' : World} {row : Option Nat} {a : Addr} {u : Value} (hg : W.grownBy W' row) (hr : row ≠ Option.some a.block) (h : W.cell? a = Option.some u ∧ W.frozen? a = false) : W'.cell? a = Option.some u ∧ W'.frozen? a = false := by
  have hlt : a.block < W.heap.size := by
    rcases Nat.lt_or_ge a.block W.heap.size with hlt | hge
    · exact hlt
    · have := h.1; unfold World.cell? at this; rw [Array.getElem?_eq_none hge] at this; cases this
  have hk := hg.block a.block hlt (fun e => hr e.symm)
  exact ⟨by rw [← h.1]; exact World.cell?_of_block hk, by rw [← h.2]; unfold World.frozen?; rw [hk]⟩

theorem keepBelow {W W' : World} {a : Addr} {u : Value} (hb : Below W.heap.size W W') (h : W.cell? a = Option.some u ∧ W.frozen? a = false) : W'.cell? a = Option.some u ∧ W'.frozen? a = false := ⟨kcell hb h.1, kfree hb h.1 h.2⟩
theorem keepAlloc {W : World} {a : Addr} {u : Value} (h : W.cell? a = Option.some u ∧ W.frozen? a = false) (o : Obj) : (W.alloc o).cell? a = Option.some u ∧ (W.alloc o).frozen? a = false := keepBelow ((Below.refl _ _).alloc (Nat.le_refl _) _) h

theorem rowNew (w1 : World) (o : Obj) (u : Value) (t : TypeId) : Row ((w1.alloc o).alloc (.cells #[u] t)) (w1.heap.size + 2) (Option.some ⟨w1.heap.size + 1, 0, Option.none⟩) 1 1 [u] := by
  refine ⟨rfl, fun _ => ⟨w1.heap.size + 1, 0, rfl, by omega, fun j x hx => ?_⟩⟩
  rcases j with _ | j
  · simp at hx; subst hx
    have := newcell (w1.alloc o) #[u] t 0 u rfl
    rwa [show (w1.alloc o).heap.size = w1.heap.size + 1 by simp] at this
  · simp at hx
theorem bel2 {w w1 : World} (hb : Below w.drew.heap.size w.drew w1) (o o' : Obj) : Below w.heap.size w ((w1.alloc o).alloc o') := by
  have h1 : Below w.heap.size w w1 := Below.trans (by go_grown) hb
  exact (h1.alloc h1.size o).alloc (by simp; have := h1.size; omega) o'

/-- What treeOf answers. -/
def TreeAns (w : World) (B : Nat) (css : List (List Pad)) (e : Ending) : Prop :=
  (cabB css = false ∧ e = .returned (.tuple #[.pointer none, .bool false])) ∨
  (cabB css = true ∧ ∃ t v ls, e = .returned (.tuple #[.pointer (some ⟨t, 0, none⟩), .bool true]) ∧ TreeIn w B t v ls ∧ ls.map (·.ps) = css)
theorem TreeAns.no {w : World} {B : Nat} {css : List (List Pad)} {e : Ending} (h : cabB css = false) (he : e = .returned (.tuple #[.pointer none, .bool false])) : TreeAns w B css e := .inl ⟨h, he⟩
theorem TreeAns.yes {w : World} {B t : Nat} {v : Value} {ls : List Leaf} {css : List (List Pad)} {e : Ending} (h : cabB css = true) (he : e = .returned (.tuple #[.pointer (some ⟨t, 0, none⟩), .bool true])) (ht : TreeIn w B t v ls) (hm : ls.map (·.ps) = css) : TreeAns w B css e := .inr ⟨h, t, v, ls, he, ht, hm⟩

set_option maxHeartbeats 4000000 in
theorem treeOf (A : Option Addr) (n c : Nat) (ds : List Drawer) (w : World) (h : DrawersIn w w.heap.size A n c ds) :
    Calls Tryd.prog 17 #[.slice A n c] w fun e w' => TreeAns w' w.heap.size (ds.map (·.ps)) e ∧ Below w.heap.size w w' := by
  have hm := h.2.2.1; have hnc := h.2.1
  have HL : Hid (ds.length = n) := Lib.hid h.1
  unfold maxLen at hm
  have H := Lib.hid h; clear h
  obtain ⟨i0, hi, hz0, hz1, hz2⟩ := infoLeafP
  by_cases hn6 : n ≤ 6
  · go_enter Tryd.func17, Tryd.ntmps17
    go_wp2
    go_loopw [5, 16] (fun lv i wr => ∃ (k : Nat) (v : Value) (ls : List Leaf), k ≤ n ∧ i = .int .i64 k ∧ Hid (LastIs w w.heap.size lv (allPads (ds.take k))) ∧ Hid (sortedOK (allPads (ds.take k)) ∧ (∀ d ∈ ds.take k, lenOK d.ps)) ∧ Hid (TreeIn wr w.heap.size w.heap.size v ls) ∧ Hid (ls.map (·.ps) = (ds.take k).map (·.ps)) ∧ Below w.heap.size w wr) (fun _ i _ => n - (intOf i).toNat)
    case atStart =>
      refine ⟨0, .slice none 0 0, [], Nat.zero_le _, rfl, Lib.hid (.inl ⟨by simp [allPads], rfl⟩), Lib.hid ⟨fun i hi => by simp [allPads] at hi, by simp⟩, Lib.hid ⟨Nat.le_refl _, Blk.new _ _ _, ⟨World.ownsRow_nil _ _ _ _, by simp, by simp, by simp⟩⟩, Lib.hid (by simp), (Below.refl _ _).alloc (Nat.le_refl _) _⟩
    case round =>
      obtain ⟨k, v, ls, hk, rfl, HLa, HS, HT, HM, hb⟩ := hrel
      by_cases hlt : k < n
      · obtain ⟨b, off, eA, hbB, c0, hP⟩ := (H.out.below hb).at_ hlt
        have hkl : k < ds.length := by have := HL.out; omega
        have hs := drAt_some hkl
        subst eA
        have hdl := hP.1
        by_cases hok : 1 ≤ (drAt ds k).n ∧ (drAt ds k).n ≤ 4
        · obtain ⟨hok1, hok2⟩ := hok
          have HNo : Hid (∀ j, ¬ sortedOK (allPads (ds.take k) ++ (drAt ds k).ps.take j) → cabB (ds.map (·.ps)) = false) := Lib.hid (fun j => sorted_not hkl)
          have HNx : Hid (allPads (ds.take (k + 1)) = allPads (ds.take k) ++ (drAt ds k).ps) := Lib.hid (allPads_step hkl)
          have HLx : Hid (∀ d ∈ ds.take (k + 1), lenOK d.ps) := Lib.hid (by
            rw [take_step hs]
            intro d hd
            rcases List.mem_append.1 hd with h | h
            · exact HS.out.2 d h
            · simp at h; subst h; unfold lenOK; omega)
          have HMx : Hid ((ds.take (k + 1)).map (·.ps) = (ds.take k).map (·.ps) ++ [(drAt ds k).ps]) := Lib.hid (by rw [take_step hs]; simp)
          have HS1 := Lib.hid HS.out.1
          have HPd := Lib.hid hP
          have HDL := Lib.hid hdl
          clear hkl hP hs hdl HS
          generalize drAt ds k = d at *
          generalize allPads (ds.take k) = pk at *
          go_wp2
          go_loopw [5, 30] (fun lv i wr' => ∃ (j : Nat), j ≤ d.n ∧ i = .int .i64 j ∧ Hid (LastIs w w.heap.size lv (pk ++ d.ps.take j)) ∧ Hid (sortedOK (pk ++ d.ps.take j)) ∧ Below wr.heap.size wr wr') (fun _ i _ => d.n - (intOf i).toNat)
          case atStart => exact ⟨0, Nat.zero_le _, rfl, Lib.hid (by simpa using HLa.out), Lib.hid (by simpa using HS1.out), Below.refl _ _⟩
          case round =>
            obtain ⟨j, hj, rfl, HLb, HSb, hbq⟩ := hrel
            have b2 := hb.trans (hbq.mono hb.size)
            by_cases hlj : j < d.n
            · obtain ⟨b', off', eA, hbB', c0', c1', hg⟩ := (HPd.out.below (hbq.mono hb.size)).at_ hlj
              have hsn := padsTake_snoc (ps := d.ps) (j := j) (by have := HDL.out; omega)
              have HSn : Hid (sortedOK (pk ++ d.ps.take (j + 1)) ↔ sortedOK (pk ++ d.ps.take j) ∧ okP (padAt d.ps j) = true ∧ ∀ q, (pk ++ d.ps.take j).getLast? = some q → ordPad q (padAt d.ps j) < 0) := Lib.hid (by
                rw [hsn, ← List.append_assoc]; exact sorted_snoc)
              have c0w : w.cell? ⟨b', off' + j * 2, none⟩ = some (.int .i64 (padAt d.ps j).day) := by rw [← c0']; exact (b2.cell hbB').symm
              have c1w : w.cell? ⟨b', off' + j * 2 + 1, none⟩ = some (.string (padAt d.ps j).case) := by rw [← c1']; exact (b2.cell hbB').symm
              have HLc : Hid (LastIs w w.heap.size (.pointer (some ⟨b', off' + j * 2, none⟩)) (pk ++ d.ps.take (j + 1))) := Lib.hid (.inr ⟨pk ++ d.ps.take j, padAt d.ps j, b', off' + j * 2, by rw [hsn, List.append_assoc], rfl, hbB', c0w, c1w, hg⟩)
              clear hsn c0w c1w
              rw [eA] at HPd ⊢
              by_cases hv : okP (padAt d.ps j) = true
              · have cv : ∀ W, Calls Tryd.prog 31 #[.agg #[.int .i64 (padAt d.ps j).day, .string (padAt d.ps j).case]] W fun e w' => e = .returned (.bool true) ∧ Below W.heap.size W w' := fun W => by
                  have := implPadValid (padAt d.ps j).day (padAt d.ps j).case W hg.2
                  rwa [show padB (padAt d.ps j).day (padAt d.ps j).case.data.toList = true from hv] at this
                have CV := Lib.hid cv; clear cv
                rcases hq : (pk ++ d.ps.take j).getLast? with _ | q
                · have hnil : pk ++ d.ps.take j = [] := List.getLast?_eq_none_iff.1 hq
                  have HSx : Hid (sortedOK (pk ++ d.ps.take (j + 1))) := Lib.hid (HSn.out.2 ⟨HSb.out, hv, fun q h => by rw [hq] at h; cases h⟩)
                  rw [hnil] at HLb
                  have hlv := HLb.out.isNil
                  subst hlv
                  clear HLb HSn hnil hq hv
                  generalize padAt d.ps j = p at *
                  have r0' := qcell c0'; have r1' := qcell c1'
                  go_wp2_with fail
                  refine region_qb (by kernel_rfl) (by kernel_rfl) ?_
                  repeat (first | go_big_quiet_step (((go_at_call 31; exact quietB (CV.out _)))) | quiet_step (((go_at_call 31; exact quietB (CV.out _)))))
                  refine wpQuiet_nil ?_
                  intro w3 hb3
                  have b3 := hbq.trans (hb3.mono hbq.size)
                  clear r0' r1' c0' c1' hb3
                  go_wp2
                  go_roundw
                  case rel => exact ⟨j + 1, by omega, by go_num, HLc, HSx, b3⟩
                  case measure => simp [intOf]; omega
                · obtain ⟨bq, oq, rfl, hbq', q0, q1, hgq⟩ := HLb.out.isLast hq
                  rw [← b2.cell hbq'] at q0 q1
                  by_cases ho : ordPad q (padAt d.ps j) < 0
                  · have HSx : Hid (sortedOK (pk ++ d.ps.take (j + 1))) := Lib.hid (HSn.out.2 ⟨HSb.out, hv, fun q' h => by rw [hq] at h; injection h with h; subst h; exact ho⟩)
                    have co : ∀ W, Calls Tryd.prog 32 #[.agg #[.int .i64 q.day, .string q.case], .agg #[.int .i64 (padAt d.ps j).day, .string (padAt d.ps j).case]] W fun e w' => e = .returned (.int .i64 (ordPad q (padAt d.ps j))) ∧ Below W.heap.size W w' := fun W => comparePads _ _ _ _ W
                    have CO := Lib.hid co; clear co hv hq HSn HLb
                    generalize ordPad q (padAt d.ps j) = o at *
                    generalize padAt d.ps j = p at *
                    have r0' := qcell c0'; have r1' := qcell c1'; have r0 := qcell q0; have r1 := qcell q1
                    go_wp2_with fail
                    refine region_qb (by kernel_rfl) (by kernel_rfl) ?_
                    repeat (first | go_big_quiet_step ((first | (go_at_call 31; exact quietB (CV.out _)) | (go_at_call 32; exact quietB (CO.out _)))) | quiet_step ((first | (go_at_call 31; exact quietB (CV.out _)) | (go_at_call 32; exact quietB (CO.out _)))))
                    refine wpQuiet_nil ?_
                    intro w3 hb3
                    have b3 := hbq.trans (hb3.mono hbq.size)
                    clear r0' r1' c0' c1' r0 r1 q0 q1 hb3
                    go_wp2
                    go_roundw
                    case rel => exact ⟨j + 1, by omega, by go_num, HLc, HSx, b3⟩
                    case measure => simp [intOf]; omega
                  · have HNo1 := Lib.hid (HNo.out (j + 1) (fun h => ho ((HSn.out.1 h).2.2 q hq)))
                    have ho' : 0 ≤ ordPad q (padAt d.ps j) := by omega
                    have co : ∀ W, Calls Tryd.prog 32 #[.agg #[.int .i64 q.day, .string q.case], .agg #[.int .i64 (padAt d.ps j).day, .string (padAt d.ps j).case]] W fun e w' => e = .returned (.int .i64 (ordPad q (padAt d.ps j))) ∧ Below W.heap.size W w' := fun W => comparePads _ _ _ _ W
                    have CO := Lib.hid co; clear co hv hq HSn HLb ho
                    generalize ordPad q (padAt d.ps j) = o at *
                    generalize padAt d.ps j = p at *
                    have r0' := qcell c0'; have r1' := qcell c1'; have r0 := qcell q0; have r1 := qcell q1
                    go_wp2_with fail
                    refine region_qb (by kernel_rfl) (by kernel_rfl) ?_
                    repeat (first | go_big_quiet_step ((first | (go_at_call 31; exact quietB (CV.out _)) | (go_at_call 32; exact quietB (CO.out _)))) | quiet_step ((first | (go_at_call 31; exact quietB (CV.out _)) | (go_at_call 32; exact quietB (CO.out _)))))
                    refine wpQuiet_nil ?_
                    intro w3 hb3
                    have b3 := b2.trans (hb3.mono b2.size)
                    clear r0' r1' c0' c1' r0 r1 q0 q1 hb3
                    go_wp2
                    go_returns
                    exact ⟨.no HNo1.out rfl, b3⟩
              · have HNo1 := Lib.hid (HNo.out (j + 1) (fun h => hv (HSn.out.1 h).2.1))
                have cv : ∀ W, Calls Tryd.prog 31 #[.agg #[.int .i64 (padAt d.ps j).day, .string (padAt d.ps j).case]] W fun e w' => e = .returned (.bool false) ∧ Below W.heap.size W w' := fun W => by
                  have := implPadValid (padAt d.ps j).day (padAt d.ps j).case W hg.2
                  rwa [show padB (padAt d.ps j).day (padAt d.ps j).case.data.toList = false by simpa [okP] using hv] at this
                have CV := Lib.hid cv; clear cv hv HSn
                generalize padAt d.ps j = p at *
                have r0' := qcell c0'; have r1' := qcell c1'
                go_wp2_with fail
                refine region_qb (by kernel_rfl) (by kernel_rfl) ?_
                repeat (first | go_big_quiet_step (((go_at_call 31; exact quietB (CV.out _)))) | quiet_step (((go_at_call 31; exact quietB (CV.out _)))))
                refine wpQuiet_nil ?_
                intro w3 hb3
                have b3 := b2.trans (hb3.mono b2.size)
                clear r0' r1' c0' c1' hb3
                go_wp2
                go_returns
                exact ⟨.no HNo1.out rfl, b3⟩
            · have hjn : d.ps.take j = d.ps := List.take_of_length_le (by have := HDL.out; omega)
              rw [hjn] at HLb HSb
              rw [← HNx.out] at HLb HSb
              clear hjn
              have hT := HT.out.below hbq
              obtain ⟨htB, hblk, hlv⟩ := hT
              have hc := hblk.cell 0; have hf := hblk.free 0
              have HLV := Lib.hid hlv
              have HQ : Hid (TreeIn wr w.heap.size w.heap.size v ls) := Lib.hid ⟨htB, hblk, hlv⟩
              clear hlv HT
              have hPd := HPd.out.below (hbq.mono hb.size)
              have HC : Hid (∀ W, Below wr.heap.size wr W → Calls Tryd.prog 33 #[.slice d.A d.n d.c] W fun e w' => ∃ g c', e = .returned (.slice (some ⟨g, 0, none⟩) d.n c') ∧ PadsOwn w' W.heap.size (.slice (some ⟨g, 0, none⟩) d.n c') d.ps ∧ W.heap.size ≤ g ∧ Below W.heap.size W w') := Lib.hid (fun W hW =>
                clonePads d.A d.n d.c d.ps W hok1 (by omega) ((hPd.below (hW.mono b2.size)).more (Nat.le_trans b2.size hW.size)))
              have HO : Hid (∀ W, Below wr.heap.size wr W → W.ownsRow w.heap.size 51 1 v ls.length (ls.map Leaf.ptr)) := Lib.hid (fun W hW => own_congr HLV.out.1 (fun _ hv => hW.block _ (own_lt HLV.out.1 hv)))
              have HNe : Hid (v.ownBlock ≠ some w.heap.size) := Lib.hid (fun hv => by
                obtain ⟨cur, h1⟩ := own_obj HLV.out.1 hv
                unfold Blk at hblk; rw [h1] at hblk; injection hblk with hblk; injection hblk with _ h2; exact absurd h2 (by decide))
              have hll : ls.length ≤ 6 := by
                have := congrArg List.length HM.out
                simp at this; omega
              have HGo := Lib.hid hPd.2.2.2.2
              clear hPd hblk
              have hcf : wr.drew.cell? ⟨w.heap.size, 0, none⟩ = some v ∧ wr.drew.frozen? ⟨w.heap.size, 0, none⟩ = false := ⟨hc, hf⟩
              go_wp2_with fail
              go_region_law (first | (go_simp; go_at_call 33; refine (HC.out _ (by go_grown)).mono ?_; rintro e w1 ⟨g1, c1, rfl, hO1, hg1, hb1⟩; have hcf1 := keepBelow hb1 hcf; have hcf2 := keepAlloc hcf1 (.cells #[.slice (some ⟨g1, 0, none⟩) d.n c1] 72); have hcf3 := keepAlloc hcf2 (.cells #[.pointer (some ⟨w1.heap.size, 0, none⟩)] 51); have n1 := hcf1.1; have n2 := hcf2.1; have n3 := hcf3.1; have f3 := hcf3.2; dsimp only) | ((refine step_append_any _ rfl (.tmp 62) (.tmp 67) _ rfl w.heap.size 51 i0 _ 1 8 Tryd.underlying48 hi hz0 hz1 hz2 rfl (by omega) v ls.length (ls.map Leaf.ptr) rfl (HO.out _ (bel2 hb1 _ _)) (w1.heap.size + 2) (some ⟨w1.heap.size + 1, 0, none⟩) 1 1 [.pointer (some ⟨w1.heap.size, 0, none⟩)] rfl (rowNew _ _ _ _) (by simp [Value.oneCell']) (by unfold maxLen; omega) (by omega) (Nat.le_trans b2.size (bel2 hb1 _ _).size) ?_; intro v2 w2 hown2 hg2 hat2; obtain ⟨A2, cc2, rfl, hcc2, hcm2⟩ := own_form hown2; have hcf4 := keepCell hg2 HNe.out (keepAlloc hcf2 _); have n4 := hcf4.1; have f4 := hcf4.2)))
              all_goals (
                have hpush := TreeIn.push (v' := .slice A2 (ls.length + 1) cc2) HQ.out b2.size (Below.trans (by go_grown) hb1) hO1 HGo.out hg2 hown2
                have HT2 := Lib.hid hpush.1
                have b4 := b2.trans hpush.2
                have HM2 : Hid ((ls ++ [(⟨w1.heap.size, .slice (some ⟨g1, 0, none⟩) d.n c1, d.ps⟩ : Leaf)]).map (·.ps) = (ds.take (k + 1)).map (·.ps)) := Lib.hid (by rw [HMx.out, ← HM.out]; simp)
                clear hpush hown2 hg2 hat2 hO1 hg1 hb1
                go_wp2
                go_roundw
                case rel => exact ⟨k + 1, _, _, by omega, by go_num, HLb, Lib.hid ⟨HSb.out, HLx.out⟩, HT2, HM2, b4⟩
                case measure => simp [intOf]; omega)
        · have HNo : Hid (cabB (ds.map (·.ps)) = false) := Lib.hid (cabB_no (fun h => by
            have := h.2.1 (drAt ds k).ps (List.mem_map_of_mem (drAt_mem hkl))
            unfold lenOK at this; omega))
          clear hkl hP hs HS
          generalize drAt ds k = d at *
          by_cases h1 : d.n < 1
          · have hd0 : d.n = 0 := by omega
            go_wp2
            go_returns
            exact ⟨.no HNo.out rfl, hb⟩
          · have hd5 : 4 < d.n := by omega
            clear hok
            go_wp2
            go_returns
            exact ⟨.no HNo.out rfl, hb⟩
      · have hkn : ds.take k = ds := List.take_of_length_le (by have := HL.out; omega)
        rw [hkn] at HS HM
        have HY : Hid (cabB (ds.map (·.ps)) = true) := Lib.hid (cabB_yes ⟨by rw [List.length_map, HL.out]; exact hn6, fun x hx => by
          obtain ⟨d, hd, rfl⟩ := List.mem_map.1 hx
          exact HS.out.2 d hd, by rw [allPads_flat]; exact HS.out.1⟩)
        clear hkn
        go_wp2
        go_returns
        exact ⟨.yes HY.out rfl HT.out HM.out, hb⟩
  · have HNo : Hid (cabB (ds.map (·.ps)) = false) := Lib.hid (cabB_no (fun h => by
      have := h.1; rw [List.length_map, HL.out] at this; omega))
    go_enter Tryd.func17, Tryd.ntmps17
    go_wp2
    go_returns
    exact ⟨.no HNo.out rfl, Below.refl _ _⟩
end Go.Proofs.YtlphefpgnfogfaaDoor
