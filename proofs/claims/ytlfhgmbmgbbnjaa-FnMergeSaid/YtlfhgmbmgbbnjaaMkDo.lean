/-
  The words behind marks: MarksDo of the program, l7Do of the reference. Conditions: the marks are valid; the lists lie in memory.
-/
import Derived.Test.YtlfhgmbmgbbnjaaMkI
import Derived.Test.YtlfhgmbmgbbnjaaMkValI
namespace Go.Proofs.Ytlfhgmbmgbbnjaa
open Go.ChangeShapes Go.WideShapes Go.ChangeAt Go.RowKit
set_option maxRecDepth 100000
set_option linter.unusedSimpArgs false
set_option linter.unusedVariables false

theorem doK_at {ws : List Wd} {ms : List Mk} {k fr : Nat} (hk : k < ms.length) : doK ws (ms.drop k) fr = (ws.drop fr).take ((mkAt ms k).at_ - fr) ++ ((mkAt ms k).put ++ doK ws (ms.drop (k + 1)) ((mkAt ms k).at_ + (mkAt ms k).cut)) := by
  rw [List.drop_eq_getElem_cons hk, mkAt_get hk, doK]
theorem doK_end {ws : List Wd} {ms : List Mk} {k fr : Nat} (hk : ms.length ≤ k) : doK ws (ms.drop k) fr = ws.drop fr := by
  rw [List.drop_of_length_le hk, doK]
/-- What valid marks give. -/
def GapsI (n : Nat) (xs : List Mr) : Prop := ∀ k, k < xs.length → (mrAt xs k).at_ ≤ n ∧ (mrAt xs k).at_ + (mrAt xs k).cut ≤ n ∧ (k + 1 < xs.length → (mrAt xs k).at_ + (mrAt xs k).cut ≤ (mrAt xs (k + 1)).at_)
theorem gapsI {ws : List Wd} {xs : List Mr} (h : marksB ws (xs.map Mr.dat) = true) : GapsI ws.length xs := by
  intro k hk
  have h1 := gapB_iff.1 (marksB_iff.1 h).2.2.1
  have e1 := h1 k (by rw [List.length_map]; exact hk)
  have m1 := (mkB_iff.1 e1.1).1
  rw [mrAt_dat hk] at m1
  simp only [Mr.dat] at m1
  refine ⟨by omega, m1, fun hk2 => ?_⟩
  have e2 := (h1 (k + 1) (by rw [List.length_map]; exact hk2)).2 (by omega)
  rw [Nat.add_sub_cancel, mrAt_dat hk, mrAt_dat hk2] at e2
  simp only [Mr.dat] at e2
  omega
theorem WdOwn.keep {w w' : World} {B : Nat} {v : Value} {ws : List Wd} (h : WdOwn w B v ws) (hb : Below w.heap.size w w') : WdOwn w' B v ws := ownG_keep h hb
theorem WdOwn.made (w : World) : WdOwn (w.alloc (.cells #[] 9)) w.heap.size (.slice (some ⟨w.heap.size, 0, none⟩) 0 0) [] := World.ownsRow_made w #[] 0 (Nat.le_refl _) (by simp) (by simp)
/-- The answer: these words. -/
def WdsAns (w' : World) (B : Nat) (ws : List Wd) (e : Ending) : Prop := ∃ A c, e = .returned (.slice A ws.length c) ∧ WdOwn w' B (.slice A ws.length c) ws
def WdsAnsT (w' : World) (B : Nat) (ws : List Wd) (e : Ending) : Prop := ∃ A c, e = .returned (.tuple #[.slice A ws.length c, .bool true]) ∧ WdOwn w' B (.slice A ws.length c) ws
set_option maxHeartbeats 3200000 in
theorem implMarksDo (A : Option Addr) (n c : Nat) (ws : List Wd) (A' : Option Addr) (n' c' : Nat) (xs : List Mr) (w : World) (hW : ∀ l ∈ ws, l.length ≤ maxLen) (hX : OkMs xs) (hv : marksB ws (xs.map Mr.dat) = true) (h : WdsIn w w.heap.size A n c ws) (h' : MrsIn w w.heap.size A' n' c' xs) :
    Calls Try.prog 20 #[.slice A n c, .slice A' n' c'] w fun e w' => WdsAnsT w' w.heap.size (doK ws (xs.map Mr.dat) 0) e ∧ Below w.heap.size w w' := by
  have HL := Lib.hid h.1; have HL' := Lib.hid h'.1
  have H := Lib.hid h; have H' := Lib.hid h'
  have HX := Lib.hid hX
  have hnc := h.2.1
  have h20 : n ≤ 20 := by have := (spB_iff.1 (marksB_iff.1 hv).1).2; rw [HL.out] at this; exact this
  have hm : n' ≤ 20 := by have := (marksB_iff.1 hv).2.1; rw [List.length_map, HL'.out] at this; exact this
  have HGp : Hid (∀ k, k < n' → (mrAt xs k).at_ ≤ n ∧ (mrAt xs k).at_ + (mrAt xs k).cut ≤ n ∧ (k + 1 < n' → (mrAt xs k).at_ + (mrAt xs k).cut ≤ (mrAt xs (k + 1)).at_)) := Lib.hid (by have := gapsI hv; rw [HL.out] at this; unfold GapsI at this; rw [HL'.out] at this; exact this)
  have HV := Lib.hid (implMarksValid A n c ws A' n' c' xs w hW hX h h')
  rw [hv] at HV
  have HKn : Hid (∀ k fr, k < n' → doK ws ((xs.map Mr.dat).drop k) fr = (ws.drop fr).take ((mrAt xs k).at_ - fr) ++ ((mrAt xs k).put ++ doK ws ((xs.map Mr.dat).drop (k + 1)) ((mrAt xs k).at_ + (mrAt xs k).cut))) := Lib.hid (fun k fr hk => by
    rw [doK_at (by rw [List.length_map, HL'.out]; exact hk), mrAt_dat (by rw [HL'.out]; exact hk)]; rfl)
  have HKe : Hid (∀ fr, doK ws ((xs.map Mr.dat).drop n') fr = ws.drop fr) := Lib.hid (fun fr => doK_end (by rw [List.length_map, HL'.out]; exact Nat.le_refl _))
  have HSz : Hid (∀ k, k < n' → SmM (mrAt xs k)) := Lib.hid (fun k hk => (HX.out _ (mrAt_mem (by rw [HL'.out]; exact hk))).1)
  clear h h' hW hX hv
  obtain ⟨j0, hj, hy0, hy1, hy2⟩ := info_parts infoWd
  have hlh := fun (a b : Nat) (hab : a ≤ b) (hb : b ≤ c) W => run_lhS (P := Try.prog) elemW sizeW A n c a b hab hb W
  have hfr := fun (a : Nat) (ha : a ≤ n) W => run_fromS (P := Try.prog) elemW sizeW A n c a ha W
  have Hlh := Lib.hid hlh; have Hfr := Lib.hid hfr
  clear hlh hfr
  go_enter Try.func20, Try.ntmps20
  go_wp2_with fail
  refine HV.out.mono ?_
  rintro e w0 ⟨rfl, hb0⟩
  have HO0 : Hid (WdOwn (w0.alloc (.cells #[] 9)) w.heap.size (.slice (some ⟨w0.heap.size, 0, none⟩) 0 0) []) := Lib.hid (ownG_mono (WdOwn.made w0) hb0.size)
  have HB0 : Hid (Below w.heap.size w (w0.alloc (.cells #[] 9))) := Lib.hid (hb0.alloc hb0.size _)
  clear hb0 HV
  go_wp2
  go_loopw [6, 7, 17] (fun sD sF sK wr => ∃ (k fr : Nat) (acc : List Wd) (v : Value), k ≤ n' ∧ sD = v ∧ sF = .int .i64 fr ∧ sK = .int .i64 k ∧ fr ≤ n ∧ Hid (k < n' → fr ≤ (mrAt xs k).at_) ∧ Hid (acc.length ≤ 2000 * k) ∧ Hid (doK ws (xs.map Mr.dat) 0 = acc ++ doK ws ((xs.map Mr.dat).drop k) fr) ∧ Hid (WdOwn wr w.heap.size v acc) ∧ Hid (Below w.heap.size w wr)) (fun _ _ i _ => n' - (intOf i).toNat)
  case atStart => exact ⟨0, 0, [], _, Nat.zero_le _, rfl, rfl, rfl, Nat.zero_le _, Lib.hid (fun _ => Nat.zero_le _), Lib.hid (by simp), Lib.hid rfl, HO0, HB0⟩
  case round =>
    obtain ⟨k, fr, acc, v, hk, rfl, rfl, rfl, hfn, HF, HA, HE, HO, HB⟩ := hrel
    have i1 : (0 : Int) ≤ (k : Int) := by omega
    have f1 : (0 : Int) ≤ (fr : Int) := by omega
    have hsz := HB.out.size
    by_cases hlt : k < n'
    · have i2 : (k : Int) < (n' : Int) := by omega
      have hx := (H'.out.keep HB.out).at_ hlt
      obtain ⟨b, off, rfl, hbB, c0, c1, c2, hxI⟩ := hx
      have hs := HSz.out k hlt
      have sx1 := hs.1; have sx2 := hs.2.1; have sx3 := hs.2.2
      obtain ⟨g1, g2, g3⟩ := HGp.out k hlt
      have hfa := HF.out hlt
      have HE2 := Lib.hid (HE.out.trans (by rw [HKn.out k fr hlt]))
      have HG3 := Lib.hid g3
      have hk1 := Hlh.out fr (mrAt xs k).at_ hfa (by omega)
      have ff : (fr : Int) ≤ ((mrAt xs k).at_ : Int) := by omega
      have fc : ((mrAt xs k).at_ : Int) ≤ (c : Int) := by omega
      have HWs : Hid (∀ W, Below w.heap.size w W → WdsIn W W.heap.size (fromB A fr c 1) ((mrAt xs k).at_ - fr) (c - fr) ((ws.drop fr).take ((mrAt xs k).at_ - fr))) := Lib.hid (fun W hW => (H.out.keep hW).sub hfa (by omega))
      have HXs : Hid (∀ W, Below w.heap.size w W → MrIn W W.heap.size (mrAt xs k)) := Lib.hid (fun W hW => by
        obtain ⟨_, _, _, _, _, _, _, hh⟩ := (H'.out.keep hW).at_ hlt
        exact hh)
      have HSm := Lib.hid hs
      clear hxI hs g3 HE HF
      have hba := boxM (mrAt xs k) wr
      have HBx := Lib.hid (below_next HB.out hba)
      have HOx := Lib.hid (WdOwn.keep HO.out hba)
      have HW1 := Lib.hid (HWs.out _ HBx.out)
      have hl1 := HW1.out.1
      have al := HA.out
      have hneq : u6.ownBlock ≠ some wr.heap.size := fun e => by have := ownG_lt HO.out e; omega
      have hbase : w.heap.size ≤ (wr.alloc (.cells #[.int .i64 ((mrAt xs k).at_ : Int), .int .i64 ((mrAt xs k).cut : Int), .slice (mrAt xs k).A (mrAt xs k).n (mrAt xs k).c] 37)).heap.size := by simp; omega
      have HEn := Lib.hid (fun W => markEnd (mrAt xs k) W HSm.out)
      have x0 : (wr.alloc (.cells #[.int .i64 ((mrAt xs k).at_ : Int), .int .i64 ((mrAt xs k).cut : Int), .slice (mrAt xs k).A (mrAt xs k).n (mrAt xs k).c] 37)).cell? ⟨wr.heap.size, 0, none⟩ = some (.int .i64 ((mrAt xs k).at_ : Int)) := newcell wr _ _ 0 _ rfl
      have x1 : (wr.alloc (.cells #[.int .i64 ((mrAt xs k).at_ : Int), .int .i64 ((mrAt xs k).cut : Int), .slice (mrAt xs k).A (mrAt xs k).n (mrAt xs k).c] 37)).cell? ⟨wr.heap.size, 1, none⟩ = some (.int .i64 ((mrAt xs k).cut : Int)) := newcell wr _ _ 1 _ rfl
      have x2 : (wr.alloc (.cells #[.int .i64 ((mrAt xs k).at_ : Int), .int .i64 ((mrAt xs k).cut : Int), .slice (mrAt xs k).A (mrAt xs k).n (mrAt xs k).c] 37)).cell? ⟨wr.heap.size, 2, none⟩ = some (.slice (mrAt xs k).A (mrAt xs k).n (mrAt xs k).c) := newcell wr _ _ 2 _ rfl
      have HX0 := Lib.hid (And.intro x0 (And.intro x1 x2))
      have HO1f : Hid (∀ v1 w1, w1.ownsRow w.heap.size 9 1 v1 (acc.length + ((mrAt xs k).at_ - fr)) (acc.map strP ++ ((ws.drop fr).take ((mrAt xs k).at_ - fr)).map strP) → WdOwn w1 w.heap.size v1 (acc ++ (ws.drop fr).take ((mrAt xs k).at_ - fr))) := Lib.hid (fun v1 w1 hh => by
        unfold WdOwn
        rw [List.map_append, List.length_append, hl1]; exact hh)
      have HBf : Hid (∀ w1, (wr.alloc (.cells #[.int .i64 ((mrAt xs k).at_ : Int), .int .i64 ((mrAt xs k).cut : Int), .slice (mrAt xs k).A (mrAt xs k).n (mrAt xs k).c] 37)).grownBy w1 u6.ownBlock → Below w.heap.size w w1) := Lib.hid (fun w1 hg => HBx.out.grown hg HBx.out.size (fun q hq => ownG_base HO.out hq))
      have hal1 : (acc ++ (ws.drop fr).take ((mrAt xs k).at_ - fr)).length ≤ 2000 * k + 20 := by rw [List.length_append, hl1]; omega
      have HBg : Hid (∀ v1 w1 w2, Below w.heap.size w w1 → WdOwn w1 w.heap.size v1 (acc ++ (ws.drop fr).take ((mrAt xs k).at_ - fr)) → w1.grownBy w2 v1.ownBlock → Below w.heap.size w w2) := Lib.hid (fun v1 w1 w2 hb ho hg => hb.grown hg hb.size (fun q hq => ownG_base ho hq))
      have HNe : Hid (∀ v1 : Value, (v1.ownBlock = u6.ownBlock ∨ v1.ownBlock = some (wr.alloc (.cells #[.int .i64 ((mrAt xs k).at_ : Int), .int .i64 ((mrAt xs k).cut : Int), .slice (mrAt xs k).A (mrAt xs k).n (mrAt xs k).c] 37)).heap.size) → v1.ownBlock ≠ some wr.heap.size) := Lib.hid (fun v1 h e => by
        rcases h with h | h
        · exact hneq (h.symm.trans e)
        · rw [h] at e; injection e with e; simp at e)
      have HO2f : Hid (∀ v1 w1, w1.ownsRow w.heap.size 9 1 v1 ((acc ++ (ws.drop fr).take ((mrAt xs k).at_ - fr)).length + (mrAt xs k).n) ((acc ++ (ws.drop fr).take ((mrAt xs k).at_ - fr)).map strP ++ (mrAt xs k).put.map strP) → WdOwn w1 w.heap.size v1 ((acc ++ (ws.drop fr).take ((mrAt xs k).at_ - fr)) ++ (mrAt xs k).put)) := Lib.hid (fun v1 w1 hh => by
        unfold WdOwn
        rw [List.map_append, show ((acc ++ (ws.drop fr).take ((mrAt xs k).at_ - fr)) ++ (mrAt xs k).put).length = (acc ++ (ws.drop fr).take ((mrAt xs k).at_ - fr)).length + (mrAt xs k).n from by rw [List.length_append, (HXs.out _ HB.out).1]]; exact hh)
      clear hba HWs HA HO x0 x1 x2
      obtain ⟨T1, hT1⟩ : ∃ T1, T1 = (ws.drop fr).take ((mrAt xs k).at_ - fr) := ⟨_, rfl⟩
      rw [← hT1] at HE2 HW1 hl1 hal1 HO1f HBg HO2f
      clear hT1
      obtain ⟨N1, hN1⟩ : ∃ N1, N1 = (acc ++ T1).length := ⟨_, rfl⟩
      rw [← hN1] at hal1 HO2f
      have HN1 := Lib.hid hN1
      have hN1b : N1 ≤ 2000 * k + 20 := hal1
      obtain ⟨y0, y1, y2⟩ := HX0.out
      clear hN1 hal1 hl1
      go_wp2_with (first
        | (at_builtin; refine wpList_append_any _ rfl (.tmp 21) (.tmp 26) _ rfl w.heap.size 9 j0 _ 1 16 Try.underlying22 hj hy0 hy1 hy2 rfl (by omega) _ acc.length (acc.map strP) rfl HOx.out _ (fromB A fr c 1) ((mrAt xs k).at_ - fr) (c - fr) (T1.map strP) rfl HW1.out.2.2.2 (strP_one _) (by unfold maxLen; omega) (by omega) hbase ?_; intro v1 w1 hown1 hg1 hat1; have B1 := HBf.out w1 hg1; have O1 := HO1f.out v1 w1 hown1; have ne1 := HNe.out v1 hat1; have z0 := gcell hg1 HX0.out.1 hneq; have z1 := gcell hg1 HX0.out.2.1 hneq; have z2 := gcell hg1 HX0.out.2.2 hneq; have HXw := Lib.hid (HXs.out w1 B1); have hb1s := B1.size; clear hown1 hat1)
        | (at_builtin; refine wpList_append_any _ rfl (.tmp 28) (.tmp 30) _ rfl w.heap.size 9 j0 _ 1 16 Try.underlying22 hj hy0 hy1 hy2 rfl (by omega) _ N1 ((acc ++ T1).map strP) rfl (by rw [HN1.out]; exact O1) _ (mrAt xs k).A (mrAt xs k).n (mrAt xs k).c ((mrAt xs k).put.map strP) rfl HXw.out.2.2.2 (strP_one _) (by unfold maxLen; omega) (by omega) hb1s ?_; intro v2 w2 hown2 hg2 hat2; have B2 := HBg.out v1 w1 w2 B1 O1 hg2; have O2 := HO2f.out v2 w2 hown2; have t0 := gcell hg2 z0 ne1; have t1 := gcell hg2 z1 ne1; have t2 := gcell hg2 z2 ne1; clear hown2 hat2)
        | (go_at_call 44; refine (HEn.out _).mono ?_; rintro e w3 ⟨rfl, hb3⟩))
      have HO3 : Hid (WdOwn w3 w.heap.size v2 ((acc ++ T1) ++ (mrAt xs k).put)) := Lib.hid (O2.keep hb3)
      have HB3 := Lib.hid (below_next B2 hb3)
      have HE3 : Hid (doK ws (xs.map Mr.dat) 0 = ((acc ++ T1) ++ (mrAt xs k).put) ++ doK ws ((xs.map Mr.dat).drop (k + 1)) ((mrAt xs k).at_ + (mrAt xs k).cut)) := Lib.hid (by rw [HE2.out]; simp only [List.append_assoc])
      have HA3 : Hid (((acc ++ T1) ++ (mrAt xs k).put).length ≤ 2000 * (k + 1)) := Lib.hid (by rw [List.length_append, ← HN1.out, (HXs.out _ HB.out).1]; omega)
      clear O2 O1 B1 B2 hb3 HX0 HBf HBg HO1f HO2f HOx HW1 HXw HN1 HE2 t0 t1 t2 z0 z1 z2 y0 y1 y2
      go_wp2
      go_roundw
      case rel => exact ⟨k + 1, (mrAt xs k).at_ + (mrAt xs k).cut, _, _, by omega, rfl, by go_num, by go_num, g2, HG3, HA3, HE3, HO3, HB3⟩
      case measure => simp [intOf] <;> omega
    · obtain rfl : k = n' := by omega
      have HE2 := Lib.hid (HE.out.trans (by rw [HKe.out fr]))
      have hk1 := Hfr.out fr hfn
      have HWs := Lib.hid ((H.out.keep HB.out).fromS hfn)
      have hw1 := HWs.out.1
      have al := HA.out
      clear HE HF HA
      go_wp2_with (at_builtin; refine wpList_append_any _ rfl (.tmp 35) (.tmp 38) _ rfl w.heap.size 9 j0 _ 1 16 Try.underlying22 hj hy0 hy1 hy2 rfl (by omega) _ acc.length (acc.map strP) rfl HO.out wr.heap.size (fromB A fr c 1) (n - fr) (c - fr) ((ws.drop fr).map strP) rfl HWs.out.2.2.2 (strP_one _) (by unfold maxLen; omega) (by omega) (by omega) ?_; intro v1 w1 hown1 hg1 hat1)
      have b1 := Lib.hid (HB.out.grown hg1 HB.out.size (fun q hq => by have := ownG_base HO.out hq; omega))
      have HO1 : Hid (WdOwn w1 w.heap.size v1 (acc ++ ws.drop fr)) := Lib.hid (by
        unfold WdOwn
        rw [List.map_append, List.length_append, hw1]; exact hown1)
      clear hown1 hg1 hat1 HO HB
      obtain ⟨A1, cc1, rfl, _, _⟩ := ownG_form HO1.out
      have HAns : Hid (WdsAnsT w1 w.heap.size (doK ws (xs.map Mr.dat) 0) (.returned (.tuple #[.slice A1 (acc ++ ws.drop fr).length cc1, .bool true]))) := Lib.hid ⟨A1, cc1, by rw [HE2.out], by rw [HE2.out]; exact HO1.out⟩
      generalize (acc ++ ws.drop fr).length = N at *
      go_wp2
      go_ret2
      exact ⟨HAns.out, b1.out⟩
set_option maxHeartbeats 3200000 in
theorem specL7Do (A : Option Addr) (n c : Nat) (ws : List Wd) (A' : Option Addr) (n' c' : Nat) (xs : List Mr) (w : World) (hW : ∀ l ∈ ws, l.length ≤ maxLen) (hX : OkMs xs) (hv : marksB ws (xs.map Mr.dat) = true) (h : WdsIn w w.heap.size A n c ws) (h' : MrsIn w w.heap.size A' n' c' xs) :
    Calls Try.prog 18 #[.slice A n c, .slice A' n' c'] w fun e w' => WdsAns w' w.heap.size (doK ws (xs.map Mr.dat) 0) e ∧ Below w.heap.size w w' := by
  have HL := Lib.hid h.1; have HL' := Lib.hid h'.1
  have H := Lib.hid h; have H' := Lib.hid h'
  have HX := Lib.hid hX
  have hnc := h.2.1
  have h20 : n ≤ 20 := by have := (spB_iff.1 (marksB_iff.1 hv).1).2; rw [HL.out] at this; exact this
  have hm : n' ≤ 20 := by have := (marksB_iff.1 hv).2.1; rw [List.length_map, HL'.out] at this; exact this
  have HGp : Hid (∀ k, k < n' → (mrAt xs k).at_ ≤ n ∧ (mrAt xs k).at_ + (mrAt xs k).cut ≤ n ∧ (k + 1 < n' → (mrAt xs k).at_ + (mrAt xs k).cut ≤ (mrAt xs (k + 1)).at_)) := Lib.hid (by have := gapsI hv; rw [HL.out] at this; unfold GapsI at this; rw [HL'.out] at this; exact this)
  have HKn : Hid (∀ k fr, k < n' → doK ws ((xs.map Mr.dat).drop k) fr = (ws.drop fr).take ((mrAt xs k).at_ - fr) ++ ((mrAt xs k).put ++ doK ws ((xs.map Mr.dat).drop (k + 1)) ((mrAt xs k).at_ + (mrAt xs k).cut))) := Lib.hid (fun k fr hk => by
    rw [doK_at (by rw [List.length_map, HL'.out]; exact hk), mrAt_dat (by rw [HL'.out]; exact hk)]; rfl)
  have HKe : Hid (∀ fr, doK ws ((xs.map Mr.dat).drop n') fr = ws.drop fr) := Lib.hid (fun fr => doK_end (by rw [List.length_map, HL'.out]; exact Nat.le_refl _))
  have HSz : Hid (∀ k, k < n' → SmM (mrAt xs k)) := Lib.hid (fun k hk => (HX.out _ (mrAt_mem (by rw [HL'.out]; exact hk))).1)
  clear h h' hW hX hv
  obtain ⟨j0, hj, hy0, hy1, hy2⟩ := info_parts infoWd
  have hlh := fun (a b : Nat) (hab : a ≤ b) (hb : b ≤ c) W => run_lhS (P := Try.prog) elemW sizeW A n c a b hab hb W
  have hfr := fun (a : Nat) (ha : a ≤ n) W => run_fromS (P := Try.prog) elemW sizeW A n c a ha W
  have Hlh := Lib.hid hlh; have Hfr := Lib.hid hfr
  clear hlh hfr
  go_enter Try.func18, Try.ntmps18
  have HO0 := Lib.hid (WdOwn.made w)
  have HB0 : Hid (Below w.heap.size w (w.alloc (.cells #[] 9))) := Lib.hid ((Below.refl _ _).alloc (Nat.le_refl _) _)
  go_wp2
  go_loopw [5, 6, 7] (fun sD sF sK wr => ∃ (k fr : Nat) (acc : List Wd) (v : Value), k ≤ n' ∧ sD = v ∧ sF = .int .i64 fr ∧ sK = .int .i64 k ∧ fr ≤ n ∧ Hid (k < n' → fr ≤ (mrAt xs k).at_) ∧ Hid (acc.length ≤ 2000 * k) ∧ Hid (doK ws (xs.map Mr.dat) 0 = acc ++ doK ws ((xs.map Mr.dat).drop k) fr) ∧ Hid (WdOwn wr w.heap.size v acc) ∧ Hid (Below w.heap.size w wr)) (fun _ _ i _ => n' - (intOf i).toNat)
  case atStart => exact ⟨0, 0, [], _, Nat.zero_le _, rfl, rfl, rfl, Nat.zero_le _, Lib.hid (fun _ => Nat.zero_le _), Lib.hid (by simp), Lib.hid rfl, HO0, HB0⟩
  case round =>
    obtain ⟨k, fr, acc, v, hk, rfl, rfl, rfl, hfn, HF, HA, HE, HO, HB⟩ := hrel
    have i1 : (0 : Int) ≤ (k : Int) := by omega
    have f1 : (0 : Int) ≤ (fr : Int) := by omega
    have hsz := HB.out.size
    by_cases hlt : k < n'
    · have i2 : (k : Int) < (n' : Int) := by omega
      have hx := (H'.out.keep HB.out).at_ hlt
      obtain ⟨b, off, rfl, hbB, c0, c1, c2, hxI⟩ := hx
      have hs := HSz.out k hlt
      have sx1 := hs.1; have sx2 := hs.2.1; have sx3 := hs.2.2
      obtain ⟨g1, g2, g3⟩ := HGp.out k hlt
      have hfa := HF.out hlt
      have HE2 := Lib.hid (HE.out.trans (by rw [HKn.out k fr hlt]))
      have HG3 := Lib.hid g3
      have hk1 := Hlh.out fr (mrAt xs k).at_ hfa (by omega)
      have ff : (fr : Int) ≤ ((mrAt xs k).at_ : Int) := by omega
      have fc : ((mrAt xs k).at_ : Int) ≤ (c : Int) := by omega
      have HWs : Hid (∀ W, Below w.heap.size w W → WdsIn W W.heap.size (fromB A fr c 1) ((mrAt xs k).at_ - fr) (c - fr) ((ws.drop fr).take ((mrAt xs k).at_ - fr))) := Lib.hid (fun W hW => (H.out.keep hW).sub hfa (by omega))
      have HXs : Hid (∀ W, Below w.heap.size w W → MrIn W W.heap.size (mrAt xs k)) := Lib.hid (fun W hW => by
        obtain ⟨_, _, _, _, _, _, _, hh⟩ := (H'.out.keep hW).at_ hlt
        exact hh)
      have HSm := Lib.hid hs
      clear hxI hs g3 HE HF
      have HBx := Lib.hid HB.out
      have HOx := Lib.hid HO.out
      have HW1 := Lib.hid (HWs.out _ HBx.out)
      have hl1 := HW1.out.1
      have al := HA.out
      have hbase := HB.out.size
      have HXc : Hid (∀ W, Below w.heap.size w W → W.cell? ⟨b, off + k * 3, none⟩ = some (.int .i64 ((mrAt xs k).at_ : Int)) ∧ W.cell? ⟨b, off + k * 3 + 1, none⟩ = some (.int .i64 ((mrAt xs k).cut : Int)) ∧ W.cell? ⟨b, off + k * 3 + 2, none⟩ = some (.slice (mrAt xs k).A (mrAt xs k).n (mrAt xs k).c)) := Lib.hid (fun W hW => by
        obtain ⟨b', off', e', _, p0, p1, p2, _⟩ := (H'.out.keep hW).at_ hlt
        obtain ⟨rfl, rfl⟩ : b' = b ∧ off' = off := by injection e' with e'; injection e' with e1 e2; exact ⟨e1.symm, e2.symm⟩
        exact ⟨p0, p1, p2⟩)
      have HO1f : Hid (∀ v1 w1, w1.ownsRow w.heap.size 9 1 v1 (acc.length + ((mrAt xs k).at_ - fr)) (acc.map strP ++ ((ws.drop fr).take ((mrAt xs k).at_ - fr)).map strP) → WdOwn w1 w.heap.size v1 (acc ++ (ws.drop fr).take ((mrAt xs k).at_ - fr))) := Lib.hid (fun v1 w1 hh => by
        unfold WdOwn
        rw [List.map_append, List.length_append, hl1]; exact hh)
      have HBf : Hid (∀ w1, wr.grownBy w1 u5.ownBlock → Below w.heap.size w w1) := Lib.hid (fun w1 hg => HBx.out.grown hg HBx.out.size (fun q hq => ownG_base HO.out hq))
      have hal1 : (acc ++ (ws.drop fr).take ((mrAt xs k).at_ - fr)).length ≤ 2000 * k + 20 := by rw [List.length_append, hl1]; omega
      have HBg : Hid (∀ v1 w1 w2, Below w.heap.size w w1 → WdOwn w1 w.heap.size v1 (acc ++ (ws.drop fr).take ((mrAt xs k).at_ - fr)) → w1.grownBy w2 v1.ownBlock → Below w.heap.size w w2) := Lib.hid (fun v1 w1 w2 hb ho hg => hb.grown hg hb.size (fun q hq => ownG_base ho hq))
      have HO2f : Hid (∀ v1 w1, w1.ownsRow w.heap.size 9 1 v1 ((acc ++ (ws.drop fr).take ((mrAt xs k).at_ - fr)).length + (mrAt xs k).n) ((acc ++ (ws.drop fr).take ((mrAt xs k).at_ - fr)).map strP ++ (mrAt xs k).put.map strP) → WdOwn w1 w.heap.size v1 ((acc ++ (ws.drop fr).take ((mrAt xs k).at_ - fr)) ++ (mrAt xs k).put)) := Lib.hid (fun v1 w1 hh => by
        unfold WdOwn
        rw [List.map_append, show ((acc ++ (ws.drop fr).take ((mrAt xs k).at_ - fr)) ++ (mrAt xs k).put).length = (acc ++ (ws.drop fr).take ((mrAt xs k).at_ - fr)).length + (mrAt xs k).n from by rw [List.length_append, (HXs.out _ HB.out).1]]; exact hh)
      clear HWs HA HO
      obtain ⟨T1, hT1⟩ : ∃ T1, T1 = (ws.drop fr).take ((mrAt xs k).at_ - fr) := ⟨_, rfl⟩
      rw [← hT1] at HE2 HW1 hl1 hal1 HO1f HBg HO2f
      clear hT1
      obtain ⟨N1, hN1⟩ : ∃ N1, N1 = (acc ++ T1).length := ⟨_, rfl⟩
      rw [← hN1] at hal1 HO2f
      have HN1 := Lib.hid hN1
      have hN1b : N1 ≤ 2000 * k + 20 := hal1
      clear hN1 hal1 hl1
      go_wp2_with (first
        | (at_builtin; refine wpList_append_any _ rfl (.tmp 15) (.tmp 23) _ rfl w.heap.size 9 j0 _ 1 16 Try.underlying22 hj hy0 hy1 hy2 rfl (by omega) _ acc.length (acc.map strP) rfl HOx.out _ (fromB A fr c 1) ((mrAt xs k).at_ - fr) (c - fr) (T1.map strP) rfl HW1.out.2.2.2 (strP_one _) (by unfold maxLen; omega) (by omega) hbase ?_; intro v1 w1 hown1 hg1 hat1; have B1 := HBf.out w1 hg1; have O1 := HO1f.out v1 w1 hown1; have z0 := (HXc.out w1 B1).1; have z1 := (HXc.out w1 B1).2.1; have z2 := (HXc.out w1 B1).2.2; have HXw := Lib.hid (HXs.out w1 B1); have hb1s := B1.size; clear hown1 hat1)
        | (at_builtin; refine wpList_append_any _ rfl (.tmp 25) (.tmp 30) _ rfl w.heap.size 9 j0 _ 1 16 Try.underlying22 hj hy0 hy1 hy2 rfl (by omega) _ N1 ((acc ++ T1).map strP) rfl (by rw [HN1.out]; exact O1) _ (mrAt xs k).A (mrAt xs k).n (mrAt xs k).c ((mrAt xs k).put.map strP) rfl HXw.out.2.2.2 (strP_one _) (by unfold maxLen; omega) (by omega) hb1s ?_; intro v2 w2 hown2 hg2 hat2; have B2 := HBg.out v1 w1 w2 B1 O1 hg2; have O2 := HO2f.out v2 w2 hown2; have t0 := (HXc.out w2 B2).1; have t1 := (HXc.out w2 B2).2.1; have t2 := (HXc.out w2 B2).2.2; clear hown2 hat2))
      have q0 := qcell t0; have q1 := qcell t1
      have i3 : (k : Int) ≤ 20 := by omega
      refine region_qb (by kernel_rfl) (by kernel_rfl) ?_
      repeat (first | go_big_quiet_step (fail) | quiet_step (fail))
      refine wpQuiet_nil ?_
      intro w3 hb3
      have HO3 : Hid (WdOwn w3 w.heap.size v2 ((acc ++ T1) ++ (mrAt xs k).put)) := Lib.hid (O2.keep hb3)
      have HB3 := Lib.hid (below_next B2 hb3)
      have HE3 : Hid (doK ws (xs.map Mr.dat) 0 = ((acc ++ T1) ++ (mrAt xs k).put) ++ doK ws ((xs.map Mr.dat).drop (k + 1)) ((mrAt xs k).at_ + (mrAt xs k).cut)) := Lib.hid (by rw [HE2.out]; simp only [List.append_assoc])
      have HA3 : Hid (((acc ++ T1) ++ (mrAt xs k).put).length ≤ 2000 * (k + 1)) := Lib.hid (by rw [List.length_append, ← HN1.out, (HXs.out _ HB.out).1]; omega)
      clear O2 O1 B1 B2 hb3 HBf HBg HO1f HO2f HOx HW1 HXw HN1 HE2 t0 t1 t2 z0 z1 z2 HXc
      go_wp2
      go_roundw
      case rel => exact ⟨k + 1, (mrAt xs k).at_ + (mrAt xs k).cut, _, _, by omega, rfl, by go_num, by go_num, g2, HG3, HA3, HE3, HO3, HB3⟩
      case measure => simp [intOf] <;> omega
    · obtain rfl : k = n' := by omega
      have HE2 := Lib.hid (HE.out.trans (by rw [HKe.out fr]))
      have hk1 := Hfr.out fr hfn
      have HWs := Lib.hid ((H.out.keep HB.out).fromS hfn)
      have hw1 := HWs.out.1
      have al := HA.out
      clear HE HF HA
      go_wp2_with (at_builtin; refine wpList_append_any _ rfl (.tmp 43) (.tmp 46) _ rfl w.heap.size 9 j0 _ 1 16 Try.underlying22 hj hy0 hy1 hy2 rfl (by omega) _ acc.length (acc.map strP) rfl HO.out wr.heap.size (fromB A fr c 1) (n - fr) (c - fr) ((ws.drop fr).map strP) rfl HWs.out.2.2.2 (strP_one _) (by unfold maxLen; omega) (by omega) (by omega) ?_; intro v1 w1 hown1 hg1 hat1)
      have b1 := Lib.hid (HB.out.grown hg1 HB.out.size (fun q hq => by have := ownG_base HO.out hq; omega))
      have HO1 : Hid (WdOwn w1 w.heap.size v1 (acc ++ ws.drop fr)) := Lib.hid (by
        unfold WdOwn
        rw [List.map_append, List.length_append, hw1]; exact hown1)
      clear hown1 hg1 hat1 HO HB
      obtain ⟨A1, cc1, rfl, _, _⟩ := ownG_form HO1.out
      have HAns : Hid (WdsAns w1 w.heap.size (doK ws (xs.map Mr.dat) 0) (.returned (.slice A1 (acc ++ ws.drop fr).length cc1))) := Lib.hid ⟨A1, cc1, by rw [HE2.out], by rw [HE2.out]; exact HO1.out⟩
      generalize (acc ++ ws.drop fr).length = N at *
      go_wp2
      go_ret
      exact ⟨HAns.out, b1.out⟩
end Go.Proofs.Ytlfhgmbmgbbnjaa
