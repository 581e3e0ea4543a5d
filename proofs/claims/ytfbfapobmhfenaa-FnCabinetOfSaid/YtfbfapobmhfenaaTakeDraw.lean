/-
  DrawCabinetTake; the laws' word without; what a taking leaves. Conditions: none.
-/
import Derived.Test.YtfbfapobmhfenaaThere
import Derived.Test.YtfbfapobmhfenaaTakeLaw
import Derived.Test.YtfbfapobmhfenaaClearLaw
import Derived.Test.YtfbfapobmhfenaaSame
namespace Go.Proofs.Ytfbfapobmhfenaa
open Go.ChangeShapes Go.WideShapes Go.ChangeAt Go.RowKit
set_option maxRecDepth 100000

theorem drawCabinetTake (A : Option Addr) (n c : Nat) (bs : List Int) (w : World) (hb : BytesIn w w.heap.size A n c bs) :
    Calls Try.prog 36 #[.slice A n c] w fun e w' => ∃ A c ds p, e = .returned (.tuple #[.slice A ds.length c, padVal p]) ∧ DrawersIn w' w'.heap.size A ds.length c ds ∧ cabSz ds ≤ 4096 ∧ p.good ∧ Below w.heap.size w w' := by
  have hb0 : BytesIn (w.alloc (.cells #[.int .i64 0, .string ByteArray.empty] 49)) (w.heap.size + 1) A n c bs :=
    ⟨hb.1, hb.2.1, hb.2.2.1, (hb.2.2.2.1.keep (fun q hq => World.cell?_alloc_lt _ _ _ hq)).more (by omega), hb.2.2.2.2⟩
  have HO := Lib.hid (l6Open A n c bs (w.heap.size + 1) _ (by simp) hb0)
  clear hb hb0
  go_enter Try.func36, Try.ntmps36
  go_wp2_with fail
  refine HO.out.mono ?_
  rintro e w1 ⟨rfl, hb1, hr1⟩
  have b1 : Below w.heap.size w w1 := below_next (by go_grown) hb1
  have K1 := (Blk.new w _ _).below hb1
  have hz1 : w.heap.size + 1 ≤ w1.heap.size := by have := hb1.size; simp at this; omega
  simp only [World.size_alloc] at hr1
  have HT := Lib.hid (l92There (w.heap.size + 1) (w.heap.size + 1) 0 w1 (by omega) hr1 hz1)
  clear hb1 hr1 HO
  go_wp2_with fail
  refine HT.out.mono ?_
  rintro e w2 ⟨A2, c2, ds, p, rfl, hO2, hs2, hg2, hb2⟩
  have K2 : Blk w2 w.heap.size 49 #[.int .i64 0, .string ByteArray.empty] := (hb2.block w.heap.size (by omega)).trans K1
  have b2 := b1.trans (hb2.mono (by omega))
  obtain ⟨k0, k1, kf0, kf1⟩ := K2.two
  have HO5 := Lib.hid (((hO2.farCell (p := ⟨w.heap.size, 0, none⟩) (by simp; omega) (.int .i64 p.day)).farCell (p := ⟨w.heap.size, 1, none⟩) (by simp; omega) (.string p.case)).reads rfl)
  have HB5 := Lib.hid ((b2.setCell (p := ⟨w.heap.size, 0, none⟩) (by simp) (.int .i64 p.day)).setCell (p := ⟨w.heap.size, 1, none⟩) (by simp) (.string p.case))
  have HGo := Lib.hid hg2
  clear hO2 K1 K2 b2 hb2 hg2 HT
  unfold padVal
  go_wp2
  refine bodyPost_ret (v := .tuple #[.slice A2 ds.length c2, .agg #[.int .i64 p.day, .string p.case]]) (by simp [results, Try.results36, go_sem, k0, k1]) rfl ?_
  exact ⟨A2, c2, ds, p, rfl, HO5.out, hs2, HGo.out, HB5.out⟩

theorem without (A : Option Addr) (n c : Nat) (ps : List Pad) (p : Pad) (w : World) (hn : n ≤ 1048576) (h : PadsIn w w.heap.size A n c ps) :
    Calls Try.prog 38 #[.slice A n c, padVal p] w fun e w' => RowAns w' w.heap.size (ps.filter (notP p)) e ∧ Below w.heap.size w w' := by
  have hm := h.2.2.1; have hnc := h.2.1
  unfold maxLen at hm
  have HL := Lib.hid h.1
  have H := Lib.hid h; clear h
  obtain ⟨i0, hi, hz0, hz1, hz2⟩ := info_parts infoPad
  have hg0 : Try.prog.eqGuardType Try.prog.depth 49 = false := by kernel_rfl
  have hb0 : Below w.heap.size w ((w.alloc (.cells #[.int .i64 p.day, .string p.case] 49)).alloc (.cells #[] 49)) := ((Below.refl _ _).alloc (Nat.le_refl _) _).alloc (by simp) _
  have HV0 : Hid (PadsOwn ((w.alloc (.cells #[.int .i64 p.day, .string p.case] 49)).alloc (.cells #[] 49)) (w.heap.size + 1) (.slice (some ⟨w.heap.size + 1, 0, none⟩) 0 0) []) := Lib.hid (by
    have := World.ownsRow_made (base := w.heap.size + 1) (e := 49) (size := 2) (w.alloc (.cells #[.int .i64 p.day, .string p.case] 49)) #[] 0 (by simp) (by unfold maxLen; omega) (by simp)
    unfold PadsOwn
    simpa using this)
  have p0 : ((w.alloc (.cells #[.int .i64 p.day, .string p.case] 49)).alloc (.cells #[] 49)).cell? ⟨w.heap.size, 0, none⟩ = some (.int .i64 p.day) := Lib.cell?_alloc_some _ (newcell w #[.int .i64 p.day, .string p.case] _ 0 _ rfl)
  have p1 : ((w.alloc (.cells #[.int .i64 p.day, .string p.case] 49)).alloc (.cells #[] 49)).cell? ⟨w.heap.size, 1, none⟩ = some (.string p.case) := Lib.cell?_alloc_some _ (newcell w #[.int .i64 p.day, .string p.case] _ 1 _ rfl)
  unfold padVal
  go_enter Try.func38, Try.ntmps38
  go_wp2
  go_loopw [5, 6] (fun v i wr => ∃ k : Nat, k ≤ n ∧ i = .int .i64 k ∧ Hid (PadsOwn wr (w.heap.size + 1) v ((ps.take k).filter (notP p))) ∧ Below w.heap.size w wr ∧ w.heap.size + 1 ≤ wr.heap.size ∧ wr.cell? ⟨w.heap.size, 0, none⟩ = some (.int .i64 p.day) ∧ wr.cell? ⟨w.heap.size, 1, none⟩ = some (.string p.case)) (fun _ i _ => n - (intOf i).toNat)
  case atStart => exact ⟨0, Nat.zero_le _, rfl, Lib.hid (by simpa using HV0.out), hb0, by simp, p0, p1⟩
  case round =>
    obtain ⟨k, hk, rfl, hO, hb, hz, p0, p1⟩ := hrel
    by_cases hlt : k < n
    · obtain ⟨b, off, eA, hbB, q0, q1, hg⟩ := (H.out.below hb).at_ hlt
      have hkl : k < ps.length := by rw [HL.out]; exact hlt
      have hE : ∀ W, (binOp .neq 49 (.agg #[.int .i64 (padAt ps k).day, .string (padAt ps k).case]) (.agg #[.int .i64 p.day, .string p.case])).run Try.prog W = .ok (.bool (notP p (padAt ps k))) W := fun W => neqPadRun _ _ _ _ W
      have hln : ((ps.take k).filter (notP p)).length ≤ k := Nat.le_trans (List.length_filter_le _ _) (by rw [List.length_take]; omega)
      subst eA
      cases he : notP p (padAt ps k) with
      | true =>
        rw [he] at hE
        have HS : Hid ((ps.take (k + 1)).filter (notP p) = (ps.take k).filter (notP p) ++ [padAt ps k]) := Lib.hid (by rw [take_step (padAt_some hkl), List.filter_append]; simp [he])
        have KP : Hid (∀ W, Below wr.heap.size wr W → W.cell? ⟨b, off + k * 2, none⟩ = some (.int .i64 (padAt ps k).day) ∧ W.cell? ⟨b, off + k * 2 + 1, none⟩ = some (.string (padAt ps k).case) ∧ W.cell? ⟨w.heap.size, 0, none⟩ = some (.int .i64 p.day) ∧ W.cell? ⟨w.heap.size, 1, none⟩ = some (.string p.case)) := Lib.hid (fun W hW => ⟨kcell hW q0, kcell hW q1, kcell hW p0, kcell hW p1⟩)
        clear he hkl hg
        generalize padAt ps k = q at *
        generalize (ps.take k).filter (notP p) = D at *
        have r0 := qcell q0; have r1 := qcell q1; have r2 := qcell p0; have r3 := qcell p1
        go_wp2_with fail
        refine region_qb (by kernel_rfl) (by kernel_rfl) ?_
        repeat (first | go_big_quiet_step (fail) | quiet_step (fail))
        refine wpQuiet_nil ?_
        intro w3 hb3
        obtain ⟨s0, s1, s2, s3⟩ := KP.out w3 hb3
        have HO3 := Lib.hid (hO.out.keep hb3)
        have b3 := hb.trans (hb3.mono hb.size)
        have hz3 := Nat.le_trans hz hb3.size
        clear r0 r1 r2 r3 q0 q1 p0 p1 hE hb3 KP
        go_wp2_with (at_builtin; refine wpList_append_any _ rfl (.tmp 20) (.tmp 25) _ rfl (w.heap.size + 1) 49 i0 _ 2 24 Try.underlying35 hi hz0 hz1 hz2 rfl (by omega) _ D.length (D.flatMap padC) rfl (HO3.out.alloc _) (w3.heap.size + 1) (some ⟨w3.heap.size, 0, none⟩) 1 1 [.int .i64 q.day, .string q.case] rfl (rowNewPad _ _ _ _) (by simp [Value.oneCell']) (by unfold maxLen; omega) (by omega) (by simp; omega) ?_; intro v4 w4 hown4 hg4 hat4)
        have HO4 : Hid (PadsOwn w4 (w.heap.size + 1) v4 ((ps.take (k + 1)).filter (notP p))) := Lib.hid (by rw [HS.out]; unfold PadsOwn; rw [List.length_append, List.flatMap_append]; exact hown4)
        have b4 := (b3.alloc (by omega) (.cells #[.int .i64 q.day, .string q.case] 49)).grown hg4 (by simp; omega) (fun z hzz => by have := own_base HO3.out hzz; omega)
        have hne : ∀ z, (_ : Value).ownBlock = some z → some w.heap.size ≠ some z := fun z hzz e => by have := own_base HO3.out hzz; injection e with e; omega
        have t0 : w4.cell? ⟨w.heap.size, 0, none⟩ = some (.int .i64 p.day) := hg4.cell (Lib.cell?_alloc_some _ s2) (fun e => hne _ e.symm rfl)
        have t1 : w4.cell? ⟨w.heap.size, 1, none⟩ = some (.string p.case) := hg4.cell (Lib.cell?_alloc_some _ s3) (fun e => hne _ e.symm rfl)
        have hz4 : w.heap.size + 1 ≤ w4.heap.size := by have := hg4.size; simp at this; omega
        clear hown4 hg4 hat4 s0 s1 s2 s3 hne
        go_wp2
        go_roundw
        case rel => exact ⟨k + 1, by omega, by go_num, HO4, b4, hz4, t0, t1⟩
        case measure => simp [intOf]; omega
      | false =>
        rw [he] at hE
        have HO4 : Hid (PadsOwn wr (w.heap.size + 1) _ ((ps.take (k + 1)).filter (notP p))) := Lib.hid (by rw [take_step (padAt_some hkl), List.filter_append]; simpa [he] using hO.out)
        clear he hkl hg
        generalize padAt ps k = q at *
        have r0 := qcell q0; have r1 := qcell q1; have r2 := qcell p0; have r3 := qcell p1
        go_wp2_with fail
        refine region_qb (by kernel_rfl) (by kernel_rfl) ?_
        repeat (first | go_big_quiet_step (fail) | quiet_step (fail))
        refine wpQuiet_nil ?_
        intro w3 hb3
        have HO3 := Lib.hid (HO4.out.keep hb3)
        have b3 := hb.trans (hb3.mono hb.size)
        have hz3 := Nat.le_trans hz hb3.size
        have s2 := kcell hb3 p0; have s3 := kcell hb3 p1
        clear r0 r1 r2 r3 q0 q1 p0 p1 hE hb3
        go_wp2
        go_roundw
        case rel => exact ⟨k + 1, by omega, by go_num, HO3, b3, hz3, s2, s3⟩
        case measure => simp [intOf]; omega
    · have hkn : ps.take k = ps := List.take_of_length_le (by have := HL.out; omega)
      rw [hkn] at hO
      clear hkn
      have HO2 := Lib.hid (own_mono (B' := w.heap.size) hO.out (by omega))
      go_wp2
      go_ret
      exact ⟨.of rfl HO2.out, hb⟩

theorem take_len {css : List (List Pad)} {p : Pad} {i k : Nat} (h : findO css p = some (i, k)) : (((thinned (notP p) css).length : Int) == (css.length : Int) - 1) = (((drw css i).length : Int) == 1) := by
  obtain ⟨hc, hf1, hf2, _⟩ := findO_some h
  rw [← take_thin h]
  have hl : ((drw css i).take k ++ (drw css i).drop (k + 1)).length = (drw css i).length - 1 := by rw [List.length_append, List.length_take, List.length_drop]; omega
  have e1 := css_split hf1
  have e2 : css.set i ((drw css i).take k ++ (drw css i).drop (k + 1)) = css.take i ++ ((drw css i).take k ++ (drw css i).drop (k + 1)) :: css.drop (i + 1) := by
    rw [List.set_eq_take_append_cons_drop, if_pos hf1]
  have f1 : (css.take i).filter full? = css.take i := filter_full fun x hx => hc.2.1 x (List.mem_of_mem_take hx)
  have f2 : (css.drop (i + 1)).filter full? = css.drop (i + 1) := filter_full fun x hx => hc.2.1 x (List.mem_of_mem_drop hx)
  rw [e2, List.filter_append, List.filter_cons, f1, f2]
  generalize (drw css i).take k ++ (drw css i).drop (k + 1) = m at *
  have l1 : (css.take i).length = i := by rw [List.length_take]; omega
  have l2 : (css.drop (i + 1)).length = css.length - (i + 1) := List.length_drop
  rw [Bool.eq_iff_iff, beq_iff_eq, beq_iff_eq]
  by_cases hm : full? m = true
  · rw [if_pos hm, List.length_append, List.length_cons, l1, l2]
    have := full_iff.1 hm
    omega
  · rw [if_neg hm, List.length_append, l1, l2]
    have : ¬ 1 ≤ m.length := fun h => hm (full_iff.2 h)
    omega
theorem take_gone (css : List (List Pad)) (p : Pad) : findO (thinned (notP p) css) p = none := by
  refine findO_no fun i k hf => ?_
  have h1 : p ∈ (thinned (notP p) css).flatten := by
    refine List.mem_flatten.2 ⟨drw _ i, drw_mem hf.1, ?_⟩
    have h0 := padAt_mem hf.2.1
    rwa [hf.2.2] at h0
  rw [thinned_flat] at h1
  have := (List.mem_filter.1 h1).2
  rw [notP_false.2 rfl] at this
  cases this
end Go.Proofs.Ytfbfapobmhfenaa
