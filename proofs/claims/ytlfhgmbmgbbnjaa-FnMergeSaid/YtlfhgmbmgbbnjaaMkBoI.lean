/-
  Both lists of marks together, of the program. Conditions: the lists lie in memory; the numbers are small; no text is absurdly long.
-/
import Derived.Test.YtlfhgmbmgbbnjaaMkBoS
import Derived.Test.YtlfhgmbmgbbnjaaMkSor
import Derived.Test.YtlfhgmbmgbbnjaaMkCat
import Derived.Test.YtlfhgmbmgbbnjaaMkClI
import Derived.Handy
namespace Go.Proofs.Ytlfhgmbmgbbnjaa
open Go.ChangeShapes Go.WideShapes Go.ChangeAt Go.RowKit Go.Shelf
set_option maxRecDepth 100000
set_option linter.unusedSimpArgs false
set_option linter.unusedVariables false

theorem dedup_snoc (L : List Mk) (m : Mk) : ∀ acc, dedup acc (L ++ [m]) = if m ∈ dedup acc L then dedup acc L else dedup acc L ++ [m] := by
  induction L with
  | nil => intro acc; rfl
  | cons x r ih =>
    intro acc
    rw [List.cons_append, dedup, dedup]
    by_cases h : x ∈ acc
    · rw [if_pos h, if_pos h, ih]
    · rw [if_neg h, if_neg h, ih]
theorem take_mr {xs : List Mr} {k : Nat} (hk : k < xs.length) : (xs.take (k + 1)).map Mr.dat = (xs.take k).map Mr.dat ++ [(mrAt xs k).dat] := by
  rw [List.take_succ_eq_append_getElem hk, List.map_append, mrAt_get hk]; rfl
/-- The marks so far, each once. -/
def Ded (zs : List Mr) (k : Nat) (D : List Mr) : Prop := D.map Mr.dat = dedup [] ((zs.take k).map Mr.dat)
theorem Ded.zero (zs : List Mr) : Ded zs 0 [] := rfl
theorem any_dat {D : List Mr} {x : Mr} : (D.any fun y => decide (x.dat = y.dat)) = true ↔ x.dat ∈ D.map Mr.dat := by
  rw [List.any_eq_true, List.mem_map]
  constructor
  · rintro ⟨y, hy, h⟩; exact ⟨y, hy, (of_decide_eq_true h).symm⟩
  · rintro ⟨y, hy, h⟩; exact ⟨y, hy, decide_eq_true h.symm⟩
theorem Ded.old {zs D : List Mr} {k : Nat} (h : Ded zs k D) (hk : k < zs.length) (ha : (D.any fun y => decide ((mrAt zs k).dat = y.dat)) = true) : Ded zs (k + 1) D := by
  unfold Ded at *
  rw [take_mr hk, dedup_snoc, ← h, if_pos (any_dat.1 ha)]
theorem Ded.new {zs D : List Mr} {y : Mr} {k : Nat} (h : Ded zs k D) (hk : k < zs.length) (ha : (D.any fun y => decide ((mrAt zs k).dat = y.dat)) = false) (hy : y.dat = (mrAt zs k).dat) : Ded zs (k + 1) (D ++ [y]) := by
  unfold Ded at *
  rw [take_mr hk, dedup_snoc, ← h, if_neg (fun e => by rw [any_dat.2 e] at ha; cases ha), List.map_append]
  simp [hy]
theorem Ded.len {zs D : List Mr} {k : Nat} (h : Ded zs k D) (hk : k ≤ zs.length) : D.length ≤ k := by
  have h1 := dedup_len ((zs.take k).map Mr.dat) []
  unfold Ded at h
  rw [← h, List.length_map, List.length_map, List.length_take] at h1
  simp at h1; omega
theorem Ded.mem {zs D : List Mr} {k : Nat} (h : Ded zs k D) : ∀ m ∈ D.map Mr.dat, m ∈ zs.map Mr.dat := by
  intro m hm
  unfold Ded at h
  rw [h, dedup_mem] at hm
  rcases hm with hm | hm
  · cases hm
  · obtain ⟨x, hx, rfl⟩ := List.mem_map.1 hm
    exact List.mem_map_of_mem (List.mem_of_mem_take hx)
set_option maxHeartbeats 6400000 in
theorem implMarksBoth (A0 : Option Addr) (n0 c0 : Nat) (ws : List Wd) (A : Option Addr) (n c : Nat) (xs : List Mr) (A' : Option Addr) (n' c' : Nat) (ys : List Mr) (w : World) (hW : ∀ l ∈ ws, l.length ≤ maxLen) (hX : OkMs xs) (hY : OkMs ys)
    (h0 : WdsIn w w.heap.size A0 n0 c0 ws) (h : MrsIn w w.heap.size A n c xs) (h' : MrsIn w w.heap.size A' n' c' ys) :
    Calls Try.prog 19 #[.slice A0 n0 c0, .slice A n c, .slice A' n' c'] w fun e w' => MkAns w' (bothP ws (xs.map Mr.dat) (ys.map Mr.dat)) e ∧ Below w.heap.size w w' := by
  have HV1 : Hid (∀ W, Below w.heap.size w W → Calls Try.prog 37 #[.slice A0 n0 c0, .slice A n c] W fun e w' => e = .returned (.bool (marksB ws (xs.map Mr.dat))) ∧ Below W.heap.size W w') := Lib.hid (fun W hb => implMarksValid A0 n0 c0 ws A n c xs W hW hX (h0.keep hb) (h.keep hb))
  have HV2 : Hid (∀ W, Below w.heap.size w W → Calls Try.prog 37 #[.slice A0 n0 c0, .slice A' n' c'] W fun e w' => e = .returned (.bool (marksB ws (ys.map Mr.dat))) ∧ Below W.heap.size W w') := Lib.hid (fun W hb => implMarksValid A0 n0 c0 ws A' n' c' ys W hW hY (h0.keep hb) (h'.keep hb))
  have HVD : Hid (∀ W A n c D, Below w.heap.size w W → OkMs D → MrsIn W W.heap.size A n c D → Calls Try.prog 37 #[.slice A0 n0 c0, .slice A n c] W fun e w' => e = .returned (.bool (marksB ws (D.map Mr.dat))) ∧ Below W.heap.size W w') := Lib.hid (fun W A n c D hb hD hI => implMarksValid A0 n0 c0 ws A n c D W hW hD (h0.keep hb) hI)
  have HZ := Lib.hid (fun (W : World) (AA : Option Addr) => MrsIn.zero W W.heap.size AA)
  have HNo := Lib.hid (fun hh => bothP_no (ws := ws) (a := xs.map Mr.dat) (b := ys.map Mr.dat) hh)
  have HL := Lib.hid h.1; have HL' := Lib.hid h'.1
  cases hA : marksB ws (xs.map Mr.dat) with
  | false =>
    have HR := Lib.hid (HNo.out (.inl hA))
    rw [hA] at HV1
    clear hA h h' h0 hX hY hW HVD HV2
    go_enter Try.func19, Try.ntmps19
    go_wp2_with fail
    refine (HV1.out _ (Below.refl _ _)).mono ?_
    rintro e w1 ⟨rfl, hb1⟩
    go_wp2
    go_ret2
    exact ⟨.inl ⟨HR.out, _, _, rfl, HZ.out _ _⟩, hb1⟩
  | true =>
  cases hB : marksB ws (ys.map Mr.dat) with
  | false =>
    have HR := Lib.hid (HNo.out (.inr (.inl hB)))
    rw [hA] at HV1; rw [hB] at HV2
    clear hA hB h h' h0 hX hY hW HVD
    go_enter Try.func19, Try.ntmps19
    go_wp2_with fail
    refine (HV1.out _ (Below.refl _ _)).mono ?_
    rintro e w1 ⟨rfl, hb1⟩
    go_wp2_with fail
    refine (HV2.out _ hb1).mono ?_
    rintro e w2 ⟨rfl, hb2⟩
    go_wp2
    go_ret2
    exact ⟨.inl ⟨HR.out, _, _, rfl, HZ.out _ _⟩, below_next hb1 hb2⟩
  | true =>
    have h20 : n ≤ 20 := by have := (marksB_iff.1 hA).2.1; rw [List.length_map, HL.out] at this; exact this
    have h20' : n' ≤ 20 := by have := (marksB_iff.1 hB).2.1; rw [List.length_map, HL'.out] at this; exact this
    have HCl : Hid (∀ W, Below w.heap.size w W → Calls Try.prog 38 #[.slice A0 n0 c0, .slice A n c, .slice A' n' c'] W fun e w' => e = .returned (.bool (clashB (xs.map Mr.dat) (ys.map Mr.dat))) ∧ Below W.heap.size W w') := Lib.hid (fun W hb => implMarksClash A0 n0 c0 ws A n c xs A' n' c' ys W hW hX hY (h0.keep hb) (h.keep hb) (h'.keep hb) hA hB)
    cases hC : clashB (xs.map Mr.dat) (ys.map Mr.dat) with
    | true =>
      have HR := Lib.hid (HNo.out (.inr (.inr hC)))
      rw [hA] at HV1; rw [hB] at HV2; rw [hC] at HCl
      clear hA hB hC h h' h0 hX hY hW HVD
      go_enter Try.func19, Try.ntmps19
      go_wp2_with fail
      refine (HV1.out _ (Below.refl _ _)).mono ?_
      rintro e w1 ⟨rfl, hb1⟩
      go_wp2_with fail
      refine (HV2.out _ hb1).mono ?_
      rintro e w2 ⟨rfl, hb2⟩
      have b2 := below_next hb1 hb2
      go_wp2_with fail
      refine (HCl.out _ b2).mono ?_
      rintro e w3 ⟨rfl, hb3⟩
      go_wp2
      go_ret2
      exact ⟨.inl ⟨HR.out, _, _, rfl, HZ.out _ _⟩, below_next b2 hb3⟩
    | false =>
      have HR := Lib.hid (bothP_yes hA hB hC)
      rw [hA] at HV1; rw [hB] at HV2; rw [hC] at HCl
      have HD20 : Hid (∀ D : List Mr, Ded (xs ++ ys) (n + n') D → D.length ≤ 20) := Lib.hid (fun D hD => by
        have := dedup_20 hA hB hC
        unfold Ded at hD
        rw [List.take_of_length_le (by rw [List.length_append, HL.out, HL'.out]; exact Nat.le_refl _), List.map_append] at hD
        rwa [← hD, List.length_map] at this)
      have HMg : Hid (∀ D D' : List Mr, Ded (xs ++ ys) (n + n') D → D'.Perm D → Outr D' D'.length → D'.map Mr.dat = mergeP (xs.map Mr.dat) (ys.map Mr.dat)) := Lib.hid (fun D D' hD hP hS => by
        refine sorted_merge (gapB_ord (marksB_iff.1 hA).2.2.1).2.1 (gapB_ord (marksB_iff.1 hB).2.2.1).2.1 (clashB_no hC) hS.srt ?_
        unfold Ded at hD
        rw [List.take_of_length_le (by rw [List.length_append, HL.out, HL'.out]; exact Nat.le_refl _), List.map_append] at hD
        rw [← hD]
        exact hP.map _)
      have HOk : Hid (∀ (W : World) (B : Nat) (v : Value) (D : List Mr), MrOwn W B v D → (∀ m ∈ D.map Mr.dat, m ∈ (xs ++ ys).map Mr.dat) → OkMs D) := Lib.hid (fun W B v D hO hE => okMs_of hX hY (fun x hx => (h.2.2.2.2 x hx).1) (fun x hx => (h'.2.2.2.2 x hx).1) hO (fun m hm => by have := hE m hm; rw [List.map_append] at this; exact List.mem_append.1 this))
      have HSz : Hid (∀ k, k < n + n' → SmM (mrAt (xs ++ ys) k)) := Lib.hid (fun k hk => by
        have hm := mrAt_mem (xs := xs ++ ys) (k := k) (by rw [List.length_append, HL.out, HL'.out]; exact hk)
        rcases List.mem_append.1 hm with h | h
        · exact (hX _ h).1
        · exact (hY _ h).1)
      have HLz : Hid ((xs ++ ys).length = n + n') := Lib.hid (by rw [List.length_append, HL.out, HL'.out])
      have HCat : Hid (∀ W p, Below w.heap.size w W → W.cell? ⟨p, 0, none⟩ = some (.slice A n c) → W.cell? ⟨p, 1, none⟩ = some (.slice A' n' c') → Calls Try.prog 39 #[.slice (some ⟨p, 0, none⟩) 2 2] W fun e w' => ∃ A3 c3, e = .returned (.slice A3 (n + n') c3) ∧ MrsIn w' w'.heap.size A3 (n + n') c3 (xs ++ ys) ∧ (∀ p, A3 = some p → W.heap.size ≤ p.block) ∧ Below W.heap.size W w') := Lib.hid (fun W p hb p0 p1 => catMk p A n c xs A' n' c' ys W p0 p1 (by omega) (by omega) (h.keep hb) (h'.keep hb))
      have HMr : Hid (∀ W, Below w.heap.size w W → ∀ x ∈ xs ++ ys, MrIn W W.heap.size x) := Lib.hid (fun W hb x hx => by
        rcases List.mem_append.1 hx with hx | hx
        · exact ((h.keep hb).2.2.2.2 x hx)
        · exact ((h'.keep hb).2.2.2.2 x hx))
      clear hA hB hC h h' h0 hX hY hW HNo HL HL'
      obtain ⟨zs, hzs⟩ : ∃ zs, zs = xs ++ ys := ⟨_, rfl⟩
      rw [← hzs] at HD20 HMg HOk HSz HLz HCat HMr
      clear hzs
      obtain ⟨i0, hi, hz0, hz1, hz2⟩ := info_parts infoMk
      go_enter Try.func19, Try.ntmps19
      go_wp2_with fail
      refine (HV1.out _ (Below.refl _ _)).mono ?_
      rintro e w1 ⟨rfl, hb1⟩
      go_wp2_with fail
      refine (HV2.out _ hb1).mono ?_
      rintro e w2 ⟨rfl, hb2⟩
      have b2 := below_next hb1 hb2
      go_wp2_with fail
      refine (HCl.out _ b2).mono ?_
      rintro e w3 ⟨rfl, hb3⟩
      have HB3 := Lib.hid (below_next b2 hb3)
      have hs3 := HB3.out.size
      clear hb1 hb2 b2 hb3 HV1 HV2 HCl
      have hO4 := MrOwn.made w3
      have hb4 : Below w.heap.size w (w3.alloc (.cells #[] 37)) := HB3.out.alloc hs3 _
      have hb5 : Below (w3.alloc (.cells #[] 37)).heap.size (w3.alloc (.cells #[] 37)) ((w3.alloc (.cells #[] 37)).alloc (.cells #[.slice A n c, .slice A' n' c'] 32)) := (Below.refl _ _).alloc (Nat.le_refl _) _
      have x0 := newcell (w3.alloc (.cells #[] 37)) #[.slice A n c, .slice A' n' c'] 32 0 _ rfl
      have x1 := newcell (w3.alloc (.cells #[] 37)) #[.slice A n c, .slice A' n' c'] 32 1 _ rfl
      simp only [World.size_alloc] at x0 x1
      have HC4 := Lib.hid (HCat.out _ _ (below_next hb4 hb5) x0 x1)
      have HO5 := Lib.hid (hO4.keep hb5)
      have HB5 := Lib.hid (below_next hb4 hb5)
      clear hO4 hb4 hb5 x0 x1 HCat
      go_wp2_with fail
      refine HC4.out.mono ?_
      rintro e w6 ⟨A3, c3, rfl, hI6, hA3, hb6⟩
      have HO6 : Hid (MrOwn w6 w.heap.size (.slice (some ⟨w3.heap.size, 0, none⟩) 0 0) []) := Lib.hid ⟨ownG_mono (HO5.out.keep hb6).1 hs3, (HO5.out.keep hb6).2⟩
      have HB6 := Lib.hid (below_next HB5.out hb6)
      have hI6z := hI6.1
      have hI6n := hI6.2.1
      have hI6c := hI6.2.2.1
      have HRw := Lib.hid hI6.2.2.2.1
      have HZs : Hid (∀ W, w6.grownBy W (some w3.heap.size) → Below w.heap.size w W → MrsIn W W.heap.size A3 (n + n') c3 zs) := Lib.hid (fun W hg hb => ⟨hI6z, hI6n, hI6c, (Row.grown HRw.out hg (fun a ha e => by have := hA3 a ha; injection e with e; simp at this; omega)).more hg.size, fun x hx => HMr.out W hb x hx⟩)
      have hs36 : w3.heap.size < w6.heap.size := by have := hb6.size; simp at this; omega
      have HG6 : Hid (w6.grownBy w6 (some w3.heap.size)) := Lib.hid (World.grownBy.refl _ _)
      clear hI6 hb6 HO5 HC4 HB5 hA3 HRw hI6z
      have hs6 := HB6.out.size
      unfold maxLen at hI6c
      go_wp2
      go_loopw [8, 33] (fun s8 s33 wr => ∃ (k : Nat) (D : List Mr) (g c1 : Nat), k ≤ n + n' ∧ s8 = .slice (some ⟨g, 0, none⟩) D.length c1 ∧ s33 = .int .i64 k ∧ Hid (Ded zs k D) ∧ Hid (MrOwn wr w.heap.size (.slice (some ⟨g, 0, none⟩) D.length c1) D) ∧ Hid (g = w3.heap.size ∨ w6.heap.size ≤ g) ∧ Hid (w6.grownBy wr (some w3.heap.size)) ∧ Hid (Below w.heap.size w wr)) (fun _ s33 _ => n + n' - (intOf s33).toNat)
      case atStart => exact ⟨0, [], w3.heap.size, 0, Nat.zero_le _, rfl, rfl, Lib.hid (Ded.zero zs), HO6, Lib.hid (.inl rfl), HG6, HB6⟩
      case round =>
        obtain ⟨k, D, g, c1, hkn, rfl, rfl, HE, HO, HV, HG, HB⟩ := hrel
        have k0 : (0 : Int) ≤ (k : Int) := by omega
        have hsr := HB.out.size
        have hsr6 := HG.out.size
        by_cases hlt : k < n + n'
        · have k2 : (k : Int) < (n : Int) + (n' : Int) := by omega
          have k3 : (k : Int) ≤ 40 := by omega
          obtain ⟨b, off, rfl, _, c0, c1', c2, hx⟩ := (HZs.out wr HG.out HB.out).at_ hlt
          have hal := boxM (mrAt zs k) wr
          have HB1 := Lib.hid (below_next HB.out hal)
          have HO1 := Lib.hid (HO.out.keep hal)
          have HG1 := Lib.hid (grown_below HG.out hal)
          have hzk : mrAt zs k ∈ zs := mrAt_mem (by rw [HLz.out]; exact hlt)
          have hDl := HE.out.len (by rw [HLz.out]; exact hkn)
          have sx := HSz.out k hlt
          have HCt := Lib.hid (containsMk 41 (mrAt zs k) (fun y => decide ((mrAt zs k).dat = y.dat)) (fun _ _ => rfl) (some ⟨g, 0, none⟩) D.length c1 D _ (fun W y hb hy hyI => implSame (mrAt zs k) y W (HMr.out W (below_next HB1.out hb) _ hzk) hyI) (MrOwn.reads HO1.out rfl))
          have HDo := Lib.hid (fun ha => HE.out.old (by rw [HLz.out]; exact hlt) ha)
          have HDn := Lib.hid (fun (y : Mr) ha hy => HE.out.new (y := y) (by rw [HLz.out]; exact hlt) ha hy)
          have HXm : Hid (∀ W, Below w.heap.size w W → MrIn W W.heap.size (mrAt zs k)) := Lib.hid (fun W hb => HMr.out W hb _ hzk)
          have HP1 : Hid (∀ W, Below (wr.alloc (.cells #[.int .i64 ((mrAt zs k).at_ : Int), .int .i64 ((mrAt zs k).cut : Int), .slice (mrAt zs k).A (mrAt zs k).n (mrAt zs k).c] 37)).heap.size (wr.alloc (.cells #[.int .i64 ((mrAt zs k).at_ : Int), .int .i64 ((mrAt zs k).cut : Int), .slice (mrAt zs k).A (mrAt zs k).n (mrAt zs k).c] 37)) W → W.cell? ⟨wr.heap.size, 0, none⟩ = some (.int .i64 ((mrAt zs k).at_ : Int)) ∧ W.cell? ⟨wr.heap.size, 1, none⟩ = some (.int .i64 ((mrAt zs k).cut : Int)) ∧ W.cell? ⟨wr.heap.size, 2, none⟩ = some (.slice (mrAt zs k).A (mrAt zs k).n (mrAt zs k).c)) := Lib.hid (fun W hW => ⟨kcell hW (newcell wr _ _ 0 _ rfl), kcell hW (newcell wr _ _ 1 _ rfl), kcell hW (newcell wr _ _ 2 _ rfl)⟩)
          have HSx := Lib.hid sx
          have hn3 : (mrAt zs k).n ≤ 1000 := sx.2.2
          clear hx hal hzk HE sx HO HG HB
          cases hq : (D.any fun y => decide ((mrAt zs k).dat = y.dat)) with
          | true =>
            rw [hq] at HCt
            have HD2 := Lib.hid (HDo.out hq)
            clear hq HDo HDn HP1 HXm HSx
            generalize mrAt zs k = x at *
            go_wp2_with fail
            refine HCt.out.mono ?_
            rintro e w7 ⟨rfl, hb7⟩
            have HO7 := Lib.hid (HO1.out.keep hb7)
            have HG7 := Lib.hid (grown_below HG1.out hb7)
            have HB7 := Lib.hid (below_next HB1.out hb7)
            clear HO1 HG1 HB1 hb7 HCt
            go_wp2
            go_roundw
            case rel => exact ⟨k + 1, D, g, c1, by omega, rfl, by go_num, HD2, HO7, HV, HG7, HB7⟩
            case measure => simp [intOf] <;> omega
          | false =>
            rw [hq] at HCt
            have HD2 := Lib.hid (fun y hy => HDn.out y hq hy)
            clear hq HDo HDn
            go_wp2_with fail
            refine HCt.out.mono ?_
            rintro e w7 ⟨rfl, hb7⟩
            obtain ⟨y0, y1, y2⟩ := HP1.out w7 hb7
            have HO7 := Lib.hid (HO1.out.keep hb7)
            have HG7 := Lib.hid (grown_below HG1.out hb7)
            have HB7 := Lib.hid (below_next HB1.out hb7)
            have hs7 := HB7.out.size
            have hs7r : wr.heap.size ≤ w7.heap.size := by have := hb7.size; simp at this; omega
            have HCh : Hid (∀ W, Calls Try.prog 30 #[.agg #[.int .i64 ((mrAt zs k).at_ : Int), .int .i64 ((mrAt zs k).cut : Int), .slice (mrAt zs k).A (mrAt zs k).n (mrAt zs k).c]] W fun e w' => e = .returned (chV (mrAt zs k).at_ (mrAt zs k).cut (mrAt zs k).A (mrAt zs k).n (mrAt zs k).c) ∧ Below W.heap.size W w') := Lib.hid (fun W => changeOf _ _ _ _ _ W (by unfold maxLen; omega))
            have HMl : Hid (∀ W, Below w.heap.size w W → (mrAt zs k).n = 0 → Calls Try.prog 78 #[.agg #[.int .i64 ((mrAt zs k).at_ : Int), .int .i64 ((mrAt zs k).cut : Int)]] W fun e w' => MkOf W w' (mrAt zs k).at_ (mrAt zs k).cut (mrAt zs k).n (mrAt zs k).put e) := Lib.hid (fun W hb e => by
              have hl := (HXm.out W hb).1
              rw [e] at hl ⊢
              rw [List.length_eq_zero_iff.1 hl]; exact leavingMark _ _ W)
            have HMp : Hid (∀ W, Below w.heap.size w W → 1 ≤ (mrAt zs k).n → Calls Try.prog 79 #[.agg #[.int .i64 ((mrAt zs k).at_ : Int), .slice (mrAt zs k).A (mrAt zs k).n (mrAt zs k).c]] W fun e w' => MkOf W w' (mrAt zs k).at_ 0 (mrAt zs k).n (mrAt zs k).put e) := Lib.hid (fun W hW e => puttingMark _ _ _ _ _ W e (by omega) (HXm.out W hW))
            have HMr2 : Hid (∀ W, Below w.heap.size w W → 1 ≤ (mrAt zs k).n → Calls Try.prog 81 #[.agg #[.int .i64 ((mrAt zs k).at_ : Int), .int .i64 ((mrAt zs k).cut : Int), .slice (mrAt zs k).A (mrAt zs k).n (mrAt zs k).c]] W fun e w' => MkOf W w' (mrAt zs k).at_ (mrAt zs k).cut (mrAt zs k).n (mrAt zs k).put e) := Lib.hid (fun W hW e => replacingMark _ _ _ _ _ _ W e (by omega) (HXm.out W hW))
            clear HCt HO1 HG1 HB1 hb7 HP1 HXm HSx c0 c1' c2
            generalize mrAt zs k = x at *
            by_cases hm0 : x.n = 0
            · have hch : chV x.at_ x.cut x.A x.n x.c = .iface 75 (.agg #[.int .i64 (x.at_ : Int), .int .i64 (x.cut : Int)]) := if_pos hm0
              rw [hch] at HCh
              have Hm0 := Lib.hid hm0
              clear hm0 hch
              go_wp2_with fail
              refine (HCh.out _).mono ?_
              rintro e w8 ⟨rfl, hb8⟩
              have HO8 := Lib.hid (HO7.out.keep hb8)
              have HG8 := Lib.hid (grown_below HG7.out hb8)
              have HB8 := Lib.hid (below_next HB7.out hb8)
              have hs8 := hb8.size
              go_wp2_with fail
              refine (HMl.out _ HB8.out Hm0.out).mono ?_
              rintro e w9 ⟨A9, c9, rfl, hI9, hn9, hb9⟩
              have hal9 : Below w9.heap.size w9 (w9.alloc (.cells #[.int .i64 (x.at_ : Int), .int .i64 (x.cut : Int), .slice A9 x.n c9] 37)) := (Below.refl _ _).alloc (Nat.le_refl _) _
              have hs9 := hb9.size
              have HBa := Lib.hid (below_next hb9 hal9)
              have HI9 := Lib.hid (WdsIn.keep hI9 hal9)
              have HN9 : Hid (0 < x.n → ∀ p, A9 = some p → w8.heap.size ≤ p.block ∧ p.block < (w9.alloc (.cells #[.int .i64 (x.at_ : Int), .int .i64 (x.cut : Int), .slice A9 x.n c9] 37)).heap.size) := Lib.hid (fun hp p hpA => ⟨(hn9 hp p hpA).1, by have := (hn9 hp p hpA).2; simp; omega⟩)
              have hr9 := rowNewMk w9 (.int .i64 (x.at_ : Int)) (.int .i64 (x.cut : Int)) (.slice A9 x.n c9) 37
              have HOa := Lib.hid (HO8.out.keep HBa.out)
              have hbs : w.heap.size ≤ (w9.alloc (.cells #[.int .i64 (x.at_ : Int), .int .i64 (x.cut : Int), .slice A9 x.n c9] 37)).heap.size := by simp; omega
              clear hI9 hn9 hb9 hal9 hb8
              go_wp2_with (at_builtin; refine wpList_append_any _ rfl (.tmp 42) (.tmp 46) _ rfl w.heap.size 37 i0 _ 3 40 Try.underlying32 hi hz0 hz1 hz2 rfl (by omega) _ D.length (D.flatMap mkC) rfl HOa.out.1 (w9.heap.size + 1) (some ⟨w9.heap.size, 0, none⟩) 1 1 [.int .i64 (x.at_ : Int), .int .i64 (x.cut : Int), .slice A9 x.n c9] rfl hr9 (by simp [Value.oneCell']) (by unfold maxLen; omega) (by omega) hbs ?_; intro v7 w10 hown7 hg7 hat7; have hF := Lib.hid (FinRow.mk (k := x.cut) HBa.out HO8.out HI9.out HN9.out hown7 hg7 hat7); have hat := Lib.hid hat7; clear hown7 hg7 hat7)
              obtain ⟨y, hyd, _, hgy, hOy, _⟩ := hF.out
              have hok := ownG_form hOy.1
              have HD10 := Lib.hid (HD2.out y hyd)
              have HG10 : Hid (w6.grownBy w10 (some w3.heap.size)) := Lib.hid (by
                rcases HV.out with e | e
                · subst e; exact only_next HG8.out hgy
                · exact own_after' HG8.out hgy (fun q hq => by have h2 : some g = some q := hq; injection h2 with h2; omega))
              have HB10 := Lib.hid (HB8.out.grown hgy HB8.out.size (fun q hq => ownG_base HO8.out.1 hq))
              have hvb : v7.ownBlock = some g ∨ v7.ownBlock = some (w9.heap.size + 1) := by
                rcases hat.out with e | e
                · exact .inl e
                · right; rw [e]; simp
              obtain ⟨A7, c7, hv7, _, _⟩ := hok
              obtain ⟨g7, hg7, hV7⟩ : ∃ g7, v7 = .slice (some ⟨g7, 0, none⟩) (D ++ [y]).length c7 ∧ (g7 = w3.heap.size ∨ w6.heap.size ≤ g7) := by
                rcases hOy.1.2 with ⟨e, _⟩ | ⟨gg, cap, cur, e, _⟩
                · rw [e] at hvb; rcases hvb with h | h <;> cases h
                · refine ⟨gg, ?_, ?_⟩
                  · rw [e] at hv7 ⊢; injection hv7 with _ _ e3; rw [e3]
                  · rw [e] at hvb
                    rcases hvb with h | h
                    · have h2 : some gg = some g := h
                      injection h2 with h2; rw [h2]; exact HV.out
                    · have h2 : some gg = some (w9.heap.size + 1) := h
                      injection h2 with h2; right; omega
              have HV7 := Lib.hid hV7
              have HO10 : Hid (MrOwn w10 w.heap.size (.slice (some ⟨g7, 0, none⟩) (D ++ [y]).length c7) (D ++ [y])) := Lib.hid (by rw [← hg7]; exact hOy)
              clear hvb hV7 hv7 hOy hgy hyd hF hat HOa HBa HI9 HN9 hr9 hbs HD2 HO8 HG8 HO7 HG7 HV
              subst hg7
              obtain ⟨DL, hDL⟩ : ∃ DL, DL = (D ++ [y]).length := ⟨_, rfl⟩
              have HDL := Lib.hid hDL
              rw [← hDL]
              clear hDL
              go_wp2
              go_roundw
              case rel => exact ⟨k + 1, D ++ [y], g7, c7, by omega, by rw [HDL.out], by go_num, HD10, HO10, HV7, HG10, HB10⟩
              case measure => simp [intOf] <;> omega
            · by_cases hk0 : x.cut = 0
              · have hch : chV x.at_ x.cut x.A x.n x.c = .iface 77 (.agg #[.int .i64 (x.at_ : Int), .slice x.A x.n x.c]) := by unfold chV; rw [if_neg hm0, if_pos hk0]
                rw [hch] at HCh
                have hm1 : 1 ≤ x.n := by omega
                have Hk0 := Lib.hid hk0
                clear hk0 hm0 hch
                go_wp2_with fail
                refine (HCh.out _).mono ?_
                rintro e w8 ⟨rfl, hb8⟩
                have HO8 := Lib.hid (HO7.out.keep hb8)
                have HG8 := Lib.hid (grown_below HG7.out hb8)
                have HB8 := Lib.hid (below_next HB7.out hb8)
                have hs8 := hb8.size
                go_wp2_with fail
                refine (HMp.out _ HB8.out hm1).mono ?_
                rintro e w9 ⟨A9, c9, rfl, hI9, hn9, hb9⟩
                have hal9 : Below w9.heap.size w9 (w9.alloc (.cells #[.int .i64 (x.at_ : Int), .int .i64 0, .slice A9 x.n c9] 37)) := (Below.refl _ _).alloc (Nat.le_refl _) _
                have hs9 := hb9.size
                have HBa := Lib.hid (below_next hb9 hal9)
                have HI9 := Lib.hid (WdsIn.keep hI9 hal9)
                have HN9 : Hid (0 < x.n → ∀ p, A9 = some p → w8.heap.size ≤ p.block ∧ p.block < (w9.alloc (.cells #[.int .i64 (x.at_ : Int), .int .i64 0, .slice A9 x.n c9] 37)).heap.size) := Lib.hid (fun hp p hpA => ⟨(hn9 hp p hpA).1, by have := (hn9 hp p hpA).2; simp; omega⟩)
                have hr9 := rowNewMk w9 (.int .i64 (x.at_ : Int)) (.int .i64 0) (.slice A9 x.n c9) 37
                have HOa := Lib.hid (HO8.out.keep HBa.out)
                have hbs : w.heap.size ≤ (w9.alloc (.cells #[.int .i64 (x.at_ : Int), .int .i64 0, .slice A9 x.n c9] 37)).heap.size := by simp; omega
                clear hI9 hn9 hb9 hal9 hb8
                go_wp2_with (at_builtin; refine wpList_append_any _ rfl (.tmp 42) (.tmp 46) _ rfl w.heap.size 37 i0 _ 3 40 Try.underlying32 hi hz0 hz1 hz2 rfl (by omega) _ D.length (D.flatMap mkC) rfl HOa.out.1 (w9.heap.size + 1) (some ⟨w9.heap.size, 0, none⟩) 1 1 [.int .i64 (x.at_ : Int), .int .i64 0, .slice A9 x.n c9] rfl hr9 (by simp [Value.oneCell']) (by unfold maxLen; omega) (by omega) hbs ?_; intro v7 w10 hown7 hg7 hat7; have hF := Lib.hid (FinRow.mk (k := 0) HBa.out HO8.out HI9.out HN9.out hown7 hg7 hat7); have hat := Lib.hid hat7; clear hown7 hg7 hat7)
                obtain ⟨y, hyd, _, hgy, hOy, _⟩ := hF.out
                have hok := ownG_form hOy.1
                have HD10 := Lib.hid (HD2.out y (by rw [hyd]; unfold Mr.dat; rw [Hk0.out]))
                have HG10 : Hid (w6.grownBy w10 (some w3.heap.size)) := Lib.hid (by
                  rcases HV.out with e | e
                  · subst e; exact only_next HG8.out hgy
                  · exact own_after' HG8.out hgy (fun q hq => by have h2 : some g = some q := hq; injection h2 with h2; omega))
                have HB10 := Lib.hid (HB8.out.grown hgy HB8.out.size (fun q hq => ownG_base HO8.out.1 hq))
                have hvb : v7.ownBlock = some g ∨ v7.ownBlock = some (w9.heap.size + 1) := by
                  rcases hat.out with e | e
                  · exact .inl e
                  · right; rw [e]; simp
                obtain ⟨A7, c7, hv7, _, _⟩ := hok
                obtain ⟨g7, hg7, hV7⟩ : ∃ g7, v7 = .slice (some ⟨g7, 0, none⟩) (D ++ [y]).length c7 ∧ (g7 = w3.heap.size ∨ w6.heap.size ≤ g7) := by
                  rcases hOy.1.2 with ⟨e, _⟩ | ⟨gg, cap, cur, e, _⟩
                  · rw [e] at hvb; rcases hvb with h | h <;> cases h
                  · refine ⟨gg, ?_, ?_⟩
                    · rw [e] at hv7 ⊢; injection hv7 with _ _ e3; rw [e3]
                    · rw [e] at hvb
                      rcases hvb with h | h
                      · have h2 : some gg = some g := h
                        injection h2 with h2; rw [h2]; exact HV.out
                      · have h2 : some gg = some (w9.heap.size + 1) := h
                        injection h2 with h2; right; omega
                have HV7 := Lib.hid hV7
                have HO10 : Hid (MrOwn w10 w.heap.size (.slice (some ⟨g7, 0, none⟩) (D ++ [y]).length c7) (D ++ [y])) := Lib.hid (by rw [← hg7]; exact hOy)
                clear hvb hV7 hv7 hOy hgy hyd hF hat HOa HBa HI9 HN9 hr9 hbs HD2 HO8 HG8 HO7 HG7 HV
                subst hg7
                obtain ⟨DL, hDL⟩ : ∃ DL, DL = (D ++ [y]).length := ⟨_, rfl⟩
                have HDL := Lib.hid hDL
                rw [← hDL]
                clear hDL
                go_wp2
                go_roundw
                case rel => exact ⟨k + 1, D ++ [y], g7, c7, by omega, by rw [HDL.out], by go_num, HD10, HO10, HV7, HG10, HB10⟩
                case measure => simp [intOf] <;> omega
              · have hch : chV x.at_ x.cut x.A x.n x.c = .iface 79 (.agg #[.int .i64 (x.at_ : Int), .int .i64 (x.cut : Int), .slice x.A x.n x.c]) := by unfold chV; rw [if_neg hm0, if_neg hk0]
                rw [hch] at HCh
                have hm1 : 1 ≤ x.n := by omega
                clear hk0 hm0 hch
                go_wp2_with fail
                refine (HCh.out _).mono ?_
                rintro e w8 ⟨rfl, hb8⟩
                have HO8 := Lib.hid (HO7.out.keep hb8)
                have HG8 := Lib.hid (grown_below HG7.out hb8)
                have HB8 := Lib.hid (below_next HB7.out hb8)
                have hs8 := hb8.size
                go_wp2_with fail
                refine (HMr2.out _ HB8.out hm1).mono ?_
                rintro e w9 ⟨A9, c9, rfl, hI9, hn9, hb9⟩
                have hal9 : Below w9.heap.size w9 (w9.alloc (.cells #[.int .i64 (x.at_ : Int), .int .i64 (x.cut : Int), .slice A9 x.n c9] 37)) := (Below.refl _ _).alloc (Nat.le_refl _) _
                have hs9 := hb9.size
                have HBa := Lib.hid (below_next hb9 hal9)
                have HI9 := Lib.hid (WdsIn.keep hI9 hal9)
                have HN9 : Hid (0 < x.n → ∀ p, A9 = some p → w8.heap.size ≤ p.block ∧ p.block < (w9.alloc (.cells #[.int .i64 (x.at_ : Int), .int .i64 (x.cut : Int), .slice A9 x.n c9] 37)).heap.size) := Lib.hid (fun hp p hpA => ⟨(hn9 hp p hpA).1, by have := (hn9 hp p hpA).2; simp; omega⟩)
                have hr9 := rowNewMk w9 (.int .i64 (x.at_ : Int)) (.int .i64 (x.cut : Int)) (.slice A9 x.n c9) 37
                have HOa := Lib.hid (HO8.out.keep HBa.out)
                have hbs : w.heap.size ≤ (w9.alloc (.cells #[.int .i64 (x.at_ : Int), .int .i64 (x.cut : Int), .slice A9 x.n c9] 37)).heap.size := by simp; omega
                clear hI9 hn9 hb9 hal9 hb8
                go_wp2_with (at_builtin; refine wpList_append_any _ rfl (.tmp 42) (.tmp 46) _ rfl w.heap.size 37 i0 _ 3 40 Try.underlying32 hi hz0 hz1 hz2 rfl (by omega) _ D.length (D.flatMap mkC) rfl HOa.out.1 (w9.heap.size + 1) (some ⟨w9.heap.size, 0, none⟩) 1 1 [.int .i64 (x.at_ : Int), .int .i64 (x.cut : Int), .slice A9 x.n c9] rfl hr9 (by simp [Value.oneCell']) (by unfold maxLen; omega) (by omega) hbs ?_; intro v7 w10 hown7 hg7 hat7; have hF := Lib.hid (FinRow.mk (k := x.cut) HBa.out HO8.out HI9.out HN9.out hown7 hg7 hat7); have hat := Lib.hid hat7; clear hown7 hg7 hat7)
                obtain ⟨y, hyd, _, hgy, hOy, _⟩ := hF.out
                have hok := ownG_form hOy.1
                have HD10 := Lib.hid (HD2.out y hyd)
                have HG10 : Hid (w6.grownBy w10 (some w3.heap.size)) := Lib.hid (by
                  rcases HV.out with e | e
                  · subst e; exact only_next HG8.out hgy
                  · exact own_after' HG8.out hgy (fun q hq => by have h2 : some g = some q := hq; injection h2 with h2; omega))
                have HB10 := Lib.hid (HB8.out.grown hgy HB8.out.size (fun q hq => ownG_base HO8.out.1 hq))
                have hvb : v7.ownBlock = some g ∨ v7.ownBlock = some (w9.heap.size + 1) := by
                  rcases hat.out with e | e
                  · exact .inl e
                  · right; rw [e]; simp
                obtain ⟨A7, c7, hv7, _, _⟩ := hok
                obtain ⟨g7, hg7, hV7⟩ : ∃ g7, v7 = .slice (some ⟨g7, 0, none⟩) (D ++ [y]).length c7 ∧ (g7 = w3.heap.size ∨ w6.heap.size ≤ g7) := by
                  rcases hOy.1.2 with ⟨e, _⟩ | ⟨gg, cap, cur, e, _⟩
                  · rw [e] at hvb; rcases hvb with h | h <;> cases h
                  · refine ⟨gg, ?_, ?_⟩
                    · rw [e] at hv7 ⊢; injection hv7 with _ _ e3; rw [e3]
                    · rw [e] at hvb
                      rcases hvb with h | h
                      · have h2 : some gg = some g := h
                        injection h2 with h2; rw [h2]; exact HV.out
                      · have h2 : some gg = some (w9.heap.size + 1) := h
                        injection h2 with h2; right; omega
                have HV7 := Lib.hid hV7
                have HO10 : Hid (MrOwn w10 w.heap.size (.slice (some ⟨g7, 0, none⟩) (D ++ [y]).length c7) (D ++ [y])) := Lib.hid (by rw [← hg7]; exact hOy)
                clear hvb hV7 hv7 hOy hgy hyd hF hat HOa HBa HI9 HN9 hr9 hbs HD2 HO8 HG8 HO7 HG7 HV
                subst hg7
                obtain ⟨DL, hDL⟩ : ∃ DL, DL = (D ++ [y]).length := ⟨_, rfl⟩
                have HDL := Lib.hid hDL
                rw [← hDL]
                clear hDL
                go_wp2
                go_roundw
                case rel => exact ⟨k + 1, D ++ [y], g7, c7, by omega, by rw [HDL.out], by go_num, HD10, HO10, HV7, HG10, HB10⟩
                case measure => simp [intOf] <;> omega
        · obtain rfl : k = n + n' := by omega
          have hd20 := HD20.out D HE.out
          have hokD := HOk.out wr _ _ D HO.out HE.out.mem
          have HSo := Lib.hid (sortStable g c1 w.heap.size D wr HO.out (fun x hx => (hokD x hx).1) hd20)
          have HOkD := Lib.hid hokD
          clear hokD HZs HD20 HOk
          obtain ⟨dn, hdn⟩ : ∃ dn, dn = D.length := ⟨_, rfl⟩
          rw [← hdn] at HSo hd20 HO ⊢
          have HDn := Lib.hid hdn
          clear hdn
          go_wp2_with fail
          refine HSo.out.mono ?_
          rintro e w7 ⟨rfl, D', hOu, hPe, hOw, hGr⟩
          have hlen := hPe.length_eq
          rw [← HDn.out] at hlen
          have HB7 := Lib.hid (HB.out.grown hGr hsr (fun q hq => by injection hq with hq; subst hq; exact ownG_base HO.out.1 rfl))
          have HE9 := Lib.hid (HMg.out D D' HE.out hPe hOu)
          have HI9 := Lib.hid (MrOwn.reads hOw hlen)
          have hok' : OkMs D' := fun x hx => HOkD.out x (hPe.mem_iff.1 hx)
          have HV9 := Lib.hid (HVD.out w7 _ dn c1 D' HB7.out hok' HI9.out)
          have HLd := Lib.hid hlen
          clear hOu hPe hOw hGr HSo HMg HE HO HOkD hok' HVD HB hlen
          cases hv : marksB ws (D'.map Mr.dat) with
          | true =>
            rw [hv] at HV9
            have HR9 : Hid (bothP ws (xs.map Mr.dat) (ys.map Mr.dat) = some (D'.map Mr.dat)) := Lib.hid (by rw [HR.out, ← HE9.out, if_pos hv])
            clear hv HR HE9
            go_wp2_with fail
            refine HV9.out.mono ?_
            rintro e w9 ⟨rfl, hb9⟩
            have HAns : Hid (MkAns w9 (bothP ws (xs.map Mr.dat) (ys.map Mr.dat)) (.returned (.tuple #[.slice (some ⟨g, 0, none⟩) dn c1, .bool true]))) := Lib.hid (.inr ⟨_, c1, D', HR9.out, by rw [HLd.out], by rw [HLd.out]; exact HI9.out.keep hb9⟩)
            go_wp2
            go_ret2
            exact ⟨HAns.out, below_next HB7.out hb9⟩
          | false =>
            rw [hv] at HV9
            have HR9 : Hid (bothP ws (xs.map Mr.dat) (ys.map Mr.dat) = none) := Lib.hid (by rw [HR.out, ← HE9.out, if_neg (by rw [hv]; simp)])
            clear hv HR HE9
            go_wp2_with fail
            refine HV9.out.mono ?_
            rintro e w9 ⟨rfl, hb9⟩
            go_wp2
            go_ret2
            exact ⟨.inl ⟨HR9.out, _, _, rfl, HZ.out _ _⟩, below_next HB7.out hb9⟩
end Go.Proofs.Ytlfhgmbmgbbnjaa
