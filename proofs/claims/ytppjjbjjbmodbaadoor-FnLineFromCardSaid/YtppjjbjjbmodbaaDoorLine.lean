/-
  LineValid and LineText of both. Conditions: the line is no longer than a law lets by.
-/
import Derived.Test.YtppjjbjjbmodbaaDoorLineDef
import Derived.Test.YtppjjbjjbmodbaaDoorShelf
import Derived.Test.YtppjjbjjbmodbaaDoorBase
import Derived.Test.YtppjjbjjbmodbaaDoorOwnG
namespace Go.Proofs.YtppjjbjjbmodbaaDoor
open Go.ChangeShapes Go.WideShapes Go.ChangeAt Go.RowKit
set_option maxRecDepth 100000

theorem specLineValid (A : Option Addr) (n c : Nat) (xs : List Wr) (w : World) (h : WrsIn w w.heap.size A n c xs) :
    Calls Tryd.prog 17 #[.slice A n c] w fun e w' => e = .returned (.bool (lineB (xs.map Wr.dat))) ∧ Below w.heap.size w w' := by
  have hnc := h.2.1; have hm := h.2.2.1
  unfold maxLen at hm
  have HL := Lib.hid h.1
  have H := Lib.hid h; clear h
  go_enter Tryd.func17, Tryd.ntmps17
  go_wp2
  go_loopw [3] (fun i wr => ∃ k : Nat, k ≤ n ∧ i = .int .i64 k ∧ Hid (∀ j, j < k → datB (wrAt xs j).dat = true) ∧ Below w.heap.size w wr) (fun i _ => n - (intOf i).toNat)
  case atStart => exact ⟨0, Nat.zero_le _, rfl, Lib.hid (fun j hj => by omega), Below.refl _ _⟩
  case round =>
    obtain ⟨k, hk, rfl, HG, hb⟩ := hrel
    by_cases hlt : k < n
    · have hkl : k < xs.length := by rw [HL.out]; exact hlt
      obtain ⟨b, off, eA, hbB, q0, q1, hW⟩ := (H.out.keep hb).at_ hlt
      have HV := Lib.hid (specWrittenValid _ _ _ _ (wrAt xs k).pos wr hW.1)
      have HNo := Lib.hid (fun h => lineB_no (dat_mem hkl) h)
      have HNx := Lib.hid (fun (h : datB (wrAt xs k).dat = true) j (hj : j < k + 1) => if e : j = k then e ▸ h else HG.out j (by omega))
      have HD : Hid (datB (wrAt xs k).dat = wrB (wrAt xs k).ss (wrAt xs k).pos) := Lib.hid rfl
      subst eA
      clear hW hkl HG
      generalize wrAt xs k = x at *
      cases hv : wrB x.ss x.pos with
      | false =>
        have HN := Lib.hid (HNo.out (by rw [HD.out]; exact hv))
        rw [hv] at HV
        clear hv HNo HNx HD
        go_wp2_with fail
        refine HV.out.mono ?_
        rintro e w1 ⟨rfl, hb1⟩
        have b1 := below_next hb hb1
        go_wp2
        go_returns
        exact ⟨ret_bool HN.out.symm, b1⟩
      | true =>
        have HN := Lib.hid (HNx.out (by rw [HD.out]; exact hv))
        rw [hv] at HV
        clear hv HNo HNx HD
        go_wp2_with fail
        refine HV.out.mono ?_
        rintro e w1 ⟨rfl, hb1⟩
        have b1 := below_next hb hb1
        clear hb1 q0 q1
        go_wp2
        go_roundw
        case rel => exact ⟨k + 1, by omega, by go_num, HN, b1⟩
        case measure => simp [intOf]; omega
    · obtain rfl : n = k := by omega
      have HR : Hid (lineB (xs.map Wr.dat) = decide ((n : Int) ≤ 20)) := Lib.hid (by
        rw [Bool.eq_iff_iff, lineB_iff, decide_eq_true_iff, List.length_map, HL.out]
        refine ⟨fun h => by omega, fun h => ⟨by omega, fun d hd => ?_⟩⟩
        obtain ⟨x, hx, rfl⟩ := List.mem_map.1 hd
        obtain ⟨j, hj, e⟩ := List.getElem_of_mem hx
        have := HG.out j (by rw [← HL.out]; exact hj)
        unfold wrAt at this
        rw [List.getD_eq_getElem?_getD, List.getElem?_eq_getElem hj] at this
        simp only [Option.getD_some] at this
        rw [e] at this; exact this)
      go_wp2
      go_returns
      exact ⟨ret_bool (by rw [HR.out]), hb⟩

theorem implLineValid (A : Option Addr) (n c : Nat) (xs : List Wr) (w : World) (h : WrsIn w w.heap.size A n c xs) :
    Calls Tryd.prog 13 #[.slice A n c] w fun e w' => e = .returned (.bool (lineB (xs.map Wr.dat))) ∧ Below w.heap.size w w' := by
  have hnc := h.2.1; have hm := h.2.2.1
  unfold maxLen at hm
  have HL := Lib.hid h.1
  have H := Lib.hid h; clear h
  by_cases h20 : 20 < n
  · have HN : Hid (lineB (xs.map Wr.dat) = false) := Lib.hid (lineB_long (by rw [List.length_map, HL.out]; exact h20))
    go_enter Tryd.func13, Tryd.ntmps13
    go_wp2
    go_returns
    exact ⟨ret_bool HN.out.symm, Below.refl _ _⟩
  go_enter Tryd.func13, Tryd.ntmps13
  go_wp2
  go_loopw [10] (fun i wr => ∃ k : Nat, k ≤ n ∧ i = .int .i64 k ∧ Hid (∀ j, j < k → datB (wrAt xs j).dat = true) ∧ Below w.heap.size w wr) (fun i _ => n - (intOf i).toNat)
  case atStart => exact ⟨0, Nat.zero_le _, rfl, Lib.hid (fun j hj => by omega), Below.refl _ _⟩
  case round =>
    obtain ⟨k, hk, rfl, HG, hb⟩ := hrel
    by_cases hlt : k < n
    · have hkl : k < xs.length := by rw [HL.out]; exact hlt
      obtain ⟨b, off, eA, hbB, q0, q1, hW⟩ := (H.out.keep hb).at_ hlt
      have hal : Below wr.heap.size wr (wr.alloc (.cells #[.slice (wrAt xs k).A (wrAt xs k).n (wrAt xs k).c, .int .i64 (wrAt xs k).pos] 36)) := (Below.refl _ _).alloc (Nat.le_refl _) _
      have HV := Lib.hid (implWrittenValid _ _ _ _ (wrAt xs k).pos _ (hW.1.keep hal))
      have HNo := Lib.hid (fun h => lineB_no (dat_mem hkl) h)
      have HNx := Lib.hid (fun (h : datB (wrAt xs k).dat = true) j (hj : j < k + 1) => if e : j = k then e ▸ h else HG.out j (by omega))
      have HD : Hid (datB (wrAt xs k).dat = wrB (wrAt xs k).ss (wrAt xs k).pos) := Lib.hid rfl
      have bA := below_next hb hal
      subst eA
      clear hW hkl HG hal
      generalize wrAt xs k = x at *
      cases hv : wrB x.ss x.pos with
      | false =>
        have HN := Lib.hid (HNo.out (by rw [HD.out]; exact hv))
        rw [hv] at HV
        clear hv HNo HNx HD
        go_wp2_with fail
        refine HV.out.mono ?_
        rintro e w1 ⟨rfl, hb1⟩
        have b1 := below_next bA hb1
        go_wp2
        go_returns
        exact ⟨ret_bool HN.out.symm, b1⟩
      | true =>
        have HN := Lib.hid (HNx.out (by rw [HD.out]; exact hv))
        rw [hv] at HV
        clear hv HNo HNx HD
        go_wp2_with fail
        refine HV.out.mono ?_
        rintro e w1 ⟨rfl, hb1⟩
        have b1 := below_next bA hb1
        clear hb1 q0 q1
        go_wp2
        go_roundw
        case rel => exact ⟨k + 1, by omega, by go_num, HN, b1⟩
        case measure => simp [intOf]; omega
    · obtain rfl : n = k := by omega
      have HR : Hid (lineB (xs.map Wr.dat) = true) := Lib.hid (by
        rw [lineB_iff, List.length_map, HL.out]
        refine ⟨by omega, fun d hd => ?_⟩
        obtain ⟨x, hx, rfl⟩ := List.mem_map.1 hd
        obtain ⟨j, hj, e⟩ := List.getElem_of_mem hx
        have := HG.out j (by rw [← HL.out]; exact hj)
        unfold wrAt at this
        rw [List.getD_eq_getElem?_getD, List.getElem?_eq_getElem hj] at this
        simp only [Option.getD_some] at this
        rw [e] at this; exact this)
      go_wp2
      go_returns
      exact ⟨ret_bool (by rw [HR.out]), hb⟩

theorem specLineText (A : Option Addr) (n c : Nat) (xs : List Wr) (w : World) (h : WrsIn w w.heap.size A n c xs) :
    Calls Tryd.prog 7 #[.slice A n c] w fun e w' => e = .returned (.string (mkStr (lineText (xs.map Wr.dat)))) ∧ Below w.heap.size w w' := by
  have hnc := h.2.1; have hm := h.2.2.1
  unfold maxLen at hm
  have HL := Lib.hid h.1
  have H := Lib.hid h; clear h
  have HV : Hid (∀ W, Below w.heap.size w W → Calls Tryd.prog 17 #[.slice A n c] W fun e w' => e = .returned (.bool (lineB (xs.map Wr.dat))) ∧ Below W.heap.size W w') := Lib.hid (fun W hW => specLineValid A n c xs W (H.out.keep hW))
  cases hv : lineB (xs.map Wr.dat) with
  | false =>
    have HR := Lib.hid (lineText_no hv)
    rw [hv] at HV
    clear hv
    go_enter Tryd.func7, Tryd.ntmps7
    go_wp2
    go_loopw [3, 4] (fun t i wr => t = .string (mkStr []) ∧ i = .int .i64 0 ∧ Below w.heap.size w wr) (fun _ _ _ => 0)
    case atStart => exact ⟨rfl, rfl, Below.refl _ _⟩
    case round =>
      obtain ⟨rfl, rfl, hb⟩ := hrel
      by_cases hlt : 0 < n
      · go_wp2_with fail
        refine (HV.out _ hb).mono ?_
        rintro e w1 ⟨rfl, hb1⟩
        have b1 := below_next hb hb1
        go_wp2
        go_returns
        exact ⟨ret_str HR.out.symm, b1⟩
      · obtain rfl : n = 0 := by omega
        go_wp2
        go_returns
        exact ⟨ret_str HR.out.symm, hb⟩
  | true =>
    have HR := Lib.hid (lineText_yes hv)
    have h20 := (lineB_iff.1 hv).1
    rw [List.length_map, HL.out] at h20
    rw [hv] at HV
    clear hv
    go_enter Tryd.func7, Tryd.ntmps7
    go_wp2
    go_loopw [3, 4] (fun t i wr => ∃ k : Nat, k ≤ n ∧ i = .int .i64 k ∧ t = .string (mkStr (lineK xs k)) ∧ Below w.heap.size w wr) (fun _ i _ => n - (intOf i).toNat)
    case atStart => exact ⟨0, Nat.zero_le _, rfl, rfl, Below.refl _ _⟩
    case round =>
      obtain ⟨k, hk, rfl, rfl, hb⟩ := hrel
      by_cases hlt : k < n
      · have hkl : k < xs.length := by rw [HL.out]; exact hlt
        have HT : Hid (∀ W, Below w.heap.size w W → Calls Tryd.prog 18 #[.agg #[.slice (wrAt xs k).A (wrAt xs k).n (wrAt xs k).c, .int .i64 (wrAt xs k).pos]] W fun e w' => e = .returned (.string (mkStr (datT (wrAt xs k).dat))) ∧ Below W.heap.size W w') := Lib.hid (fun W hW => by
          obtain ⟨b, off, eA, hbB, q0, q1, hX⟩ := (H.out.keep hW).at_ hlt
          exact specWrittenText _ _ _ _ _ W hX.1)
        have hl1 := lineK_len xs k
        have hl2 := datT_len (wrAt xs k).dat
        by_cases hk0 : 0 < k
        · have hA1 : ∀ W, (Op.stringOp .add (mkStr (lineK xs k)) ({ data := #[32] })).run Tryd.prog W = .ok (.string (mkStr (lineK xs k ++ [32]))) W := fun W => run_add _ [32] (by simp; omega) W
          have hA2 : ∀ W, (Op.stringOp .add (mkStr (lineK xs k ++ [32])) (mkStr (datT (wrAt xs k).dat))).run Tryd.prog W = .ok (.string (mkStr (lineK xs (k + 1)))) W := fun W => by
            rw [run_add _ _ (by simp; omega) W, lineK_step hkl hk0, List.append_assoc]
          clear hl1 hl2
          go_wp2_with fail
          refine (HV.out _ hb).mono ?_
          rintro e w1 ⟨rfl, hb1⟩
          have b1 := below_next hb hb1
          obtain ⟨b, off, eA, hbB, q0, q1, hg⟩ := (H.out.keep b1).at_ hlt
          subst eA
          clear hb1 hg hkl
          generalize wrAt xs k = x at *
          generalize datT x.dat = dt at *
          go_wp2_with fail
          refine (HT.out _ b1).mono ?_
          rintro e w2 ⟨rfl, hb2⟩
          have b2 := below_next b1 hb2
          clear hb2 q0 q1
          go_wp2
          go_roundw
          case rel => exact ⟨k + 1, by omega, by go_num, rfl, b2⟩
          case measure => simp [intOf]; omega
        · obtain rfl : k = 0 := by omega
          have hA2 : ∀ W, (Op.stringOp .add (mkStr (lineK xs 0)) (mkStr (datT (wrAt xs 0).dat))).run Tryd.prog W = .ok (.string (mkStr (lineK xs (0 + 1)))) W := fun W => by
            rw [run_add _ _ (by omega) W, lineK_first hkl, lineK_zero, List.nil_append]
          clear hl1 hl2 hk0
          go_wp2_with fail
          refine (HV.out _ hb).mono ?_
          rintro e w1 ⟨rfl, hb1⟩
          have b1 := below_next hb hb1
          obtain ⟨b, off, eA, hbB, q0, q1, hg⟩ := (H.out.keep b1).at_ hlt
          subst eA
          simp only [Nat.zero_mul, Nat.add_zero] at q0 q1
          clear hb1 hg hkl
          generalize wrAt xs 0 = x at *
          generalize datT x.dat = dt at *
          go_wp2_with fail
          refine (HT.out _ b1).mono ?_
          rintro e w2 ⟨rfl, hb2⟩
          have b2 := below_next b1 hb2
          clear hb2 q0 q1
          go_wp2
          go_roundw
          case rel => exact ⟨0 + 1, by omega, rfl, rfl, b2⟩
          case measure => simp [intOf]; omega
      · have HE : Hid (lineK xs k = lineText (xs.map Wr.dat)) := Lib.hid (by rw [lineK_all xs (by rw [HL.out]; omega), HR.out])
        go_wp2
        go_returns
        exact ⟨ret_str HE.out, hb⟩

theorem infoStr : (Tryd.prog.info? 9).map (fun i => (i.zero, i.size, i.bytes)) = some (some (.string ByteArray.empty), 1, 16) := by kernel_rfl
theorem rowStr (w : World) (u : Value) (t : TypeId) : Row (w.alloc (.cells #[u] t)) (w.heap.size + 1) (some ⟨w.heap.size, 0, none⟩) 1 1 [u] :=
  ⟨rfl, fun _ => ⟨w.heap.size, 0, rfl, by omega, fun j x hx => by
    rcases j with _ | j
    · simp at hx; subst hx; exact newcell w #[u] t 0 u rfl
    · simp at hx⟩⟩
def strV (d : Dat) : Value := .string (mkStr (datT d))

set_option maxHeartbeats 800000 in
theorem implLineText (A : Option Addr) (n c : Nat) (xs : List Wr) (w : World) (h : WrsIn w w.heap.size A n c xs) :
    Calls Tryd.prog 6 #[.slice A n c] w fun e w' => e = .returned (.string (mkStr (lineText (xs.map Wr.dat)))) ∧ Below w.heap.size w w' := by
  have hnc := h.2.1; have hm := h.2.2.1
  unfold maxLen at hm
  have HL := Lib.hid h.1
  have HV := Lib.hid (implLineValid A n c xs w h)
  have H := Lib.hid h; clear h
  obtain ⟨i0, hi, hz0, hz1, hz2⟩ := info_parts infoStr
  cases hv : lineB (xs.map Wr.dat) with
  | false =>
    have HR := Lib.hid (lineText_no hv)
    rw [hv] at HV
    clear hv
    go_enter Tryd.func6, Tryd.ntmps6
    go_wp2_with fail
    refine HV.out.mono ?_
    rintro e w1 ⟨rfl, b1⟩
    go_wp2
    go_returns
    exact ⟨ret_str (a := []) HR.out.symm, b1⟩
  | true =>
    have HR := Lib.hid (lineText_yes hv)
    have h20 := (lineB_iff.1 hv).1
    rw [List.length_map, HL.out] at h20
    rw [hv] at HV
    clear hv
    go_enter Tryd.func6, Tryd.ntmps6
    go_wp2_with fail
    refine HV.out.mono ?_
    rintro e w1 ⟨rfl, b1⟩
    go_wp2
    go_loopw [3, 12] (fun v i wr => ∃ k : Nat, k ≤ n ∧ i = .int .i64 k ∧ Hid (wr.ownsRow w1.heap.size 9 1 v k (((xs.take k).map Wr.dat).map strV)) ∧ Below w1.heap.size w1 wr) (fun _ i _ => n - (intOf i).toNat)
    case atStart =>
      refine ⟨0, Nat.zero_le _, rfl, Lib.hid ?_, (Below.refl _ _).alloc (Nat.le_refl _) _⟩
      exact World.ownsRow_made w1 #[] 0 (Nat.le_refl _) (by simp) (by simp)
    case round =>
      obtain ⟨k, hk, rfl, HO, hb⟩ := hrel
      have b2 := below_next b1 hb
      have hz := hb.size
      by_cases hlt : k < n
      · have hkl : k < xs.length := by rw [HL.out]; exact hlt
        obtain ⟨b, off, eA, hbB, q0, q1, hX⟩ := (H.out.keep b2).at_ hlt
        have hal : Below wr.heap.size wr (wr.alloc (.cells #[.slice (wrAt xs k).A (wrAt xs k).n (wrAt xs k).c, .int .i64 (wrAt xs k).pos] 36)) := (Below.refl _ _).alloc (Nat.le_refl _) _
        have HT := Lib.hid (implWrittenText _ _ _ _ (wrAt xs k).pos _ (hX.1.keep hal))
        have HSt : Hid (((xs.take (k + 1)).map Wr.dat).map strV = ((xs.take k).map Wr.dat).map strV ++ [.string (mkStr (wrText (wrAt xs k).ss (wrAt xs k).pos))]) := Lib.hid (by
          have e : xs.take (k + 1) = xs.take k ++ [wrAt xs k] := by
            rw [List.take_succ_eq_append_getElem hkl]
            have : xs[k] = wrAt xs k := by unfold wrAt; rw [List.getD_eq_getElem?_getD, List.getElem?_eq_getElem hkl]; rfl
            rw [this]
          rw [e, List.map_append, List.map_append]; rfl)
        have bA := hb.alloc hz (.cells #[.slice (wrAt xs k).A (wrAt xs k).n (wrAt xs k).c, .int .i64 (wrAt xs k).pos] 36)
        have HOA := Lib.hid (HO.out.alloc (.cells #[.slice (wrAt xs k).A (wrAt xs k).n (wrAt xs k).c, .int .i64 (wrAt xs k).pos] 36))
        subst eA
        clear hX hkl hal HO
        generalize wrAt xs k = x at *
        generalize mkStr (wrText x.ss x.pos) = t at *
        generalize ((xs.take k).map Wr.dat).map strV = L at *
        go_wp2_with fail
        refine HT.out.mono ?_
        rintro e w3 ⟨rfl, hb3⟩
        have b3 := bA.trans (hb3.mono (by simp; omega))
        have HO3 := Lib.hid (ownG_keep HOA.out hb3)
        have hz3 := b3.size
        clear hb3 HOA q0 q1
        go_wp2_with (at_builtin; refine wpList_append_any _ rfl (.tmp 16) (.tmp 19) _ rfl w1.heap.size 9 i0 _ 1 16 Tryd.underlying33 hi hz0 hz1 hz2 rfl (by omega) _ k L rfl (HO3.out.alloc _) (w3.heap.size + 1) (some ⟨w3.heap.size, 0, none⟩) 1 1 [.string t] rfl (rowStr _ _ _) (by simp [Value.oneCell']) (by unfold maxLen; omega) (by omega) (by simp; omega) ?_; intro v4 w4 hown4 hg4 hat4)
        have HO4 : Hid (w4.ownsRow w1.heap.size 9 1 v4 (k + 1) (((xs.take (k + 1)).map Wr.dat).map strV)) := Lib.hid (by rw [HSt.out]; exact hown4)
        have b4 : Below w1.heap.size w1 w4 := (b3.alloc hz3 _).grown hg4 (by simp; omega) (fun z hz => ownG_base HO3.out hz)
        clear hown4 hg4 hat4 HO3
        go_wp2
        go_roundw
        case rel => exact ⟨k + 1, by omega, by go_num, HO4, b4⟩
        case measure => simp [intOf]; omega
      · obtain rfl : n = k := by omega
        rw [List.take_of_length_le (by rw [HL.out]; exact Nat.le_refl _)] at HO
        obtain ⟨A4, c4, rfl, hc4, hm4⟩ := ownG_form HO.out
        have HJ : Hid (Calls Tryd.prog 16 #[.slice A4 n c4, .string { data := #[32] }] wr fun e w' => e = .returned (.string (mkStr (lineT (xs.map Wr.dat)))) ∧ Below wr.heap.size wr w') := Lib.hid (by
          have hO := HO.out
          have hle : (xs.map Wr.dat).length = n := by rw [List.length_map]; exact HL.out
          generalize xs.map Wr.dat = D at *
          by_cases h0 : n = 0
          · subst h0
            have hD : D = [] := List.length_eq_zero_iff.1 hle
            subst hD
            exact (Tryd.strings_Join_none A4 c4 _ wr).mono fun e w' ⟨he, hw⟩ => ⟨he, by rw [hw]; exact Below.refl _ _⟩
          · obtain ⟨g, cap, hv, _, hlt⟩ := hO.form (by omega)
            have hA : A4 = some ⟨g, 0, none⟩ := by injection hv
            subst hA
            have hS : (D.map fun d => mkStr (datT d)).length = n := by rw [List.length_map]; exact hle
            have hJ := Tryd.strings_Join g 0 c4 (D.map fun d => mkStr (datT d)) { data := #[32] } wr (fun j x hx => by
              rw [List.getElem?_map] at hx
              cases hd : D[j]? with
              | none => rw [hd] at hx; cases hx
              | some d =>
                rw [hd] at hx
                injection hx with hx
                subst hx
                have : wr.cell? (Addr.add ⟨g, 0, none⟩ j) = some (.string (mkStr (datT d))) := hO.cells (g := g) rfl j (strV d) (by rw [List.getElem?_map, hd]; rfl)
                by_cases hj0 : j = 0
                · subst hj0; simpa [Addr.add] using this
                · simpa [Addr.add, hj0] using this) hlt (by rw [hS]; omega) (by rw [hS]; exact hc4) (by
              have := lineT_len D
              unfold lineT at this
              rw [show (D.map fun d => mkStr (datT d)).map (·.data.toList) = D.map datT by rw [List.map_map]; rfl]
              show (Lib.join (D.map datT) [32]).length ≤ _
              omega)
            rw [hS] at hJ
            rw [show (D.map fun d => mkStr (datT d)).map (·.data.toList) = D.map datT by rw [List.map_map]; rfl] at hJ
            exact hJ)
        have HR2 : Hid (lineT (xs.map Wr.dat) = lineText (xs.map Wr.dat)) := Lib.hid HR.out.symm
        clear HO
        go_wp2_with fail
        refine HJ.out.mono ?_
        rintro e w3 ⟨rfl, hb3⟩
        have b3 := below_next b2 hb3
        go_wp2
        go_returns
        exact ⟨ret_str HR2.out, b3⟩
end Go.Proofs.YtppjjbjjbmodbaaDoor
