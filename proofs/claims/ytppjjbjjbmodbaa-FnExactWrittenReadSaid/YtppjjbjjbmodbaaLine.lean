/-
  LineValid and LineText of both. Conditions: the line is no longer than a law lets by.
-/
import Derived.Test.YtppjjbjjbmodbaaLineDef
import Derived.Test.YtppjjbjjbmodbaaBase
import Derived.Test.YtppjjbjjbmodbaaOwnG
namespace Go.Proofs.Ytppjjbjjbmodbaa
open Go.ChangeShapes Go.WideShapes Go.ChangeAt Go.RowKit
set_option maxRecDepth 100000

theorem specLineValid (A : Option Addr) (n c : Nat) (xs : List Wr) (w : World) (h : WrsIn w w.heap.size A n c xs) :
    Calls Try.prog 65 #[.slice A n c] w fun e w' => e = .returned (.bool (lineB (xs.map Wr.dat))) ∧ Below w.heap.size w w' := by
  have hnc := h.2.1; have hm := h.2.2.1
  unfold maxLen at hm
  have HL := Lib.hid h.1
  have H := Lib.hid h; clear h
  go_enter Try.func65, Try.ntmps65
  go_wp2
  go_loopw [3] (fun i wr => ∃ k : Nat, k ≤ n ∧ i = .int .i64 k ∧ Hid (∀ j, j < k → datB (wrAt xs j).dat = true) ∧ Below w.heap.size w wr) (fun i _ => n - (intOf i).toNat)
  case atStart => exact ⟨0, Nat.zero_le _, rfl, Lib.hid (fun j hj => by omega), Below.refl _ _⟩
  case round =>
    obtain ⟨k, hk, rfl, HG, hb⟩ := hrel
    by_cases hlt : k < n
    · have hkl : k < xs.length := by rw [HL.out]; exact hlt
      obtain ⟨b, off, eA, hbB, q0, q1, hW⟩ := (H.out.keep hb).at_ hlt
      have HV := Lib.hid (specWrittenValid _ _ _ _ (wrAt xs k).pos wr hW.1)
      have HNo := Lib.hid (fun h => lineB_no (dat_mem hkl) h)
      have HNx := Lib.hid (fun (h : datB (wrAt xs k).dat = true) j (hj : j < k + 1) => if e : j = k then e ▸ h else HG.out j (by omega))
      have HD : Hid (datB (wrAt xs k).dat = wrB (wrAt xs k).ss (wrAt xs k).pos) := Lib.hid rfl
      subst eA
      clear hW hkl HG
      generalize wrAt xs k = x at *
      cases hv : wrB x.ss x.pos with
      | false =>
        have HN := Lib.hid (HNo.out (by rw [HD.out]; exact hv))
        rw [hv] at HV
        clear hv HNo HNx HD
        go_wp2_with fail
        refine HV.out.mono ?_
        rintro e w1 ⟨rfl, hb1⟩
        have b1 := below_next hb hb1
        go_wp2
        go_returns
        exact ⟨ret_bool HN.out.symm, b1⟩
      | true =>
        have HN := Lib.hid (HNx.out (by rw [HD.out]; exact hv))
        rw [hv] at HV
        clear hv HNo HNx HD
        go_wp2_with fail
        refine HV.out.mono ?_
        rintro e w1 ⟨rfl, hb1⟩
        have b1 := below_next hb hb1
        clear hb1 q0 q1
        go_wp2
        go_roundw
        case rel => exact ⟨k + 1, by omega, by go_num, HN, b1⟩
        case measure => simp [intOf]; omega
    · obtain rfl : n = k := by omega
      have HR : Hid (lineB (xs.map Wr.dat) = decide ((n : Int) ≤ 20)) := Lib.hid (by
        rw [Bool.eq_iff_iff, lineB_iff, decide_eq_true_iff, List.length_map, HL.out]
        refine ⟨fun h => by omega, fun h => ⟨by omega, fun d hd => ?_⟩⟩
        obtain ⟨x, hx, rfl⟩ := List.mem_map.1 hd
        obtain ⟨j, hj, e⟩ := List.getElem_of_mem hx
        have := HG.out j (by rw [← HL.out]; exact hj)
        unfold wrAt at this
        rw [List.getD_eq_getElem?_getD, List.getElem?_eq_getElem hj] at this
        simp only [Option.getD_some] at this
        rw [e] at this; exact this)
      go_wp2
      go_returns
      exact ⟨ret_bool (by rw [HR.out]), hb⟩

theorem implLineValid (A : Option Addr) (n c : Nat) (xs : List Wr) (w : World) (h : WrsIn w w.heap.size A n c xs) :
    Calls Try.prog 51 #[.slice A n c] w fun e w' => e = .returned (.bool (lineB (xs.map Wr.dat))) ∧ Below w.heap.size w w' := by
  have hnc := h.2.1; have hm := h.2.2.1
  unfold maxLen at hm
  have HL := Lib.hid h.1
  have H := Lib.hid h; clear h
  by_cases h20 : 20 < n
  · have HN : Hid (lineB (xs.map Wr.dat) = false) := Lib.hid (lineB_long (by rw [List.length_map, HL.out]; exact h20))
    go_enter Try.func51, Try.ntmps51
    go_wp2
    go_returns
    exact ⟨ret_bool HN.out.symm, Below.refl _ _⟩
  go_enter Try.func51, Try.ntmps51
  go_wp2
  go_loopw [10] (fun i wr => ∃ k : Nat, k ≤ n ∧ i = .int .i64 k ∧ Hid (∀ j, j < k → datB (wrAt xs j).dat = true) ∧ Below w.heap.size w wr) (fun i _ => n - (intOf i).toNat)
  case atStart => exact ⟨0, Nat.zero_le _, rfl, Lib.hid (fun j hj => by omega), Below.refl _ _⟩
  case round =>
    obtain ⟨k, hk, rfl, HG, hb⟩ := hrel
    by_cases hlt : k < n
    · have hkl : k < xs.length := by rw [HL.out]; exact hlt
      obtain ⟨b, off, eA, hbB, q0, q1, hW⟩ := (H.out.keep hb).at_ hlt
      have hal : Below wr.heap.size wr (wr.alloc (.cells #[.slice (wrAt xs k).A (wrAt xs k).n (wrAt xs k).c, .int .i64 (wrAt xs k).pos] 35)) := (Below.refl _ _).alloc (Nat.le_refl _) _
      have HV := Lib.hid (implWrittenValid _ _ _ _ (wrAt xs k).pos _ (hW.1.keep hal))
      have HNo := Lib.hid (fun h => lineB_no (dat_mem hkl) h)
      have HNx := Lib.hid (fun (h : datB (wrAt xs k).dat = true) j (hj : j < k + 1) => if e : j = k then e ▸ h else HG.out j (by omega))
      have HD : Hid (datB (wrAt xs k).dat = wrB (wrAt xs k).ss (wrAt xs k).pos) := Lib.hid rfl
      have bA := below_next hb hal
      subst eA
      clear hW hkl HG hal
      generalize wrAt xs k = x at *
      cases hv : wrB x.ss x.pos with
      | false =>
        have HN := Lib.hid (HNo.out (by rw [HD.out]; exact hv))
        rw [hv] at HV
        clear hv HNo HNx HD
        go_wp2_with fail
        refine HV.out.mono ?_
        rintro e w1 ⟨rfl, hb1⟩
        have b1 := below_next bA hb1
        go_wp2
        go_returns
        exact ⟨ret_bool HN.out.symm, b1⟩
      | true =>
        have HN := Lib.hid (HNx.out (by rw [HD.out]; exact hv))
        rw [hv] at HV
        clear hv HNo HNx HD
        go_wp2_with fail
        refine HV.out.mono ?_
        rintro e w1 ⟨rfl, hb1⟩
        have b1 := below_next bA hb1
        clear hb1 q0 q1
        go_wp2
        go_roundw
        case rel => exact ⟨k + 1, by omega, by go_num, HN, b1⟩
        case measure => simp [intOf]; omega
    · obtain rfl : n = k := by omega
      have HR : Hid (lineB (xs.map Wr.dat) = true) := Lib.hid (by
        rw [lineB_iff, List.length_map, HL.out]
        refine ⟨by omega, fun d hd => ?_⟩
        obtain ⟨x, hx, rfl⟩ := List.mem_map.1 hd
        obtain ⟨j, hj, e⟩ := List.getElem_of_mem hx
        have := HG.out j (by rw [← HL.out]; exact hj)
        unfold wrAt at this
        rw [List.getD_eq_getElem?_getD, List.getElem?_eq_getElem hj] at this
        simp only [Option.getD_some] at this
        rw [e] at this; exact this)
      go_wp2
      go_returns
      exact ⟨ret_bool (by rw [HR.out]), hb⟩

theorem infoStr : (Try.prog.info? 9).map (fun i => (i.zero, i.size, i.bytes)) = some (some (.string ByteArray.empty), 1, 16) := by kernel_rfl
theorem rowStr (w : World) (u : Value) (t : TypeId) : Row (w.alloc (.cells #[u] t)) (w.heap.size + 1) (some ⟨w.heap.size, 0, none⟩) 1 1 [u] :=
  ⟨rfl, fun _ => ⟨w.heap.size, 0, rfl, by omega, fun j x hx => by
    rcases j with _ | j
    · simp at hx; subst hx; exact newcell w #[u] t 0 u rfl
    · simp at hx⟩⟩
def strV (d : Dat) : Value := .string (mkStr (datT d))

end Go.Proofs.Ytppjjbjjbmodbaa
