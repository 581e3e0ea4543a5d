/-
  OutlineText of both. Conditions: none.
-/
import Derived.Test.YtppjjbjjbmodbaaOutValid
namespace Go.Proofs.Ytppjjbjjbmodbaa
open Go.ChangeShapes Go.WideShapes Go.ChangeAt Go.RowKit
set_option maxRecDepth 100000

theorem ret_str {a b : List UInt8} (h : a = b) : Ending.returned (.string (mkStr a)) = .returned (.string (mkStr b)) := by rw [h]
theorem text_step {ss : List Stroke} {k : Nat} (h : k < ss.length) : textS (ss.take (k + 1)) = textS (ss.take k) ++ sText (strokeAt ss k) := by
  unfold textS
  rw [List.take_succ_eq_append_getElem h, List.flatMap_append]
  have e : ss[k] = strokeAt ss k := by unfold strokeAt; rw [List.getD_eq_getElem?_getD, List.getElem?_eq_getElem h]; rfl
  rw [e]; simp

set_option maxHeartbeats 1000000 in
theorem specOutlineText (A : Option Addr) (n c : Nat) (ss : List Stroke) (w : World) (h : StrokesIn w w.heap.size A n c ss) :
    Calls Try.prog 90 #[.slice A n c] w fun e w' => e = .returned (.string (mkStr (outText ss))) ∧ Below w.heap.size w w' := by
  have hnc := h.2.1; have hm := h.2.2.1
  unfold maxLen at hm
  have HL := Lib.hid h.1
  have H := Lib.hid h; clear h
  have HV : Hid (∀ W, Below w.heap.size w W → Calls Try.prog 88 #[.slice A n c] W fun e w' => e = .returned (.bool (outB ss)) ∧ Below W.heap.size W w') := Lib.hid (fun W hW => specOutlineValid A n c ss W (H.out.keep hW))
  cases ho : outB ss with
  | false =>
    have HR := Lib.hid (outText_no ho)
    rw [ho] at HV
    clear ho
    go_enter Try.func90, Try.ntmps90
    go_wp2
    go_loopw [3, 4] (fun t i wr => t = .string (mkStr []) ∧ i = .int .i64 0 ∧ Below w.heap.size w wr) (fun _ _ _ => 0)
    case atStart => exact ⟨rfl, rfl, Below.refl _ _⟩
    case round =>
      obtain ⟨rfl, rfl, hb⟩ := hrel
      by_cases hlt : 0 < n
      · go_wp2_with fail
        refine (HV.out _ hb).mono ?_
        rintro e w1 ⟨rfl, hb1⟩
        have b1 := below_next hb hb1
        go_wp2
        go_returns
        exact ⟨ret_str HR.out.symm, b1⟩
      · obtain rfl : n = 0 := by omega
        go_wp2
        go_returns
        exact ⟨ret_str HR.out.symm, hb⟩
  | true =>
    have HR := Lib.hid (outText_yes ho)
    have HO := Lib.hid ho
    have h8 := outB_len ho
    rw [HL.out] at h8
    rw [ho] at HV
    clear ho
    go_enter Try.func90, Try.ntmps90
    go_wp2
    go_loopw [3, 4] (fun t i wr => ∃ k : Nat, k ≤ n ∧ i = .int .i64 k ∧ t = .string (mkStr (textS (ss.take k))) ∧ Below w.heap.size w wr) (fun _ i _ => n - (intOf i).toNat)
    case atStart => exact ⟨0, Nat.zero_le _, rfl, rfl, Below.refl _ _⟩
    case round =>
      obtain ⟨k, hk, rfl, rfl, hb⟩ := hrel
      by_cases hlt : k < n
      · have hkl : k < ss.length := by rw [HL.out]; exact hlt
        have HTx := Lib.hid (text_step hkl)
        have hA : ∀ W, (Op.stringOp .add (mkStr (textS (ss.take k))) (mkStr (sText (strokeAt ss k)))).run Try.prog W = .ok (.string (mkStr (textS (ss.take k) ++ sText (strokeAt ss k)))) W := fun W => run_add _ _ (by rw [textS_len, List.length_take, sText_len]; omega) W
        have HS := Lib.hid (fun W => specStrokeText (strokeAt ss k) W)
        rw [if_pos (outB_ok HO.out (strokeAt_mem hkl))] at HS
        rw [← HTx.out] at hA
        clear hkl
        go_wp2_with fail
        refine (HV.out _ hb).mono ?_
        rintro e w1 ⟨rfl, hb1⟩
        have b1 := below_next hb hb1
        obtain ⟨b, off, eA, hbB, q0, q1, hg⟩ := (H.out.keep b1).at_ hlt
        subst eA
        clear hb1 hg
        generalize strokeAt ss k = s at *
        generalize sText s = st at *
        generalize textS (ss.take k) = tx at *
        go_wp2_with fail
        refine (HS.out _).mono ?_
        rintro e w2 ⟨rfl, hb2⟩
        have b2 := below_next b1 hb2
        clear hb2 q0 q1
        go_wp2
        go_roundw
        case rel => exact ⟨k + 1, by omega, by go_num, rfl, b2⟩
        case measure => simp [intOf]; omega
      · have e : ss.take k = ss := List.take_of_length_le (by rw [HL.out]; omega)
        have HE : Hid (textS (ss.take k) = outText ss) := Lib.hid (by rw [e, HR.out])
        clear e
        go_wp2
        go_returns
        exact ⟨ret_str HE.out, hb⟩

end Go.Proofs.Ytppjjbjjbmodbaa
