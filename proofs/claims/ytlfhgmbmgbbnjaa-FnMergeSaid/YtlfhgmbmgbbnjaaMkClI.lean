/-
  Clashes of two lists of valid marks, of the program. Conditions: the lists lie in memory; the numbers are small.
-/
import Derived.Test.YtlfhgmbmgbbnjaaMkFn
import Derived.Test.YtlfhgmbmgbbnjaaMkValI
namespace Go.Proofs.Ytlfhgmbmgbbnjaa
open Go.ChangeShapes Go.WideShapes Go.ChangeAt Go.RowKit Go.Shelf
set_option maxRecDepth 100000
set_option linter.unusedSimpArgs false
set_option linter.unusedVariables false

def NoAny (p : Mr → Bool) (xs : List Mr) (k : Nat) : Prop := ∀ i, i < k → p (mrAt xs i) = false
theorem NoAny.done {p : Mr → Bool} {xs : List Mr} (h : NoAny p xs xs.length) : xs.any p = false := by
  rw [List.any_eq_false]
  intro x hx
  obtain ⟨j, hj, rfl⟩ := List.getElem_of_mem hx
  have := mrAt_some (xs := xs) hj
  rw [List.getElem?_eq_getElem hj] at this
  injection this with this
  rw [this, h j hj]; simp
theorem any_yes {p : Mr → Bool} {xs : List Mr} {k : Nat} (hk : k < xs.length) (h : p (mrAt xs k) = true) : xs.any p = true := List.any_eq_true.2 ⟨_, mrAt_mem hk, h⟩
theorem NoAny.succ {p : Mr → Bool} {xs : List Mr} {k : Nat} (h : NoAny p xs k) (h2 : p (mrAt xs k) = false) : NoAny p xs (k + 1) := fun i hi => by
  rcases Nat.lt_or_ge i k with h3 | h3
  · exact h i h3
  · have e : i = k := by omega
    rw [e]; exact h2
set_option maxHeartbeats 1600000 in
theorem implMarksClash (A0 : Option Addr) (n0 c0 : Nat) (ws : List Wd) (A : Option Addr) (n c : Nat) (xs : List Mr) (A' : Option Addr) (n' c' : Nat) (ys : List Mr) (w : World) (hW : ∀ l ∈ ws, l.length ≤ maxLen) (hX : OkMs xs) (hY : OkMs ys)
    (h0 : WdsIn w w.heap.size A0 n0 c0 ws) (h : MrsIn w w.heap.size A n c xs) (h' : MrsIn w w.heap.size A' n' c' ys) (hv1 : marksB ws (xs.map Mr.dat) = true) (hv2 : marksB ws (ys.map Mr.dat) = true) :
    Calls Try.prog 38 #[.slice A0 n0 c0, .slice A n c, .slice A' n' c'] w fun e w' => e = .returned (.bool (clashB (xs.map Mr.dat) (ys.map Mr.dat))) ∧ Below w.heap.size w w' := by
  have HV1 : Hid (∀ W, Below w.heap.size w W → Calls Try.prog 37 #[.slice A0 n0 c0, .slice A n c] W fun e w' => e = .returned (.bool true) ∧ Below W.heap.size W w') := Lib.hid (fun W hb => by have := implMarksValid A0 n0 c0 ws A n c xs W hW hX (h0.keep hb) (h.keep hb); rwa [hv1] at this)
  have HV2 : Hid (∀ W, Below w.heap.size w W → Calls Try.prog 37 #[.slice A0 n0 c0, .slice A' n' c'] W fun e w' => e = .returned (.bool true) ∧ Below W.heap.size W w') := Lib.hid (fun W hb => by have := implMarksValid A0 n0 c0 ws A' n' c' ys W hW hY (h0.keep hb) (h'.keep hb); rwa [hv2] at this)
  have HL := Lib.hid h.1; have HL' := Lib.hid h'.1
  have H := Lib.hid h
  have h20 : n ≤ 20 := by have := (marksB_iff.1 hv1).2.1; rw [List.length_map, HL.out] at this; exact this
  have HC : Hid (∀ W k, Below w.heap.size w W → k < n → Calls Try.prog 40 #[.slice A' n' c', .func (.func 52) #[.agg #[.int .i64 ((mrAt xs k).at_ : Int), .int .i64 ((mrAt xs k).cut : Int), .slice (mrAt xs k).A (mrAt xs k).n (mrAt xs k).c]] #[]] W fun e w' => e = .returned (.bool (ys.any fun y => clB (mrAt xs k).dat y.dat)) ∧ Below W.heap.size W w') := Lib.hid (fun W k hb hk =>
    containsMk 52 (mrAt xs k) (fun y => clB (mrAt xs k).dat y.dat) (fun _ _ => rfl) A' n' c' ys W (fun W2 y hb2 hy hyI => markClashes (mrAt xs k) y W2 (hX _ (mrAt_mem (by rw [HL.out]; exact hk))).1 (hY y hy).1 (by
      obtain ⟨_, _, _, _, _, _, _, hh⟩ := (h.keep (below_next hb hb2)).at_ hk
      exact hh) hyI) (h'.keep hb))
  have HR := Lib.hid (clash_any xs ys)
  have HYes : Hid (∀ k, k < n → (ys.any fun y => clB (mrAt xs k).dat y.dat) = true → clashB (xs.map Mr.dat) (ys.map Mr.dat) = true) := Lib.hid (fun k hk hh => by rw [HR.out]; exact any_yes (p := fun x => ys.any fun y => clB x.dat y.dat) (by rw [HL.out]; exact hk) hh)
  have HNo : Hid (NoAny (fun x => ys.any fun y => clB x.dat y.dat) xs n → clashB (xs.map Mr.dat) (ys.map Mr.dat) = false) := Lib.hid (fun hh => by rw [HR.out]; exact NoAny.done (by rw [HL.out]; exact hh))
  have HSu : Hid (∀ k, NoAny (fun x => ys.any fun y => clB x.dat y.dat) xs k → (ys.any fun y => clB (mrAt xs k).dat y.dat) = false → NoAny (fun x => ys.any fun y => clB x.dat y.dat) xs (k + 1)) := Lib.hid (fun k h1 h2 => NoAny.succ h1 h2)
  clear h h' h0 hX hY hW hv1 hv2 HR
  generalize clashB (xs.map Mr.dat) (ys.map Mr.dat) = T at *
  go_enter Try.func38, Try.ntmps38
  go_wp2_with fail
  refine (HV1.out _ (Below.refl _ _)).mono ?_
  rintro e w1 ⟨rfl, hb1⟩
  go_wp2_with fail
  refine (HV2.out _ hb1).mono ?_
  rintro e w2 ⟨rfl, hb2⟩
  have HB0 := Lib.hid (below_next hb1 hb2)
  clear hb1 hb2 HV1 HV2
  go_wp2
  go_loopw [21] (fun s21 wr => ∃ k : Nat, k ≤ n ∧ s21 = .int .i64 k ∧ Hid (NoAny (fun x => ys.any fun y => clB x.dat y.dat) xs k) ∧ Hid (Below w.heap.size w wr)) (fun s21 _ => n - (intOf s21).toNat)
  case atStart => exact ⟨0, Nat.zero_le _, rfl, Lib.hid (fun i hi => by omega), HB0⟩
  case round =>
    obtain ⟨k, hk, rfl, HN, HB⟩ := hrel
    have k1 : (0 : Int) ≤ (k : Int) := by omega
    by_cases hlt : k < n
    · have k2 : (k : Int) < (n : Int) := by omega
      have k3 : (k : Int) ≤ 20 := by omega
      obtain ⟨b, off, rfl, _, c0, c1, c2, hx⟩ := (H.out.keep HB.out).at_ hlt
      have hal := boxM (mrAt xs k) wr
      have hz := HB.out.size
      have HB1 := Lib.hid (below_next HB.out hal)
      have HCk := Lib.hid (HC.out _ k HB1.out hlt)
      have HYk := Lib.hid (HYes.out k hlt)
      have HSk := Lib.hid (HSu.out k HN.out)
      clear hx hal HN
      cases hq : (ys.any fun y => clB (mrAt xs k).dat y.dat) with
      | true =>
        rw [hq] at HCk
        have HF := Lib.hid (HYk.out hq)
        clear hq HYk HSk
        generalize mrAt xs k = x at *
        go_wp2_with fail
        refine HCk.out.mono ?_
        rintro e w5 ⟨rfl, hb5⟩
        go_wp2
        go_ret
        exact ⟨ret_bool HF.out.symm, below_next HB1.out hb5⟩
      | false =>
        rw [hq] at HCk
        have HF := Lib.hid (HSk.out hq)
        clear hq HYk HSk
        generalize mrAt xs k = x at *
        go_wp2_with fail
        refine HCk.out.mono ?_
        rintro e w5 ⟨rfl, hb5⟩
        go_wp2
        go_roundw
        case rel => exact ⟨k + 1, by omega, by go_num, HF, Lib.hid (below_next HB1.out hb5)⟩
        case measure => simp [intOf] <;> omega
    · obtain rfl : k = n := by omega
      have HF := Lib.hid (HNo.out HN.out)
      clear HN
      go_wp2
      go_ret
      exact ⟨ret_bool HF.out.symm, HB.out⟩
end Go.Proofs.Ytlfhgmbmgbbnjaa
