/-
  The ways to read a line, of the reference; the draws of lines and forms with their lists. Conditions: the lists lie in memory; no text is absurdly long.
-/
import Derived.Test.YtppjjbjjbmodbaaReadG
import Derived.Test.YtppjjbjjbmodbaaDrwG
namespace Go.Proofs.Ytppjjbjjbmodbaa
open Go.ChangeShapes Go.WideShapes Go.ChangeAt Go.RowKit Go.Maps
set_option maxRecDepth 100000
set_option linter.unusedSimpArgs false

set_option maxHeartbeats 1600000 in
theorem specWrittenWays (A : Option Addr) (n c : Nat) (xs : List Sg) (A' : Option Addr) (n' c' : Nat) (ws : List (List UInt8)) (A2 : Option Addr) (n2 c2 : Nat) (ys : List Wr) (w : World) (hW : ∀ l ∈ ws, l.length ≤ maxLen) (h : SgsIn w w.heap.size A n c xs) (h' : WdsIn w w.heap.size A' n' c' ws) (h2 : WrsIn w w.heap.size A2 n2 c2 ys) :
    Calls Try.prog 21 #[.slice A n c, .slice A' n' c', .slice A2 n2 c2] w fun e w' => e = .returned (.int .i64 (waysOf xs ws (ys.map Wr.dat))) ∧ Below w.heap.size w w' := by
  have hm := h2.2.2.1; have hnc := h2.2.1
  unfold maxLen at hm
  have HL := Lib.hid h2.1
  have HB := Lib.hid (l2Both A n c xs A' n' c' ws w hW h h')
  have HV := Lib.hid (fun W (hb : Below w.heap.size w W) => specLineValid A2 n2 c2 ys W (h2.keep hb))
  have HRd := Lib.hid (fun W (hb : Below w.heap.size w W) (Ax : Option Addr) (nx cx : Nat) (sx : List Stroke) (px : Int) (hx : StrokesIn W W.heap.size Ax nx cx sx) => specWrittenRead A n c xs A' n' c' ws Ax nx cx sx px W hW (h.keep hb) (h'.keep hb) hx)
  have H2 := Lib.hid h2
  have HNo : Hid (¬ ((sysB xs && dicB ws) = true ∧ lineB (ys.map Wr.dat) = true) → waysOf xs ws (ys.map Wr.dat) = -1) := Lib.hid (fun h => if_neg h)
  have HYes : Hid ((sysB xs && dicB ws) = true → lineB (ys.map Wr.dat) = true → waysOf xs ws (ys.map Wr.dat) = waysF ((ys.map Wr.dat).map (cntOf xs ws)) 1) := Lib.hid (fun h1 h2 => if_pos ⟨h1, h2⟩)
  clear h h' h2
  cases hB : (sysB xs && dicB ws) with
  | false =>
    rw [hB] at HB
    have HF := Lib.hid (HNo.out (fun h => by rw [h.1] at hB; cases hB))
    clear hB
    go_enter Try.func21, Try.ntmps21
    go_wp2_with fail
    refine HB.out.mono ?_
    rintro e w1 ⟨rfl, b1⟩
    go_wp2
    go_ret
    exact ⟨ret_int (by rw [HF.out]), b1⟩
  | true =>
    rw [hB] at HB
    have HBt := Lib.hid hB
    have hw20 : ws.length ≤ 20 := by
      rw [Bool.and_eq_true] at hB
      exact (dicB_iff.1 hB.2).1
    clear hB
    cases hw : lineB (ys.map Wr.dat) with
    | false =>
      rw [hw] at HV
      have HF := Lib.hid (HNo.out (fun h => by rw [h.2] at hw; cases hw))
      clear hw
      go_enter Try.func21, Try.ntmps21
      go_wp2_with fail
      refine HB.out.mono ?_
      rintro e w1 ⟨rfl, b1⟩
      have HVk := Lib.hid (HV.out w1 b1)
      go_wp2_with fail
      refine HVk.out.mono ?_
      rintro e w2 ⟨rfl, hb2⟩
      have b2 := below_next b1 hb2
      go_wp2
      go_ret
      exact ⟨ret_int (by rw [HF.out]), b2⟩
    | true =>
      rw [hw] at HV
      have HF := Lib.hid (HYes.out HBt.out hw)
      have HWv := Lib.hid ((lineB_iff.1 hw).2)
      clear hw
      go_enter Try.func21, Try.ntmps21
      go_wp2_with fail
      refine HB.out.mono ?_
      rintro e w1 ⟨rfl, b1⟩
      have HVk := Lib.hid (HV.out w1 b1)
      go_wp2_with fail
      refine HVk.out.mono ?_
      rintro e w2 ⟨rfl, hb2⟩
      have b2 := below_next b1 hb2
      clear hb2 HVk HB HV
      go_wp2
      go_loopw [7, 8] (fun m i wr => ∃ (k : Nat) (P : Int), k ≤ n2 ∧ i = .int .i64 k ∧ m = .int .i64 P ∧ 0 ≤ P ∧ P ≤ 1000000000000000 ∧ Hid (waysOf xs ws (ys.map Wr.dat) = waysF (((ys.map Wr.dat).drop k).map (cntOf xs ws)) P) ∧ Below w2.heap.size w2 wr) (fun _ i _ => n2 - (intOf i).toNat)
      case atStart => exact ⟨0, 1, Nat.zero_le _, rfl, rfl, by omega, by omega, HF, Below.refl _ _⟩
      case round =>
        obtain ⟨k, P, hk, rfl, rfl, hP0, hP1, HWy, hb⟩ := hrel
        have hz := hb.size
        by_cases hlt : k < n2
        · have hbw := below_next b2 hb
          obtain ⟨b, off, rfl, hbB, c0, c1, hWr⟩ := (H2.out.keep hbw).at_ hlt
          have hdr := drop_wr (xs := ys) (k := k) (by rw [HL.out]; exact hlt)
          have hcl := readOf_len xs ws (wrAt ys k).dat
          have hdat : (wrAt ys k).dat = ((wrAt ys k).ss, (wrAt ys k).pos) := rfl
          have hvd : datB (wrAt ys k).dat = true := HWv.out _ (dat_mem (by rw [HL.out]; exact hlt))
          have HX := Lib.hid (HRd.out wr hbw (wrAt ys k).A (wrAt ys k).n (wrAt ys k).c (wrAt ys k).ss (wrAt ys k).pos hWr.1)
          have HWn : Hid (waysOf xs ws (ys.map Wr.dat) = if 1000000000000000 < P * ((cntOf xs ws (wrAt ys k).dat : Nat) : Int) then -1 else waysF (((ys.map Wr.dat).drop (k + 1)).map (cntOf xs ws)) (P * ((cntOf xs ws (wrAt ys k).dat : Nat) : Int))) := Lib.hid (by rw [HWy.out, hdr]; rfl)
          have hra : readAll xs ws ((wrAt ys k).ss, (wrAt ys k).pos) = readOf xs ws ((wrAt ys k).ss, (wrAt ys k).pos) := if_pos ⟨HBt.out, hvd⟩
          rw [hra] at HX
          rw [hdat] at HWn hcl
          clear hWr hdr hdat HWy hvd hra hbw
          generalize wrAt ys k = x at *
          obtain ⟨xA, xn, xc, xss, xp⟩ := x
          dsimp only at c0 c1 HX HWn hcl
          have i1 : (0 : Int) ≤ (k : Int) := by omega
          have i2 : (k : Int) < (n2 : Int) := by omega
          unfold cntOf at HWn
          generalize readOf xs ws (xss, xp) = RL at *
          have hq20 : RL.length ≤ 20 := by omega
          have hPq0 : 0 ≤ P * (RL.length : Int) := Int.mul_nonneg hP0 (by omega)
          have hPq1 : P * (RL.length : Int) ≤ 20000000000000000 := by
            have h1 : P * (RL.length : Int) ≤ P * 20 := Int.mul_le_mul_of_nonneg_left (by omega) hP0
            omega
          clear hcl
          go_wp2_with fail
          refine HX.out.mono ?_
          rintro e w4 ⟨⟨A4, c4, rfl, _⟩, hb4⟩
          have b4 := below_next hb hb4
          clear hb4 HX
          by_cases hbig : 1000000000000000 < P * (RL.length : Int)
          · have HR : Hid (waysOf xs ws (ys.map Wr.dat) = -1) := Lib.hid (by rw [HWn.out, if_pos hbig])
            have b5 := below_next b2 b4
            go_wp2
            go_ret
            exact ⟨ret_int (by rw [HR.out]), b5⟩
          · have HR := Lib.hid (HWn.out.trans (if_neg hbig))
            go_wp2
            go_roundw
            case rel => exact ⟨k + 1, P * (RL.length : Int), by omega, by go_num, rfl, hPq0, by omega, HR, b4⟩
            case measure => simp [intOf]; omega
        · obtain rfl : k = n2 := by omega
          have HR : Hid (waysOf xs ws (ys.map Wr.dat) = P) := Lib.hid (by
            have hl : (ys.map Wr.dat).length ≤ k := by rw [List.length_map, HL.out]; exact Nat.le_refl _
            rw [HWy.out, List.drop_of_length_le hl]; rfl)
          have b5 := below_next b2 hb
          go_wp2
          go_ret
          exact ⟨ret_int (by rw [HR.out]), b5⟩

/-- A system, a dictionary and a line that were drawn. -/
def WaysDrawn (w : World) (e : Ending) : Prop := ∃ A n c xs A' n' c' ws A2 n2 c2 ys, e = .returned (.tuple #[.slice A n c, .slice A' n' c', .slice A2 n2 c2]) ∧ n ≤ 7 ∧ n' ≤ 9 ∧ n2 ≤ 4 ∧ SgsIn w w.heap.size A n c xs ∧ WdsIn w w.heap.size A' n' c' ws ∧ (∀ l ∈ ws, wordB l = true) ∧ WrsIn w w.heap.size A2 n2 c2 ys
set_option maxHeartbeats 800000 in
theorem drawWrittenWays (A : Option Addr) (n c : Nat) (bs : List Int) (w : World) (hb : BytesIn w w.heap.size A n c bs) :
    Calls Try.prog 20 #[.slice A n c] w fun e w' => WaysDrawn w' e ∧ Below w.heap.size w w' := by
  have HO := Lib.hid (l6Open A n c bs w.heap.size w (Nat.le_refl _) hb)
  clear hb
  go_enter Try.func20, Try.ntmps20
  go_wp2_with fail
  refine HO.out.mono ?_
  rintro e w1 ⟨rfl, b1, hr1⟩
  have hg1 := hr1.lt
  have HL := Lib.hid (l91Both w.heap.size w.heap.size 0 w1 (by omega) hr1 b1.size)
  have HB1 := Lib.hid b1
  clear hr1 HO b1
  go_wp2_with fail
  refine HL.out.mono ?_
  rintro e w2 ⟨A1, n1, c1, xs, A2, n2, c2, ws, hx, hn1, hx2, hn2, rfl, hS, hD, hg2, hr2⟩
  have b2 := HB1.out.grown hg2 HB1.out.size (fun k hk => by injection hk with hk; omega)
  have HLn := Lib.hid (l91Line w.heap.size w.heap.size (0 + 220) w1.heap.size A1 n1 c1 xs A2 n2 c2 ws w2 (by omega) hr2 b2.size hg1 hx hx2 hn2 hS hD)
  have HB2 := Lib.hid b2
  have HS := Lib.hid hS; have HD := Lib.hid hD; have HX := Lib.hid hx; have HX2 := Lib.hid hx2
  clear hx hx2 hS hD hg2 hr2 HL b2
  go_wp2_with fail
  refine HLn.out.mono ?_
  rintro e w3 ⟨A3, n3, c3, ys, hy, hn3, rfl, hO3, hg3, _⟩
  have b3 := HB2.out.grown hg3 HB2.out.size (fun k hk => by injection hk with hk; omega)
  have HR3 := Lib.hid (hO3.reads hy)
  have HS3 := Lib.hid ((HS.out.only hg3 hg1).reads HX.out)
  have HD3 := Lib.hid ((HD.out.only hg3 hg1).reads HX2.out)
  clear hy hO3 hg3 HLn
  go_wp2
  go_returns
  exact ⟨⟨A1, n1, c1, xs, A2, n2, c2, ws, A3, n3, c3, ys, rfl, hn1, hn2, hn3, HS3.out, HD3.out, HD.out.2, HR3.out⟩, b3⟩
end Go.Proofs.Ytppjjbjjbmodbaa
