/-
  The law FnCabinetOf returns true for every input, and what was in memory before the call reads as before: the frame round its walk.
  Conditions: none.
-/
import Derived.Test.YtfbfapobmhfenaaFileLaw3
import Derived.Test.YtfbfapobmhfenaaDrawOf
import Derived.Test.YtfbfapobmhfenaaTreeB
import Derived.Test.YtfbfapobmhfenaaMarkLaw
import Derived.Test.YtfbfapobmhfenaaSameC
import Derived.Test.YtfbfapobmhfenaaSame
namespace Go.Proofs.Ytfbfapobmhfenaa.fnCabinetOf
open Go.ChangeShapes Go.WideShapes Go.ChangeAt Go.RowKit
set_option linter.unusedVariables false

theorem of_prefix {ps : List Pad} {css : List (List Pad)} (h : ofO [] ps = some css) (q : Nat) : ∃ c, ofO [] (ps.take q) = some c := by
  rw [← List.take_append_drop q ps, ofO_append] at h
  cases h2 : ofO [] (ps.take q) with
  | none => rw [h2] at h; cases h
  | some c => exact ⟨c, rfl⟩
theorem file_next {ps : List Pad} {css c : List (List Pad)} {q : Nat} (h : ofO [] ps = some css) (hq : q < ps.length) (hc : ofO [] (ps.take q) = some c) : ∃ c', fileO c (padAt ps q) = some c' ∧ ofO [] (ps.take (q + 1)) = some c' := by
  obtain ⟨c', h1⟩ := of_prefix h (q + 1)
  exact ⟨c', by rw [← ofO_step hq hc]; exact h1, h1⟩
/-- The pads from a place on, the last one first. -/
def backP (ps : List Pad) (q : Nat) : List Pad := (ps.drop q).reverse
theorem backP_step {ps : List Pad} {q : Nat} (h : q < ps.length) : backP ps q = backP ps (q + 1) ++ [padAt ps q] := by
  have e : padAt ps q = ps[q] := by unfold padAt; rw [List.getD_eq_getElem?_getD, List.getElem?_eq_getElem h]; rfl
  unfold backP
  rw [List.drop_eq_getElem_cons h, List.reverse_cons, e]
theorem backP_len (ps : List Pad) (q : Nat) : (backP ps q).length = ps.length - q := by unfold backP; rw [List.length_reverse, List.length_drop]
theorem backP_end (ps : List Pad) : backP ps ps.length = [] := by unfold backP; simp
theorem backP_all (ps : List Pad) : backP ps 0 = ps.reverse := by unfold backP; simp

set_option maxRecDepth 100000 in
set_option maxHeartbeats 3200000 in
theorem walk (A : Option Addr) (n c : Nat) (bs : List Int) (A' : Option Addr) (n' c' : Nat) (bs' : List Int) (W : World) (hb : BytesIn W W.heap.size A n c bs) (hb' : BytesIn W W.heap.size A' n' c' bs') :
    Calls Try.prog 11 #[.slice A n c, .slice A' n' c'] W fun e w' => e = .returned (.bool true) ∧ Below W.heap.size W w' := by
  have hm := hb.2.2.1
  have hnc := hb.2.1
  have hm' := hb'.2.2.1
  have hnc' := hb'.2.1
  unfold maxLen at hm hm'
  clear hb'
  by_cases hn : 1048576 < n
  · clear hb
    go_enter Try.func11, Try.ntmps11
    go_wp2
    go_returns
    exact ⟨rfl, by go_grown⟩
  by_cases hn' : 1048576 < n'
  · clear hb
    go_enter Try.func11, Try.ntmps11
    go_wp2
    go_returns
    exact ⟨rfl, by go_grown⟩
  have HD := Lib.hid (drawCabinetOf A n c bs W hb)
  clear hb
  obtain ⟨i0, hi, hz0, hz1, hz2⟩ := info_parts infoPad
  go_enter Try.func11, Try.ntmps11
  go_wp2_with fail
  refine HD.out.mono ?_
  rintro e w1 ⟨A1, c1, ps, rfl, hD, hl, b1⟩
  have hcm := hD.2.2.1; have hcc := hD.2.1
  unfold maxLen at hcm
  have HK : Hid (∀ w, Below w1.heap.size w1 w → PadsIn w w.heap.size A1 ps.length c1 ps) := Lib.hid (fun w h => hD.keep h)
  clear hD HD
  generalize hdn : ps.length = N at *
  have HN := Lib.hid hdn; clear hdn
  have HI := Lib.hid (implCabinetOf A1 N c1 ps w1 (HK.out w1 (Below.refl _ _)))
  go_wp2_with fail
  refine HI.out.mono ?_
  rintro e w2 ⟨hA, hb2⟩
  obtain ⟨A2, c2, s2, rfl, hO2, hM2⟩ := hA.form
  have b2 := below_next b1 hb2
  have k2 := hb2
  have HO2 := Lib.hid hO2; have HM2 := Lib.hid hM2
  have HS := Lib.hid (specCabinetOf A1 N c1 ps w2 (HK.out w2 k2))
  clear hO2 hM2 hA hb2 HI
  go_wp2_with fail
  refine HS.out.mono ?_
  rintro e w3 ⟨hA, hb3⟩
  obtain ⟨A3, c3, s3, rfl, hO3, hM3⟩ := hA.form
  have b3 := below_next b2 hb3
  have k3 := below_next k2 hb3
  have HM3 := Lib.hid hM3
  have HD2 := Lib.hid ((HO2.out.keep hb3).reads rfl)
  have hl3 : s3.length = s2.length := by rw [← List.length_map (f := (·.ps)), hM3, ← HM2.out, List.length_map]
  have HD3 := Lib.hid (hO3.reads rfl)
  rw [hl3] at HD3 ⊢
  have HSm : Hid (s2.map (·.ps) = s3.map (·.ps)) := Lib.hid (by rw [HM2.out, HM3.out])
  clear hO3 hM3 hA hb3 hl3 HO2 HS
  generalize hM : s2.length = M at *
  have HML := Lib.hid hM; clear hM
  cases hf : ofO [] ps with
  | none =>
    clear hf HM2 HM3 HML
    simp only [Option.isSome_none]
    go_wp2_with fail
    refine (sameCabinet A2 A3 M c2 c3 s2 s3 w3 HSm.out HD2.out HD3.out).mono ?_
    rintro e w4 ⟨rfl, hb4⟩
    have b4 := below_next b3 hb4
    have HD2' := Lib.hid (HD2.out.keep hb4)
    have HD3' := Lib.hid (HD3.out.keep hb4)
    clear hb4
    go_wp2_with fail
    refine (sameCabinet A2 A3 M c2 c3 s2 s3 w4 HSm.out HD2'.out HD3'.out).mono ?_
    rintro e w5 ⟨rfl, hb5⟩
    have b5 := below_next b4 hb5
    go_wp2
    go_returns
    exact ⟨rfl, b5⟩
  | some css =>
    rw [hf] at HM2
    have HTh : Hid (s2.map (·.ps) = css) := Lib.hid HM2.out
    have hco := ofO_ok cab_nil hf
    have hfl : css.flatten.length = N := (of_len hf).trans HN.out
    have hs2 := cab_small (ds := s2) (by rw [HTh.out]; exact hco)
    have HF := Lib.hid hf
    obtain ⟨k, hk, hkN⟩ : ∃ k : Nat, ((n' : Int) % ((N : Int) + 1)) = (k : Int) ∧ k ≤ N := ⟨n' % (N + 1), by simp, by have := Nat.mod_lt n' (show 0 < N + 1 by omega); omega⟩
    have hsl : ∀ W, (Instr.slice 35 (.slice A1 N c1) none (some (.int .i64 (k : Int))) none).run Try.prog W = .ok (.slice A1 k c1) W := fun W => run_uptoA elemPads sizePad A1 N c1 k (by omega) W
    obtain ⟨csk, hck⟩ := of_prefix hf k
    have HCk : Hid (∀ W, Below w1.heap.size w1 W → Calls Try.prog 42 #[.slice A1 k c1] W fun e w' => (∃ A c s, e = .returned (.tuple #[.slice A s.length c, .bool true]) ∧ s.map (·.ps) = csk ∧ DrawersIn w' w'.heap.size A s.length c s) ∧ Below W.heap.size W w') := Lib.hid (fun W hW => by
      have h1 := implCabinetOf A1 k c1 (ps.take k) W ((HK.out W hW).upto hkN)
      rw [hck] at h1
      refine h1.mono ?_
      rintro e w' ⟨hA, hb⟩
      obtain ⟨A, c, s, rfl, hO, hM⟩ := hA.form
      exact ⟨⟨A, c, s, rfl, hM, hO.reads rfl⟩, hb⟩)
    have HCK := Lib.hid hck
    have hcb := cabB_yes hco
    have hgood : ∀ q ∈ ps, q.good := (HK.out w1 (Below.refl _ _)).2.2.2.2
    have HG := Lib.hid hgood
    have hgf : ∀ q ∈ css.flatten, q.good := fun q hq => by
      have := (of_perm hf).mem_iff.1 hq
      rw [List.flatten_nil, List.append_nil] at this
      exact hgood q this
    have HGF := Lib.hid hgf
    have HPo : Hid (∀ W, DrawersIn W W.heap.size A2 M c2 s2 → Calls Try.prog 26 #[.slice A2 M c2] W fun e w' => (∃ A c, e = .returned (.tuple #[.slice A N c, .bool true]) ∧ PadsIn w' w'.heap.size A N c css.flatten) ∧ Below W.heap.size W w') := Lib.hid (fun W hD => by
      have h1 := implCabinetPads A2 M c2 s2 W (by omega) hD
      unfold PadsAns at h1
      rw [HTh.out, hcb, ansP_yes hcb, hfl] at h1
      refine h1.mono ?_
      rintro e w' ⟨⟨A', c', rfl, hO⟩, hb⟩
      exact ⟨⟨A', c', rfl, hO.reads hfl HGF.out⟩, hb⟩)
    have hYok : cabOK ((ofO [] ps.reverse).getD []) := by
      cases h : ofO [] ps.reverse with
      | none => exact cab_nil
      | some y => exact ofO_ok cab_nil h
    have hYb := cabB_yes hYok
    have HYT : Hid (∀ y, ofO [] ps.reverse = some y → y.flatten = css.flatten) := Lib.hid (fun y h => (of_back hf h).symm)
    have HPy : Hid (∀ A c s W, s.map (·.ps) = (ofO [] ps.reverse).getD [] → DrawersIn W W.heap.size A s.length c s → Calls Try.prog 26 #[.slice A s.length c] W fun e w' => (∃ A c, e = .returned (.tuple #[.slice A ((ofO [] ps.reverse).getD []).flatten.length c, .bool true]) ∧ PadsIn w' w'.heap.size A ((ofO [] ps.reverse).getD []).flatten.length c ((ofO [] ps.reverse).getD []).flatten) ∧ Below W.heap.size W w') := Lib.hid (fun A c s W hs hD => by
      have hsz := cab_small (ds := s) (by rw [hs]; exact hYok)
      have h1 := implCabinetPads A s.length c s W (by omega) hD
      unfold PadsAns at h1
      rw [hs, hYb, ansP_yes hYb] at h1
      refine h1.mono ?_
      rintro e w' ⟨⟨A', c', rfl, hO⟩, hb⟩
      refine ⟨⟨A', c', rfl, hO.reads rfl fun q hq => ?_⟩, hb⟩
      have h2 := allPads_good hD q
      rw [← allPads_flat, hs] at h2
      exact h2 hq)
    have HFl := Lib.hid hfl
    have HN2 : Hid (2 * N ≤ 30) := Lib.hid (by omega)
    clear hf HM2 HM3 hco hfl hck hcb hgood hgf hYok hYb hs2
    simp only [Option.isSome_some]
    go_wp2_with fail
    refine (sameCabinet A2 A3 M c2 c3 s2 s3 w3 HSm.out HD2.out HD3.out).mono ?_
    rintro e w4 ⟨rfl, hb4⟩
    have b4 := below_next b3 hb4
    have k4 := below_next k3 hb4
    have HD4 := Lib.hid (HD2.out.keep hb4)
    clear hb4 HD2 HD3 HSm
    go_wp2_with fail
    refine (HCk.out w4 k4).mono ?_
    rintro e w5 ⟨⟨A5, c5, s5, rfl, hs5, hD5⟩, hb5⟩
    have b5 := below_next b4 hb5
    have k5 := below_next k4 hb5
    have HD5 := Lib.hid (HD4.out.keep hb5)
    have HS5 := Lib.hid hs5; have HX5 := Lib.hid hD5
    clear hb5 HCk hs5 hD5 HD4 hsl b1 b2 b3 b4 k2 k3 k4
    go_wp2
    go_loopw [11, 12, 13] (fun x p i wr => ∃ (q : Nat) (A : Option Addr) (c : Nat) (s : List Drawer) (cq : List (List Pad)), k ≤ q ∧ q ≤ N ∧ i = .int .i64 q ∧ p = .bool true ∧ x = .slice A s.length c ∧ Hid (ofO [] (ps.take q) = some cq) ∧ Hid (s.map (·.ps) = cq) ∧ Hid (DrawersIn wr wr.heap.size A s.length c s) ∧ Below w5.heap.size w5 wr) (fun _ _ i _ => N - (intOf i).toNat)
    case atStart => exact ⟨k, A5, c5, s5, csk, Nat.le_refl _, hkN, rfl, rfl, rfl, HCK, HS5, HX5, Below.refl _ _⟩
    case round =>
      clear hk
      obtain ⟨q, A6, c6, s6, cq, hkq, hqN, rfl, rfl, rfl, HQ, HS6, HX6, hbr⟩ := hrel
      have k6 := below_next k5 hbr
      by_cases hlt : q < N
      · obtain ⟨b, off, eA, hbB, q0, q1, hg⟩ := (HK.out wr k6).at_ hlt
        obtain ⟨cn, hcn, hcn2⟩ := file_next HF.out (by rw [HN.out]; exact hlt) HQ.out
        have hs6 := cab_small (ds := s6) (by rw [HS6.out]; exact ofO_ok cab_nil HQ.out)
        have h1 := implCabinetFile A6 s6.length c6 s6 (padAt ps q) wr (by omega) hg HX6.out
        rw [HS6.out, hcn] at h1
        have HFi := Lib.hid h1
        have HCN := Lib.hid hcn2
        subst eA
        clear h1 hcn hcn2 hs6 hg
        unfold padVal at HFi
        generalize padAt ps q = p at *
        generalize s6.length = m6 at *
        go_wp2_with fail
        refine HFi.out.mono ?_
        rintro e w7 ⟨hA, hb7⟩
        obtain ⟨A7, c7, s7, rfl, hO7, hM7⟩ := hA.form
        have b7 := below_next hbr hb7
        have HS7 : Hid (s7.map (·.ps) = cn) := Lib.hid hM7
        have HX7 := Lib.hid (hO7.reads rfl)
        simp only [Option.isSome_some]
        clear hA hO7 hM7 hb7 HFi q0 q1
        go_wp2
        go_roundw
        case rel => exact ⟨q + 1, A7, c7, s7, cn, by omega, by omega, by go_num, rfl, rfl, HCN, HS7, HX7, b7⟩
        case measure => simp [intOf]; omega
      · obtain rfl : N = q := by omega
        have b6 := below_next b5 hbr
        have HD6 := Lib.hid (HD5.out.keep hbr)
        have HE6 : Hid (s6.map (·.ps) = s2.map (·.ps)) := Lib.hid (by
          have h1 := HQ.out
          rw [List.take_of_length_le (by rw [HN.out]; exact Nat.le_refl _), HF.out] at h1
          injection h1 with h1
          rw [HS6.out, ← h1, HTh.out])
        have hl6 : s6.length = M := by rw [← HML.out, ← List.length_map (f := (·.ps)), HE6.out, List.length_map]
        rw [hl6] at HX6
        have HL6 := Lib.hid hl6
        clear hbr HQ HS6 HD5 hl6
        rw [HL6.out]
        obtain ⟨w6, hw6⟩ : ∃ w6, w6 = wr := ⟨_, rfl⟩
        subst hw6
        go_wp2
        go_loopw [14, 15] (fun v i wr => ∃ q : Nat, q ≤ N ∧ i = .int .i64 ((q : Int) - 1) ∧ Hid (PadsOwn wr w6.heap.size v (backP ps q)) ∧ Below w6.heap.size w6 wr) (fun _ i _ => (intOf i + 1).toNat)
        case atStart =>
          refine ⟨N, Nat.le_refl _, rfl, Lib.hid ?_, (Below.refl _ _).alloc (Nat.le_refl _) _⟩
          have h0 : (w6.alloc (.cells #[] 49)).ownsRow w6.heap.size 49 2 (.slice (some ⟨w6.heap.size, 0, none⟩) 0 0) 0 [] := World.ownsRow_made w6 #[] 0 (Nat.le_refl _) (by simp) (by simp)
          have h1 : backP ps N = [] := by rw [← HN.out]; exact backP_end ps
          rw [h1]
          exact h0
        case round =>
          obtain ⟨q, hqN2, rfl, HB, hbq⟩ := hrel
          have k7 := below_next k6 hbq
          have b7 := below_next b6 hbq
          have z67 := hbq.size
          by_cases hq0 : q = 0
          · subst hq0
            rw [backP_all] at HB
            obtain ⟨A8, c8, e8, _, _⟩ := own_form HB.out
            subst e8
            have HR8 := Lib.hid (HB.out.reads rfl (fun x hx => HG.out x (List.mem_reverse.1 hx)))
            have hrl : ps.reverse.length = N := by rw [List.length_reverse]; exact HN.out
            rw [hrl] at HR8 ⊢
            have HOf := Lib.hid (implCabinetOf A8 N c8 ps.reverse wr HR8.out)
            have HD7 := Lib.hid (HD6.out.keep hbq)
            have HX7 := Lib.hid (HX6.out.keep hbq)
            clear HB HD6 HX6 hbq HR8 hrl HF
            generalize hfo : ofO [] ps.reverse = FO at *
            clear hfo
            generalize hty : (FO.getD []).flatten = TY at *
            have HTY := Lib.hid hty; clear hty
            generalize hyn : TY.length = yn at *
            have HYN := Lib.hid hyn; clear hyn
            rw [show ((0 : Nat) : Int) - 1 = -1 from rfl]
            go_wp2_with fail
            refine HOf.out.mono ?_
            rintro e w8 ⟨hA, hb8⟩
            obtain ⟨A9, c9, s9, rfl, hO9, hM9⟩ := hA.form
            have b8 := below_next b7 hb8
            have HD8 := Lib.hid (HD7.out.keep hb8)
            have HX8 := Lib.hid (HX7.out.keep hb8)
            have HP8 : Hid (∀ W, Below w8.heap.size w8 W → _) := Lib.hid (fun W hW => HPy.out A9 c9 s9 W hM9 ((hO9.reads rfl).keep hW))
            clear hA hO9 hM9 hb8 HPy HOf HD7 HX7
            generalize s9.length = m9 at *
            go_wp2_with fail
            refine (HPo.out w8 HD8.out).mono ?_
            rintro e w9 ⟨⟨A10, c10, rfl, hP9⟩, hb9⟩
            have b9 := below_next b8 hb9
            have HD9 := Lib.hid (HD8.out.keep hb9)
            have HX9 := Lib.hid (HX8.out.keep hb9)
            have HT9 := Lib.hid hP9
            have HP9 := Lib.hid (HP8.out w9 hb9)
            clear hb9 hP9 HP8 HPo HD8 HX8
            go_wp2_with fail
            refine HP9.out.mono ?_
            rintro e w10 ⟨⟨A11, c11, rfl, hP10⟩, hb10⟩
            have b10 := below_next b9 hb10
            have HD10 := Lib.hid (HD9.out.keep hb10)
            have HX10 := Lib.hid (HX9.out.keep hb10)
            have HT10 := Lib.hid (HT9.out.keep hb10)
            have HU10 := Lib.hid hP10
            clear hb10 hP10 HP9 HD9 HX9 HT9
            go_wp2_with fail
            refine (sameCabinet A6 A2 M c6 c2 s6 s2 w10 HE6.out HX10.out HD10.out).mono ?_
            rintro e w11 ⟨rfl, hb11⟩
            have b11 := below_next b10 hb11
            have HT11 := Lib.hid (HT10.out.keep hb11)
            have HU11 := Lib.hid (HU10.out.keep hb11)
            clear hb11 HX10 HD10 HT10 HU10
            have hee : ((N : Int) == (N : Int)) = true := by simp
            cases FO with
            | none =>
              simp only [Option.isSome_none]
              go_wp2
              go_returns
              exact ⟨rfl, b11⟩
            | some y2 =>
              have e1 : TY = css.flatten := by rw [← HTY.out]; exact HYT.out y2 rfl
              have e2 : yn = N := by rw [← HYN.out, ← HFl.out, e1]
              have HSp : Hid (Calls Try.prog 27 #[.slice A10 N c10, .slice A11 yn c11] w11 fun e w' => e = .returned (.bool true) ∧ Below w11.heap.size w11 w') := Lib.hid (by
                have h2 := HU11.out
                rw [e1, e2] at h2
                rw [e2]
                exact samePads A10 A11 N c10 c11 css.flatten w11 HT11.out h2)
              clear e1 e2
              simp only [Option.isSome_some]
              go_wp2_with fail
              refine HSp.out.mono ?_
              rintro e w12 ⟨rfl, hb12⟩
              have b12 := below_next b11 hb12
              go_wp2
              go_returns
              exact ⟨rfl, b12⟩
          · obtain ⟨r, rfl⟩ : ∃ r, q = r + 1 := ⟨q - 1, by omega⟩
            have hrN : r < N := by omega
            obtain ⟨b, off, eA, hbB, q0, q1, hg⟩ := (HK.out wr k7).at_ hrN
            have HSt := Lib.hid (backP_step (ps := ps) (q := r) (by rw [HN.out]; exact hrN))
            have hbl : (backP ps (r + 1)).length ≤ N := by rw [backP_len, HN.out]; omega
            subst eA
            clear hq0 hqN2
            generalize padAt ps r = p at *
            generalize hbk : backP ps (r + 1) = L at *
            clear hbk
            generalize hLn : L.length = Ln at *
            have HLn := Lib.hid hLn; clear hLn
            rw [show ((r + 1 : Nat) : Int) - 1 = (r : Int) by omega]
            go_wp2_with (at_builtin; refine wpList_append_any _ rfl (.tmp 103) (.tmp 108) _ rfl w6.heap.size 49 i0 _ 2 24 Try.underlying35 hi hz0 hz1 hz2 rfl (by omega) _ Ln (L.flatMap padC) rfl (by have h := HB.out; unfold PadsOwn at h; rw [HLn.out] at h; exact h.alloc _) (wr.heap.size + 1) (some ⟨wr.heap.size, 0, none⟩) 1 1 [.int .i64 p.day, .string p.case] rfl (rowNewPad _ _ _ _) (by simp [Value.oneCell']) (by unfold maxLen; omega) (by omega) (by simp; omega) ?_; intro v8 w8 hown8 hg8 hat8)
            have HB8 : Hid (PadsOwn w8 w6.heap.size v8 (backP ps r)) := Lib.hid (by rw [HSt.out]; unfold PadsOwn; rw [List.length_append, List.flatMap_append, HLn.out]; exact hown8)
            have b8 : Below w6.heap.size w6 w8 := (hbq.alloc z67 _).grown hg8 (by simp; omega) (fun z hz => own_base HB.out hz)
            clear hown8 hg8 hat8 HB hbq
            go_wp2
            go_roundw
            case rel => exact ⟨r, by omega, rfl, HB8, b8⟩
            case measure => simp [intOf]

set_option maxRecDepth 100000 in
theorem lifted (os : Os) (started : os.Started) (H : Type) (enc : TypeId × Value → H) :
    ReturnsInHanded {} Try.checked os 11 .any (Rows.fnCabinetOfSpec.pre6 enc Try.prog Try.f11 Rows.fnCabinetOfRow.domain false) (Rows.fnCabinetOfSpec.post enc Try.prog Try.f11 false true false false) := by
  refine returnsInHanded_of_change (C := Try.checked) own started (by kernel_rfl) Try.func11
    (ChangeSpec.witness6 (enc := enc) (C := Try.checked) false ⟨#[], #[.slice none 0 0, .slice none 0 0], []⟩ 8 (by kernel_rfl) (by kernel_rfl) (by kernel_rfl) (by kernel_rfl)) ?_
  intro W base args ds gs before hval0 hW hcnd _
  have hval : ∀ (j : Nat) t v, Try.f11.params[j]? = some t → args[j]? = some v → Value.okWide Try.prog W .any base t v := hval0
  have hW' := hW
  obtain ⟨p, q, hA0, hV, rfl, hfz, hnd⟩ := hW
  have hA : DataW.TrodAll enc Try.prog W 0 (fun _ => true) true Try.f11.params.toList args.toList ds p := hA0
  rw [Try.params11] at hA hval
  obtain ⟨v0, vs0, d0, ds0, p0, q0, hargs, rfl, rfl, h0, r0⟩ := trodAll_cons hA
  obtain ⟨v1, vs1, d1, ds1, p1, q1, rfl, rfl, rfl, h1, r1⟩ := trodAll_cons r0
  obtain ⟨rfl, rfl, rfl⟩ := trodAll_nil r1
  obtain rfl : args = #[v0, v1] := by cases args; simp_all
  obtain ⟨rfl, rfl⟩ := trodVars_none hV
  have k0 := h0
  have lt0 : ∀ x ∈ p0, x.block < W.heap.size := by obtain ⟨m, hm⟩ := k0; exact DataW.trod_lt m _ _ _ hm
  obtain ⟨A_0, n_0, c_0, bs_0, rfl, R_0⟩ := openBytes (hval 0 33 v0 rfl rfl) h0
  have k1 := h1
  have lt1 : ∀ x ∈ p1, x.block < W.heap.size := by obtain ⟨m, hm⟩ := k1; exact DataW.trod_lt m _ _ _ hm
  obtain ⟨A_1, n_1, c_1, bs_1, rfl, R_1⟩ := openBytes (hval 1 33 v1 rfl rfl) h1
  clear hA0 hval0
  refine (walk A_0 n_0 c_0 bs_0 A_1 n_1 c_1 bs_1 W R_0 R_1).mono fun e W' ⟨he, bel⟩ => ?_
  subst he
  exact ⟨_, rfl, _, _, _, [], _, [], hW', trodAll_mk1 (shut_bool Try.underlying4 _), (trodAll_cons_mk (Below.trod laidOut (by kernel_rfl) (of_decide_eq_true (by kernel_rfl)) k0 bel lt0) (trodAll_cons_mk (Below.trod laidOut (by kernel_rfl) (of_decide_eq_true (by kernel_rfl)) k1 bel lt1) trodAll_mk0)), rfl, bel.frame _, fun h => by cases h⟩

theorem over : Rows.fnCabinetOfRow.holds Try.pinned (OpenSpec.ofChange Rows.fnCabinetOfSpec) :=
  OpenClaim.holds_of_wide 11 Try.f11 rfl rfl rfl rfl rfl rfl rfl ⟨rfl, rfl, rfl, rfl, rfl⟩ rfl rfl rfl rfl rfl (by kernel_rfl) Try.func11 (by kernel_rfl)
    (of_decide_eq_true (by kernel_rfl)) (by unfold Func.isWrapper; first | (rw [if_pos (by decide +kernel)]; kernel_rfl) | (rw [if_neg (by decide +kernel)]; exact ⟨rfl, rfl⟩))
    (fun os started H enc _ => lifted os started H enc)

theorem proved : Rows.FnCabinetOfSaid := over
end Go.Proofs.Ytfbfapobmhfenaa.fnCabinetOf
