/-
  The outline of a word, of the reference. Conditions: the list lies in memory.
-/
import Derived.Test.YtppjjbjjbmodbaaDoorSysS3
namespace Go.Proofs.YtppjjbjjbmodbaaDoor
open Go.ChangeShapes Go.WideShapes Go.ChangeAt Go.RowKit
set_option maxRecDepth 100000
set_option linter.unusedSimpArgs false

theorem okS_good {s : Stroke} (h : okS s = true) : s.good := by
  have := okS_iff.1 h
  exact ⟨WalkArith.wf_i64 (by omega), WalkArith.wf_i64 (by omega)⟩
theorem outB_good {ss : List Stroke} (h : outB ss = true) : ∀ s ∈ ss, s.good := fun _ hs => okS_good (outB_ok h hs)
/-- The answer of a word's outline. -/
def OutAns (w' : World) (B : Nat) (o : Option (List Stroke)) (e : Ending) : Prop :=
  (o = none ∧ ∃ A c, e = .returned (.tuple #[.slice A 0 c, .bool false]) ∧ StrOwn w' B (.slice A 0 c) []) ∨
  ∃ A c ss, o = some ss ∧ e = .returned (.tuple #[.slice A ss.length c, .bool true]) ∧ StrOwn w' B (.slice A ss.length c) ss
theorem outl_take_succ {xs : List Sg} {t : List UInt8} {k : Nat} {L : List Stroke} {s : Stroke} (hk : k < t.length) (h : outl xs (t.take k) = some L) (hs : strokeOf xs [at8 t k] = some s) : outl xs (t.take (k + 1)) = some (L ++ [s]) := by
  rw [List.take_succ_eq_append_getElem hk, outl_snoc, h, at8_get hk, hs]; rfl
theorem outl_ok {xs : List Sg} : ∀ {a : List UInt8} {o : List Stroke}, outl xs a = some o → ∀ s ∈ o, s.good
  | [], o, h => by simp [outl] at h; subst h; simp
  | c :: r, o, h => by
    simp only [outl] at h
    obtain ⟨s, hs, h⟩ := Option.bind_eq_some_iff.1 h
    obtain ⟨q, hq, rfl⟩ := Option.map_eq_some_iff.1 h
    intro x hx
    rcases List.mem_cons.1 hx with rfl | hx
    · exact okS_good (strokeOf_ok hs).2
    · exact outl_ok hq x hx
theorem ext_one {t : List UInt8} {k : Nat} (hk : k < t.length) : (mkStr t).extract k (k + 1) = mkStr [at8 t k] := by
  rw [ext_mid, mkStr_data, List.take_succ_eq_append_getElem hk, List.drop_append_of_le_length (by rw [List.length_take]; omega), List.drop_of_length_le (by rw [List.length_take]; omega), at8_get hk]; rfl

set_option maxHeartbeats 1600000 in
theorem specWordOutline (A : Option Addr) (n c : Nat) (xs : List Sg) (s : ByteArray) (w : World) (hs : s.size ≤ maxLen) (h : SgsIn w w.heap.size A n c xs) :
    Calls Tryd.prog 63 #[.slice A n c, .string s] w fun e w' => OutAns w' w.heap.size (wordOut xs s.data.toList) e ∧ Below w.heap.size w w' := by
  obtain ⟨i0, hi, hz0, hz1, hz2⟩ := info_parts infoSt
  have H := Lib.hid h
  have hal : Below w.heap.size w (w.alloc (.cells #[] 88)) := (Below.refl _ _).alloc (Nat.le_refl _) _
  have HO0 : Hid (StrOwn (w.alloc (.cells #[] 88)) w.heap.size (.slice (some ⟨w.heap.size, 0, none⟩) 0 0) []) := Lib.hid (StrOwn.made w)
  have HV := Lib.hid (specSystemValid A n c xs _ (h.keep hal))
  have HN : Hid (∀ W, Below w.heap.size w W → StrOwn (W.alloc (.cells #[] 88)) w.heap.size (.slice (some ⟨W.heap.size, 0, none⟩) 0 0) []) := Lib.hid (fun W hW => ownG_mono (StrOwn.made W) hW.size)
  clear h
  cases hb : sysB xs with
  | false =>
    rw [hb] at HV
    have HR : Hid (wordOut xs s.data.toList = none) := Lib.hid (wordOut_bad (.inl hb))
    clear hb
    go_enter Tryd.func63, Tryd.ntmps63
    go_wp2_with fail
    refine HV.out.mono ?_
    rintro e w1 ⟨rfl, hb1⟩
    have b1 := below_next hal hb1
    have HO1 := Lib.hid (ownG_keep HO0.out hb1)
    go_wp2
    go_returns
    exact ⟨.inl ⟨HR.out, _, _, rfl, HO1.out⟩, b1⟩
  | true =>
  rw [hb] at HV
  have HB := Lib.hid hb
  have HW := Lib.hid (fun W => specWordValid s W hs)
  clear hb
  cases hw : wordB s.data.toList with
  | false =>
    rw [hw] at HW
    have HR : Hid (wordOut xs s.data.toList = none) := Lib.hid (wordOut_bad (.inr hw))
    clear hw
    go_enter Tryd.func63, Tryd.ntmps63
    go_wp2_with fail
    refine HV.out.mono ?_
    rintro e w1 ⟨rfl, hb1⟩
    have b1 := below_next hal hb1
    have HO1 := Lib.hid (ownG_keep HO0.out hb1)
    go_wp2_with fail
    refine (HW.out _).mono ?_
    rintro e w2 ⟨rfl, rfl⟩
    go_wp2
    go_returns
    exact ⟨.inl ⟨HR.out, _, _, rfl, HO1.out⟩, b1⟩
  | true =>
  rw [hw] at HW
  have HBr := Lib.hid (fun W => specWordBare s W hs)
  have HR : Hid (wordOut xs s.data.toList = (outl xs (bareOf s.data.toList)).bind fun o => if outB o = true then some o else none) := Lib.hid (wordOut_eq HB.out hw)
  have hl12 := bareOf_len s.data.toList
  clear hw
  generalize wordOut xs s.data.toList = R at *
  generalize bareOf s.data.toList = t at *
  have HNo : Hid (∀ k, k < t.length → strokeOf xs [at8 t k] = none → R = none) := Lib.hid (fun k hk h => by
    rw [HR.out, outl_no (c := at8 t k) (by rw [← at8_get hk]; exact List.getElem_mem hk) h]; rfl)
  have HOV := Lib.hid (fun (W : World) (AA : Option Addr) (nn cc : Nat) (ss : List Stroke) (h : StrokesIn W W.heap.size AA nn cc ss) => specOutlineValid AA nn cc ss W h)
  obtain ⟨st, hst⟩ : ∃ st, st = mkStr t := ⟨_, rfl⟩
  rw [← hst] at HBr
  have hts : st.size ≤ 12 := by rw [hst, mkStr_size]; exact hl12
  have HT : Hid (st.size = t.length) := Lib.hid (by rw [hst, mkStr_size])
  have HX : Hid (∀ k, k < t.length → st.extract k (k + 1) = mkStr [at8 t k]) := Lib.hid (fun k hk => by rw [hst]; exact ext_one hk)
  clear hst hl12
  go_enter Tryd.func63, Tryd.ntmps63
  go_wp2_with fail
  refine HV.out.mono ?_
  rintro e w1 ⟨rfl, hb1⟩
  have b1 := below_next hal hb1
  have HO1 := Lib.hid (ownG_keep HO0.out hb1)
  clear hb1 HO0 hal HV
  go_wp2_with fail
  refine (HW.out _).mono ?_
  rintro e w2 ⟨rfl, rfl⟩
  go_wp2_with fail
  refine (HBr.out _).mono ?_
  rintro e w2 ⟨rfl, hb2⟩
  have b2 := below_next b1 hb2
  have HO2 := Lib.hid (ownG_keep HO1.out hb2)
  clear hb2 HO1 HBr HW
  go_wp2
  go_loopw [6, 8] (fun o i wr => ∃ (k : Nat) (v : Value) (L : List Stroke), k ≤ st.size ∧ i = .int .i64 k ∧ v = o ∧ L.length = k ∧ Hid (StrOwn wr w.heap.size v L) ∧ Hid (outl xs (t.take k) = some L) ∧ Below w.heap.size w wr) (fun _ i _ => st.size - (intOf i).toNat)
  case atStart => exact ⟨0, _, [], Nat.zero_le _, rfl, rfl, rfl, HO2, Lib.hid rfl, b2⟩
  case round =>
    obtain ⟨k, v, L, hk, rfl, rfl, hL, HO, HL, hb⟩ := hrel
    have hz := hb.size
    have hL12 : L.length ≤ 12 := by omega
    have HLk := Lib.hid hL; clear hL
    by_cases hlt : k < st.size
    · have hkt : k < t.length := by rw [← HT.out]; exact hlt
      have i1 : (0 : Int) ≤ (k : Int) := by omega
      have i2 : (k : Int) < (st.size : Int) := by omega
      have hx := HX.out k hkt
      cases hsk : strokeOf xs [at8 t k] with
      | none =>
        have HSt : Hid (Calls Tryd.prog 79 #[.slice A n c, .string (mkStr [at8 t k])] wr fun e w' => e = .returned (.tuple #[.agg #[.int .i64 0, .int .i64 0], .bool false]) ∧ Below wr.heap.size wr w') := Lib.hid (by
          have := specSystemStroke A n c xs [at8 t k] wr (H.out.keep hb)
          rw [hsk] at this
          exact this)
        have HRn := Lib.hid (HNo.out k hkt hsk)
        clear hsk
        generalize mkStr [at8 t k] = u at *
        go_wp2_with fail
        refine HSt.out.mono ?_
        rintro e w3 ⟨rfl, hb3⟩
        have b3 := below_next hb hb3
        go_wp2
        go_returns
        exact ⟨.inl ⟨HRn.out, _, _, rfl, by have h := HN.out (w3.alloc (.cells #[.int .i64 0, .int .i64 0] 88)) (b3.alloc b3.size _); simp only [World.size_alloc] at h; exact h⟩, (b3.alloc b3.size _).alloc (by have := b3.size; simp; omega) _⟩
      | some s =>
        obtain ⟨d, z⟩ := s
        have HSt : Hid (Calls Tryd.prog 79 #[.slice A n c, .string (mkStr [at8 t k])] wr fun e w' => e = .returned (.tuple #[.agg #[.int .i64 d, .int .i64 z], .bool true]) ∧ Below wr.heap.size wr w') := Lib.hid (by
          have := specSystemStroke A n c xs [at8 t k] wr (H.out.keep hb)
          rw [hsk] at this
          exact this)
        have HL2 := Lib.hid (outl_take_succ hkt HL.out hsk)
        clear hsk
        generalize mkStr [at8 t k] = u at *
        go_wp2_with fail
        refine HSt.out.mono ?_
        rintro e w3 ⟨rfl, hb3⟩
        have b3 := below_next hb hb3
        have z3 := b3.size
        have HO3 : Hid (∀ o o', (((w3.alloc o).alloc o')).ownsRow w.heap.size 88 2 v L.length (L.flatMap stC)) := Lib.hid (fun o o' => ownG_keep HO.out ((hb3.alloc hb3.size o).alloc (by have := hb3.size; simp; omega) o'))
        have HRow : Hid (∀ o, Row ((w3.alloc o).alloc (.cells #[.int .i64 d, .int .i64 z] 88)) (w3.heap.size + 2) (some ⟨w3.heap.size + 1, 0, none⟩) 1 2 [.int .i64 d, .int .i64 z]) := Lib.hid (fun o => by have h := rowNewSt (w3.alloc o) (.int .i64 d) (.int .i64 z) 88; simp only [World.size_alloc] at h; exact h)
        clear hb3 HSt hx
        go_wp2_with (at_builtin; refine wpList_append_any _ rfl (.tmp 42) (.tmp 44) _ rfl w.heap.size 88 i0 _ 2 16 Tryd.underlying34 hi hz0 hz1 hz2 rfl (by omega) _ L.length (L.flatMap stC) rfl (HO3.out _ _) (w3.heap.size + 2) (some ⟨w3.heap.size + 1, 0, none⟩) 1 1 [.int .i64 d, .int .i64 z] rfl (HRow.out _) (by simp [Value.oneCell']) (by unfold maxLen; omega) (by omega) (by simp; omega) ?_; intro v4 w4 hown4 hg4 hat4)
        have HO4 : Hid (StrOwn w4 w.heap.size v4 (L ++ [⟨d, z⟩])) := Lib.hid (by unfold StrOwn; rw [List.length_append, List.flatMap_append]; exact hown4)
        have b4 := ((b3.alloc z3 _).alloc (by simp; omega) _).grown hg4 (by simp; omega) (fun q hq => ownG_base (HO3.out default default) hq)
        clear hown4 hg4 hat4
        go_wp2
        go_roundw
        case rel => exact ⟨k + 1, _, _, by omega, by go_num, rfl, by rw [List.length_append, HLk.out]; rfl, HO4, HL2, b4⟩
        case measure => simp [intOf]; omega
    · obtain rfl : k = st.size := by omega
      have HLt : Hid (outl xs t = some L) := Lib.hid (by have := HL.out; rw [HT.out, List.take_of_length_le (Nat.le_refl _)] at this; exact this)
      obtain ⟨A6, c6, rfl, hc6, hm6⟩ := ownG_form HO.out
      have HO6 : Hid (StrOwn wr w.heap.size (.slice A6 L.length c6) L) := HO
      have HOVk := Lib.hid (HOV.out wr A6 L.length c6 L (StrOwn.reads HO6.out rfl (outl_ok HLt.out)))
      have HR2 : Hid (R = if outB L = true then some L else none) := Lib.hid (by rw [HR.out, HLt.out]; rfl)
      generalize hM : L.length = M at *
      have HM := Lib.hid hM; clear hM
      cases ho : outB L with
      | false =>
        rw [ho] at HOVk
        have HRn : Hid (R = none) := Lib.hid (by rw [HR2.out, ho]; rfl)
        clear ho
        go_wp2_with fail
        refine HOVk.out.mono ?_
        rintro e w3 ⟨rfl, hb3⟩
        have b3 := below_next hb hb3
        go_wp2
        go_returns
        exact ⟨.inl ⟨HRn.out, _, _, rfl, HN.out _ b3⟩, b3.alloc b3.size _⟩
      | true =>
        rw [ho] at HOVk
        have HRn : Hid (R = some L) := Lib.hid (by rw [HR2.out, ho]; rfl)
        clear ho
        go_wp2_with fail
        refine HOVk.out.mono ?_
        rintro e w3 ⟨rfl, hb3⟩
        have b3 := below_next hb hb3
        have HO7 := Lib.hid (ownG_keep HO6.out hb3)
        go_wp2
        go_returns
        exact ⟨.inr ⟨A6, c6, L, HRn.out, by rw [HM.out]; rfl, by rw [HM.out]; exact HO7.out⟩, b3⟩
end Go.Proofs.YtppjjbjjbmodbaaDoor
