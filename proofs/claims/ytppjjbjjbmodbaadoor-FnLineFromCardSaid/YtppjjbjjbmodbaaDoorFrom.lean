/-
  OutlineFrom of both: a text is read as an outline. Conditions: the text is no longer than the laws' texts.
-/
import Derived.Test.YtppjjbjjbmodbaaDoorFromLaw
import Derived.Test.YtppjjbjjbmodbaaDoorOutText
import Derived.Test.YtppjjbjjbmodbaaDoorBase
import Derived.Test.YtppjjbjjbmodbaaDoorOwnG
import Derived.Deep.RegionHeld3
namespace Go.Proofs.YtppjjbjjbmodbaaDoor
open Go.ChangeShapes Go.WideShapes Go.ChangeAt Go.RowKit
set_option maxRecDepth 100000

theorem StrOwn.reads {w : World} {B n c : Nat} {A : Option Addr} {ss : List Stroke} (h : StrOwn w B (.slice A n c) ss) (hn : ss.length = n) (hg : ∀ s ∈ ss, s.good) : StrokesIn w w.heap.size A n c ss := by
  unfold StrOwn at h
  rw [hn] at h
  obtain ⟨A', c', e, h1, h2⟩ := ownG_form h
  injection e with e1 e2 e3
  subst e1 e3
  exact ⟨hn, h1, h2, Row.of_own h, hg⟩
/-- The answer of reading a text. -/
def FromAns (w' : World) (B : Nat) (o : Option (List Stroke)) (e : Ending) : Prop :=
  (o = none ∧ ∃ A c, e = .returned (.tuple #[.slice A 0 c, .bool false]) ∧ StrOwn w' B (.slice A 0 c) []) ∨
  ∃ A c ss, o = some ss ∧ e = .returned (.tuple #[.slice A ss.length c, .bool true]) ∧ StrOwn w' B (.slice A ss.length c) ss ∧ ∀ s ∈ ss, s.good
theorem FromAns.no {w' : World} {B : Nat} {o : Option (List Stroke)} {e : Ending} {A : Option Addr} {c : Nat} (h : o = none) (he : e = .returned (.tuple #[.slice A 0 c, .bool false])) (hc : StrOwn w' B (.slice A 0 c) []) : FromAns w' B o e := .inl ⟨h, A, c, he, hc⟩
theorem FromAns.yes {w' : World} {B : Nat} {o : Option (List Stroke)} {e : Ending} {v : Value} {ss : List Stroke} (h : o = some ss) (he : e = .returned (.tuple #[v, .bool true])) (hc : StrOwn w' B v ss) (hg : ∀ s ∈ ss, s.good) : FromAns w' B o e := by
  obtain ⟨A, c, rfl, _⟩ := ownG_form hc
  exact .inr ⟨A, c, ss, h, he, hc, hg⟩
theorem infoSt : (Tryd.prog.info? 88).map (fun i => (i.zero, i.size, i.bytes)) = some (some (.agg #[.int .i64 0, .int .i64 0]), 2, 16) := by kernel_rfl
theorem rowNewSt (w : World) (u1 u2 : Value) (t : TypeId) : Row (w.alloc (.cells #[u1, u2] t)) (w.heap.size + 1) (some ⟨w.heap.size, 0, none⟩) 1 2 [u1, u2] := by
  refine ⟨rfl, fun _ => ⟨w.heap.size, 0, rfl, by omega, fun j x hx => ?_⟩⟩
  rcases j with _ | _ | j
  · simp at hx; subst hx; exact newcell w #[u1, u2] t 0 u1 rfl
  · simp at hx; subst hx; exact newcell w #[u1, u2] t 1 u2 rfl
  · simp at hx
theorem StrOwn.made (w : World) : StrOwn (w.alloc (.cells #[] 88)) w.heap.size (.slice (some ⟨w.heap.size, 0, none⟩) 0 0) [] := World.ownsRow_made w #[] 0 (Nat.le_refl _) (by simp) (by simp)

set_option maxHeartbeats 800000 in
theorem implOutlineFrom (s : ByteArray) (w : World) (hs : s.size ≤ 4096) :
    Calls Tryd.prog 39 #[.string s] w fun e w' => FromAns w' w.heap.size (fromS s.data.toList) e ∧ Below w.heap.size w w' := by
  obtain ⟨i0, hi, hz0, hz1, hz2⟩ := info_parts infoSt
  have HSz : Hid (s.data.toList.length = s.size) := Lib.hid (by simp)
  by_cases hodd : s.size % 2 = 1
  · have HN : Hid (fromS s.data.toList = none) := Lib.hid (fromS_no (.inl (by rw [HSz.out]; exact hodd)))
    have ho : (((s.size : Int) % 2) != 0) = true := bne_iff_ne.2 (by omega)
    clear hodd
    go_enter Tryd.func39, Tryd.ntmps39
    go_wp2
    go_returns
    exact ⟨.no HN.out rfl (World.ownsRow_nil _ _ _ _), Below.refl _ _⟩
  have ho : (((s.size : Int) % 2) != 0) = false := bne_eq_false_iff_eq.2 (by omega)
  by_cases h16 : 16 < s.size
  · have HN : Hid (fromS s.data.toList = none) := Lib.hid (fromS_no (.inr (outB_long (by rw [pairsS_len, HSz.out]; omega))))
    clear hodd
    go_enter Tryd.func39, Tryd.ntmps39
    go_wp2
    go_returns
    exact ⟨.no HN.out rfl (World.ownsRow_nil _ _ _ _), Below.refl _ _⟩
  have HE := Lib.hid (show s.size % 2 = 0 by omega)
  clear hodd
  go_enter Tryd.func39, Tryd.ntmps39
  go_wp2
  go_loopw [4, 5] (fun v i wr => ∃ (k j : Nat), Hid (k = 2 * j) ∧ k ≤ s.size ∧ i = .int .i64 k ∧ Hid (StrOwn wr w.heap.size v ((pairsS s.data.toList).take j)) ∧ Below w.heap.size w wr) (fun _ i _ => s.size - (intOf i).toNat)
  case atStart => exact ⟨0, 0, Lib.hid rfl, Nat.zero_le _, rfl, Lib.hid (StrOwn.made w), (Below.refl _ _).alloc (Nat.le_refl _) _⟩
  case round =>
    obtain ⟨k, j, HK, hk, rfl, HO, hb⟩ := hrel
    have hz := hb.size
    by_cases hlt : k < s.size
    · have hlt1 : k + 1 < s.size := by have := HK.out; have := HE.out; omega
      have i1 : (0 : Int) ≤ (k : Int) := by omega
      have i2 : (k : Int) < (s.size : Int) := by omega
      have i3 : (0 : Int) ≤ (k : Int) + 1 := by omega
      have i4 : (k : Int) + 1 < (s.size : Int) := by omega
      have w1 : IntKind.i64.wrap ((k : Int) + 1) = (k : Int) + 1 := IntWalk.i64_in _ (by omega)
      have hc7 := s[k].toNat_lt
      have w2 : IntKind.i64.wrap (s[k].toNat : Int) = (s[k].toNat : Int) := IntWalk.i64_in _ (by omega)
      have w3 : IntKind.i64.wrap ((s[k].toNat : Int) - 48) = (s[k].toNat : Int) - 48 := IntWalk.i64_in _ (by omega)
      obtain ⟨z1, z2⟩ := sizeN_bd s[k + 1]
      have HIx : Hid (∀ W, Calls Tryd.prog 38 #[.string { data := #[115, 109, 108] }, .int .u8 (s[k + 1].toNat : Int)] W fun e w' => e = .returned (.int .i64 (sizeN s[k + 1] - 1)) ∧ w' = W) := Lib.hid (fun W => (Tryd.strings_IndexByte { data := #[115, 109, 108] } (s[k + 1].toNat : Int) W).mono fun e w' ⟨he, hw⟩ => ⟨by
        rw [he]
        have e1 : ((s[k + 1].toNat : Int).toNat.toUInt8) = s[k + 1] := by rw [Int.toNat_natCast]; simp
        rw [e1]
        exact ret_int (by have := index_size s[k + 1]; show Lib.indexByte [115, 109, 108] s[k + 1] = _; omega), hw⟩)
      have w4 : IntKind.i64.wrap (sizeN s[k + 1]) = sizeN s[k + 1] := IntWalk.i64_in _ (by omega)
      have HTk : Hid ((pairsS s.data.toList).take (j + 1) = (pairsS s.data.toList).take j ++ [⟨(s[k].toNat : Int) - 48, sizeN s[k + 1]⟩]) := Lib.hid (by
        have hk2 := HK.out
        subst hk2
        exact pairs_take (by rw [HSz.out]; omega))
      have hlj : ((pairsS s.data.toList).take j).length ≤ 8 := by rw [List.length_take, pairsS_len, HSz.out]; omega
      have hlz : ((pairsS s.data.toList).take (j + 1)).length = ((pairsS s.data.toList).take j).length + 1 := by rw [HTk.out, List.length_append]; rfl
      clear hlz
      generalize (pairsS s.data.toList).take j = L at *
      generalize hln : L.length = Ln at *
      have HLn := Lib.hid hln; clear hln
      have HO2 : Hid (wr.drew.ownsRow w.heap.size 88 2 u4 Ln (L.flatMap stC)) := Lib.hid (by have h := HO.out; unfold StrOwn at h; rw [HLn.out] at h; exact h)
      generalize sizeN s[k + 1] = z at *
      go_wp2_with fail
      go_region_held3 (fun _ => True) (trivial) (first
        | (go_at_call 38; refine (HIx.out _).mono ?_; rintro e w2 ⟨rfl, rfl⟩)
        | ((refine step_append_any _ rfl (.tmp 22) (.tmp 35) _ rfl w.heap.size 88 i0 _ 2 16 Tryd.underlying34 hi hz0 hz1 hz2 rfl (by omega) _ Ln (L.flatMap stC) rfl (HO2.out.alloc _) (wr.heap.size + 1) (some ⟨wr.heap.size, 0, none⟩) 1 1 [.int .i64 ((s[k].toNat : Int) - 48), .int .i64 z] rfl (rowNewSt _ _ _ _) (by simp [Value.oneCell']) (by unfold maxLen; omega) (by omega) (by simp; omega) ?_; intro v4 w4 hown4 hg4 hat4)))
      all_goals (
        have HO4 : Hid (StrOwn w4 w.heap.size v4 ((pairsS s.data.toList).take (j + 1))) := Lib.hid (by rw [HTk.out]; unfold StrOwn; rw [List.length_append, List.flatMap_append, HLn.out]; exact hown4)
        have b4 : Below w.heap.size w w4 := Below.grown (w := (wr.alloc (.cells #[.int .i64 ((s[k].toNat : Int) - 48), .int .i64 z] 88)).drew) (hb.alloc hz _).drew hg4 (by show w.heap.size ≤ (wr.alloc _).heap.size; simp; omega) (fun z hz => ownG_base HO2.out hz)
        clear hown4 hg4 hat4 HO HO2 HIx
        go_wp2
        go_roundw
        case rel => exact ⟨k + 2, j + 1, Lib.hid (by have := HK.out; omega), by omega, by go_num, HO4, b4⟩
        case measure => simp [intOf]; omega)
    · have hj : (pairsS s.data.toList).take j = pairsS s.data.toList := List.take_of_length_le (by rw [pairsS_len, HSz.out]; have := HK.out; omega)
      rw [hj] at HO
      obtain ⟨A5, c5, rfl, _, _⟩ := ownG_form HO.out
      have HR5 := HO.out.reads rfl pairs_good
      have HV := Lib.hid (implOutlineValid _ _ _ _ wr HR5)
      clear hj HR5
      cases ho2 : outB (pairsS s.data.toList) with
      | false =>
        have HN : Hid (fromS s.data.toList = none) := Lib.hid (fromS_no (.inr ho2))
        rw [ho2] at HV
        clear ho2
        go_wp2_with fail
        refine HV.out.mono ?_
        rintro e w3 ⟨rfl, hb3⟩
        have b3 := below_next hb hb3
        go_wp2
        go_returns
        exact ⟨.no HN.out rfl (World.ownsRow_nil _ _ _ _), b3⟩
      | true =>
        have HY : Hid (fromS s.data.toList = some (pairsS s.data.toList)) := Lib.hid (fromS_yes (by rw [HSz.out]; exact HE.out) ho2)
        rw [ho2] at HV
        clear ho2
        go_wp2_with fail
        refine HV.out.mono ?_
        rintro e w3 ⟨rfl, hb3⟩
        have b3 := below_next hb hb3
        have HO3 := Lib.hid (ownG_keep HO.out hb3)
        go_wp2
        go_returns
        exact ⟨.yes HY.out rfl HO3.out pairs_good, b3⟩
theorem own_mono0 {w : World} {B B' : Nat} {v : Value} {ss : List Stroke} (h : StrOwn w B v ss) (hB : B' ≤ B) : StrOwn w B' v ss := ownG_mono h hB

theorem l1Size (c : UInt8) (w : World) : Calls Tryd.prog 66 #[.int .u8 (c.toNat : Int)] w fun e w' => e = .returned (.int .i64 (sizeN c)) ∧ w' = w := by
  by_cases h1 : c = 115
  · subst h1
    go_enter Tryd.func66, Tryd.ntmps66
    go_wp2
    go_ret
    exact ⟨rfl, rfl⟩
  · by_cases h2 : c = 109
    · subst h2
      go_enter Tryd.func66, Tryd.ntmps66
      go_wp2
      go_ret
      exact ⟨rfl, rfl⟩
    · by_cases h3 : c = 108
      · subst h3
        go_enter Tryd.func66, Tryd.ntmps66
        go_wp2
        go_ret
        exact ⟨rfl, rfl⟩
      · have HR : Hid (sizeN c = 0) := Lib.hid (by unfold sizeN; rw [if_neg h1, if_neg h2, if_neg h3])
        have g : ∀ d : UInt8, c ≠ d → ((c.toNat : Int) == (d.toNat : Int)) = false := fun d hd => beq_eq_false_iff_ne.2 (fun e => hd (UInt8.toNat_inj.1 (by omega)))
        have g1 : ((c.toNat : Int) == 115) = false := g 115 h1
        have g2 : ((c.toNat : Int) == 109) = false := g 109 h2
        have g3 : ((c.toNat : Int) == 108) = false := g 108 h3
        clear h1 h2 h3 g
        generalize (c.toNat : Int) = x at *
        go_enter Tryd.func66, Tryd.ntmps66
        go_wp2
        go_ret
        exact ⟨ret_int HR.out.symm, rfl⟩

set_option maxHeartbeats 800000 in
theorem specOutlineFrom (s : ByteArray) (w : World) (hs : s.size ≤ 4096) :
    Calls Tryd.prog 46 #[.string s] w fun e w' => FromAns w' w.heap.size (fromS s.data.toList) e ∧ Below w.heap.size w w' := by
  obtain ⟨i0, hi, hz0, hz1, hz2⟩ := info_parts infoSt
  have HSz : Hid (s.data.toList.length = s.size) := Lib.hid (by simp)
  go_enter Tryd.func46, Tryd.ntmps46
  go_wp2
  go_loopw [4, 5] (fun v i wr => ∃ (k j : Nat), Hid (k = 2 * j) ∧ k ≤ s.size ∧ i = .int .i64 k ∧ Hid (StrOwn wr w.heap.size v ((pairsS s.data.toList).take j)) ∧ Below w.heap.size w wr) (fun _ i _ => s.size - (intOf i).toNat)
  case atStart => exact ⟨0, 0, Lib.hid rfl, Nat.zero_le _, rfl, Lib.hid (StrOwn.made w), (Below.refl _ _).alloc (Nat.le_refl _) _⟩
  case round =>
    obtain ⟨k, j, HK, hk, rfl, HO, hb⟩ := hrel
    have hz := hb.size
    by_cases hlt1 : k + 1 < s.size
    · have hlt : k < s.size := by omega
      have i1 : (0 : Int) ≤ (k : Int) := by omega
      have i2 : (k : Int) < (s.size : Int) := by omega
      have i3 : (0 : Int) ≤ (k : Int) + 1 := by omega
      have i4 : (k : Int) + 1 < (s.size : Int) := by omega
      have w1 : IntKind.i64.wrap ((k : Int) + 1) = (k : Int) + 1 := IntWalk.i64_in _ (by omega)
      have hc7 := s[k].toNat_lt
      have w2 : IntKind.i64.wrap (s[k].toNat : Int) = (s[k].toNat : Int) := IntWalk.i64_in _ (by omega)
      have w3 : IntKind.i64.wrap ((s[k].toNat : Int) - 48) = (s[k].toNat : Int) - 48 := IntWalk.i64_in _ (by omega)
      obtain ⟨z1, z2⟩ := sizeN_bd s[k + 1]
      have HIx := Lib.hid (fun W => l1Size s[k + 1] W)
      have w4 : IntKind.i64.wrap (sizeN s[k + 1]) = sizeN s[k + 1] := IntWalk.i64_in _ (by omega)
      have HTk : Hid ((pairsS s.data.toList).take (j + 1) = (pairsS s.data.toList).take j ++ [⟨(s[k].toNat : Int) - 48, sizeN s[k + 1]⟩]) := Lib.hid (by
        have hk2 := HK.out
        subst hk2
        exact pairs_take (by rw [HSz.out]; omega))
      have hlj : ((pairsS s.data.toList).take j).length ≤ 2048 := by rw [List.length_take, pairsS_len, HSz.out]; omega
      have hlz : ((pairsS s.data.toList).take (j + 1)).length = ((pairsS s.data.toList).take j).length + 1 := by rw [HTk.out, List.length_append]; rfl
      clear hlz
      generalize (pairsS s.data.toList).take j = L at *
      generalize hln : L.length = Ln at *
      have HLn := Lib.hid hln; clear hln
      have HO2 : Hid (wr.drew.ownsRow w.heap.size 88 2 u4 Ln (L.flatMap stC)) := Lib.hid (by have h := HO.out; unfold StrOwn at h; rw [HLn.out] at h; exact h)
      generalize sizeN s[k + 1] = z at *
      go_wp2_with fail
      go_region_held3 (fun _ => True) (trivial) (first
        | (go_at_call 66; refine (HIx.out _).mono ?_; rintro e w2 ⟨rfl, rfl⟩)
        | ((refine step_append_any _ rfl (.tmp 14) (.tmp 26) _ rfl w.heap.size 88 i0 _ 2 16 Tryd.underlying34 hi hz0 hz1 hz2 rfl (by omega) _ Ln (L.flatMap stC) rfl (HO2.out.alloc _) (wr.heap.size + 1) (some ⟨wr.heap.size, 0, none⟩) 1 1 [.int .i64 ((s[k].toNat : Int) - 48), .int .i64 z] rfl (rowNewSt _ _ _ _) (by simp [Value.oneCell']) (by unfold maxLen; omega) (by omega) (by simp; omega) ?_; intro v4 w4 hown4 hg4 hat4)))
      all_goals (
        have HO4 : Hid (StrOwn w4 w.heap.size v4 ((pairsS s.data.toList).take (j + 1))) := Lib.hid (by rw [HTk.out]; unfold StrOwn; rw [List.length_append, List.flatMap_append, HLn.out]; exact hown4)
        have b4 : Below w.heap.size w w4 := Below.grown (w := (wr.alloc (.cells #[.int .i64 ((s[k].toNat : Int) - 48), .int .i64 z] 88)).drew) (hb.alloc hz _).drew hg4 (by show w.heap.size ≤ (wr.alloc _).heap.size; simp; omega) (fun z hz => ownG_base HO2.out hz)
        clear hown4 hg4 hat4 HO HO2 HIx
        go_wp2
        go_roundw
        case rel => exact ⟨k + 2, j + 1, Lib.hid (by have := HK.out; omega), by omega, by go_num, HO4, b4⟩
        case measure => simp [intOf]; omega)
    · have hj : (pairsS s.data.toList).take j = pairsS s.data.toList := List.take_of_length_le (by rw [pairsS_len, HSz.out]; have := HK.out; omega)
      rw [hj] at HO
      obtain ⟨A5, c5, rfl, _, _⟩ := ownG_form HO.out
      have HR5 := HO.out.reads rfl pairs_good
      have HV := Lib.hid (specOutlineValid _ _ _ _ wr HR5)
      clear hj HR5
      by_cases hodd : s.size % 2 = 1
      · have HN : Hid (fromS s.data.toList = none) := Lib.hid (fromS_no (.inl (by rw [HSz.out]; exact hodd)))
        have ho : (((s.size : Int) % 2) == 1) = true := beq_iff_eq.2 (by omega)
        clear hodd
        go_wp2
        go_returns
        exact ⟨.no HN.out rfl (own_mono0 (StrOwn.made wr) hz), hb.alloc hz _⟩
      · have ho : (((s.size : Int) % 2) == 1) = false := beq_eq_false_iff_ne.2 (by omega)
        have HE := Lib.hid (show s.size % 2 = 0 by omega)
        clear hodd
        cases ho2 : outB (pairsS s.data.toList) with
        | false =>
          have HN : Hid (fromS s.data.toList = none) := Lib.hid (fromS_no (.inr ho2))
          rw [ho2] at HV
          clear ho2
          go_wp2_with fail
          refine HV.out.mono ?_
          rintro e w3 ⟨rfl, hb3⟩
          have b3 := below_next hb hb3
          have hz3 := b3.size
          go_wp2
          go_returns
          exact ⟨.no HN.out rfl (own_mono0 (StrOwn.made w3) hz3), b3.alloc hz3 _⟩
        | true =>
          have HY : Hid (fromS s.data.toList = some (pairsS s.data.toList)) := Lib.hid (fromS_yes (by rw [HSz.out]; exact HE.out) ho2)
          rw [ho2] at HV
          clear ho2
          go_wp2_with fail
          refine HV.out.mono ?_
          rintro e w3 ⟨rfl, hb3⟩
          have b3 := below_next hb hb3
          have HO3 := Lib.hid (ownG_keep HO.out hb3)
          go_wp2
          go_returns
          exact ⟨.yes HY.out rfl HO3.out pairs_good, b3⟩
end Go.Proofs.YtppjjbjjbmodbaaDoor
