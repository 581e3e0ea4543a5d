/-
  The line of writing of a list of words, of both. Conditions: the lists lie in memory; no text is absurdly long.
-/
import Derived.Test.YtppjjbjjbmodbaaReadT
namespace Go.Proofs.Ytppjjbjjbmodbaa
open Go.ChangeShapes Go.WideShapes Go.ChangeAt Go.RowKit Go.Maps
set_option maxRecDepth 100000
set_option linter.unusedSimpArgs false

def wof (xs : List Sg) (l : List UInt8) : Option Dat := (wordOut xs l).map fun o => (o, posOf l)
def allW (xs : List Sg) : List (List UInt8) → Option (List Dat)
  | [] => some []
  | l :: r => (wof xs l).bind fun d => (allW xs r).map (d :: ·)
def lineOf (xs : List Sg) (ws : List (List UInt8)) : Option (List Dat) := if sysB xs = true ∧ ws.length ≤ 20 then allW xs ws else none
theorem allW_snoc (xs : List Sg) (a : List (List UInt8)) (l : List UInt8) : allW xs (a ++ [l]) = (allW xs a).bind fun L => (wof xs l).map fun d => L ++ [d] := by
  induction a with
  | nil => simp only [List.nil_append, allW]; cases wof xs l <;> rfl
  | cons x r ih =>
    simp only [List.cons_append, allW, ih]
    cases wof xs x <;> cases allW xs r <;> cases wof xs l <;> rfl
theorem allW_no {xs : List Sg} {a : List (List UInt8)} {l : List UInt8} (h : l ∈ a) (hn : wof xs l = none) : allW xs a = none := by
  induction a with
  | nil => cases h
  | cons x r ih =>
    rcases List.mem_cons.1 h with rfl | h
    · simp [allW, hn]
    · simp only [allW, ih h]; cases wof xs x <;> rfl
theorem allW_step {xs : List Sg} {ws : List (List UInt8)} {k : Nat} {L : List Dat} {d : Dat} (hk : k < ws.length) (h : allW xs (ws.take k) = some L) (hd : wof xs (wdAt ws k) = some d) : allW xs (ws.take (k + 1)) = some (L ++ [d]) := by
  rw [List.take_add_one, wdAt_some hk]
  show allW xs (ws.take k ++ [wdAt ws k]) = _
  rw [allW_snoc, h, hd]; rfl
theorem lineOf_no {xs : List Sg} {ws : List (List UInt8)} {l : List UInt8} (h : l ∈ ws) (hn : wof xs l = none) : lineOf xs ws = none := by
  unfold lineOf; split
  · exact allW_no h hn
  · rfl

set_option maxHeartbeats 1600000 in
theorem implLineOf (A : Option Addr) (n c : Nat) (xs : List Sg) (A' : Option Addr) (n' c' : Nat) (ws : List (List UInt8)) (w : World) (hW : ∀ l ∈ ws, l.length ≤ maxLen) (h : SgsIn w w.heap.size A n c xs) (h' : WdsIn w w.heap.size A' n' c' ws) :
    Calls Try.prog 9 #[.slice A n c, .slice A' n' c'] w fun e w' => LinAns w' (lineOf xs ws) e ∧ Below w.heap.size w w' := by
  obtain ⟨i0, hi, hz0, hz1, hz2⟩ := info_parts infoWr
  have hm := h'.2.2.1; have hnc := h'.2.1
  unfold maxLen at hm
  have HL := Lib.hid h'.1
  have HV := Lib.hid (implSystemValid A n c xs w h)
  have HWo := Lib.hid (fun W (hb : Below w.heap.size w W) (l : List UInt8) (hl : l.length ≤ maxLen) => implWrittenOf A n c xs l W hl (h.keep hb))
  have HW := Lib.hid hW
  have H' := Lib.hid h'
  have HZ := Lib.hid (fun (W : World) (AA : Option Addr) => WrsIn.zero W W.heap.size AA)
  clear h h' hW
  cases hs : sysB xs with
  | false =>
    have HR : Hid (lineOf xs ws = none) := Lib.hid (if_neg (fun h => by rw [hs] at h; cases h.1))
    rw [hs] at HV
    clear hs
    go_enter Try.func9, Try.ntmps9
    go_wp2_with fail
    refine HV.out.mono ?_
    rintro e w1 ⟨rfl, b1⟩
    go_wp2
    go_returns
    exact ⟨.inl ⟨HR.out, _, _, rfl, HZ.out _ _⟩, b1⟩
  | true =>
    rw [hs] at HV
    by_cases h20 : 20 < n'
    · have HR : Hid (lineOf xs ws = none) := Lib.hid (if_neg (fun h => by have := h.2; rw [HL.out] at this; omega))
      clear hs
      go_enter Try.func9, Try.ntmps9
      go_wp2_with fail
      refine HV.out.mono ?_
      rintro e w1 ⟨rfl, b1⟩
      go_wp2
      go_returns
      exact ⟨.inl ⟨HR.out, _, _, rfl, HZ.out _ _⟩, b1⟩
    · have HR : Hid (lineOf xs ws = allW xs ws) := Lib.hid (if_pos ⟨hs, by rw [HL.out]; omega⟩)
      have HNo := Lib.hid (fun l (h : l ∈ ws) hn => lineOf_no (xs := xs) h hn)
      clear hs
      go_enter Try.func9, Try.ntmps9
      go_wp2_with fail
      refine HV.out.mono ?_
      rintro e w1 ⟨rfl, b1⟩
      have z1 := b1.size
      have HO0 : Hid (WrOwn (w1.alloc (.cells #[] 35)) w1.heap.size (.slice (some ⟨w1.heap.size, 0, none⟩) 0 0) []) := Lib.hid (LnOwn.made w1).1
      go_wp2
      go_loopw [6, 22] (fun v0 i wr => ∃ (k : Nat) (v : Value) (L : List Wr), k ≤ n' ∧ i = .int .i64 k ∧ v = v0 ∧ Hid (L.length = k) ∧ Hid (allW xs (ws.take k) = some (L.map Wr.dat)) ∧ Hid (WrOwn wr w1.heap.size v L) ∧ Below w1.heap.size w1 wr) (fun _ i _ => n' - (intOf i).toNat)
      case atStart => exact ⟨0, _, [], Nat.zero_le _, rfl, rfl, Lib.hid rfl, Lib.hid rfl, HO0, (Below.refl _ _).alloc (Nat.le_refl _) _⟩
      case round =>
        obtain ⟨k, v, L, hk, rfl, rfl, HLk, HA, HO, hb⟩ := hrel
        have hz := hb.size
        have hL20 : L.length ≤ 20 := by have := HLk.out; omega
        by_cases hlt : k < n'
        · have i1 : (0 : Int) ≤ (k : Int) := by omega
          have i2 : (k : Int) < (n' : Int) := by omega
          have hkl : k < ws.length := by rw [HL.out]; exact hlt
          obtain ⟨b2, off, rfl, hbB2, c0⟩ := (H'.out.keep (below_next b1 hb)).at_ hlt
          have HOk := Lib.hid (HWo.out wr (below_next b1 hb) (wdAt ws k) (HW.out _ (wdAt_mem hkl)))
          have HSt := Lib.hid (fun d (hd : wof xs (wdAt ws k) = some d) => allW_step hkl HA.out hd)
          have HNk := Lib.hid (fun hn => HNo.out (wdAt ws k) (wdAt_mem hkl) hn)
          have hwd : ((wordOut xs (wdAt ws k)).map fun o => (o, posOf (wdAt ws k))) = wof xs (wdAt ws k) := rfl
          have hpo := posOf_bd (wdAt ws k)
          have HPo := Lib.hid (fun o q (h : wof xs (wdAt ws k) = some (o, q)) => (by obtain ⟨o', _, h⟩ := Option.map_eq_some_iff.1 h; injection h with _ h; omega : -1 ≤ q ∧ q ≤ 2))
          rw [hwd] at HOk
          have HVb : Hid (∀ q, v.ownBlock = some q → q < wr.heap.size) := Lib.hid (fun q hq => ownG_lt HO.out.1 hq)
          clear hwd hkl hpo
          generalize wof xs (wdAt ws k) = wo at *
          generalize wdAt ws k = l at *
          go_wp2_with fail
          refine HOk.out.mono ?_
          rintro e w3 ⟨hA3, hb3⟩
          have b3 := below_next hb hb3
          have z3 := b3.size
          have z3' := hb3.size
          have HO3 := Lib.hid (HO.out.keep hb3)
          rcases hA3 with ⟨hn, rfl⟩ | ⟨A3, c3, ss, p, hn, rfl, hS3, hg3⟩
          · subst hn
            have HRn := Lib.hid (HNk.out rfl)
            have b4 := (below_next b1 b3).alloc (by have := (below_next b1 b3).size; omega) (.cells #[.slice none 0 0, .int .i64 0] 35)
            clear HNk HSt
            go_wp2
            go_returns
            exact ⟨.inl ⟨HRn.out, _, _, rfl, HZ.out _ _⟩, b4⟩
          · subst hn
            have hp := HPo.out ss p rfl
            have HA2 := Lib.hid (HSt.out _ rfl)
            have HWr : Hid (WrIn w3 w3.heap.size ⟨A3, ss.length, c3, ss, p⟩) := Lib.hid ⟨hS3.reads rfl hg3, show (Lit.int .i64 p).wf = true from WalkArith.wf_i64 (by omega)⟩
            have HBl : Hid (∀ a, A3 = some a → v.ownBlock ≠ some a.block ∧ a.block < w3.heap.size) := Lib.hid (by
              rintro a rfl
              have h1 := ownG_base hS3 (k := a.block) rfl
              have h2 := ownG_lt hS3 (b := a.block) rfl
              exact ⟨fun e => by have := HVb.out _ e; omega, h2⟩)
            generalize hM : ss.length = M at *
            have HM := Lib.hid hM
            have K3 := Blk.new w3 35 #[.slice A3 M c3, .int .i64 p]
            obtain ⟨k0, k1, _, _⟩ := K3.two
            have hal2 : Below w3.heap.size w3 ((w3.alloc (.cells #[.slice A3 M c3, .int .i64 p] 35)).alloc (.cells #[.slice A3 M c3, .int .i64 p] 35)) := ((Below.refl _ _).alloc (Nat.le_refl _) _).alloc (by simp) _
            have hsa := hal2.size
            have HOa : Hid (((w3.alloc (.cells #[.slice A3 M c3, .int .i64 p] 35)).alloc (.cells #[.slice A3 M c3, .int .i64 p] 35)).ownsRow w1.heap.size 35 2 v L.length (L.flatMap wrC)) := Lib.hid (ownG_keep HO3.out.1 hal2)
            have HRow : Hid (Row ((w3.alloc (.cells #[.slice A3 M c3, .int .i64 p] 35)).alloc (.cells #[.slice A3 M c3, .int .i64 p] 35)) (w3.heap.size + 2) (some ⟨w3.heap.size + 1, 0, none⟩) 1 2 [.slice A3 M c3, .int .i64 p]) := Lib.hid (by have h := rowNewSt (w3.alloc (.cells #[.slice A3 M c3, .int .i64 p] 35)) (.slice A3 M c3) (.int .i64 p) 35; simp only [World.size_alloc] at h; exact h)
            clear hM hb3 HO HOk hS3 hg3 HSt HNk HPo
            go_wp2_with (at_builtin; refine wpList_append_any _ rfl (.tmp 34) (.tmp 36) _ rfl w1.heap.size 35 i0 _ 2 32 Try.underlying27 hi hz0 hz1 hz2 rfl (by omega) v L.length (L.flatMap wrC) rfl HOa.out (w3.heap.size + 2) (some ⟨w3.heap.size + 1, 0, none⟩) 1 1 [.slice A3 M c3, .int .i64 p] rfl HRow.out (by simp [Value.oneCell']) (by unfold maxLen; omega) (by omega) (by simp; omega) ?_; intro v4 w4 hown4 hg4 hat4)
            have HO4 : Hid (WrOwn w4 w1.heap.size v4 (L ++ [⟨A3, M, c3, ss, p⟩])) := Lib.hid (WrOwn.push (HO3.out.keep hal2) (HWr.out.keep hal2) (fun a ha => ⟨(HBl.out a ha).1, Nat.lt_of_lt_of_le (HBl.out a ha).2 hsa⟩) hown4 hg4 hat4)
            have HA4 : Hid (allW xs (ws.take (k + 1)) = some ((L ++ [(⟨A3, M, c3, ss, p⟩ : Wr)]).map Wr.dat)) := Lib.hid (by rw [HA2.out, List.map_append]; rfl)
            have HL4 : Hid ((L ++ [(⟨A3, M, c3, ss, p⟩ : Wr)]).length = k + 1) := Lib.hid (by rw [List.length_append, HLk.out]; rfl)
            have b4 := ((b3.alloc z3 (.cells #[.slice A3 M c3, .int .i64 p] 35)).alloc (by simp; omega) (.cells #[.slice A3 M c3, .int .i64 p] 35)).grown hg4 (by simp; omega) (fun q hq => ownG_base HO3.out.1 hq)
            clear hown4 hg4 hat4 HOa HRow
            go_wp2
            go_roundw
            case rel => exact ⟨k + 1, _, _, by omega, by go_num, rfl, HL4, HA4, HO4, b4⟩
            case measure => simp [intOf]; omega
        · obtain rfl : k = n' := by omega
          obtain ⟨A6, c6, rfl, hc6, hm6⟩ := ownG_form HO.out.1
          have HR6 := Lib.hid (HO.out.reads rfl)
          have HA6 : Hid (lineOf xs ws = some (L.map Wr.dat)) := Lib.hid (by
            have h1 := HA.out
            rw [List.take_of_length_le (by rw [HL.out]; exact Nat.le_refl _)] at h1
            rw [HR.out, h1])
          have b6 := below_next b1 hb
          clear HA
          go_wp2
          go_returns
          exact ⟨.inr ⟨A6, c6, L, HA6.out, rfl, HR6.out⟩, b6⟩

set_option maxHeartbeats 1600000 in
theorem specLineOf (A : Option Addr) (n c : Nat) (xs : List Sg) (A' : Option Addr) (n' c' : Nat) (ws : List (List UInt8)) (w : World) (hW : ∀ l ∈ ws, l.length ≤ maxLen) (h20 : n' ≤ 20) (h : SgsIn w w.heap.size A n c xs) (h' : WdsIn w w.heap.size A' n' c' ws) :
    Calls Try.prog 10 #[.slice A n c, .slice A' n' c'] w fun e w' => LinAns w' (lineOf xs ws) e ∧ Below w.heap.size w w' := by
  obtain ⟨i0, hi, hz0, hz1, hz2⟩ := info_parts infoWr
  have hm := h'.2.2.1; have hnc := h'.2.1
  unfold maxLen at hm
  have HL := Lib.hid h'.1
  have HV := Lib.hid (fun W (hb : Below w.heap.size w W) => specSystemValid A n c xs W (h.keep hb))
  have HWo := Lib.hid (fun W (hb : Below w.heap.size w W) (l : List UInt8) (hl : l.length ≤ maxLen) => specWrittenOf A n c xs l W hl (h.keep hb))
  have HW := Lib.hid hW
  have H' := Lib.hid h'
  have HZ := Lib.hid (fun (W : World) (AA : Option Addr) => WrsIn.zero W W.heap.size AA)
  have HNo := Lib.hid (fun l (h : l ∈ ws) hn => lineOf_no (xs := xs) h hn)
  have HNs : Hid (sysB xs = false → lineOf xs ws = none) := Lib.hid (fun hs => if_neg (fun h => by rw [hs] at h; cases h.1))
  have HYs : Hid (sysB xs = true → lineOf xs ws = allW xs ws) := Lib.hid (fun hs => if_pos ⟨hs, by rw [HL.out]; exact h20⟩)
  have HO0 : Hid (WrOwn (w.alloc (.cells #[] 35)) w.heap.size (.slice (some ⟨w.heap.size, 0, none⟩) 0 0) []) := Lib.hid (LnOwn.made w).1
  clear h h' hW
  go_enter Try.func10, Try.ntmps10
  go_wp2
  go_loopw [6, 7] (fun v0 i wr => ∃ (k : Nat) (v : Value) (L : List Wr), k ≤ n' ∧ i = .int .i64 k ∧ v = v0 ∧ Hid (L.length = k) ∧ Hid (allW xs (ws.take k) = some (L.map Wr.dat)) ∧ Hid (WrOwn wr w.heap.size v L) ∧ Below w.heap.size w wr) (fun _ i _ => n' - (intOf i).toNat)
  case atStart => exact ⟨0, _, [], Nat.zero_le _, rfl, rfl, Lib.hid rfl, Lib.hid rfl, HO0, (Below.refl _ _).alloc (Nat.le_refl _) _⟩
  case round =>
    obtain ⟨k, v, L, hk, rfl, rfl, HLk, HA, HO, hb⟩ := hrel
    have hz := hb.size
    have hL20 : L.length ≤ 20 := by have := HLk.out; omega
    by_cases hlt : k < n'
    · have i1 : (0 : Int) ≤ (k : Int) := by omega
      have i2 : (k : Int) < (n' : Int) := by omega
      have hkl : k < ws.length := by rw [HL.out]; exact hlt
      obtain ⟨b2, off, rfl, hbB2, c0⟩ := (H'.out.keep hb).at_ hlt
      have HOk := Lib.hid (HWo.out wr hb (wdAt ws k) (HW.out _ (wdAt_mem hkl)))
      have HSt := Lib.hid (fun d (hd : wof xs (wdAt ws k) = some d) => allW_step hkl HA.out hd)
      have HNk := Lib.hid (fun hn => HNo.out (wdAt ws k) (wdAt_mem hkl) hn)
      have hwd : ((wordOut xs (wdAt ws k)).map fun o => (o, posOf (wdAt ws k))) = wof xs (wdAt ws k) := rfl
      have hpo := posOf_bd (wdAt ws k)
      have HPo := Lib.hid (fun o q (h : wof xs (wdAt ws k) = some (o, q)) => (by obtain ⟨o', _, h⟩ := Option.map_eq_some_iff.1 h; injection h with _ h; omega : -1 ≤ q ∧ q ≤ 2))
      rw [hwd] at HOk
      have HVb : Hid (∀ q, v.ownBlock = some q → q < wr.heap.size) := Lib.hid (fun q hq => ownG_lt HO.out.1 hq)
      clear hwd hkl hpo
      generalize wof xs (wdAt ws k) = wo at *
      generalize wdAt ws k = l at *
      go_wp2_with fail
      refine HOk.out.mono ?_
      rintro e w3 ⟨hA3, hb3⟩
      have b3 := below_next hb hb3
      have z3 := b3.size
      have z3' := hb3.size
      have HO3 := Lib.hid (HO.out.keep hb3)
      rcases hA3 with ⟨hn, rfl⟩ | ⟨A3, c3, ss, p, hn, rfl, hS3, hg3⟩
      · subst hn
        have HRn := Lib.hid (HNk.out rfl)
        have b4 := b3.alloc (by have := b3.size; omega) (.cells #[.slice none 0 0, .int .i64 0] 35)
        clear HNk HSt
        go_wp2
        go_returns
        exact ⟨.inl ⟨HRn.out, _, _, rfl, HZ.out _ _⟩, b4.alloc b4.size _⟩
      · subst hn
        have hp := HPo.out ss p rfl
        have HA2 := Lib.hid (HSt.out _ rfl)
        have HWr : Hid (WrIn w3 w3.heap.size ⟨A3, ss.length, c3, ss, p⟩) := Lib.hid ⟨hS3.reads rfl hg3, show (Lit.int .i64 p).wf = true from WalkArith.wf_i64 (by omega)⟩
        have HBl : Hid (∀ a, A3 = some a → v.ownBlock ≠ some a.block ∧ a.block < w3.heap.size) := Lib.hid (by
          rintro a rfl
          have h1 := ownG_base hS3 (k := a.block) rfl
          have h2 := ownG_lt hS3 (b := a.block) rfl
          exact ⟨fun e => by have := HVb.out _ e; omega, h2⟩)
        generalize hM : ss.length = M at *
        have HM := Lib.hid hM
        have K3 := Blk.new w3 35 #[.slice A3 M c3, .int .i64 p]
        obtain ⟨k0, k1, _, _⟩ := K3.two
        have hal2 : Below w3.heap.size w3 ((w3.alloc (.cells #[.slice A3 M c3, .int .i64 p] 35)).alloc (.cells #[.slice A3 M c3, .int .i64 p] 35)) := ((Below.refl _ _).alloc (Nat.le_refl _) _).alloc (by simp) _
        have hsa := hal2.size
        have HOa : Hid (((w3.alloc (.cells #[.slice A3 M c3, .int .i64 p] 35)).alloc (.cells #[.slice A3 M c3, .int .i64 p] 35)).ownsRow w.heap.size 35 2 v L.length (L.flatMap wrC)) := Lib.hid (ownG_keep HO3.out.1 hal2)
        have HRow : Hid (Row ((w3.alloc (.cells #[.slice A3 M c3, .int .i64 p] 35)).alloc (.cells #[.slice A3 M c3, .int .i64 p] 35)) (w3.heap.size + 2) (some ⟨w3.heap.size + 1, 0, none⟩) 1 2 [.slice A3 M c3, .int .i64 p]) := Lib.hid (by have h := rowNewSt (w3.alloc (.cells #[.slice A3 M c3, .int .i64 p] 35)) (.slice A3 M c3) (.int .i64 p) 35; simp only [World.size_alloc] at h; exact h)
        clear hM hb3 HO HOk hS3 hg3 HSt HNk HPo
        go_wp2_with (at_builtin; refine wpList_append_any _ rfl (.tmp 34) (.tmp 36) _ rfl w.heap.size 35 i0 _ 2 32 Try.underlying27 hi hz0 hz1 hz2 rfl (by omega) v L.length (L.flatMap wrC) rfl HOa.out (w3.heap.size + 2) (some ⟨w3.heap.size + 1, 0, none⟩) 1 1 [.slice A3 M c3, .int .i64 p] rfl HRow.out (by simp [Value.oneCell']) (by unfold maxLen; omega) (by omega) (by simp; omega) ?_; intro v4 w4 hown4 hg4 hat4)
        have HO4 : Hid (WrOwn w4 w.heap.size v4 (L ++ [⟨A3, M, c3, ss, p⟩])) := Lib.hid (WrOwn.push (HO3.out.keep hal2) (HWr.out.keep hal2) (fun a ha => ⟨(HBl.out a ha).1, Nat.lt_of_lt_of_le (HBl.out a ha).2 hsa⟩) hown4 hg4 hat4)
        have HA4 : Hid (allW xs (ws.take (k + 1)) = some ((L ++ [(⟨A3, M, c3, ss, p⟩ : Wr)]).map Wr.dat)) := Lib.hid (by rw [HA2.out, List.map_append]; rfl)
        have HL4 : Hid ((L ++ [(⟨A3, M, c3, ss, p⟩ : Wr)]).length = k + 1) := Lib.hid (by rw [List.length_append, HLk.out]; rfl)
        have b4 := ((b3.alloc z3 (.cells #[.slice A3 M c3, .int .i64 p] 35)).alloc (by simp; omega) (.cells #[.slice A3 M c3, .int .i64 p] 35)).grown hg4 (by simp; omega) (fun q hq => ownG_base HO3.out.1 hq)
        clear hown4 hg4 hat4 HOa HRow
        go_wp2
        go_roundw
        case rel => exact ⟨k + 1, _, _, by omega, by go_num, rfl, HL4, HA4, HO4, b4⟩
        case measure => simp [intOf]; omega
    · obtain rfl : k = n' := by omega
      obtain ⟨A6, c6, rfl, hc6, hm6⟩ := ownG_form HO.out.1
      have HR6 := Lib.hid (HO.out.reads rfl)
      have HVk := Lib.hid (HV.out wr hb)
      have HA6 : Hid (sysB xs = true → lineOf xs ws = some (L.map Wr.dat)) := Lib.hid (fun hs => by
        have h1 := HA.out
        rw [List.take_of_length_le (by rw [HL.out]; exact Nat.le_refl _)] at h1
        rw [HYs.out hs, h1])
      clear HA
      cases hs : sysB xs with
      | false =>
        rw [hs] at HVk
        have HRn := Lib.hid (HNs.out hs)
        clear hs
        go_wp2_with fail
        refine HVk.out.mono ?_
        rintro e w5 ⟨rfl, hb5⟩
        have b5 := below_next hb hb5
        go_wp2
        go_returns
        exact ⟨.inl ⟨HRn.out, _, _, rfl, HZ.out _ _⟩, b5.alloc b5.size _⟩
      | true =>
        rw [hs] at HVk
        have HRn := Lib.hid (HA6.out hs)
        clear hs
        go_wp2_with fail
        refine HVk.out.mono ?_
        rintro e w5 ⟨rfl, hb5⟩
        have b5 := below_next hb hb5
        have HR7 := Lib.hid (HR6.out.keep hb5)
        go_wp2
        go_returns
        exact ⟨.inr ⟨A6, c6, L, HRn.out, rfl, HR7.out⟩, b5⟩
end Go.Proofs.Ytppjjbjjbmodbaa
