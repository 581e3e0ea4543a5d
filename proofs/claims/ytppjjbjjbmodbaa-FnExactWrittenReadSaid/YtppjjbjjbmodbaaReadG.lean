/-
  The written words of a dictionary, of the program; the words of a form. Conditions: the lists lie in memory; no text is absurdly long.
  The written words of a dictionary with their forms, of the program; the words of a form. Conditions: the lists lie in memory; no text is absurdly long.
  The words of a form, of the program. Conditions: the lists lie in memory; no text is absurdly long.
  Ways to read a line, of the program. Conditions: the lists lie in memory; no text is absurdly long.
  The words of a form, the ways to read a line, of the reference. Conditions: the lists lie in memory; no text is absurdly long.
-/
import Derived.Test.YtppjjbjjbmodbaaSgnG
import Derived.Deep.RegionHeld3
import Derived.Deep.DeepCutAuto
import Derived.Deep.RegionWith
import Derived.Test.YtppjjbjjbmodbaaWritten
import Derived.Test.YtppjjbjjbmodbaaLine
namespace Go.Proofs.Ytppjjbjjbmodbaa
open Go.ChangeShapes Go.WideShapes Go.ChangeAt Go.RowKit Go.Maps
set_option maxRecDepth 100000
set_option linter.unusedSimpArgs false

/-- The written words among the first k: index and outline. -/
def outsK (xs : List Sg) (ws : List (List UInt8)) (k : Nat) : List (Nat × List Stroke) := (List.range k).filterMap fun i => (wordOut xs (wdAt ws i)).map fun o => (i, o)
theorem outsK_succ (xs : List Sg) (ws : List (List UInt8)) (k : Nat) : outsK xs ws (k + 1) = outsK xs ws k ++ ((wordOut xs (wdAt ws k)).map fun o => (k, o)).toList := by
  unfold outsK
  rw [List.range_succ, List.filterMap_append]
  cases h : wordOut xs (wdAt ws k) <;> simp [h]
theorem outsK_len (xs : List Sg) (ws : List (List UInt8)) (k : Nat) : (outsK xs ws k).length ≤ k := by
  unfold outsK; exact Nat.le_trans (List.length_filterMap_le _ _) (by simp)
theorem outsK_mem {xs : List Sg} {ws : List (List UInt8)} {k : Nat} {x : Nat × List Stroke} (h : x ∈ outsK xs ws k) : x.1 < k ∧ wordOut xs (wdAt ws x.1) = some x.2 := by
  unfold outsK at h
  obtain ⟨i, hi, h⟩ := List.mem_filterMap.1 h
  obtain ⟨o, ho, rfl⟩ := Option.map_eq_some_iff.1 h
  exact ⟨List.mem_range.1 hi, ho⟩
def ouDat (x : It) : Nat × List Stroke := (x.i, x.ss)
/-- The answer of the written words. -/
def WwAns (w' : World) (xs : List Sg) (ws : List (List UInt8)) (e : Ending) : Prop :=
  ((sysB xs && dicB ws) = false ∧ e = .returned (.tuple #[.slice none 0 0, .bool false])) ∨
  ((sysB xs && dicB ws) = true ∧ ∃ A n c its, e = .returned (.tuple #[.slice A n c, .bool true]) ∧ ItsIn 2 ouC w' w'.heap.size A n c its ∧ its.map ouDat = outsK xs ws ws.length)

set_option maxHeartbeats 1600000 in
theorem writtenWords (A : Option Addr) (n c : Nat) (xs : List Sg) (A' : Option Addr) (n' c' : Nat) (ws : List (List UInt8)) (w : World) (hW : ∀ l ∈ ws, l.length ≤ maxLen) (h : SgsIn w w.heap.size A n c xs) (h' : WdsIn w w.heap.size A' n' c' ws) :
    Calls Try.prog 59 #[.slice A n c, .slice A' n' c'] w fun e w' => WwAns w' xs ws e ∧ Below w.heap.size w w' := by
  obtain ⟨i0, hi, hz0, hz1, hz2⟩ := info_parts infoOu
  have hm := h'.2.2.1; have hnc := h'.2.1
  unfold maxLen at hm
  have HL := Lib.hid h'.1
  have H' := Lib.hid h'
  have HW := Lib.hid hW
  have HS := Lib.hid (signsOf A n c xs w h)
  have HD := Lib.hid (fun W (hb : Below w.heap.size w W) => implDictionaryValid A' n' c' ws W hW (h'.keep hb))
  clear h h' hW
  go_enter Try.func59, Try.ntmps59
  go_wp2_with fail
  refine HS.out.mono ?_
  rintro e w1 ⟨hA, hb1⟩
  rcases hA with ⟨hB, rfl⟩ | ⟨hB, b, rfl, hbB, hM⟩
  · have HF : Hid ((sysB xs && dicB ws) = false) := Lib.hid (by rw [hB]; rfl)
    clear hB
    go_wp2
    go_returns
    exact ⟨.inl ⟨HF.out, rfl⟩, hb1⟩
  · have HDk := Lib.hid (HD.out w1 hb1)
    have HB := Lib.hid hB
    have HM := Lib.hid hM
    clear hM hB HD
    cases hd : dicB ws with
    | false =>
      rw [hd] at HDk
      have HF : Hid ((sysB xs && dicB ws) = false) := Lib.hid (by rw [hd, Bool.and_false])
      clear hd
      go_wp2_with fail
      refine HDk.out.mono ?_
      rintro e w2 ⟨rfl, rfl⟩
      go_wp2
      go_returns
      exact ⟨.inl ⟨HF.out, rfl⟩, hb1⟩
    | true =>
      rw [hd] at HDk
      have HF : Hid ((sysB xs && dicB ws) = true) := Lib.hid (by rw [hd, HB.out]; rfl)
      have hn20 : n' ≤ 20 := by have := (dicB_iff.1 hd).1; rw [HL.out] at this; exact this
      clear hd
      have hz1' := hb1.size
      have HO0 : Hid (ItOwn 96 2 ouC (w1.alloc (.cells #[] 96)) w1.heap.size (.slice (some ⟨w1.heap.size, 0, none⟩) 0 0) []) := Lib.hid ⟨World.ownsRow_made w1 #[] 0 (Nat.le_refl _) (by simp) (by simp), by simp⟩
      have b1a : Below w.heap.size w (w1.alloc (.cells #[] 96)) := hb1.alloc hz1' _
      have HMk := Lib.hid (fun W (hb : Below w1.heap.size w1 W) => HM.out.keep hb)
      have HOu := Lib.hid (fun W (hb : Below w1.heap.size w1 W) (l : List UInt8) (hl : l.length ≤ maxLen) => mapOutline b xs (mkStr l) W (by rw [mkStr_size]; exact hl) HB.out (HMk.out W hb))
      go_wp2_with fail
      refine HDk.out.mono ?_
      rintro e w2 ⟨rfl, rfl⟩
      go_wp2
      go_loopw [8, 28] (fun v0 i wr => ∃ (k : Nat) (v : Value) (its : List It), k ≤ n' ∧ i = .int .i64 k ∧ v = v0 ∧ Hid (its.map ouDat = outsK xs ws k) ∧ Hid (ItOwn 96 2 ouC wr w1.heap.size v its) ∧ Below w1.heap.size w1 wr) (fun _ i _ => n' - (intOf i).toNat)
      case atStart => exact ⟨0, _, [], Nat.zero_le _, rfl, rfl, Lib.hid rfl, HO0, (Below.refl _ _).alloc (Nat.le_refl _) _⟩
      case round =>
        obtain ⟨k, v, its, hk, rfl, rfl, HI, HO, hb⟩ := hrel
        have hz := hb.size
        have hlk := outsK_len xs ws k
        have hil : its.length ≤ 20 := by have := congrArg List.length HI.out; rw [List.length_map] at this; omega
        by_cases hlt : k < n'
        · have i1 : (0 : Int) ≤ (k : Int) := by omega
          have i2 : (k : Int) < (n' : Int) := by omega
          obtain ⟨b2, off, rfl, hbB2, c0⟩ := (H'.out.keep (below_next hb1 hb)).at_ hlt
          have HOk := Lib.hid (HOu.out wr hb (wdAt ws k) (HW.out _ (wdAt_mem (by rw [HL.out]; exact hlt))))
          rw [mkStr_data] at HOk
          have HSc := Lib.hid (outsK_succ xs ws k)
          have HVb : Hid (∀ q, v.ownBlock = some q → q < wr.heap.size) := Lib.hid (fun q hq => ownG_lt HO.out.1 hq)
          have HGo := Lib.hid (fun ss (h : wordOut xs (wdAt ws k) = some ss) => outB_good (wordOut_ok h).2.2.2)
          generalize hwo : wordOut xs (wdAt ws k) = wo at *
          generalize wdAt ws k = l at *
          clear hwo
          go_wp2_with fail
          refine HOk.out.mono ?_
          rintro e w3 ⟨hA3, hb3⟩
          have b3 := below_next hb hb3
          have z3 := b3.size
          have z3' := hb3.size
          have HO3 := Lib.hid (HO.out.keep hb3)
          rcases hA3 with ⟨hn, A3, c3, rfl, _⟩ | ⟨A3, c3, ss, hn, rfl, hS3⟩
          · subst hn
            have HI2 : Hid (its.map ouDat = outsK xs ws (k + 1)) := Lib.hid (by rw [HSc.out, HI.out]; simp)
            clear hb3 HO HOk
            go_wp2
            go_roundw
            case rel => exact ⟨k + 1, _, its, by omega, by go_num, rfl, HI2, HO3, b3⟩
            case measure => simp [intOf]; omega
          · subst hn
            have HSc2 : Hid (outsK xs ws (k + 1) = outsK xs ws k ++ [(k, ss)]) := Lib.hid (by rw [HSc.out]; rfl)
            have HSt : Hid (StrokesIn w3 w3.heap.size A3 ss.length c3 ss) := Lib.hid (StrOwn.reads hS3 rfl (HGo.out ss rfl))
            have HBl : Hid (∀ a, A3 = some a → v.ownBlock ≠ some a.block ∧ a.block < w3.heap.size) := Lib.hid (by
              rintro a rfl
              have h1 := ownG_base hS3 (k := a.block) rfl
              have h2 := ownG_lt hS3 (b := a.block) rfl
              exact ⟨fun e => by have := HVb.out _ e; omega, h2⟩)
            have hal3 : Below w3.heap.size w3 (w3.alloc (.cells #[.int .i64 (k : Int), .slice A3 ss.length c3] 96)) := (Below.refl _ _).alloc (Nat.le_refl _) _
            have HOa : Hid ((w3.alloc (.cells #[.int .i64 (k : Int), .slice A3 ss.length c3] 96)).ownsRow w1.heap.size 96 2 v its.length (its.flatMap ouC)) := Lib.hid (ownG_keep HO3.out.1 hal3)
            have HRow : Hid (Row (w3.alloc (.cells #[.int .i64 (k : Int), .slice A3 ss.length c3] 96)) (w3.heap.size + 1) (some ⟨w3.heap.size, 0, none⟩) 1 2 [.int .i64 (k : Int), .slice A3 ss.length c3]) := Lib.hid (rowNewSt _ _ _ _)
            generalize hM : ss.length = M at *
            have HM3 := Lib.hid hM
            clear hM hb3 HO HOk hS3 HGo
            go_wp2_with (at_builtin; refine wpList_append_any _ rfl (.tmp 40) (.tmp 44) _ rfl w1.heap.size 96 i0 _ 2 32 Try.underlying91 hi hz0 hz1 hz2 rfl (by omega) v its.length (its.flatMap ouC) rfl HOa.out (w3.heap.size + 1) (some ⟨w3.heap.size, 0, none⟩) 1 1 [.int .i64 (k : Int), .slice A3 M c3] rfl HRow.out (by simp [Value.oneCell']) (by unfold maxLen; omega) (by omega) (by simp; omega) ?_; intro v4 w4 hown4 hg4 hat4)
            have HO4 : Hid (ItOwn 96 2 ouC w4 w1.heap.size v4 (its ++ [⟨k, A3, M, c3, ss, 0⟩])) := Lib.hid (ItOwn.push (HO3.out.keep hal3) (HSt.out.keep hal3) (fun _ a ha => ⟨(HBl.out a ha).1, Nat.lt_of_lt_of_le (HBl.out a ha).2 hal3.size⟩) hown4 hg4 hat4)
            have HI4 : Hid ((its ++ [(⟨k, A3, M, c3, ss, 0⟩ : It)]).map ouDat = outsK xs ws (k + 1)) := Lib.hid (by rw [HSc2.out, List.map_append, HI.out]; rfl)
            have b4 := (b3.alloc z3 _).grown hg4 (by simp; omega) (fun q hq => ownG_base HO3.out.1 hq)
            clear hown4 hg4 hat4 HOa HRow
            go_wp2
            go_roundw
            case rel => exact ⟨k + 1, _, _, by omega, by go_num, rfl, HI4, HO4, b4⟩
            case measure => simp [intOf]; omega
        · obtain rfl : k = n' := by omega
          obtain ⟨A6, c6, rfl, hc6, hm6⟩ := ownG_form HO.out.1
          have HR6 := Lib.hid (HO.out.reads rfl)
          have HI6 : Hid (its.map ouDat = outsK xs ws ws.length) := Lib.hid (by rw [HI.out, HL.out])
          have b6 := below_next hb1 hb
          clear HI
          go_wp2
          go_returns
          exact ⟨.inr ⟨HF.out, A6, its.length, c6, its, rfl, HR6.out, HI6.out⟩, b6⟩
end Go.Proofs.Ytppjjbjjbmodbaa

namespace Go.Proofs.Ytppjjbjjbmodbaa
open Go.ChangeShapes Go.WideShapes Go.ChangeAt Go.RowKit Go.Maps
set_option maxRecDepth 100000
set_option linter.unusedSimpArgs false

def plDat (x : It) : Nat × List Stroke × Int := (x.i, x.ss, x.p)
def plOf (ws : List (List UInt8)) (x : Nat × List Stroke) : Nat × List Stroke × Int := (x.1, x.2, posOf (wdAt ws x.1))
/-- The answer of the placed words. -/
def PwAns (w' : World) (xs : List Sg) (ws : List (List UInt8)) (e : Ending) : Prop :=
  ((sysB xs && dicB ws) = false ∧ e = .returned (.tuple #[.slice none 0 0, .bool false])) ∨
  ((sysB xs && dicB ws) = true ∧ ∃ A n c its, e = .returned (.tuple #[.slice A n c, .bool true]) ∧ ItsIn 3 plC w' w'.heap.size A n c its ∧ its.map plDat = (outsK xs ws ws.length).map (plOf ws))
theorem ouDat_at {its : List It} {k : Nat} (h : k < its.length) {L : List (Nat × List Stroke)} (he : its.map ouDat = L) : L[k]? = some (ouDat (itAt its k)) := by
  rw [← he, List.getElem?_map, itAt_some h]; rfl
theorem take_snd {L : List (Nat × List Stroke)} {k : Nat} {x : Nat × List Stroke} (h : L[k]? = some x) : L.take (k + 1) = L.take k ++ [x] := by
  rw [List.take_add_one, h]; rfl
theorem rowNew3 (w : World) (u1 u2 u3 : Value) (t : TypeId) : Row (w.alloc (.cells #[u1, u2, u3] t)) (w.heap.size + 1) (some ⟨w.heap.size, 0, none⟩) 1 3 [u1, u2, u3] := rowNewSg w u1 u2 u3 t

set_option maxHeartbeats 6400000 in
theorem placedWords (A : Option Addr) (n c : Nat) (xs : List Sg) (A' : Option Addr) (n' c' : Nat) (ws : List (List UInt8)) (w : World) (hW : ∀ l ∈ ws, l.length ≤ maxLen) (h : SgsIn w w.heap.size A n c xs) (h' : WdsIn w w.heap.size A' n' c' ws) :
    Calls Try.prog 50 #[.slice A n c, .slice A' n' c'] w fun e w' => PwAns w' xs ws e ∧ Below w.heap.size w w' := by
  obtain ⟨i0, hi, hz0, hz1, hz2⟩ := info_parts infoPl
  have hm := h'.2.2.1; have hnc := h'.2.1
  unfold maxLen at hm
  have HL := Lib.hid h'.1
  have H' := Lib.hid h'
  have HW := Lib.hid hW
  have HS := Lib.hid (writtenWords A n c xs A' n' c' ws w hW h h')
  clear h h' hW
  go_enter Try.func50, Try.ntmps50
  go_wp2_with fail
  refine HS.out.mono ?_
  rintro e w1 ⟨hA, hb1⟩
  rcases hA with ⟨hB, rfl⟩ | ⟨hB, A1, n1, c1, its, rfl, hI, hd⟩
  · have HF := Lib.hid hB
    clear hB
    go_wp2
    go_returns
    exact ⟨.inl ⟨HF.out, rfl⟩, hb1⟩
  · have HF := Lib.hid hB
    have HI1 := Lib.hid hI; have HD := Lib.hid hd
    have hm1 := hI.2.2.1; have hnc1 := hI.2.1
    unfold maxLen at hm1
    have HL1 := Lib.hid hI.1
    have hn20 : n1 ≤ 20 := by
      have h1 := outsK_len xs ws ws.length
      rw [← hd, List.length_map, hI.1] at h1
      rw [Bool.and_eq_true] at hB
      have := (dicB_iff.1 hB.2).1
      omega
    have HMem : Hid (∀ k, k < n1 → (itAt its k).i < n') := Lib.hid (fun k hk => by
      have h1 := ouDat_at (by rw [HL1.out]; exact hk) HD.out
      have := (outsK_mem (List.mem_of_getElem? h1)).1
      rw [HL.out] at this
      exact this)
    have hz1' := hb1.size
    have HO0 : Hid (ItOwn 129 3 plC (w1.alloc (.cells #[] 129)) w1.heap.size (.slice (some ⟨w1.heap.size, 0, none⟩) 0 0) []) := Lib.hid ⟨World.ownsRow_made w1 #[] 0 (Nat.le_refl _) (by simp) (by simp), by simp⟩
    clear hB hI hd HS
    go_wp2
    go_loopw [8, 23] (fun v0 i wr => ∃ (k : Nat) (v : Value) (ps : List It), k ≤ n1 ∧ i = .int .i64 k ∧ v = v0 ∧ Hid (ps.map plDat = ((outsK xs ws ws.length).take k).map (plOf ws)) ∧ Hid (ps.length = k) ∧ Hid (ItOwn 129 3 plC wr w1.heap.size v ps) ∧ Below w1.heap.size w1 wr) (fun _ i _ => n1 - (intOf i).toNat)
    case atStart => exact ⟨0, _, [], Nat.zero_le _, rfl, rfl, Lib.hid rfl, Lib.hid rfl, HO0, (Below.refl _ _).alloc (Nat.le_refl _) _⟩
    case round =>
      obtain ⟨k, v, ps, hk, rfl, rfl, HP, HPl, HO, hb⟩ := hrel
      have hz := hb.size
      have hpl : ps.length ≤ 20 := by have := HPl.out; omega
      by_cases hlt : k < n1
      · obtain ⟨b, off, rfl, hbB, c0, c1', hSt⟩ := (HI1.out.keep hb).ou hlt
        have hix := HMem.out k hlt
        obtain ⟨b2, off2, rfl, hbB2, d0⟩ := (H'.out.keep (below_next hb1 hb)).at_ hix
        have HPn : Hid (((outsK xs ws ws.length).take (k + 1)).map (plOf ws) = ((outsK xs ws ws.length).take k).map (plOf ws) ++ [((itAt its k).i, (itAt its k).ss, posOf (wdAt ws (itAt its k).i))]) := Lib.hid (by
          have h1 := ouDat_at (by rw [HL1.out]; exact hlt) HD.out
          rw [take_snd h1, List.map_append]; rfl)
        have HPo := Lib.hid (fun W => implWordPosition (mkStr (wdAt ws (itAt its k).i)) W (by rw [mkStr_size]; exact HW.out _ (wdAt_mem (by rw [HL.out]; exact hix))))
        rw [mkStr_data] at HPo
        have HSt := Lib.hid hSt
        have HVb : Hid (∀ q, v.ownBlock = some q → w1.heap.size ≤ q) := Lib.hid (fun q hq => ownG_base HO.out.1 hq)
        have HBl : Hid (0 < (itAt its k).n → ∀ a, (itAt its k).A = some a → a.block < w1.heap.size) := Lib.hid (by
          obtain ⟨_, _, _, _, _, _, h1⟩ := HI1.out.ou hlt
          intro hp a ha
          obtain ⟨b9, off9, e9, h9, _⟩ := h1.2.2.2.1.2 hp
          rw [ha] at e9
          injection e9 with e9
          rw [e9]; exact h9)
        clear hSt
        generalize posOf (wdAt ws (itAt its k).i) = po at *
        generalize wdAt ws (itAt its k).i = l at *
        generalize itAt its k = x at *
        obtain ⟨xi, xA, xn, xc, xss, xp⟩ := x
        dsimp only at c0 c1' hix d0 HPn HSt HBl
        have i1 : (0 : Int) ≤ (k : Int) := by omega
        have i2 : (k : Int) < (n1 : Int) := by omega
        have i3 : (0 : Int) ≤ (xi : Int) := by omega
        have i4 : (xi : Int) < (n' : Int) := by omega
        have K := Blk.new wr 96 #[.int .i64 (xi : Int), .slice xA xn xc]
        obtain ⟨W, eW⟩ : ∃ W, W = wr.alloc (.cells #[.int .i64 (xi : Int), .slice xA xn xc] 96) := ⟨_, rfl⟩
        have bW : Below w1.heap.size w1 W := by rw [eW]; exact hb.alloc hz _
        have bW0 : Below wr.heap.size wr W := by rw [eW]; exact (Below.refl _ _).alloc (Nat.le_refl _) _
        have zW : wr.heap.size + 1 ≤ W.heap.size := by rw [eW]; simp
        rw [← eW] at K
        have k0 : W.drew.cell? ⟨wr.heap.size, 0, none⟩ = some (.int .i64 (xi : Int)) := K.cell 0
        have k1 : W.drew.cell? ⟨wr.heap.size, 1, none⟩ = some (.slice xA xn xc) := K.cell 1
        have d0' : W.drew.cell? ⟨b2, off2 + xi, none⟩ = some (.string (mkStr l)) := kcell bW0.drew d0
        clear d0
        have LA : ∀ {a : Addr} {u : Value}, W.drew.cell? a = some u → (W.alloc (.cells #[.slice none 0 0, .int .i64 0] 85)).drew.cell? a = some u := fun h => Lib.cell?_alloc_some (W := W) _ h
        have k0A := LA k0; have k1A := LA k1; have d0A := LA d0'
        clear LA
        have HKA : Hid (Blk (W.alloc (.cells #[.slice none 0 0, .int .i64 0] 85)).drew W.heap.size 85 #[.slice none 0 0, .int .i64 0]) := Lib.hid (Blk.new W _ _)
        have HK := Lib.hid K
        have HbA : Hid (Below W.heap.size W (W.alloc (.cells #[.slice none 0 0, .int .i64 0] 85)).drew) := Lib.hid (((Below.refl _ _).alloc (Nat.le_refl _) _).drew)
        have HbD : Hid (Below W.heap.size W W.drew) := Lib.hid (Below.refl _ _).drew
        clear K
        go_wp2_with fail
        rw [← eW]
        clear eW
        go_cut [11] (fun s11 wx => ∃ (q : Nat) (V : World), V = wx ∧ s11 = .pointer (some ⟨q, 0, none⟩) ∧ wx.cell? ⟨q, 0, none⟩ = some (.slice xA xn xc) ∧ wx.cell? ⟨q, 1, none⟩ = some (.int .i64 po) ∧ Below W.heap.size W wx)
        case first =>
          clear c0 c1' HP HPl HO HSt HBl HVb HPn HK hlt hbB hbB2 hi hz0 hz1 hz2 HF HD HI1 H' HL HL1 HW HMem hb hb1 hix bW bW0 hk hpl hn20 hm1 hnc1 hm hnc hz hz1' i1 i2
          go_region_with (first
            | (go_at_call 19; ((with_reducible refine (HPo.out (W.alloc (.cells #[.slice none 0 0, .int .i64 0] 85)).drew).mono ?_); rintro e w3 ⟨rfl, hb3⟩); have KA := Blk.below HKA.out hb3; obtain ⟨ka0, ka1, kaf0, kaf1⟩ := KA.two; have k03 := kcell hb3 k0A; have k13 := kcell hb3 k1A; have HB3 := Lib.hid (below_next HbA.out hb3); clear hb3)
            | (go_at_call 19; ((with_reducible refine (HPo.out W.drew).mono ?_); rintro e w3 ⟨rfl, hb3⟩); have k03 := kcell hb3 k0; have k13 := kcell hb3 k1; have k03a : (w3.alloc (.cells #[.slice none 0 0, .int .i64 0] 85)).cell? ⟨wr.heap.size, 0, none⟩ = some (.int .i64 (xi : Int)) := Lib.cell?_alloc_some (W := w3) _ k03; have k13a : (w3.alloc (.cells #[.slice none 0 0, .int .i64 0] 85)).cell? ⟨wr.heap.size, 1, none⟩ = some (.slice xA xn xc) := Lib.cell?_alloc_some (W := w3) _ k13; have HB3 := Lib.hid (below_next HbD.out hb3); clear hb3))
          all_goals
            go_wp2_with fail
            go_meet
            first
              | (have _t := ka0; exact ⟨W.heap.size, _, rfl, rfl, (Blk.two (show Blk _ W.heap.size 85 #[.slice xA xn xc, .int .i64 po] from (KA.set 0 (.slice xA xn xc)).set 1 (.int .i64 po))).1, (Blk.two (show Blk _ W.heap.size 85 #[.slice xA xn xc, .int .i64 po] from (KA.set 0 (.slice xA xn xc)).set 1 (.int .i64 po))).2.1, (HB3.out.setCell (p := ⟨W.heap.size, 0, none⟩) (Nat.le_refl _) _).setCell (p := ⟨W.heap.size, 1, none⟩) (Nat.le_refl _) _⟩)
              | exact ⟨w3.heap.size, _, rfl, rfl, newcell w3 #[.slice xA xn xc, .int .i64 po] 85 0 _ rfl, newcell w3 #[.slice xA xn xc, .int .i64 po] 85 1 _ rfl, HB3.out.alloc HB3.out.size _⟩
        case rest =>
          obtain ⟨q, wx, rfl, rfl, q0, q1, hbx⟩ := hcut
          have k0x := kcell hbx (HK.out.cell 0)
          have b3 : Below w1.heap.size w1 wx := bW.trans (hbx.mono (by have := bW.size; omega))
          have b03 : Below wr.heap.size wr wx := bW0.trans (hbx.mono (by omega))
          have z3 := b3.size
          have HSx := Lib.hid (HSt.out.keep b03)
          have HO3 := Lib.hid (HO.out.keep b03)
          have HBlx : Hid (0 < xn → ∀ a, xA = some a → v.ownBlock ≠ some a.block ∧ a.block < wx.heap.size) := Lib.hid (fun hp a ha => by
            have h1 := HBl.out hp a ha
            exact ⟨fun e => by have := HVb.out _ e; omega, by omega⟩)
          have hal3 : Below wx.heap.size wx (wx.alloc (.cells #[.int .i64 (xi : Int), .slice xA xn xc, .int .i64 po] 129)) := (Below.refl _ _).alloc (Nat.le_refl _) _
          have HOa : Hid ((wx.alloc (.cells #[.int .i64 (xi : Int), .slice xA xn xc, .int .i64 po] 129)).ownsRow w1.heap.size 129 3 v ps.length (ps.flatMap plC)) := Lib.hid (ownG_keep HO3.out.1 hal3)
          have HRow : Hid (Row (wx.alloc (.cells #[.int .i64 (xi : Int), .slice xA xn xc, .int .i64 po] 129)) (wx.heap.size + 1) (some ⟨wx.heap.size, 0, none⟩) 1 3 [.int .i64 (xi : Int), .slice xA xn xc, .int .i64 po]) := Lib.hid (rowNew3 _ _ _ _ _)
          clear hbx HSt HO HBl HVb k0 k1 d0' k0A k1A d0A b03 bW bW0
          go_wp2_with (at_builtin; refine wpList_append_any _ rfl (.tmp 37) (.tmp 42) _ rfl w1.heap.size 129 i0 _ 3 40 Try.underlying77 hi hz0 hz1 hz2 rfl (by omega) v ps.length (ps.flatMap plC) rfl HOa.out (wx.heap.size + 1) (some ⟨wx.heap.size, 0, none⟩) 1 1 [.int .i64 (xi : Int), .slice xA xn xc, .int .i64 po] rfl HRow.out (by simp [Value.oneCell']) (by unfold maxLen; omega) (by omega) (by simp; omega) ?_; intro v4 w4 hown4 hg4 hat4)
          have HO4 : Hid (ItOwn 129 3 plC w4 w1.heap.size v4 (ps ++ [⟨xi, xA, xn, xc, xss, po⟩])) := Lib.hid (ItOwn.push (HO3.out.keep hal3) (HSx.out.keep hal3) (fun hp a ha => ⟨(HBlx.out hp a ha).1, Nat.lt_of_lt_of_le (HBlx.out hp a ha).2 hal3.size⟩) hown4 hg4 hat4)
          have HP4 : Hid ((ps ++ [(⟨xi, xA, xn, xc, xss, po⟩ : It)]).map plDat = ((outsK xs ws ws.length).take (k + 1)).map (plOf ws)) := Lib.hid (by rw [HPn.out, List.map_append, HP.out]; rfl)
          have HL4 : Hid ((ps ++ [(⟨xi, xA, xn, xc, xss, po⟩ : It)]).length = k + 1) := Lib.hid (by rw [List.length_append, HPl.out]; rfl)
          have b4 := (b3.alloc z3 _).grown hg4 (by simp; omega) (fun q hq => ownG_base HO3.out.1 hq)
          clear hown4 hg4 hat4 HOa HRow
          go_wp2
          go_roundw
          case rel => exact ⟨k + 1, _, _, by omega, by go_num, rfl, HP4, HL4, HO4, b4⟩
          case measure => simp [intOf]; omega
      · obtain rfl : k = n1 := by omega
        obtain ⟨A6, c6, rfl, hc6, hm6⟩ := ownG_form HO.out.1
        have HR6 := Lib.hid (HO.out.reads rfl)
        have HP6 : Hid (ps.map plDat = (outsK xs ws ws.length).map (plOf ws)) := Lib.hid (by
          have hl : (outsK xs ws ws.length).length = k := by rw [← HD.out, List.length_map, HL1.out]
          have h1 := HP.out
          rw [List.take_of_length_le (by rw [hl]; exact Nat.le_refl _)] at h1
          exact h1)
        have b6 := below_next hb1 hb
        clear HP
        go_wp2
        go_returns
        exact ⟨.inr ⟨HF.out, A6, ps.length, c6, ps, rfl, HR6.out, HP6.out⟩, b6⟩
end Go.Proofs.Ytppjjbjjbmodbaa

namespace Go.Proofs.Ytppjjbjjbmodbaa
open Go.ChangeShapes Go.WideShapes Go.ChangeAt Go.RowKit Go.Maps
set_option maxRecDepth 100000
set_option linter.unusedSimpArgs false

/-- The indexes of the first k written words with this form. -/
def isF (ss : List Stroke) (p : Int) (x : It) : Bool := decide (x.p = p ∧ x.ss = ss)
def frmK (its : List It) (ss : List Stroke) (p : Int) (k : Nat) : List Nat := ((its.take k).filter (isF ss p)).map (·.i)
theorem it_take {its : List It} {k : Nat} (h : k < its.length) : its.take (k + 1) = its.take k ++ [itAt its k] := by
  rw [List.take_add_one, itAt_some h]; rfl
theorem frmK_succ {its : List It} {ss : List Stroke} {p : Int} {k : Nat} (h : k < its.length) : frmK its ss p (k + 1) = frmK its ss p k ++ if isF ss p (itAt its k) = true then [(itAt its k).i] else [] := by
  unfold frmK
  rw [it_take h, List.filter_append, List.map_append]
  congr 1
  cases hh : isF ss p (itAt its k) <;> simp [hh]
theorem frmK_len (its : List It) (ss : List Stroke) (p : Int) (k : Nat) : (frmK its ss p k).length ≤ k := by
  unfold frmK
  rw [List.length_map]
  exact Nat.le_trans (List.length_filter_le _ _) (List.length_take_le _ _)

set_option maxHeartbeats 1600000 in
theorem indexesOf (A : Option Addr) (n c : Nat) (its : List It) (A' : Option Addr) (n' c' : Nat) (ss : List Stroke) (p : Int) (w : World) (hn : n ≤ 20) (h : ItsIn 3 plC w w.heap.size A n c its) (h' : StrokesIn w w.heap.size A' n' c' ss) :
    Calls Try.prog 52 #[.slice A n c, .agg #[.slice A' n' c', .int .i64 p]] w fun e w' => IdxAns w' w.heap.size (frmK its ss p n) e ∧ Below w.heap.size w w' := by
  obtain ⟨i0, hi, hz0, hz1, hz2⟩ := info_parts infoInt
  have hm := h.2.2.1; have hnc := h.2.1
  unfold maxLen at hm
  have HL := Lib.hid h.1
  have H := Lib.hid h; have H' := Lib.hid h'
  have hm2 := World.ownsRow_made (base := (w.alloc (.cells #[.slice A' n' c', .int .i64 p] 85)).heap.size) (e := 3) (size := 1) (w.alloc (.cells #[.slice A' n' c', .int .i64 p] 85)) #[] 0 (Nat.le_refl _) (by unfold maxLen; omega) rfl
  simp only [World.size_alloc] at hm2
  have HO0 : Hid (NatOwn ((w.alloc (.cells #[.slice A' n' c', .int .i64 p] 85)).alloc (.cells #[] 3)) (w.heap.size + 1) (.slice (some ⟨w.heap.size + 1, 0, none⟩) 0 0) []) := Lib.hid hm2
  have HK0 : Hid (Blk ((w.alloc (.cells #[.slice A' n' c', .int .i64 p] 85)).alloc (.cells #[] 3)) w.heap.size 85 #[.slice A' n' c', .int .i64 p]) := Lib.hid ((Blk.new w _ _).alloc _)
  have hal : Below w.heap.size w ((w.alloc (.cells #[.slice A' n' c', .int .i64 p] 85)).alloc (.cells #[] 3)) := ((Below.refl _ _).alloc (Nat.le_refl _) _).alloc (by simp) _
  clear h h' hm2
  go_enter Try.func52, Try.ntmps52
  go_wp2
  go_loopw [5, 11] (fun v0 i wr => ∃ (k : Nat) (v : Value), k ≤ n ∧ i = .int .i64 k ∧ v = v0 ∧ Hid (NatOwn wr (w.heap.size + 1) v (frmK its ss p k)) ∧ Hid (Blk wr w.heap.size 85 #[.slice A' n' c', .int .i64 p]) ∧ Below w.heap.size w wr) (fun _ i _ => n - (intOf i).toNat)
  case atStart => exact ⟨0, _, Nat.zero_le _, rfl, rfl, HO0, HK0, hal⟩
  case round =>
    obtain ⟨k, v, hk, rfl, rfl, HO, HK, hb⟩ := hrel
    have hz := hb.size
    have hzk := HK.out.lt
    have hlk := frmK_len its ss p k
    by_cases hlt : k < n
    · obtain ⟨b, off, rfl, hbB, c0, c1, c2, hSt⟩ := (H.out.keep hb).pl hlt
      have HFs := Lib.hid (frmK_succ (ss := ss) (p := p) (show k < its.length by rw [HL.out]; exact hlt))
      have hal1 : ∀ o, Below wr.heap.size wr (wr.alloc o) := fun o => (Below.refl _ _).alloc (Nat.le_refl _) o
      have HEq := Lib.hid (fun o => formEqual (itAt its k).A (itAt its k).n (itAt its k).c A' n' c' (itAt its k).ss ss (itAt its k).p p (wr.alloc o) (hSt.keep (hal1 o)) (H'.out.keep (below_next hb (hal1 o))))
      have HAl := Lib.hid hal1
      have hisf : isF ss p (itAt its k) = decide ((itAt its k).p = p ∧ (itAt its k).ss = ss) := rfl
      rw [hisf] at HFs
      clear hSt hisf hal1
      generalize decide ((itAt its k).p = p ∧ (itAt its k).ss = ss) = q at *
      generalize itAt its k = x at *
      obtain ⟨xi, xA, xn, xc, xss, xp⟩ := x
      dsimp only at c0 c1 c2 HFs HEq
      have i1 : (0 : Int) ≤ (k : Int) := by omega
      have i2 : (k : Int) < (n : Int) := by omega
      have K1 := Blk.new wr 129 #[.int .i64 (xi : Int), .slice xA xn xc, .int .i64 xp]
      have m0 := K1.cell 0; have m1 := K1.cell 1; have m2 := K1.cell 2
      have KF := HK.out.alloc (.cells #[.int .i64 (xi : Int), .slice xA xn xc, .int .i64 xp] 129)
      obtain ⟨f0, f1, _, _⟩ := KF.two
      go_wp2_with fail
      refine (HEq.out _).mono ?_
      rintro e w3 ⟨rfl, hb3⟩
      have hb03 := below_next (HAl.out _) hb3
      have b3 := below_next hb hb03
      have z3 := b3.size
      have HO3 : Hid (NatOwn w3 (w.heap.size + 1) v (frmK its ss p k)) := Lib.hid (ownG_keep HO.out hb03)
      have HK3 := Lib.hid (HK.out.below hb03)
      have z3' : w.heap.size + 1 ≤ w3.heap.size := by have := HK3.out.lt; omega
      have K3 := K1.below hb3
      have n0 := K3.cell 0
      clear m0 m1 m2 f0 f1 K1 KF hb3 hb03 HEq HAl c0 c1 c2
      cases q with
      | false =>
        have HF2 : Hid (frmK its ss p (k + 1) = frmK its ss p k) := Lib.hid (by rw [HFs.out]; simp)
        go_wp2
        go_roundw
        case rel => exact ⟨k + 1, _, by omega, by go_num, rfl, Lib.hid (by rw [HF2.out]; exact HO3.out), HK3, b3⟩
        case measure => simp [intOf]; omega
      | true =>
        have HF2 : Hid (frmK its ss p (k + 1) = frmK its ss p k ++ [xi]) := Lib.hid (by rw [HFs.out]; simp)
        generalize frmK its ss p k = I at *
        have HOa : Hid (∀ o, (w3.alloc o).ownsRow (w.heap.size + 1) 3 1 v I.length (I.map natP)) := Lib.hid (fun o => ownG_keep HO3.out ((Below.refl _ _).alloc (Nat.le_refl _) o))
        go_wp2_with (at_builtin; refine wpList_append_any _ rfl (.tmp 19) (.tmp 22) _ rfl (w.heap.size + 1) 3 i0 _ 1 8 Try.underlying38 hi hz0 hz1 hz2 rfl (by omega) v I.length (I.map natP) rfl (HOa.out _) (w3.heap.size + 1) (some ⟨w3.heap.size, 0, none⟩) 1 1 [.int .i64 (xi : Int)] rfl (rowNew1 _ _ _) (by simp [Value.oneCell']) (by unfold maxLen; omega) (by omega) (by simp; omega) ?_; intro v4 w4 hown4 hg4 hat4)
        have HO4 : Hid (NatOwn w4 (w.heap.size + 1) v4 (frmK its ss p (k + 1))) := Lib.hid (by rw [HF2.out]; unfold NatOwn; rw [List.length_append, List.map_append]; exact hown4)
        have b4 := (b3.alloc z3 _).grown hg4 (by simp; omega) (fun q hq => by have := ownG_base HO3.out hq; omega)
        have HK4 : Hid (Blk w4 w.heap.size 85 #[.slice A' n' c', .int .i64 p]) := Lib.hid ((hg4.block w.heap.size (by simp; omega) (fun e => by have := ownG_base HO3.out e.symm; omega)).trans (HK3.out.alloc (.cells #[.int .i64 (xi : Int)] 3)))
        clear hown4 hg4 hat4 HOa
        go_wp2
        go_roundw
        case rel => exact ⟨k + 1, _, by omega, by go_num, rfl, HO4, HK4, b4⟩
        case measure => simp [intOf]; omega
    · obtain rfl : k = n := by omega
      obtain ⟨A6, c6, rfl, hc6, hm6⟩ := ownG_form HO.out
      have HO6 : Hid (NatOwn wr w.heap.size (.slice A6 (frmK its ss p k).length c6) (frmK its ss p k)) := Lib.hid (ownG_mono HO.out (by omega))
      go_wp2
      go_ret
      exact ⟨⟨A6, c6, rfl, HO6.out⟩, hb⟩

theorem frmK_full {its : List It} {ss : List Stroke} {p : Int} {n : Nat} (h : its.length = n) : frmK its ss p n = (its.filter (isF ss p)).map (·.i) := by
  unfold frmK; rw [List.take_of_length_le (by omega)]
/-- The words with a form. -/
def readOf (xs : List Sg) (ws : List (List UInt8)) (d : Dat) : List Nat := (List.range ws.length).filter fun i => decide ((wordOut xs (wdAt ws i)).map (fun o => (o, posOf (wdAt ws i))) = some d)
def readAll (xs : List Sg) (ws : List (List UInt8)) (d : Dat) : List Nat := if (sysB xs && dicB ws) = true ∧ datB d = true then readOf xs ws d else []
theorem read_outs (xs : List Sg) (ws : List (List UInt8)) (d : Dat) (k : Nat) :
    (((outsK xs ws k).map (plOf ws)).filter fun x => decide (x.2.2 = d.2 ∧ x.2.1 = d.1)).map (·.1) = (List.range k).filter fun i => decide ((wordOut xs (wdAt ws i)).map (fun o => (o, posOf (wdAt ws i))) = some d) := by
  induction k with
  | zero => rfl
  | succ k ih =>
    rw [outsK_succ, List.map_append, List.filter_append, List.map_append, ih, List.range_succ, List.filter_append]
    congr 1
    cases h : wordOut xs (wdAt ws k) with
    | none => simp [h]
    | some o =>
      obtain ⟨ds, dp⟩ := d
      by_cases hd : posOf (wdAt ws k) = dp ∧ o = ds
      · simp [h, plOf, hd.1, hd.2]
      · have hd2 : ¬ (o = ds ∧ posOf (wdAt ws k) = dp) := fun h => hd ⟨h.2, h.1⟩
        simp [h, plOf, hd, hd2]
theorem frm_read {its : List It} {xs : List Sg} {ws : List (List UInt8)} {n : Nat} (hl : its.length = n) (h : its.map plDat = (outsK xs ws ws.length).map (plOf ws)) (ss : List Stroke) (p : Int) : frmK its ss p n = readOf xs ws (ss, p) := by
  rw [frmK_full hl]
  have h1 := read_outs xs ws (ss, p) ws.length
  unfold readOf
  rw [← h1, ← h, List.filter_map, List.map_map]
  rfl

set_option maxHeartbeats 800000 in
theorem implWrittenRead (A : Option Addr) (n c : Nat) (xs : List Sg) (A' : Option Addr) (n' c' : Nat) (ws : List (List UInt8)) (A2 : Option Addr) (n2 c2 : Nat) (ss : List Stroke) (p : Int) (w : World) (hW : ∀ l ∈ ws, l.length ≤ maxLen) (h : SgsIn w w.heap.size A n c xs) (h' : WdsIn w w.heap.size A' n' c' ws) (h2 : StrokesIn w w.heap.size A2 n2 c2 ss) :
    Calls Try.prog 14 #[.slice A n c, .slice A' n' c', .agg #[.slice A2 n2 c2, .int .i64 p]] w fun e w' => IdxAns w' w.heap.size (readAll xs ws (ss, p)) e ∧ Below w.heap.size w w' := by
  have hal : ∀ o, Below w.heap.size w (w.alloc o) := fun o => (Below.refl _ _).alloc (Nat.le_refl _) o
  have HP := Lib.hid (fun o => placedWords A n c xs A' n' c' ws (w.alloc o) hW (h.keep (hal o)) (h'.keep (hal o)))
  have HV := Lib.hid (fun W (hb : Below w.heap.size w W) => implWrittenValid A2 n2 c2 ss p W (h2.keep hb))
  have H2 := Lib.hid h2
  have HAl := Lib.hid hal
  have HNil : Hid (∀ W : World, NatOwn W w.heap.size (.slice none 0 0) []) := Lib.hid (fun W => World.ownsRow_nil _ _ _ _)
  have HNo : Hid (¬ ((sysB xs && dicB ws) = true ∧ wrB ss p = true) → readAll xs ws (ss, p) = []) := Lib.hid (fun h => if_neg h)
  have HYes : Hid ((sysB xs && dicB ws) = true → wrB ss p = true → readAll xs ws (ss, p) = readOf xs ws (ss, p)) := Lib.hid (fun h1 h2 => if_pos ⟨h1, h2⟩)
  clear h h' h2 hal
  go_enter Try.func14, Try.ntmps14
  go_wp2_with fail
  refine (HP.out _).mono ?_
  rintro e w1 ⟨hA, hb1⟩
  have K1 := (Blk.new w 35 #[.slice A2 n2 c2, .int .i64 p]).below hb1
  obtain ⟨k0, k1, _, _⟩ := K1.two
  have b1 := below_next (HAl.out _) hb1
  rcases hA with ⟨hB, rfl⟩ | ⟨hB, A3, n3, c3, its, rfl, hI, hd⟩
  · have HF := Lib.hid (HNo.out (fun h => by rw [h.1] at hB; cases hB))
    clear hB
    go_wp2
    go_ret
    exact ⟨⟨none, 0, by rw [HF.out]; rfl, by rw [HF.out]; exact HNil.out _⟩, b1⟩
  · have HVk := Lib.hid (HV.out w1 b1)
    have hn20 : n3 ≤ 20 := by
      have h1 := congrArg List.length hd
      rw [List.length_map, List.length_map, hI.1] at h1
      have h2 := outsK_len xs ws ws.length
      rw [Bool.and_eq_true] at hB
      have := (dicB_iff.1 hB.2).1
      omega
    have HFr := Lib.hid (frm_read hI.1 hd ss p)
    have HI := Lib.hid hI
    have HB := Lib.hid hB
    clear hI hd hB hb1
    cases hw : wrB ss p with
    | false =>
      rw [hw] at HVk
      have HF := Lib.hid (HNo.out (fun h => by rw [h.2] at hw; cases hw))
      clear hw
      go_wp2_with fail
      refine HVk.out.mono ?_
      rintro e w2 ⟨rfl, hb2⟩
      have b2 := below_next b1 hb2
      go_wp2
      go_ret
      exact ⟨⟨none, 0, by rw [HF.out]; rfl, by rw [HF.out]; exact HNil.out _⟩, b2⟩
    | true =>
      rw [hw] at HVk
      have HF := Lib.hid (HYes.out HB.out hw)
      clear hw
      go_wp2_with fail
      refine HVk.out.mono ?_
      rintro e w2 ⟨rfl, hb2⟩
      have b2 := below_next b1 hb2
      obtain ⟨k20, k21, _, _⟩ := (K1.below hb2).two
      have HI2 := Lib.hid (HI.out.keep hb2)
      clear hb2 k0 k1 K1 HVk HP HV
      go_wp2_with fail
      refine (formOf A2 n2 c2 p w2).mono ?_
      rintro e w3 ⟨rfl, hb3⟩
      have b3 := below_next b2 hb3
      have HX := Lib.hid (indexesOf A3 n3 c3 its A2 n2 c2 ss p w3 hn20 (HI2.out.keep hb3) (H2.out.keep b3))
      rw [HFr.out] at HX
      have z3 := b3.size
      clear hb3 HI2 HI HFr
      go_wp2_with fail
      refine HX.out.mono ?_
      rintro e w4 ⟨⟨A4, c4, rfl, hO4⟩, hb4⟩
      have b4 := below_next b3 hb4
      have HO4 := Lib.hid (ownG_mono hO4 z3)
      clear hO4 hb4 HX
      go_wp2
      go_ret
      exact ⟨⟨A4, c4, by rw [HF.out]; rfl, by rw [HF.out]; exact HO4.out⟩, b4⟩
end Go.Proofs.Ytppjjbjjbmodbaa

namespace Go.Proofs.Ytppjjbjjbmodbaa
open Go.ChangeShapes Go.WideShapes Go.ChangeAt Go.RowKit Go.Maps
set_option maxRecDepth 100000
set_option linter.unusedSimpArgs false

/-- The ways of a list of counts: the product, or -1 beyond the bound. -/
def waysF : List Nat → Int → Int
  | [], n => n
  | c :: r, n => if 1000000000000000 < n * (c : Int) then -1 else waysF r (n * (c : Int))
def cntOf (xs : List Sg) (ws : List (List UInt8)) (d : Dat) : Nat := (readOf xs ws d).length
def waysOf (xs : List Sg) (ws : List (List UInt8)) (L : List Dat) : Int := if (sysB xs && dicB ws) = true ∧ lineB L = true then waysF (L.map (cntOf xs ws)) 1 else -1
theorem readOf_len (xs : List Sg) (ws : List (List UInt8)) (d : Dat) : (readOf xs ws d).length ≤ ws.length := by
  unfold readOf; exact Nat.le_trans (List.length_filter_le _ _) (by simp)
theorem drop_wr {xs : List Wr} {k : Nat} (h : k < xs.length) : (xs.map Wr.dat).drop k = (wrAt xs k).dat :: (xs.map Wr.dat).drop (k + 1) := by
  have hl : k < (xs.map Wr.dat).length := by rw [List.length_map]; exact h
  rw [List.drop_eq_getElem_cons hl]
  congr 1
  have := wrAt_some h
  rw [List.getElem?_eq_getElem h] at this
  injection this with this
  rw [List.getElem_map, this]

set_option maxHeartbeats 1600000 in
theorem implWrittenWays (A : Option Addr) (n c : Nat) (xs : List Sg) (A' : Option Addr) (n' c' : Nat) (ws : List (List UInt8)) (A2 : Option Addr) (n2 c2 : Nat) (ys : List Wr) (w : World) (hW : ∀ l ∈ ws, l.length ≤ maxLen) (h : SgsIn w w.heap.size A n c xs) (h' : WdsIn w w.heap.size A' n' c' ws) (h2 : WrsIn w w.heap.size A2 n2 c2 ys) :
    Calls Try.prog 12 #[.slice A n c, .slice A' n' c', .slice A2 n2 c2] w fun e w' => e = .returned (.int .i64 (waysOf xs ws (ys.map Wr.dat))) ∧ Below w.heap.size w w' := by
  have hm := h2.2.2.1; have hnc := h2.2.1
  unfold maxLen at hm
  have HL := Lib.hid h2.1
  have HP := Lib.hid (placedWords A n c xs A' n' c' ws w hW h h')
  have HV := Lib.hid (fun W (hb : Below w.heap.size w W) => implLineValid A2 n2 c2 ys W (h2.keep hb))
  have H2 := Lib.hid h2
  have HNo : Hid (¬ ((sysB xs && dicB ws) = true ∧ lineB (ys.map Wr.dat) = true) → waysOf xs ws (ys.map Wr.dat) = -1) := Lib.hid (fun h => if_neg h)
  have HYes : Hid ((sysB xs && dicB ws) = true → lineB (ys.map Wr.dat) = true → waysOf xs ws (ys.map Wr.dat) = waysF ((ys.map Wr.dat).map (cntOf xs ws)) 1) := Lib.hid (fun h1 h2 => if_pos ⟨h1, h2⟩)
  clear h h' h2
  go_enter Try.func12, Try.ntmps12
  go_wp2_with fail
  refine HP.out.mono ?_
  rintro e w1 ⟨hA, b1⟩
  rcases hA with ⟨hB, rfl⟩ | ⟨hB, A3, n3, c3, its, rfl, hI, hd⟩
  · have HF := Lib.hid (HNo.out (fun h => by rw [h.1] at hB; cases hB))
    clear hB
    go_wp2
    go_ret
    exact ⟨ret_int (by rw [HF.out]), b1⟩
  · have HVk := Lib.hid (HV.out w1 b1)
    have hw20 : ws.length ≤ 20 := by
      rw [Bool.and_eq_true] at hB
      exact (dicB_iff.1 hB.2).1
    have hn20 : n3 ≤ 20 := by
      have h1 := congrArg List.length hd
      rw [List.length_map, List.length_map, hI.1] at h1
      have h2 := outsK_len xs ws ws.length
      omega
    have HFr := Lib.hid (fun ss p => frm_read hI.1 hd ss p)
    have HI := Lib.hid hI
    have HB := Lib.hid hB
    clear hI hd hB
    cases hw : lineB (ys.map Wr.dat) with
    | false =>
      rw [hw] at HVk
      have HF := Lib.hid (HNo.out (fun h => by rw [h.2] at hw; cases hw))
      clear hw
      go_wp2_with fail
      refine HVk.out.mono ?_
      rintro e w2 ⟨rfl, hb2⟩
      have b2 := below_next b1 hb2
      go_wp2
      go_ret
      exact ⟨ret_int (by rw [HF.out]), b2⟩
    | true =>
      rw [hw] at HVk
      have HF := Lib.hid (HYes.out HB.out hw)
      clear hw
      go_wp2_with fail
      refine HVk.out.mono ?_
      rintro e w2 ⟨rfl, hb2⟩
      have b2 := below_next b1 hb2
      have HI2 := Lib.hid (HI.out.keep hb2)
      clear hb2 HVk HP HV HI
      go_wp2
      go_loopw [9, 27] (fun m i wr => ∃ (k : Nat) (P : Int), k ≤ n2 ∧ i = .int .i64 k ∧ m = .int .i64 P ∧ 0 ≤ P ∧ P ≤ 1000000000000000 ∧ Hid (waysOf xs ws (ys.map Wr.dat) = waysF (((ys.map Wr.dat).drop k).map (cntOf xs ws)) P) ∧ Below w2.heap.size w2 wr) (fun _ i _ => n2 - (intOf i).toNat)
      case atStart => exact ⟨0, 1, Nat.zero_le _, rfl, rfl, by omega, by omega, HF, Below.refl _ _⟩
      case round =>
        obtain ⟨k, P, hk, rfl, rfl, hP0, hP1, HWy, hb⟩ := hrel
        have hz := hb.size
        by_cases hlt : k < n2
        · obtain ⟨b, off, rfl, hbB, c0, c1, hWr⟩ := (H2.out.keep (below_next b2 hb)).at_ hlt
          have hdr := drop_wr (xs := ys) (k := k) (by rw [HL.out]; exact hlt)
          have HSt := Lib.hid hWr.1
          have hcl := readOf_len xs ws (wrAt ys k).dat
          have HWn : Hid (waysOf xs ws (ys.map Wr.dat) = if 1000000000000000 < P * ((cntOf xs ws (wrAt ys k).dat : Nat) : Int) then -1 else waysF (((ys.map Wr.dat).drop (k + 1)).map (cntOf xs ws)) (P * ((cntOf xs ws (wrAt ys k).dat : Nat) : Int))) := Lib.hid (by rw [HWy.out, hdr]; rfl)
          have HFk := Lib.hid (HFr.out (wrAt ys k).ss (wrAt ys k).pos)
          have hdat : (wrAt ys k).dat = ((wrAt ys k).ss, (wrAt ys k).pos) := rfl
          rw [hdat] at HWn hcl
          clear hWr hdr hdat HWy
          generalize wrAt ys k = x at *
          obtain ⟨xA, xn, xc, xss, xp⟩ := x
          dsimp only at c0 c1 HSt HWn HFk hcl
          have i1 : (0 : Int) ≤ (k : Int) := by omega
          have i2 : (k : Int) < (n2 : Int) := by omega
          have K1 := Blk.new wr 35 #[.slice xA xn xc, .int .i64 xp]
          obtain ⟨k0, k1, _, _⟩ := K1.two
          have hal1 : Below wr.heap.size wr (wr.alloc (.cells #[.slice xA xn xc, .int .i64 xp] 35)) := (Below.refl _ _).alloc (Nat.le_refl _) _
          have hb1' := below_next hb hal1
          have HSt1 := Lib.hid (HSt.out.keep hal1)
          go_wp2_with fail
          refine (formOf xA xn xc xp _).mono ?_
          rintro e w3 ⟨rfl, hb3⟩
          have b3 := below_next hb1' hb3
          have HX := Lib.hid (indexesOf A3 n3 c3 its xA xn xc xss xp w3 hn20 (HI2.out.keep b3) (HSt1.out.keep hb3))
          rw [HFk.out] at HX
          unfold cntOf at HWn
          generalize readOf xs ws (xss, xp) = RL at *
          have hq20 : RL.length ≤ 20 := by omega
          have hPq0 : 0 ≤ P * (RL.length : Int) := Int.mul_nonneg hP0 (by omega)
          have hPq1 : P * (RL.length : Int) ≤ 20000000000000000 := by
            have h1 : P * (RL.length : Int) ≤ P * 20 := Int.mul_le_mul_of_nonneg_left (by omega) hP0
            omega
          clear hb3 k0 k1 K1 hal1 HSt HSt1 HFk hcl hb1'
          go_wp2_with fail
          refine HX.out.mono ?_
          rintro e w4 ⟨⟨A4, c4, rfl, _⟩, hb4⟩
          have b4 := below_next b3 hb4
          clear hb4 HX
          by_cases hbig : 1000000000000000 < P * (RL.length : Int)
          · have HR : Hid (waysOf xs ws (ys.map Wr.dat) = -1) := Lib.hid (by rw [HWn.out, if_pos hbig])
            have b5 := below_next b2 b4
            go_wp2
            go_ret
            exact ⟨ret_int (by rw [HR.out]), b5⟩
          · have HR := Lib.hid (HWn.out.trans (if_neg hbig))
            go_wp2
            go_roundw
            case rel => exact ⟨k + 1, P * (RL.length : Int), by omega, by go_num, rfl, hPq0, by omega, HR, b4⟩
            case measure => simp [intOf]; omega
        · obtain rfl : k = n2 := by omega
          have HR : Hid (waysOf xs ws (ys.map Wr.dat) = P) := Lib.hid (by
            have hl : (ys.map Wr.dat).length ≤ k := by rw [List.length_map, HL.out]; exact Nat.le_refl _
            rw [HWy.out, List.drop_of_length_le hl]; rfl)
          have b5 := below_next b2 hb
          go_wp2
          go_ret
          exact ⟨ret_int (by rw [HR.out]), b5⟩
end Go.Proofs.Ytppjjbjjbmodbaa

namespace Go.Proofs.Ytppjjbjjbmodbaa
open Go.ChangeShapes Go.WideShapes Go.ChangeAt Go.RowKit Go.Maps
set_option maxRecDepth 100000
set_option linter.unusedSimpArgs false

def readK (xs : List Sg) (ws : List (List UInt8)) (d : Dat) (k : Nat) : List Nat := (List.range k).filter fun i => decide ((wordOut xs (wdAt ws i)).map (fun o => (o, posOf (wdAt ws i))) = some d)
theorem readK_succ (xs : List Sg) (ws : List (List UInt8)) (d : Dat) (k : Nat) : readK xs ws d (k + 1) = readK xs ws d k ++ if (wordOut xs (wdAt ws k)).map (fun o => (o, posOf (wdAt ws k))) = some d then [k] else [] := by
  unfold readK
  rw [List.range_succ, List.filter_append]
  congr 1
  by_cases h : (wordOut xs (wdAt ws k)).map (fun o => (o, posOf (wdAt ws k))) = some d
  · rw [if_pos h, List.filter_cons, decide_eq_true h]; rfl
  · rw [if_neg h, List.filter_cons, decide_eq_false h]; rfl
theorem readK_len (xs : List Sg) (ws : List (List UInt8)) (d : Dat) (k : Nat) : (readK xs ws d k).length ≤ k := by
  unfold readK; exact Nat.le_trans (List.length_filter_le _ _) (by simp)
theorem word_form {xs : List Sg} {l : List UInt8} {o : List Stroke} (h : wordOut xs l = some o) : wrB o (posOf l) = true := by
  obtain ⟨_, h2, _, h4⟩ := wordOut_ok h
  refine wrB_iff.2 ⟨h4, ?_, (posOf_bd l).2⟩
  unfold posOf
  rw [if_pos h2]
  exact (posV_bd _).1
theorem text_eq {a b : Dat} (ha : datB a = true) (hb : datB b = true) : datT a = datT b ↔ a = b := by
  refine ⟨fun h => ?_, fun h => by rw [h]⟩
  have h1 := wr_text (ss := a.1) (p := a.2) ha
  have h2 := wr_text (ss := b.1) (p := b.2) hb
  have h3 : wrText a.1 a.2 = wrText b.1 b.2 := h
  rw [h3, h2] at h1
  injection h1 with h1
  exact h1.symm

set_option maxHeartbeats 3200000 in
theorem specWrittenRead (A : Option Addr) (n c : Nat) (xs : List Sg) (A' : Option Addr) (n' c' : Nat) (ws : List (List UInt8)) (A2 : Option Addr) (n2 c2 : Nat) (ss : List Stroke) (p : Int) (w : World) (hW : ∀ l ∈ ws, l.length ≤ maxLen) (h : SgsIn w w.heap.size A n c xs) (h' : WdsIn w w.heap.size A' n' c' ws) (h2 : StrokesIn w w.heap.size A2 n2 c2 ss) :
    Calls Try.prog 15 #[.slice A n c, .slice A' n' c', .agg #[.slice A2 n2 c2, .int .i64 p]] w fun e w' => IdxAns w' w.heap.size (readAll xs ws (ss, p)) e ∧ Below w.heap.size w w' := by
  obtain ⟨i0, hi, hz0, hz1, hz2⟩ := info_parts infoInt
  have hm := h'.2.2.1; have hnc := h'.2.1
  unfold maxLen at hm
  have hmade := World.ownsRow_made (base := (w.alloc (.cells #[.slice A2 n2 c2, .int .i64 p] 35)).heap.size) (e := 3) (size := 1) (w.alloc (.cells #[.slice A2 n2 c2, .int .i64 p] 35)) #[] 0 (Nat.le_refl _) (by unfold maxLen; omega) rfl
  simp only [World.size_alloc] at hmade
  have HO0 : Hid (NatOwn ((w.alloc (.cells #[.slice A2 n2 c2, .int .i64 p] 35)).alloc (.cells #[] 3)) (w.heap.size + 1) (.slice (some ⟨w.heap.size + 1, 0, none⟩) 0 0) []) := Lib.hid hmade
  have HK0 : Hid (Blk ((w.alloc (.cells #[.slice A2 n2 c2, .int .i64 p] 35)).alloc (.cells #[] 3)) w.heap.size 35 #[.slice A2 n2 c2, .int .i64 p]) := Lib.hid ((Blk.new w _ _).alloc _)
  have hal : Below w.heap.size w ((w.alloc (.cells #[.slice A2 n2 c2, .int .i64 p] 35)).alloc (.cells #[] 3)) := ((Below.refl _ _).alloc (Nat.le_refl _) _).alloc (by simp) _
  have HL := Lib.hid h'.1
  have HB := Lib.hid (fun W (hb : Below w.heap.size w W) => l2Both A n c xs A' n' c' ws W hW (h.keep hb) (h'.keep hb))
  have HV := Lib.hid (fun W (hb : Below w.heap.size w W) => specWrittenValid A2 n2 c2 ss p W (h2.keep hb))
  have HT := Lib.hid (fun W (hb : Below w.heap.size w W) => specWrittenText A2 n2 c2 ss p W (h2.keep hb))
  have HTx := Lib.hid (fun (Ax : Option Addr) (nx cx : Nat) (sx : List Stroke) (px : Int) (W : World) (h : StrokesIn W W.heap.size Ax nx cx sx) => specWrittenText Ax nx cx sx px W h)
  have HWo := Lib.hid (fun W (hb : Below w.heap.size w W) (l : List UInt8) (hl : l.length ≤ maxLen) => specWrittenOf A n c xs l W hl (h.keep hb))
  have HW := Lib.hid hW
  have H' := Lib.hid h'
  have HNo : Hid (¬ ((sysB xs && dicB ws) = true ∧ wrB ss p = true) → readAll xs ws (ss, p) = []) := Lib.hid (fun h => if_neg h)
  have HYes : Hid ((sysB xs && dicB ws) = true → wrB ss p = true → readAll xs ws (ss, p) = readK xs ws (ss, p) n') := Lib.hid (fun h1 h2 => by rw [← HL.out]; exact if_pos ⟨h1, h2⟩)
  clear h h' hW h2 hmade
  by_cases h0 : n' = 0
  · have HR : Hid (readAll xs ws (ss, p) = []) := Lib.hid (by
      unfold readAll
      split
      · unfold readOf; rw [HL.out, h0]; rfl
      · rfl)
    subst h0
    go_enter Try.func15, Try.ntmps15
    go_wp2
    go_loopw [7, 8] (fun o i wr => o = .slice (some ⟨w.heap.size + 1, 0, none⟩) 0 0 ∧ i = .int .i64 0 ∧ wr = (w.alloc (.cells #[.slice A2 n2 c2, .int .i64 p] 35)).alloc (.cells #[] 3)) (fun _ _ _ => 0)
    case atStart => exact ⟨rfl, rfl, rfl⟩
    case round =>
      obtain ⟨rfl, rfl, rfl⟩ := hrel
      have HO1 := Lib.hid (ownG_mono HO0.out (show w.heap.size ≤ w.heap.size + 1 by omega))
      go_wp2
      go_ret
      exact ⟨⟨_, _, by rw [HR.out]; rfl, by rw [HR.out]; exact HO1.out⟩, hal⟩
  have hp : 0 < n' := by omega
  cases hb : (sysB xs && dicB ws) with
  | false =>
    have HR := Lib.hid (HNo.out (fun h => by rw [h.1] at hb; cases hb))
    rw [hb] at HB
    clear hb
    go_enter Try.func15, Try.ntmps15
    go_wp2
    go_loopw [7, 8] (fun o i wr => o = .slice (some ⟨w.heap.size + 1, 0, none⟩) 0 0 ∧ i = .int .i64 0 ∧ wr = (w.alloc (.cells #[.slice A2 n2 c2, .int .i64 p] 35)).alloc (.cells #[] 3)) (fun _ _ _ => 0)
    case atStart => exact ⟨rfl, rfl, rfl⟩
    case round =>
      obtain ⟨rfl, rfl, rfl⟩ := hrel
      go_wp2_with fail
      refine (HB.out _ hal).mono ?_
      rintro e w1 ⟨rfl, hb1⟩
      have b1 := below_next hal hb1
      have HO1 := Lib.hid (ownG_mono (ownG_keep HO0.out hb1) (show w.heap.size ≤ w.heap.size + 1 by omega))
      go_wp2
      go_ret
      exact ⟨⟨_, _, by rw [HR.out]; rfl, by rw [HR.out]; exact HO1.out⟩, b1⟩
  | true =>
  have HBt := Lib.hid hb
  have hn20 : n' ≤ 20 := by
    rw [Bool.and_eq_true] at hb
    have := (dicB_iff.1 hb.2).1
    rw [HL.out] at this; exact this
  rw [hb] at HB
  clear hb
  cases hv : wrB ss p with
  | false =>
    have HR := Lib.hid (HNo.out (fun h => by rw [h.2] at hv; cases hv))
    rw [hv] at HV
    clear hv
    go_enter Try.func15, Try.ntmps15
    go_wp2
    go_loopw [7, 8] (fun o i wr => o = .slice (some ⟨w.heap.size + 1, 0, none⟩) 0 0 ∧ i = .int .i64 0 ∧ wr = (w.alloc (.cells #[.slice A2 n2 c2, .int .i64 p] 35)).alloc (.cells #[] 3)) (fun _ _ _ => 0)
    case atStart => exact ⟨rfl, rfl, rfl⟩
    case round =>
      obtain ⟨rfl, rfl, rfl⟩ := hrel
      go_wp2_with fail
      refine (HB.out _ hal).mono ?_
      rintro e w1 ⟨rfl, hb1⟩
      have b1 := below_next hal hb1
      have HVk := Lib.hid (HV.out w1 b1)
      have HO1 := Lib.hid (ownG_keep HO0.out hb1)
      obtain ⟨k0, k1, _, _⟩ := (HK0.out.below hb1).two
      clear hb1
      go_wp2_with fail
      refine HVk.out.mono ?_
      rintro e w2 ⟨rfl, hb2⟩
      have b2 := below_next b1 hb2
      have HO2 := Lib.hid (ownG_mono (ownG_keep HO1.out hb2) (show w.heap.size ≤ w.heap.size + 1 by omega))
      go_wp2
      go_ret
      exact ⟨⟨_, _, by rw [HR.out]; rfl, by rw [HR.out]; exact HO2.out⟩, b2⟩
  | true =>
    have HR := Lib.hid (HYes.out HBt.out hv)
    have HVt := Lib.hid hv
    rw [hv] at HV
    clear hv
    go_enter Try.func15, Try.ntmps15
    go_wp2
    go_loopw [7, 8] (fun o i wr => ∃ (k : Nat) (v : Value), k ≤ n' ∧ i = .int .i64 k ∧ v = o ∧ Hid (NatOwn wr (w.heap.size + 1) v (readK xs ws (ss, p) k)) ∧ Hid (Blk wr w.heap.size 35 #[.slice A2 n2 c2, .int .i64 p]) ∧ Below w.heap.size w wr) (fun _ i _ => n' - (intOf i).toNat)
    case atStart => exact ⟨0, _, Nat.zero_le _, rfl, rfl, HO0, HK0, hal⟩
    case round =>
      obtain ⟨k, v, hk, rfl, rfl, HO, HK, hb⟩ := hrel
      have hz := hb.size
      have hlk := readK_len xs ws (ss, p) k
      by_cases hlt : k < n'
      · have i1 : (0 : Int) ≤ (k : Int) := by omega
        have i2 : (k : Int) < (n' : Int) := by omega
        go_wp2_with fail
        refine (HB.out _ hb).mono ?_
        rintro e w1 ⟨rfl, hb1⟩
        have b1 := below_next hb hb1
        have HVk := Lib.hid (HV.out w1 b1)
        have HO1 := Lib.hid (ownG_keep HO.out hb1)
        have HK1 := Lib.hid (HK.out.below hb1)
        obtain ⟨k0, k1, _, _⟩ := HK1.out.two
        clear hb1
        go_wp2_with fail
        refine HVk.out.mono ?_
        rintro e w2 ⟨rfl, hb2⟩
        have b2 := below_next b1 hb2
        have HO2 := Lib.hid (ownG_keep HO1.out hb2)
        have HK2 := Lib.hid (HK1.out.below hb2)
        obtain ⟨b, off, rfl, hbB, c0⟩ := (H'.out.keep b2).at_ hlt
        have HWk := Lib.hid (HWo.out w2 b2 (wdAt ws k) (HW.out _ (wdAt_mem (by rw [HL.out]; exact hlt))))
        have HS := Lib.hid (readK_succ xs ws (ss, p) k)
        have HFm := Lib.hid (fun o (h : wordOut xs (wdAt ws k) = some o) => word_form h)
        clear hb2 k0 k1
        generalize hwo : wordOut xs (wdAt ws k) = wo at *
        generalize hpo : posOf (wdAt ws k) = po at *
        generalize wdAt ws k = l at *
        clear hwo hpo
        go_wp2_with fail
        refine HWk.out.mono ?_
        rintro e w3 ⟨hA3, hb3⟩
        have b3 := below_next b2 hb3
        have HO3 := Lib.hid (ownG_keep HO2.out hb3)
        have HK3 := Lib.hid (HK2.out.below hb3)
        rcases hA3 with ⟨hn, rfl⟩ | ⟨A3, c3, sx, px, hn, rfl, hS3, hg3⟩
        · have hwn : wo = none := by cases wo with
            | none => rfl
            | some o => cases hn
          subst hwn
          have HS2 : Hid (readK xs ws (ss, p) (k + 1) = readK xs ws (ss, p) k) := Lib.hid (by rw [HS.out]; exact List.append_nil _)
          have hal4 : Below w3.heap.size w3 (w3.alloc (.cells #[.slice none 0 0, .int .i64 0] 35)) := (Below.refl _ _).alloc (Nat.le_refl _) _
          clear hn hb3 HWk
          go_wp2_with fail
          refine region_qb (by kernel_rfl) (by kernel_rfl) ?_
          repeat (first | go_big_quiet_step (fail) | quiet_step (fail))
          refine wpQuiet_nil ?_
          intro w5 hb5
          have b35 := below_next hal4 hb5
          have b5 := below_next b3 b35
          have HO5 := Lib.hid (ownG_keep HO3.out b35)
          have HK5 := Lib.hid (HK3.out.below b35)
          clear hb5 b35 hal4
          go_wp2
          go_roundw
          case rel => exact ⟨k + 1, _, by omega, by go_num, rfl, Lib.hid (by rw [HS2.out]; exact HO5.out), HK5, b5⟩
          case measure => simp [intOf]; omega
        · obtain ⟨o, rfl, ho⟩ := Option.map_eq_some_iff.1 hn
          injection ho with ho1 ho2
          subst ho1 ho2
          have HFo := Lib.hid (HFm.out o rfl)
          have HSt : Hid (StrokesIn w3 w3.heap.size A3 o.length c3 o) := Lib.hid (StrOwn.reads hS3 rfl hg3)
          have hal4 : Below w3.heap.size w3 (w3.alloc (.cells #[.slice A3 o.length c3, .int .i64 po] 35)) := (Below.refl _ _).alloc (Nat.le_refl _) _
          have K4 := Blk.new w3 35 #[.slice A3 o.length c3, .int .i64 po]
          obtain ⟨p0, p1, _, _⟩ := K4.two
          obtain ⟨u0, u1, _, _⟩ := (HK3.out.alloc (.cells #[.slice A3 o.length c3, .int .i64 po] 35)).two
          have b4 := below_next b3 hal4
          have HX1 : Hid (∀ V, Below (w3.alloc (.cells #[.slice A3 o.length c3, .int .i64 po] 35)).heap.size (w3.alloc (.cells #[.slice A3 o.length c3, .int .i64 po] 35)) V → Calls Try.prog 58 #[.agg #[.slice A3 o.length c3, .int .i64 po]] V fun e w' => e = .returned (.string (mkStr (wrText o po))) ∧ Below V.heap.size V w') := Lib.hid (fun V hV => HTx.out A3 o.length c3 o po V ((HSt.out.keep hal4).keep hV))
          have HX2 : Hid (∀ V, Below (w3.alloc (.cells #[.slice A3 o.length c3, .int .i64 po] 35)).heap.size (w3.alloc (.cells #[.slice A3 o.length c3, .int .i64 po] 35)) V → Calls Try.prog 58 #[.agg #[.slice A2 n2 c2, .int .i64 p]] V fun e w' => e = .returned (.string (mkStr (wrText ss p))) ∧ Below V.heap.size V w') := Lib.hid (fun V hV => HT.out V (below_next b4 hV))
          have HEq : Hid (wrText o po = wrText ss p ↔ ((o, po) : Dat) = (ss, p)) := Lib.hid (text_eq (a := (o, po)) (b := (ss, p)) HFo.out HVt.out)
          have hq := beq_str (mkStr (wrText ss p)) (wrText o po) (wrText ss p) rfl
          have g0 := qcell p0; have g1 := qcell p1; have g2 := qcell u0; have g3 := qcell u1
          generalize hM : o.length = M at *
          have HM := Lib.hid hM
          clear hM hn hb3 HWk p0 p1 u0 u1 K4 hS3 HFm
          by_cases hd : ((o, po) : Dat) = (ss, p)
          · have HS2 : Hid (readK xs ws (ss, p) (k + 1) = readK xs ws (ss, p) k ++ [k]) := Lib.hid (by rw [HS.out]; exact congrArg _ (if_pos (congrArg some hd)))
            rw [decide_eq_true (HEq.out.2 hd)] at hq
            clear hd
            generalize mkStr (wrText o po) = t1 at *
            generalize mkStr (wrText ss p) = t2 at *
            go_wp2_with fail
            refine region_qb (by kernel_rfl) (by kernel_rfl) ?_
            repeat (first | go_big_quiet_step ((first | (go_at_call_of 58 (Value.slice A3 M c3); exact quietB (HX1.out _ (below_regrown _ _ _))) | (go_at_call_of 58 (Value.slice A2 n2 c2); exact quietB (HX2.out _ (below_regrown _ _ _))))) | quiet_step ((first | (go_at_call_of 58 (Value.slice A3 M c3); exact quietB (HX1.out _ (below_regrown _ _ _))) | (go_at_call_of 58 (Value.slice A2 n2 c2); exact quietB (HX2.out _ (below_regrown _ _ _))))))
            refine wpQuiet_nil ?_
            intro w5 hb5
            have b35 := below_next hal4 hb5
            have b5 := below_next b3 b35
            have z5 := b5.size
            have HO5 := Lib.hid (ownG_keep HO3.out b35)
            have HK5 := Lib.hid (HK3.out.below b35)
            have z5' := HK5.out.lt
            generalize readK xs ws (ss, p) k = I at *
            have HOa : Hid (∀ o, (w5.alloc o).ownsRow (w.heap.size + 1) 3 1 v I.length (I.map natP)) := Lib.hid (fun o => ownG_keep HO5.out ((Below.refl _ _).alloc (Nat.le_refl _) o))
            clear hb5 b35 hal4 g0 g1 g2 g3 hq HX1 HX2
            go_wp2_with (at_builtin; refine wpList_append_any _ rfl (.tmp 44) (.tmp 46) _ rfl (w.heap.size + 1) 3 i0 _ 1 8 Try.underlying38 hi hz0 hz1 hz2 rfl (by omega) v I.length (I.map natP) rfl (HOa.out _) (w5.heap.size + 1) (some ⟨w5.heap.size, 0, none⟩) 1 1 [.int .i64 (k : Int)] rfl (rowNew1 _ _ _) (by simp [Value.oneCell']) (by unfold maxLen; omega) (by omega) (by simp; omega) ?_; intro v6 w6 hown6 hg6 hat6)
            have HO6 : Hid (NatOwn w6 (w.heap.size + 1) v6 (readK xs ws (ss, p) (k + 1))) := Lib.hid (by rw [HS2.out]; unfold NatOwn; rw [List.length_append, List.map_append]; exact hown6)
            have b6 := (b5.alloc z5 _).grown hg6 (by simp; omega) (fun q hq => by have := ownG_base HO5.out hq; omega)
            have HK6 : Hid (Blk w6 w.heap.size 35 #[.slice A2 n2 c2, .int .i64 p]) := Lib.hid ((hg6.block w.heap.size (by simp; omega) (fun e => by have := ownG_base HO5.out e.symm; omega)).trans (HK5.out.alloc (.cells #[.int .i64 (k : Int)] 3)))
            clear hown6 hg6 hat6 HOa
            go_wp2
            go_roundw
            case rel => exact ⟨k + 1, _, by omega, by go_num, rfl, HO6, HK6, b6⟩
            case measure => simp [intOf]; omega
          · have HS2 : Hid (readK xs ws (ss, p) (k + 1) = readK xs ws (ss, p) k) := Lib.hid (by rw [HS.out]; exact (congrArg _ (if_neg (fun h => hd (Option.some.inj h)))).trans (List.append_nil _))
            rw [decide_eq_false (fun h => hd (HEq.out.1 h))] at hq
            clear hd
            generalize mkStr (wrText o po) = t1 at *
            generalize mkStr (wrText ss p) = t2 at *
            go_wp2_with fail
            refine region_qb (by kernel_rfl) (by kernel_rfl) ?_
            repeat (first | go_big_quiet_step ((first | (go_at_call_of 58 (Value.slice A3 M c3); exact quietB (HX1.out _ (below_regrown _ _ _))) | (go_at_call_of 58 (Value.slice A2 n2 c2); exact quietB (HX2.out _ (below_regrown _ _ _))))) | quiet_step ((first | (go_at_call_of 58 (Value.slice A3 M c3); exact quietB (HX1.out _ (below_regrown _ _ _))) | (go_at_call_of 58 (Value.slice A2 n2 c2); exact quietB (HX2.out _ (below_regrown _ _ _))))))
            refine wpQuiet_nil ?_
            intro w5 hb5
            have b35 := below_next hal4 hb5
            have b5 := below_next b3 b35
            have HO5 := Lib.hid (ownG_keep HO3.out b35)
            have HK5 := Lib.hid (HK3.out.below b35)
            clear hb5 b35 hal4 g0 g1 g2 g3 hq HX1 HX2
            go_wp2
            go_roundw
            case rel => exact ⟨k + 1, _, by omega, by go_num, rfl, Lib.hid (by rw [HS2.out]; exact HO5.out), HK5, b5⟩
            case measure => simp [intOf]; omega
      · obtain rfl : k = n' := by omega
        have HO3 : Hid (NatOwn wr w.heap.size v (readK xs ws (ss, p) k)) := Lib.hid (ownG_mono HO.out (by omega))
        rw [← HR.out] at HO3
        obtain ⟨A6, c6, rfl, hc6, hm6⟩ := ownG_form HO3.out
        go_wp2
        go_ret
        exact ⟨⟨A6, c6, rfl, HO3.out⟩, hb⟩
end Go.Proofs.Ytppjjbjjbmodbaa
