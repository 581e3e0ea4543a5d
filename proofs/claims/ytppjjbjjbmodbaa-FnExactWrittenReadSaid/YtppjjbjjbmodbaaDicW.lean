/-
  Dictionaries, of the reference: which words are written; the written form of a word. Conditions: the lists lie in memory; no text is absurdly long.
-/
import Derived.Test.YtppjjbjjbmodbaaSysG
import Derived.Test.YtppjjbjjbmodbaaWrFrom
namespace Go.Proofs.Ytppjjbjjbmodbaa
open Go.ChangeShapes Go.WideShapes Go.ChangeAt Go.RowKit
set_option maxRecDepth 100000
set_option linter.unusedSimpArgs false

def natP (i : Nat) : Value := .int .i64 (i : Int)
/-- A row of numbers of the call's own. -/
def NatOwn (w : World) (B : Nat) (v : Value) (is : List Nat) : Prop := w.ownsRow B 3 1 v is.length (is.map natP)
theorem infoInt : (Try.prog.info? 3).map (fun i => (i.zero, i.size, i.bytes)) = some (some (.int .i64 0), 1, 8) := by kernel_rfl
theorem rowNew1 (w : World) (u : Value) (t : TypeId) : Row (w.alloc (.cells #[u] t)) (w.heap.size + 1) (some ⟨w.heap.size, 0, none⟩) 1 1 [u] := by
  refine ⟨rfl, fun _ => ⟨w.heap.size, 0, rfl, by omega, fun j x hj => ?_⟩⟩
  rw [World.cell?_alloc_at _ t w.heap.size (0 + j) rfl]
  simpa using hj
theorem natOwn_at {w : World} {B n c k : Nat} {A : Option Addr} {is : List Nat} (h : NatOwn w B (.slice A n c) is) (hn : is.length = n) (hk : k < n) :
    ∃ g, A = some ⟨g, 0, none⟩ ∧ w.cell? ⟨g, k, none⟩ = some (natP (is.getD k 0)) ∧ B ≤ g ∧ g < w.heap.size := by
  unfold NatOwn at h
  rw [hn] at h
  rcases h.2 with ⟨_, h0⟩ | ⟨g, cap, cur, e, hB, hg, h1, h2, h3, h4⟩
  · omega
  · injection e with e1 e2 e3
    subst e1
    refine ⟨g, rfl, ?_, hB, Blk.lt (w := w) (t := 3) hg⟩
    rw [Blk.cell (w := w) (t := 3) hg k]
    have hu : (is.map natP)[k]? = some (natP (is.getD k 0)) := by rw [List.getElem?_map, List.getD_eq_getElem?_getD, List.getElem?_eq_getElem (by omega)]; rfl
    rw [← h4, List.getElem?_take_of_lt (by omega)] at hu
    simpa using hu
/-- The answer: these indexes. -/
def IdxAns (w' : World) (B : Nat) (is : List Nat) (e : Ending) : Prop := ∃ A c, e = .returned (.slice A is.length c) ∧ NatOwn w' B (.slice A is.length c) is
theorem idxOf_no {xs : List Sg} {ws : List (List UInt8)} (h : (sysB xs && dicB ws) = false) : idxOf xs ws = [] := if_neg (by rintro ⟨h1, h2⟩; rw [h1, h2] at h; cases h)
theorem idxOf_yes {xs : List Sg} {ws : List (List UInt8)} (h : (sysB xs && dicB ws) = true) : idxOf xs ws = idxK xs ws ws.length := if_pos (by rw [Bool.and_eq_true] at h; exact h)

set_option maxHeartbeats 800000 in
theorem specDictionaryWritten (A : Option Addr) (n c : Nat) (xs : List Sg) (A' : Option Addr) (n' c' : Nat) (ws : List (List UInt8)) (w : World) (hW : ∀ l ∈ ws, l.length ≤ maxLen) (h : SgsIn w w.heap.size A n c xs) (h' : WdsIn w w.heap.size A' n' c' ws) :
    Calls Try.prog 42 #[.slice A n c, .slice A' n' c'] w fun e w' => IdxAns w' w.heap.size (idxOf xs ws) e ∧ Below w.heap.size w w' := by
  obtain ⟨i0, hi, hz0, hz1, hz2⟩ := info_parts infoInt
  have hm := h'.2.2.1; have hnc := h'.2.1
  unfold maxLen at hm
  have hal : Below w.heap.size w (w.alloc (.cells #[] 3)) := (Below.refl _ _).alloc (Nat.le_refl _) _
  have HO0 : Hid (NatOwn (w.alloc (.cells #[] 3)) w.heap.size (.slice (some ⟨w.heap.size, 0, none⟩) 0 0) []) := Lib.hid (World.ownsRow_made w #[] 0 (Nat.le_refl _) (by simp) (by simp))
  have HL := Lib.hid h'.1
  have HB := Lib.hid (fun W (hb : Below w.heap.size w W) => l2Both A n c xs A' n' c' ws W hW (h.keep hb) (h'.keep hb))
  have HW := Lib.hid hW
  have H := Lib.hid h; have H' := Lib.hid h'
  clear h h' hW
  by_cases h0 : n' = 0
  · have HR : Hid (idxOf xs ws = []) := Lib.hid (by
      have hw : ws = [] := List.eq_nil_of_length_eq_zero (by rw [HL.out]; exact h0)
      subst hw
      unfold idxOf; split <;> rfl)
    subst h0
    go_enter Try.func42, Try.ntmps42
    go_wp2
    go_loopw [5, 6] (fun o i wr => o = .slice (some ⟨w.heap.size, 0, none⟩) 0 0 ∧ i = .int .i64 0 ∧ wr = w.alloc (.cells #[] 3)) (fun _ _ _ => 0)
    case atStart => exact ⟨rfl, rfl, rfl⟩
    case round =>
      obtain ⟨rfl, rfl, rfl⟩ := hrel
      go_wp2
      go_ret
      exact ⟨⟨_, _, by rw [HR.out]; rfl, by rw [HR.out]; exact HO0.out⟩, hal⟩
  have hp : 0 < n' := by omega
  cases hb : (sysB xs && dicB ws) with
  | false =>
    have HR : Hid (idxOf xs ws = []) := Lib.hid (idxOf_no hb)
    rw [hb] at HB
    clear hb
    go_enter Try.func42, Try.ntmps42
    go_wp2
    go_loopw [5, 6] (fun o i wr => o = .slice (some ⟨w.heap.size, 0, none⟩) 0 0 ∧ i = .int .i64 0 ∧ wr = w.alloc (.cells #[] 3)) (fun _ _ _ => 0)
    case atStart => exact ⟨rfl, rfl, rfl⟩
    case round =>
      obtain ⟨rfl, rfl, rfl⟩ := hrel
      go_wp2_with fail
      refine (HB.out _ hal).mono ?_
      rintro e w1 ⟨rfl, hb1⟩
      have b1 := below_next hal hb1
      have HO1 := Lib.hid (ownG_keep HO0.out hb1)
      go_wp2
      go_ret
      exact ⟨⟨_, _, by rw [HR.out]; rfl, by rw [HR.out]; exact HO1.out⟩, b1⟩
  | true =>
    have HR : Hid (idxOf xs ws = idxK xs ws n') := Lib.hid (by rw [idxOf_yes hb, HL.out])
    have hn20 : n' ≤ 20 := by
      rw [Bool.and_eq_true] at hb
      have := (dicB_iff.1 hb.2).1
      rw [HL.out] at this; exact this
    rw [hb] at HB
    clear hb
    have HOu := Lib.hid (fun W (hb : Below w.heap.size w W) (l : List UInt8) (hl : l.length ≤ maxLen) => specWordOutline A n c xs (mkStr l) W (by rw [mkStr_size]; exact hl) (H.out.keep hb))
    go_enter Try.func42, Try.ntmps42
    go_wp2
    go_loopw [5, 6] (fun o i wr => ∃ k : Nat, k ≤ n' ∧ i = .int .i64 k ∧ Hid (NatOwn wr w.heap.size o (idxK xs ws k)) ∧ Below w.heap.size w wr) (fun _ i _ => n' - (intOf i).toNat)
    case atStart => exact ⟨0, Nat.zero_le _, rfl, HO0, hal⟩
    case round =>
      obtain ⟨k, hk, rfl, HO, hb⟩ := hrel
      have hz := hb.size
      have hlk := idxK_len xs ws k
      by_cases hlt : k < n'
      · have i1 : (0 : Int) ≤ (k : Int) := by omega
        have i2 : (k : Int) < (n' : Int) := by omega
        go_wp2_with fail
        refine (HB.out _ hb).mono ?_
        rintro e w1 ⟨rfl, hb1⟩
        have b1 := below_next hb hb1
        have HO1 := Lib.hid (ownG_keep HO.out hb1)
        obtain ⟨b, off, rfl, hbB, c0⟩ := (H'.out.keep b1).at_ hlt
        have HOk := Lib.hid (HOu.out w1 b1 (wdAt ws k) (HW.out _ (wdAt_mem (by rw [HL.out]; exact hlt))))
        rw [mkStr_data] at HOk
        have HS := Lib.hid (idxK_succ xs ws k)
        have HLk : Hid (idxK xs ws k = idxK xs ws k) := Lib.hid rfl
        clear hb1 HO
        generalize wdAt ws k = l at *
        generalize hI : idxK xs ws k = I at *
        have HI := Lib.hid hI; clear hI
        go_wp2_with fail
        refine HOk.out.mono ?_
        rintro e w2 ⟨hA, hb2⟩
        have b2 := below_next b1 hb2
        have z2 := b2.size
        have HO2 := Lib.hid (ownG_keep HO1.out hb2)
        rcases hA with ⟨hn, A2, c2, rfl, _⟩ | ⟨A2, c2, ss, hn, rfl, _⟩
        · have HS2 : Hid (idxK xs ws (k + 1) = I) := Lib.hid (by rw [HS.out, hn]; exact List.append_nil _)
          clear hn hb2 HO1 HOk
          go_wp2
          go_roundw
          case rel => exact ⟨k + 1, by omega, by go_num, Lib.hid (by rw [HS2.out]; exact HO2.out), b2⟩
          case measure => simp [intOf]; omega
        · have HS2 : Hid (idxK xs ws (k + 1) = I ++ [k]) := Lib.hid (by rw [HS.out, hn]; rfl)
          clear hn hb2 HO1 HOk
          go_wp2_with (at_builtin; refine wpList_append_any _ rfl (.tmp 31) (.tmp 33) _ rfl w.heap.size 3 i0 _ 1 8 Try.underlying38 hi hz0 hz1 hz2 rfl (by omega) _ I.length (I.map natP) rfl (HO2.out.alloc _) (w2.heap.size + 1) (some ⟨w2.heap.size, 0, none⟩) 1 1 [.int .i64 (k : Int)] rfl (rowNew1 _ _ _) (by simp [Value.oneCell']) (by unfold maxLen; omega) (by omega) (by simp; omega) ?_; intro v4 w4 hown4 hg4 hat4)
          have HO4 : Hid (NatOwn w4 w.heap.size v4 (idxK xs ws (k + 1))) := Lib.hid (by rw [HS2.out]; unfold NatOwn; rw [List.length_append, List.map_append]; exact hown4)
          have b4 := (b2.alloc z2 _).grown hg4 (by simp; omega) (fun q hq => ownG_base HO2.out hq)
          clear hown4 hg4 hat4
          go_wp2
          go_roundw
          case rel => exact ⟨k + 1, by omega, by go_num, HO4, b4⟩
          case measure => simp [intOf]; omega
      · obtain rfl : k = n' := by omega
        have HO3 := Lib.hid HO.out
        rw [← HR.out] at HO3
        obtain ⟨A6, c6, rfl, hc6, hm6⟩ := ownG_form HO3.out
        go_wp2
        go_ret
        exact ⟨⟨A6, c6, rfl, HO3.out⟩, hb⟩

set_option maxHeartbeats 800000 in
theorem specWrittenOf (A : Option Addr) (n c : Nat) (xs : List Sg) (l : List UInt8) (w : World) (hl : l.length ≤ maxLen) (h : SgsIn w w.heap.size A n c xs) :
    Calls Try.prog 47 #[.slice A n c, .string (mkStr l)] w fun e w' => WrAns w' w.heap.size ((wordOut xs l).map fun o => (o, posOf l)) e ∧ Below w.heap.size w w' := by
  have hal : ∀ o, Below w.heap.size w (w.alloc o) := fun o => (Below.refl _ _).alloc (Nat.le_refl _) o
  have HO := Lib.hid (fun o => specWordOutline A n c xs (mkStr l) (w.alloc o) (by rw [mkStr_size]; exact hl) (h.keep (hal o)))
  have HP := Lib.hid (fun W => specWordPosition (mkStr l) W (by rw [mkStr_size]; exact hl))
  rw [mkStr_data] at HO HP
  have HG := Lib.hid (fun ss (h : wordOut xs l = some ss) => outB_good (wordOut_ok h).2.2.2)
  generalize wordOut xs l = R at *
  generalize posOf l = p at *
  clear h
  go_enter Try.func47, Try.ntmps47
  go_wp2_with fail
  refine (HO.out _).mono ?_
  rintro e w1 ⟨hA, hb1⟩
  have K1 := (Blk.new w _ _).below hb1
  have b1 := below_next (hal _) hb1
  rcases hA with ⟨hn, A1, c1, rfl, _⟩ | ⟨A1, c1, ss, hn, rfl, hO1⟩
  · subst hn
    obtain ⟨k0, k1, kf0, kf1⟩ := K1.two
    clear HG HO HP hb1
    go_wp2
    refine bodyPost_ret (v := .tuple #[.agg #[.slice none 0 0, .int .i64 0], .bool false]) (by simp [results, Try.results47, go_sem, k0, k1]) rfl ?_
    exact ⟨.inl ⟨rfl, rfl⟩, (b1.setCell (Nat.le_refl _) _).setCell (Nat.le_refl _) _⟩
  · subst hn
    have HG2 := Lib.hid (HG.out ss rfl)
    have HO1 : Hid (StrOwn w1 (w.heap.size + 1) (.slice A1 ss.length c1) ss) := Lib.hid (by simpa using hO1)
    obtain ⟨k0, k1, kf0, kf1⟩ := K1.two
    generalize hM : ss.length = M at *
    have HM := Lib.hid hM; clear hM
    clear HG HO hb1 hO1
    go_wp2_with fail
    refine (HP.out _).mono ?_
    rintro e w2 ⟨rfl, rfl⟩
    have HO2 := Lib.hid ((StrOwn.far HO1.out (p := ⟨w.heap.size, 0, none⟩) (by simp) (.slice A1 M c1)).far (p := ⟨w.heap.size, 1, none⟩) (by simp) (.int .i64 p))
    have HO3 := Lib.hid (own_mono0 HO2.out (show w.heap.size ≤ w.heap.size + 1 by omega))
    go_wp2
    refine bodyPost_ret (v := .tuple #[.agg #[.slice A1 M c1, .int .i64 p], .bool true]) (by simp [results, Try.results47, go_sem, k0, k1]) rfl ?_
    exact ⟨.inr ⟨A1, c1, ss, p, rfl, by rw [HM.out], by rw [HM.out]; exact HO3.out, HG2.out⟩, (b1.setCell (Nat.le_refl _) _).setCell (Nat.le_refl _) _⟩
end Go.Proofs.Ytppjjbjjbmodbaa
