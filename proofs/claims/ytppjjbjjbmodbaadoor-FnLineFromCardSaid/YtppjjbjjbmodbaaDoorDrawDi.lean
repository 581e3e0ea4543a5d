/-
  The reader draws dictionaries, and both lists. Conditions: as for pick.
-/
import Derived.Test.YtppjjbjjbmodbaaDoorDrawSy
import Derived.Test.YtppjjbjjbmodbaaDoorDicW
namespace Go.Proofs.YtppjjbjjbmodbaaDoor
open Go.ChangeShapes Go.WideShapes Go.ChangeAt Go.RowKit
set_option maxRecDepth 100000
set_option linter.unusedSimpArgs false

/-- A dictionary as it is drawn. -/
def DcOwn (w : World) (B : Nat) (v : Value) (ws : List (List UInt8)) : Prop := WdOwn w B v ws ∧ ∀ l ∈ ws, wordB l = true
theorem DcOwn.only {w w' : World} {B g : Nat} {v : Value} {ws : List (List UInt8)} (h : DcOwn w B v ws) (hg : w.grownBy w' (some g)) (hB : g < B) : DcOwn w' B v ws := ⟨ownG_only h.1 hg hB, h.2⟩
theorem DcOwn.keep {w w' : World} {B : Nat} {v : Value} {ws : List (List UInt8)} (h : DcOwn w B v ws) (hb : Below w.heap.size w w') : DcOwn w' B v ws := ⟨ownG_keep h.1 hb, h.2⟩
theorem DcOwn.low {w : World} {B B' : Nat} {v : Value} {ws : List (List UInt8)} (h : DcOwn w B v ws) (hB : B' ≤ B) : DcOwn w B' v ws := ⟨ownG_mono h.1 hB, h.2⟩
theorem DcOwn.reads {w : World} {B n c : Nat} {A : Option Addr} {ws : List (List UInt8)} (h : DcOwn w B (.slice A n c) ws) (hn : ws.length = n) : WdsIn w w.heap.size A n c ws := WdOwn.reads h.1 hn
theorem word_len {l : List UInt8} (h : wordB l = true) : l.length ≤ 12 := (wordB_iff.1 h).1.2
theorem DcOwn.short {w : World} {B : Nat} {v : Value} {ws : List (List UInt8)} (h : DcOwn w B v ws) : ∀ l ∈ ws, l.length ≤ maxLen := fun l hl => by have := word_len (h.2 l hl); unfold maxLen; omega
theorem infoWd : (Tryd.prog.info? 9).map (fun i => (i.zero, i.size, i.bytes)) = some (some (.string ByteArray.empty), 1, 16) := by kernel_rfl
/-- What l91Dictionary answers. -/
def DrawnDic (B g lim : Nat) (w : World) (e : Ending) (w' : World) : Prop :=
  ∃ A n c ws, ws.length = n ∧ n ≤ 9 ∧ e = .returned (.slice A n c) ∧ DcOwn w' w.heap.size (.slice A n c) ws ∧ w.grownBy w' (some g) ∧ RdIn w' B g (lim + 200)

set_option maxHeartbeats 1600000 in
theorem l91Dictionary (g B lim : Nat) (w : World) (hl : lim ≤ 700000000) (hr : RdIn w B g lim) (hBw : B ≤ w.heap.size) :
    Calls Tryd.prog 42 #[.pointer (some ⟨g, 0, none⟩)] w (DrawnDic B g lim w) := by
  obtain ⟨i0, hi, hz0, hz1, hz2⟩ := info_parts infoWd
  have hg0 := hr.lt
  have HP := Lib.hid (fun o => pickR (n := 9) (hr.alloc' o) (by omega) (by omega) (by omega))
  clear hr
  go_enter Tryd.func42, Tryd.ntmps42
  go_wp2_with fail
  refine (HP.out _).mono ?_
  rintro e w1 ⟨N, rfl, hN', hg1, hr1⟩
  have hN : N ≤ 8 := by omega
  have HG1 := Lib.hid (only_next (World.grownBy_alloc w _ _) hg1)
  have HO1 : Hid (DcOwn w1 w.heap.size (.slice (some ⟨w.heap.size, 0, none⟩) 0 0) []) := Lib.hid (DcOwn.only ⟨World.ownsRow_made w #[] 0 (Nat.le_refl _) (by simp) (by simp), by simp⟩ hg1 hg0)
  have HR1 := Lib.hid hr1
  clear hN' hg1 hr1 HP
  go_wp2
  go_loopw [3, 5] (fun v i wr => ∃ (k : Nat) (ws : List (List UInt8)), k ≤ N ∧ i = .int .i64 k ∧ Hid (ws.length ≤ k) ∧ Hid (DcOwn wr w.heap.size v ws) ∧ Hid (w.grownBy wr (some g)) ∧ Hid (RdIn wr B g (lim + 1 + 20 * k))) (fun _ i _ => N - (intOf i).toNat)
  case atStart => exact ⟨0, [], Nat.zero_le _, rfl, Lib.hid (Nat.le_refl _), HO1, HG1, HR1⟩
  case round =>
    obtain ⟨k, ws, hk, rfl, HX, HO, HG, HR⟩ := hrel
    by_cases hlt : k < N
    · obtain ⟨A3, c3, rfl, hc3, hm3⟩ := ownG_form HO.out.1
      have hx8 : ws.length ≤ 8 := by have := HX.out; omega
      have HWd := Lib.hid (l91Word g B (lim + 1 + 20 * k) wr (by omega) HR.out)
      have HOr : Hid (DcOwn wr w.heap.size (.slice A3 ws.length c3) ws) := HO
      generalize hM : ws.length = M at *
      have HM := Lib.hid hM
      clear hM HO HR
      go_wp2_with fail
      refine HWd.out.mono ?_
      rintro e w3 ⟨l, hll, rfl, hg3, hr3⟩
      have HG3 := Lib.hid (only_next HG.out hg3)
      have HO3 := Lib.hid (HOr.out.only hg3 hg0)
      have HR3 : Hid (RdIn w3 B g (lim + 1 + 20 * (k + 1))) := Lib.hid hr3
      have HWv : Hid (Calls Tryd.prog 60 #[.string (mkStr l)] w3 fun e w' => e = .returned (.bool (wordB l)) ∧ w3 = w') := Lib.hid (by
        have := specWordValid (mkStr l) w3 (by rw [mkStr_size]; unfold maxLen; omega)
        rw [mkStr_data] at this
        exact this)
      clear hg3 hr3 HWd HOr HG
      cases hw : wordB l with
      | false =>
        rw [hw] at HWv
        clear hw
        go_wp2_with fail
        refine HWv.out.mono ?_
        rintro e w4 ⟨rfl, rfl⟩
        go_wp2
        go_roundw
        case rel => exact ⟨k + 1, ws, by omega, by go_num, Lib.hid (by have := HX.out; rw [HM.out]; omega), HO3, HG3, HR3⟩
        case measure => simp [intOf]; omega
      | true =>
        rw [hw] at HWv
        have HWt := Lib.hid hw
        have HIs := Lib.hid (l3Is A3 M c3 ws l w3 (HO3.out.reads HM.out))
        clear hw
        go_wp2_with fail
        refine HWv.out.mono ?_
        rintro e w4 ⟨rfl, rfl⟩
        go_wp2_with fail
        refine HIs.out.mono ?_
        rintro e w4 ⟨⟨b, rfl⟩, rfl⟩
        have hz3 := HG3.out.size
        cases b with
        | true =>
          go_wp2
          go_roundw
          case rel => exact ⟨k + 1, ws, by omega, by go_num, Lib.hid (by have := HX.out; rw [HM.out]; omega), HO3, HG3, HR3⟩
          case measure => simp [intOf]; omega
        | false =>
          have HOw : Hid (w3.ownsRow w.heap.size 9 1 (.slice A3 M c3) M (ws.map strP)) := Lib.hid (by have := HO3.out.1; unfold WdOwn at this; rw [HM.out] at this; exact this)
          go_wp2_with (at_builtin; refine wpList_append_any _ rfl (.tmp 25) (.tmp 27) _ rfl w.heap.size 9 i0 _ 1 16 Tryd.underlying33 hi hz0 hz1 hz2 rfl (by omega) _ M (ws.map strP) rfl (HOw.out.alloc _) (w3.heap.size + 1) (some ⟨w3.heap.size, 0, none⟩) 1 1 [.string (mkStr l)] rfl (rowNew1 _ _ _) (by simp [Value.oneCell']) (by unfold maxLen; omega) (by omega) (by simp; omega) ?_; intro v4 w4 hown4 hg4 hat4)
          have HO4 : Hid (DcOwn w4 w.heap.size v4 (ws ++ [l])) := Lib.hid ⟨by unfold WdOwn; rw [List.length_append, HM.out, List.map_append]; exact hown4, fun y hy => by
            rcases List.mem_append.1 hy with h | h
            · exact HO3.out.2 y h
            · rw [List.mem_singleton] at h; subst h; exact HWt.out⟩
          have HG4 := Lib.hid (own_after' (only_next HG3.out (World.grownBy_alloc w3 _ _)) hg4 (fun q hq => ownG_base HOw.out hq))
          have HR4 := Lib.hid ((HR3.out.alloc' _).far hg4 (fun q hq => by have := ownG_base HOw.out hq; exact ⟨by omega, by omega⟩) (by simp; omega))
          clear hown4 hg4 hat4
          go_wp2
          go_roundw
          case rel => exact ⟨k + 1, _, by omega, by go_num, Lib.hid (by have := HX.out; rw [List.length_append, HM.out]; simp; omega), HO4, HG4, HR4⟩
          case measure => simp [intOf]; omega
    · obtain rfl : k = N := by omega
      have HR1 := Lib.hid (HR.out.more (show lim + 1 + 20 * k ≤ lim + 161 by omega))
      have hz := HG.out.size
      clear hlt HR
      cases ws with
      | nil =>
        obtain ⟨A3, c3, rfl, hc3, hm3⟩ := ownG_form HO.out.1
        have HO3 : Hid (DcOwn wr w.heap.size (.slice A3 0 c3) []) := HO
        have HR2 := Lib.hid (HR1.out.more (show lim + 161 ≤ lim + 200 by omega))
        have hl0 : (List.length ([] : List (List UInt8))) = 0 := rfl
        go_wp2
        go_returns
        exact ⟨A3, 0, c3, [], rfl, by omega, rfl, HO3.out, HG.out, HR2.out⟩
      | cons x r =>
        obtain ⟨gb, c3, rfl, hgb, hkc, hcm, _⟩ := own_some HO.out.1 (show 0 < (x :: r).length by simp)
        have hr7 : r.length ≤ 7 := by have := HX.out; simp at this; omega
        have HO3 : Hid (DcOwn wr w.heap.size (.slice (some ⟨gb, 0, none⟩) (r.length + 1) c3) (x :: r)) := HO
        have HP := Lib.hid (pickR (n := 40) HR1.out (by omega) (by omega) (by omega))
        have hpos : 0 < r.length + 1 := by omega
        clear HO
        go_wp2_with fail
        refine HP.out.mono ?_
        rintro e w3 ⟨m, rfl, hm, hg3, hr3⟩
        have HG4 := Lib.hid (only_next HG.out hg3)
        have HO4 := Lib.hid (HO3.out.only hg3 hg0)
        have hz4 := HG4.out.size
        have HR5 := Lib.hid (hr3.more (show lim + 161 + 1 ≤ lim + 200 by omega))
        clear hg3 hr3 HP HG HO3 HR1
        by_cases h0 : m = 0
        · subst h0
          have HOw : Hid (w3.ownsRow w.heap.size 9 1 (.slice (some ⟨gb, 0, none⟩) (r.length + 1) c3) (r.length + 1) ((x :: r).map strP)) := Lib.hid HO4.out.1
          obtain ⟨k0, f0⟩ := own_cell (j := 0) (u := strP x) HOw.out rfl rfl
          unfold strP at k0
          go_wp2_with (at_builtin; refine wpList_append_any _ rfl (.tmp 37) (.tmp 41) _ rfl w.heap.size 9 i0 _ 1 16 Tryd.underlying33 hi hz0 hz1 hz2 rfl (by omega) _ (r.length + 1) ((x :: r).map strP) rfl (HOw.out.alloc _) (w3.heap.size + 1) (some ⟨w3.heap.size, 0, none⟩) 1 1 [.string (mkStr x)] rfl (rowNew1 _ _ _) (by simp [Value.oneCell']) (by unfold maxLen; omega) (by omega) (by simp; omega) ?_; intro v4 w4 hown4 hg4 hat4)
          obtain ⟨A4, c4, rfl, hc4, hm4⟩ := ownG_form hown4
          have HO7 : Hid (DcOwn w4 w.heap.size (.slice A4 (r.length + 1 + 1) c4) ((x :: r) ++ [x])) := Lib.hid ⟨by unfold WdOwn; rw [List.length_append, List.length_cons, List.map_append]; exact hown4, fun y hy => by
            rcases List.mem_append.1 hy with h | h
            · exact HO4.out.2 y h
            · rw [List.mem_singleton] at h; subst h; exact HO4.out.2 y (by simp)⟩
          have HG7 := Lib.hid (own_after' (only_next HG4.out (World.grownBy_alloc w3 _ _)) hg4 (fun q hq => ownG_base HOw.out hq))
          have HR7 := Lib.hid ((HR5.out.alloc' _).far hg4 (fun q hq => by have := ownG_base HOw.out hq; exact ⟨by omega, by omega⟩) (by simp; omega))
          clear hown4 hg4 hat4
          go_wp2
          go_returns
          exact ⟨_, r.length + 1 + 1, c4, _, by simp, by omega, rfl, HO7.out, HG7.out, HR7.out⟩
        · have e0 : ((m : Int) == 0) = false := by simpa using h0
          go_wp2
          go_returns
          exact ⟨_, r.length + 1, c3, _, by simp, by omega, rfl, HO4.out, HG4.out, HR5.out⟩

/-- What l91Both answers. -/
def DrawnBoth (B g lim : Nat) (w : World) (e : Ending) (w' : World) : Prop :=
  ∃ A n c xs A' n' c' ws, xs.length = n ∧ n ≤ 7 ∧ ws.length = n' ∧ n' ≤ 9 ∧ e = .returned (.tuple #[.slice A n c, .slice A' n' c']) ∧ SyOwn w' w.heap.size (.slice A n c) xs ∧ DcOwn w' w.heap.size (.slice A' n' c') ws ∧ w.grownBy w' (some g) ∧ RdIn w' B g (lim + 220)
theorem l91Both (g B lim : Nat) (w : World) (hl : lim ≤ 600000000) (hr : RdIn w B g lim) (hBw : B ≤ w.heap.size) :
    Calls Tryd.prog 23 #[.pointer (some ⟨g, 0, none⟩)] w (DrawnBoth B g lim w) := by
  have hg0 := hr.lt
  have HS := Lib.hid (l91System g B lim w (by omega) hr hBw)
  clear hr
  go_enter Tryd.func23, Tryd.ntmps23
  go_wp2_with fail
  refine HS.out.mono ?_
  rintro e w1 ⟨A, n, c, xs, hx, hn, rfl, hO1, hg1, hr1⟩
  have hz1 := hg1.size
  have HD := Lib.hid (l91Dictionary g B (lim + 20) w1 (by omega) hr1 (by omega))
  have HX := Lib.hid hx; have HO1 := Lib.hid hO1; have HG1 := Lib.hid hg1
  clear hr1 hx hO1 hg1 HS
  go_wp2_with fail
  refine HD.out.mono ?_
  rintro e w2 ⟨A', n', c', ws, hx', hn', rfl, hO2, hg2, hr2⟩
  have HO3 := Lib.hid (HO1.out.only hg2 hg0)
  have HG2 := Lib.hid (only_next HG1.out hg2)
  have HX' := Lib.hid hx'; have HO2 := Lib.hid (hO2.low hz1); have HR2 := Lib.hid hr2
  clear hr2 hx' hO2 hg2 HD HO1 HG1
  go_wp2
  go_returns
  exact ⟨A, n, c, xs, A', n', c', ws, HX.out, hn, HX'.out, hn', rfl, HO3.out, HO2.out, HG2.out, HR2.out⟩
end Go.Proofs.YtppjjbjjbmodbaaDoor
