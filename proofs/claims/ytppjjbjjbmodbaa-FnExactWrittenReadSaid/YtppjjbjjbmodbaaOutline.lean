/-
  Outlines: the pens' corners, the chain of pens, OutlineValid of both. Conditions: none.
-/
import Derived.Test.YtppjjbjjbmodbaaSPrim
import Derived.Test.YtppjjbjjbmodbaaBase
namespace Go.Proofs.Ytppjjbjjbmodbaa
open Go.ChangeShapes Go.WideShapes Go.ChangeAt Go.RowKit
set_option maxRecDepth 100000

def turnN (a b : Stroke) : Int := (b.dir - a.dir + 8) % 8
theorem turnN_bd (a b : Stroke) : 0 ≤ turnN a b ∧ turnN a b ≤ 7 := by unfold turnN; omega
def cornN (a b : Stroke) : Int := min (turnN a b) (8 - turnN a b)
theorem penCorner (a b : Stroke) (ha : okS a = true) (hb : okS b = true) (w : World) : Calls Try.prog 114 #[.int .i64 (penN a), .int .i64 (penN b)] w fun e w' => e = .returned (.int .i64 (cornN a b)) ∧ w = w' := by
  have HA := Lib.hid (fun w => penDir a ha w)
  have HB := Lib.hid (fun w => penDir b hb w)
  obtain ⟨a1, a2, _, _⟩ := okS_iff.1 ha
  obtain ⟨b1, b2, _, _⟩ := okS_iff.1 hb
  have HR : Hid (cornN a b = min ((b.dir - a.dir + 8) % 8) (8 - (b.dir - a.dir + 8) % 8)) := Lib.hid rfl
  generalize penN a = pa at *
  generalize penN b = pb at *
  clear ha hb
  go_enter Try.func114, Try.ntmps114
  go_wp2_with fail
  refine (HB.out _).mono ?_
  rintro e w1 ⟨rfl, rfl⟩
  go_wp2_with fail
  refine (HA.out _).mono ?_
  rintro e w1 ⟨rfl, rfl⟩
  go_wp2
  all_goals (go_ret; exact ⟨ret_int (by rw [HR.out]; omega), rfl⟩)
theorem lead_corn {a b : Stroke} : leadB a b = (cornN a b != 0 && cornN a b != 4) := by
  rw [Bool.eq_iff_iff]
  unfold leadB cornN turnN
  simp only [decide_eq_true_eq, Bool.and_eq_true, bne_iff_ne, ne_eq]
  omega
theorem penLead (a b : Stroke) (ha : okS a = true) (hb : okS b = true) (w : World) : Calls Try.prog 110 #[.int .i64 (penN a), .int .i64 (penN b)] w fun e w' => e = .returned (.bool (leadB a b)) ∧ w = w' := by
  have HC := Lib.hid (fun w => penCorner a b ha hb w)
  have HR := Lib.hid (lead_corn (a := a) (b := b))
  generalize penN a = pa at *
  generalize penN b = pb at *
  generalize cornN a b = c at *
  clear ha hb
  by_cases h0 : c = 0
  · subst h0
    go_enter Try.func110, Try.ntmps110
    go_wp2_with fail
    refine (HC.out _).mono ?_
    rintro e w1 ⟨rfl, rfl⟩
    go_wp2
    go_ret
    exact ⟨ret_bool (by rw [HR.out]; rfl), rfl⟩
  · have f0 : (c != 0) = true := bne_iff_ne.2 h0
    clear h0
    go_enter Try.func110, Try.ntmps110
    go_wp2_with fail
    refine (HC.out _).mono ?_
    rintro e w1 ⟨rfl, rfl⟩
    go_wp2
    go_ret
    exact ⟨ret_bool (by rw [HR.out, f0, Bool.true_and]), rfl⟩

/-- A chain of pens in memory. -/
def ChainIn (w : World) : Value → List Stroke → Prop
  | v, [] => v = .pointer none
  | v, s :: r => ∃ b nv, v = .pointer (some ⟨b, 0, none⟩) ∧ Blk w b 155 #[.int .i64 (penN s), nv] ∧ ChainIn w nv r
theorem ChainIn.keep {w w' : World} (hb : Below w.heap.size w w') : ∀ {l : List Stroke} {v : Value}, ChainIn w v l → ChainIn w' v l
  | [], _, h => h
  | _ :: _, _, ⟨b, nv, e, hB, h⟩ => ⟨b, nv, e, hB.below hb, ChainIn.keep hb h⟩
theorem ChainIn.push {w : World} {v : Value} {l : List Stroke} (s : Stroke) (h : ChainIn w v l) : ChainIn (w.alloc (.cells #[.int .i64 (penN s), v] 155)) (.pointer (some ⟨w.heap.size, 0, none⟩)) (s :: l) :=
  ⟨w.heap.size, v, rfl, Blk.new w _ _, h.keep ((Below.refl _ _).alloc (Nat.le_refl _) _)⟩

/-- The answer of chainOf. -/
def ChainAns (w' : World) (ss : List Stroke) (e : Ending) : Prop :=
  (outB ss = false ∧ e = .returned (.tuple #[.pointer none, .bool false])) ∨ (outB ss = true ∧ ∃ v, e = .returned (.tuple #[v, .bool true]) ∧ ChainIn w' v ss)
theorem ChainAns.no {w' : World} {ss : List Stroke} {e : Ending} (h : outB ss = false) (he : e = .returned (.tuple #[.pointer none, .bool false])) : ChainAns w' ss e := .inl ⟨h, he⟩
theorem ChainAns.yes {w' : World} {ss : List Stroke} {e : Ending} {v : Value} (h : outB ss = true) (he : e = .returned (.tuple #[v, .bool true])) (hc : ChainIn w' v ss) : ChainAns w' ss e := .inr ⟨h, v, he, hc⟩

theorem drop_step {ss : List Stroke} {k : Nat} (h : k < ss.length) : ss.drop k = strokeAt ss k :: ss.drop (k + 1) := by
  rw [List.drop_eq_getElem_cons h]
  congr 1
  unfold strokeAt; rw [List.getD_eq_getElem?_getD, List.getElem?_eq_getElem h]; rfl
theorem link_no {ss : List Stroke} {k : Nat} (h : linkB (ss.drop k) = false) : outB ss = false := by
  rw [Bool.eq_false_iff]
  intro h2
  have := linkB_append (a := ss.take k) (b := ss.drop k) (by rw [List.take_append_drop]; exact outB_link h2)
  rw [this.2] at h; cases h
theorem link_step {ss : List Stroke} {k : Nat} (h : k < ss.length) : linkB (ss.drop k) = (okS (strokeAt ss k) && (if k + 1 < ss.length then leadB (strokeAt ss k) (strokeAt ss (k + 1)) else true) && linkB (ss.drop (k + 1))) := by
  rw [drop_step h]
  by_cases h1 : k + 1 < ss.length
  · rw [drop_step h1, if_pos h1]; rfl
  · rw [List.drop_eq_nil_of_le (by omega), if_neg h1]; simp [linkB]

set_option maxHeartbeats 1000000 in
theorem chainOf (A : Option Addr) (n c : Nat) (ss : List Stroke) (w : World) (h : StrokesIn w w.heap.size A n c ss) :
    Calls Try.prog 93 #[.slice A n c] w fun e w' => ChainAns w' ss e ∧ Below w.heap.size w w' := by
  have hnc := h.2.1; have hm := h.2.2.1
  unfold maxLen at hm
  have HL := Lib.hid h.1
  have H := Lib.hid h; clear h
  by_cases h8 : 8 < n
  · have HN : Hid (outB ss = false) := Lib.hid (outB_long (by rw [HL.out]; exact h8))
    go_enter Try.func93, Try.ntmps93
    go_wp2
    go_returns
    exact ⟨.no HN.out rfl, Below.refl _ _⟩
  go_enter Try.func93, Try.ntmps93
  go_wp2
  go_loopw [4, 5] (fun v i wr => ∃ k : Nat, k ≤ n ∧ i = .int .i64 ((k : Int) - 1) ∧ Hid (ChainIn wr v (ss.drop k)) ∧ Hid (linkB (ss.drop k) = true) ∧ Below w.heap.size w wr) (fun _ i _ => (intOf i + 1).toNat)
  case atStart =>
    have e : ss.drop n = [] := by rw [← HL.out]; simp
    exact ⟨n, Nat.le_refl _, rfl, Lib.hid (by rw [e]; rfl), Lib.hid (by rw [e]; rfl), Below.refl _ _⟩
  case round =>
    obtain ⟨k, hk, rfl, HC, HK, hb⟩ := hrel
    by_cases hk0 : k = 0
    · subst hk0
      have HY : Hid (outB ss = true) := Lib.hid (by
        have := HK.out
        rw [List.drop_zero] at this
        unfold outB; rw [this, Bool.and_true, decide_eq_true_iff, HL.out]; omega)
      rw [List.drop_zero] at HC
      rw [show ((0 : Nat) : Int) - 1 = -1 from rfl]
      go_wp2
      go_returns
      exact ⟨.yes HY.out rfl HC.out, hb⟩
    · obtain ⟨r, rfl⟩ : ∃ r, k = r + 1 := ⟨k - 1, by omega⟩
      have hr : r < n := by omega
      have hrl : r < ss.length := by rw [HL.out]; exact hr
      obtain ⟨b, off, eA, hbB, q0, q1, hg⟩ := (H.out.keep hb).at_ hr
      have HSt := Lib.hid (link_step hrl)
      have HDr := Lib.hid (drop_step hrl)
      rw [show ((r + 1 : Nat) : Int) - 1 = (r : Int) by omega]
      subst eA
      clear hk0 hk hg
      have HV := Lib.hid (implStrokeValid (strokeAt ss r).dir (strokeAt ss r).size wr)
      cases ho : okS (strokeAt ss r) with
      | false =>
        have HN : Hid (outB ss = false) := Lib.hid (link_no (k := r) (by rw [HSt.out, ho]; rfl))
        have HO : Hid (okS ⟨(strokeAt ss r).dir, (strokeAt ss r).size⟩ = false) := Lib.hid ho
        clear ho
        generalize strokeAt ss r = s at *
        go_wp2_with fail
        refine HV.out.mono ?_
        rw [HO.out]
        rintro e w2 ⟨rfl, hb2⟩
        have b2 := below_next hb hb2
        go_wp2
        go_returns
        exact ⟨.no HN.out rfl, b2⟩
      | true =>
        have HO : Hid (okS ⟨(strokeAt ss r).dir, (strokeAt ss r).size⟩ = true) := Lib.hid ho
        have HPn := Lib.hid (fun w => penOf (strokeAt ss r) ho w)
        by_cases hl : r + 1 < n
        · have hrl1 : r + 1 < ss.length := by rw [HL.out]; exact hl
          have hC := HC.out
          rw [drop_step hrl1] at hC
          obtain ⟨g, nv, rfl, hB, hC2⟩ := hC
          have ho1 : okS (strokeAt ss (r + 1)) = true := linkB_ok HK.out (by rw [drop_step hrl1]; simp)
          have HLd := Lib.hid (fun w => penLead (strokeAt ss r) (strokeAt ss (r + 1)) ho ho1 w)
          have HB := Lib.hid hB
          have hst := HSt.out
          rw [ho, if_pos hrl1, HK.out, Bool.true_and, Bool.and_true] at hst
          have HSt2 := Lib.hid hst
          clear hC2 hB ho ho1 hst HSt hrl hrl1
          generalize strokeAt ss r = s at *
          generalize strokeAt ss (r + 1) = s1 at *
          cases hld : leadB s s1 with
          | false =>
            have HN : Hid (outB ss = false) := Lib.hid (link_no (k := r) (by rw [HSt2.out]; exact hld))
            rw [hld] at HLd
            clear hld HSt2
            go_wp2_with fail
            refine HV.out.mono ?_
            rw [HO.out]
            rintro e w2 ⟨rfl, hb2⟩
            have b2 := below_next hb hb2
            have x0 := kcell hb2 q0; have x1 := kcell hb2 q1
            have hB2 := HB.out.below hb2
            clear hb2 q0 q1
            go_wp2_with fail
            refine (HPn.out _).mono ?_
            rintro e w3 ⟨rfl, hb3⟩
            have b3 := below_next b2 hb3
            obtain ⟨y0, y1, _, _⟩ := (hB2.below hb3).two
            clear hb3 x0 x1 hB2
            go_wp2_with fail
            refine (HLd.out _).mono ?_
            rintro e w4 ⟨rfl, rfl⟩
            go_wp2
            go_returns
            exact ⟨.no HN.out rfl, b3⟩
          | true =>
            have HK2 : Hid (linkB (ss.drop r) = true) := Lib.hid (by rw [HSt2.out]; exact hld)
            rw [hld] at HLd
            clear hld HSt2
            go_wp2_with fail
            refine HV.out.mono ?_
            rw [HO.out]
            rintro e w2 ⟨rfl, hb2⟩
            have b2 := below_next hb hb2
            have x0 := kcell hb2 q0; have x1 := kcell hb2 q1
            have hB2 := HB.out.below hb2
            have HC2 := Lib.hid (HC.out.keep hb2)
            clear hb2 q0 q1
            go_wp2_with fail
            refine (HPn.out _).mono ?_
            rintro e w3 ⟨rfl, hb3⟩
            have b3 := below_next b2 hb3
            have HC3 := Lib.hid (HC2.out.keep hb3)
            obtain ⟨y0, y1, _, _⟩ := (hB2.below hb3).two
            have HC4 : Hid (ChainIn (w3.alloc (.cells #[.int .i64 (penN s), .pointer (some ⟨g, 0, none⟩)] 155)) (.pointer (some ⟨w3.heap.size, 0, none⟩)) (ss.drop r)) := Lib.hid (by rw [HDr.out]; exact HC3.out.push s)
            have b4 := b3.alloc b3.size (.cells #[.int .i64 (penN s), .pointer (some ⟨g, 0, none⟩)] 155)
            clear hb3 x0 x1 hB2 HC HC2 HC3
            go_wp2_with fail
            refine (HLd.out _).mono ?_
            rintro e w4 ⟨rfl, rfl⟩
            go_wp2
            go_roundw
            case rel => exact ⟨r, by omega, rfl, HC4, HK2, b4⟩
            case measure => simp [intOf]
        · have e : ss.drop (r + 1) = [] := List.drop_eq_nil_of_le (by rw [HL.out]; omega)
          rw [e] at HC
          have hC := HC.out
          subst hC
          have HK2 : Hid (linkB (ss.drop r) = true) := Lib.hid (by rw [HSt.out, ho, if_neg (by rw [HL.out]; exact hl), e]; rfl)
          rw [e] at HDr
          clear ho e HSt
          generalize strokeAt ss r = s at *
          go_wp2_with fail
          refine HV.out.mono ?_
          rw [HO.out]
          rintro e w2 ⟨rfl, hb2⟩
          have b2 := below_next hb hb2
          have x0 := kcell hb2 q0; have x1 := kcell hb2 q1
          clear hb2 q0 q1
          go_wp2_with fail
          refine (HPn.out _).mono ?_
          rintro e w3 ⟨rfl, hb3⟩
          have b3 := below_next b2 hb3
          have HC4 : Hid (ChainIn (w3.alloc (.cells #[.int .i64 (penN s), .pointer none] 155)) (.pointer (some ⟨w3.heap.size, 0, none⟩)) (ss.drop r)) := Lib.hid (by rw [HDr.out]; exact ChainIn.push (w := w3) (v := .pointer none) (l := []) s rfl)
          have b4 := b3.alloc b3.size (.cells #[.int .i64 (penN s), .pointer none] 155)
          clear hb3 x0 x1 HC
          go_wp2
          go_roundw
          case rel => exact ⟨r, by omega, rfl, HC4, HK2, b4⟩
          case measure => simp [intOf]
end Go.Proofs.Ytppjjbjjbmodbaa
