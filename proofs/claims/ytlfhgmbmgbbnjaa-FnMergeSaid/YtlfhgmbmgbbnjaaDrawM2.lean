/-
  The reader draws three transcripts to be merged. Conditions: as for pick.
-/
import Derived.Test.YtlfhgmbmgbbnjaaDrawMk
import Derived.Test.YtlfhgmbmgbbnjaaMkLaw3
import Derived.Test.YtlfhgmbmgbbnjaaDrawA
namespace Go.Proofs.Ytlfhgmbmgbbnjaa
open Go.ChangeShapes Go.WideShapes Go.ChangeAt Go.RowKit
set_option maxRecDepth 100000
set_option linter.unusedSimpArgs false
set_option linter.unusedVariables false

theorem mkZ_len (D : List Mr) (neg : Bool) : (mkZ D neg).length = D.length * 3 := by
  unfold mkZ; split
  · rw [List.length_set, flat_len mkC_len]
  · rw [flat_len mkC_len]
/-- A list of marks, of which the first may begin below nothing. -/
def MzIn (w : World) (B : Nat) (A : Option Addr) (n c : Nat) (D : List Mr) (neg : Bool) : Prop :=
  D.length = n ∧ (neg = true → 0 < n) ∧ n ≤ c ∧ c ≤ maxLen ∧ Row w B A n 3 (mkZ D neg) ∧ ∀ x ∈ D, MrIn w B x
section
variable {w w' : World} {B n c k : Nat} {A : Option Addr} {D : List Mr} {neg : Bool}
theorem MzOwn.reads (h : MzOwn w B (.slice A n c) D neg) (hn : D.length = n) : MzIn w w.heap.size A n c D neg := by
  have h1 := h.2.1
  rw [hn] at h1
  obtain ⟨A', c', e, h2, h3⟩ := ownG_form h1
  injection e with e1 e2 e3
  subst e1 e3
  exact ⟨hn, fun e => by have := h.1 e; omega, h2, h3, Row.of_own h1, fun x hx => (h.2.2 x hx).1⟩
theorem MzIn.keep (h : MzIn w w.heap.size A n c D neg) (hb : Below w.heap.size w w') : MzIn w' w'.heap.size A n c D neg :=
  ⟨h.1, h.2.1, h.2.2.1, h.2.2.2.1, (h.2.2.2.2.1.below hb).more hb.size, fun x hx => (h.2.2.2.2.2 x hx).keep hb⟩
theorem MzIn.far {row : Option Nat} (h : MzIn w w.heap.size A n c D neg) (hg : w.grownBy w' row) (h1 : ∀ a, A = some a → row ≠ some a.block) (h2 : ∀ x ∈ D, 0 < x.n → ∀ a, x.A = some a → row ≠ some a.block) : MzIn w' w'.heap.size A n c D neg := by
  refine ⟨h.1, h.2.1, h.2.2.1, h.2.2.2.1, ?_, fun x hx => WdsIn.grown (h.2.2.2.2.2 x hx) hg (h2 x hx)⟩
  by_cases hp : 0 < n
  · exact (h.2.2.2.2.1.grown hg h1).more hg.size
  · exact ⟨h.2.2.2.2.1.1, fun h3 => absurd h3 hp⟩
theorem MzIn.toM (h : MzIn w B A n c D false) : MrsIn w B A n c D := ⟨h.1, h.2.2.1, h.2.2.2.1, by have := h.2.2.2.2.1; rwa [mkZ_no] at this, h.2.2.2.2.2⟩
theorem MzIn.ofM (h : MrsIn w B A n c D) : MzIn w B A n c D false := ⟨h.1, (fun e => by cases e), h.2.1, h.2.2.1, by rw [mkZ_no]; exact h.2.2.2.1, h.2.2.2.2⟩
theorem mkZ_take (h : 0 < k) : (mkZ D neg).take (k * 3) = mkZ (D.take k) neg := by
  have e : (D.flatMap mkC).take (k * 3) = (D.take k).flatMap mkC := flat_take mkC_len D k
  unfold mkZ
  split
  · rw [List.take_set, e]
  · exact e
theorem mkZ_drop0 : (mkZ D neg).drop (0 * 3) = mkZ (D.drop 0) neg := by simp
theorem mkZ_drop (h : 0 < k) : (mkZ D neg).drop (k * 3) = mkZ (D.drop k) false := by
  have e : (D.flatMap mkC).drop (k * 3) = (D.drop k).flatMap mkC := flat_drop mkC_len D k
  rw [mkZ_no, ← e]
  unfold mkZ
  split
  · rw [List.drop_set_of_lt (by omega)]
  · rfl
theorem MzIn.upto (h : MzIn w B A n c D neg) (hk : k ≤ n) (h0 : 0 < k) : MzIn w B A k c (D.take k) neg :=
  ⟨by rw [List.length_take, h.1]; omega, fun _ => h0, by have := h.2.2.1; omega, h.2.2.2.1, by have := h.2.2.2.2.1.take hk; rwa [mkZ_take h0] at this, fun x hx => h.2.2.2.2.2 x (List.mem_of_mem_take hx)⟩
theorem MzIn.fromS (h : MzIn w B A n c D neg) (hk : k < n) : ∃ neg', MzIn w B (fromB A k c 3) (n - k) (c - k) (D.drop k) neg' := by
  refine ⟨if k = 0 then neg else false, by rw [List.length_drop, h.1], fun _ => by omega, by have := h.2.2.1; omega, by have := h.2.2.2.1; omega, ?_, fun x hx => h.2.2.2.2.2 x (List.mem_of_mem_drop hx)⟩
  have := h.2.2.2.2.1.fromS (Nat.le_of_lt hk) h.2.2.1
  by_cases h0 : k = 0
  · subst h0
    rw [if_pos rfl]
    rwa [mkZ_drop0] at this
  · rw [if_neg h0]
    rwa [mkZ_drop (by omega)] at this
end
/-- Some answer of doing marks: words that are not absurdly long. -/
def SomeWds (w : World) (e : Ending) (w' : World) : Prop :=
  ∃ (A : Option Addr) (n c : Nat) (ws : List Wd) (p : Bool), e = .returned (.tuple #[.slice A n c, .bool p]) ∧ ws.length = n ∧ WdOwn w' w.heap.size (.slice A n c) ws ∧ (∀ l ∈ ws, l.length ≤ maxLen) ∧ Below w.heap.size w w'
theorem mem_doK {ws : List Wd} {l : Wd} : ∀ (ms : List Mk) (i : Nat), l ∈ doK ws ms i → l ∈ ws ∨ ∃ m ∈ ms, l ∈ m.put := by
  intro ms
  induction ms with
  | nil => intro i h; rw [doK] at h; exact .inl (List.mem_of_mem_drop h)
  | cons m r ih =>
    intro i h
    rw [doK] at h
    rcases List.mem_append.1 h with h | h
    · exact .inl (List.mem_of_mem_drop (List.mem_of_mem_take h))
    · rcases List.mem_append.1 h with h | h
      · exact .inr ⟨m, by simp, h⟩
      · rcases ih _ h with h | ⟨m', hm, h⟩
        · exact .inl h
        · exact .inr ⟨m', by simp [hm], h⟩
theorem l6In_neg (n : Nat) (w : World) : Calls Try.prog 58 #[.int .i64 (-1), .int .i64 0, .int .i64 (n : Int)] w fun e w' => e = .returned (.bool false) ∧ w = w' :=
  (l6In_any _ _ _ _).mono fun e w' ⟨he, hw⟩ => ⟨by rw [he]; exact ret_bool (decide_eq_false (by omega)), hw⟩
set_option maxHeartbeats 1600000 in
/-- A first mark that begins below nothing is none. -/
theorem marksValidNeg (A : Option Addr) (n c : Nat) (ws : List Wd) (A' : Option Addr) (n' c' : Nat) (D : List Mr) (w : World) (hW : ∀ l ∈ ws, l.length ≤ maxLen) (h : WdsIn w w.heap.size A n c ws) (h' : MzIn w w.heap.size A' n' c' D true) (hX : OkMs D) :
    Calls Try.prog 33 #[.slice A n c, .slice A' n' c'] w fun e w' => e = .returned (.bool false) ∧ Below w.heap.size w w' := by
  have HS := Lib.hid (specSpeechValid A n c ws w hW h)
  have hn0 : 0 < n' := h'.2.1 rfl
  have HL := Lib.hid h.1
  obtain ⟨b, off, eA, hbB, hc⟩ := h'.2.2.2.2.1.2 hn0
  subst eA
  obtain ⟨x, r, hD⟩ : ∃ x r, D = x :: r := by
    cases D with
    | nil => have := h'.1; simp at this; omega
    | cons x r => exact ⟨x, r, rfl⟩
  have c0 := hc 0 (.int .i64 (-1)) (by rw [hD]; simp [mkZ, mkC])
  have c1 := hc 1 (.int .i64 (x.cut : Int)) (by rw [hD]; simp [mkZ, mkC])
  have c2 := hc 2 (.slice x.A x.n x.c) (by rw [hD]; simp [mkZ, mkC])
  rw [Nat.add_zero] at c0
  clear hc hD h h' hX hW
  cases hA : spB ws with
  | false =>
    rw [hA] at HS
    clear hA c0 c1 c2
    go_enter Try.func33, Try.ntmps33
    go_wp2_with fail
    refine HS.out.mono ?_
    rintro e w1 ⟨rfl, rfl⟩
    go_wp2
    go_ret
    exact ⟨rfl, Below.refl _ _⟩
  | true =>
    have h20 : n ≤ 20 := by have := (spB_iff.1 hA).2; rw [HL.out] at this; exact this
    rw [hA] at HS
    clear hA
    by_cases hm : 20 < n'
    · clear c0 c1 c2
      go_enter Try.func33, Try.ntmps33
      go_wp2_with fail
      refine HS.out.mono ?_
      rintro e w1 ⟨rfl, rfl⟩
      go_wp2
      go_ret
      exact ⟨rfl, Below.refl _ _⟩
    · have i2 : (0 : Int) < (n' : Int) := by omega
      have HM : Hid (∀ W, Calls Try.prog 50 #[.int .i64 (n : Int), .agg #[.int .i64 (-1), .int .i64 (x.cut : Int), .slice x.A x.n x.c]] W fun e w' => e = .returned (.bool false) ∧ Below W.heap.size W w') := Lib.hid (fun W => by
        have HI := Lib.hid (l6In_neg n (W.alloc (.cells #[.int .i64 (-1), .int .i64 (x.cut : Int), .slice x.A x.n x.c] 37)))
        have hb : Below W.heap.size W (W.alloc (.cells #[.int .i64 (-1), .int .i64 (x.cut : Int), .slice x.A x.n x.c] 37)) := (Below.refl _ _).alloc (Nat.le_refl _) _
        go_enter Try.func50, Try.ntmps50
        go_wp2_with fail
        refine HI.out.mono ?_
        rintro e w1 ⟨rfl, rfl⟩
        go_wp2
        go_ret
        exact ⟨rfl, hb⟩)
      have d0 := qcell c0; have d1 := qcell c1; have d2 := qcell c2
      have HC := Lib.hid (And.intro c0 (And.intro c1 c2))
      clear c0 c1 c2 d0 d1 d2
      go_enter Try.func33, Try.ntmps33
      go_wp2_with fail
      refine HS.out.mono ?_
      rintro e w1 ⟨rfl, rfl⟩
      go_wp2
      go_loopw [6] (fun s6 wr => s6 = .int .i64 ((0 : Nat) : Int) ∧ Below w.heap.size w wr) (fun i _ => n' - (intOf i).toNat)
      case atStart => exact ⟨rfl, Below.refl _ _⟩
      case round =>
        obtain ⟨rfl, hb⟩ := hrel
        have c0 := kcell hb HC.out.1; have c1 := kcell hb HC.out.2.1; have c2 := kcell hb HC.out.2.2
        have d0 := qcell c0; have d1 := qcell c1; have d2 := qcell c2
        go_wp2_with fail
        refine region_qb (by kernel_rfl) (by kernel_rfl) ?_
        repeat (first | go_big_quiet_step ((go_at_call 50; exact quietB (HM.out _))) | quiet_step ((go_at_call 50; exact quietB (HM.out _))))
        refine wpQuiet_nil ?_
        intro w5 hb5
        go_wp2
        go_ret
        exact ⟨rfl, hb.trans (hb5.mono hb.size)⟩
theorem specMarksDoAny (A : Option Addr) (n c : Nat) (ws : List Wd) (A' : Option Addr) (n' c' : Nat) (D : List Mr) (neg : Bool) (w : World) (hW : ∀ l ∈ ws, l.length ≤ maxLen) (h : WdsIn w w.heap.size A n c ws) (h' : MzIn w w.heap.size A' n' c' D neg) (hX : OkMs D) :
    Calls Try.prog 24 #[.slice A n c, .slice A' n' c'] w (SomeWds w) := by
  have HNo : Hid (∀ W, Below w.heap.size w W → SomeWds w (.returned (.tuple #[.slice (some ⟨W.heap.size, 0, none⟩) 0 0, .bool false])) (W.alloc (.cells #[] 9))) := Lib.hid (fun W hb => ⟨_, 0, 0, [], false, rfl, rfl, ownG_mono (WdOwn.made W) hb.size, by simp, hb.alloc hb.size _⟩)
  cases neg with
  | true =>
    have HV := Lib.hid (marksValidNeg A n c ws A' n' c' D w hW h h' hX)
    clear h h' hX hW
    go_enter Try.func24, Try.ntmps24
    go_wp2_with fail
    refine HV.out.mono ?_
    rintro e w1 ⟨rfl, hb⟩
    have HF := Lib.hid (HNo.out w1 hb)
    clear HV HNo
    go_wp2
    go_ret2
    exact HF.out
  | false =>
    have hm := h'.toM
    have HV := Lib.hid (specMarksValid A n c ws A' n' c' D w hW hX h hm)
    cases hv : marksB ws (D.map Mr.dat) with
    | false =>
      rw [hv] at HV
      clear h h' hX hW hv hm
      go_enter Try.func24, Try.ntmps24
      go_wp2_with fail
      refine HV.out.mono ?_
      rintro e w1 ⟨rfl, hb⟩
      have HF := Lib.hid (HNo.out w1 hb)
      clear HV HNo
      go_wp2
      go_ret2
      exact HF.out
    | true =>
      have HD : Hid (∀ W, Below w.heap.size w W → Calls Try.prog 18 #[.slice A n c, .slice A' n' c'] W fun e w' => WdsAns w' W.heap.size (doK ws (D.map Mr.dat) 0) e ∧ Below W.heap.size W w') := Lib.hid (fun W hb => specL7Do A n c ws A' n' c' D W hW hX hv (h.keep hb) (hm.keep hb))
      have HSh : Hid (∀ l ∈ doK ws (D.map Mr.dat) 0, l.length ≤ maxLen) := Lib.hid (fun l hl => by
        rcases mem_doK _ _ hl with h2 | ⟨m, hm2, h2⟩
        · exact hW l h2
        · obtain ⟨x, hx, rfl⟩ := List.mem_map.1 hm2
          exact (hX x hx).2 l h2)
      rw [hv] at HV
      clear h h' hX hW hv hm HNo
      generalize doK ws (D.map Mr.dat) 0 = R at *
      go_enter Try.func24, Try.ntmps24
      go_wp2_with fail
      refine HV.out.mono ?_
      rintro e w1 ⟨rfl, hb⟩
      have HD1 := Lib.hid (HD.out w1 hb)
      clear HV HD
      go_wp2_with fail
      refine HD1.out.mono ?_
      rintro e w2 ⟨⟨A2, c2, rfl, ho⟩, hb2⟩
      have HF : Hid (SomeWds w (.returned (.tuple #[.slice A2 R.length c2, .bool true])) w2) := Lib.hid ⟨A2, R.length, c2, R, true, rfl, rfl, ownG_mono ho hb.size, HSh.out, below_next hb hb2⟩
      clear HD1 ho
      generalize R.length = N at *
      go_wp2
      go_ret2
      exact HF.out
theorem MzOwn.mono {w : World} {B B' : Nat} {v : Value} {D : List Mr} {neg : Bool} (h : MzOwn w B v D neg) (hB : B' ≤ B) : MzOwn w B' v D neg := ⟨h.1, ownG_mono h.2.1 hB, h.2.2⟩
theorem okShort {D : List Mr} {K : Nat} (h : ∀ x ∈ D, ShortM x ∧ (0 < x.n → ∀ p, x.A = some p → K ≤ p.block)) : OkMs D := fun x hx => by
  have h1 := (h x hx).1
  exact ⟨⟨by have := h1.1; omega, by have := h1.2.1; omega, by have := h1.2.2.1; omega⟩, fun l hl => by have := h1.2.2.2 l hl; unfold maxLen; omega⟩
theorem sepShort {D : List Mr} {K g : Nat} (h : ∀ x ∈ D, ShortM x ∧ (0 < x.n → ∀ p, x.A = some p → K ≤ p.block)) (hg : g < K) : ∀ x ∈ D, 0 < x.n → ∀ a, x.A = some a → some g ≠ some a.block := fun x hx hp a ha e => by
  have := (h x hx).2 hp a ha; injection e with e; omega
/-- Marks beside the reader. -/
theorem MzOwn.rd {w w' : World} {B g : Nat} {v : Value} {D : List Mr} {neg : Bool} (h : MzOwn w B v D neg) (hg : w.grownBy w' (some g)) (hB : g < B) (hW : ∀ x ∈ D, 0 < x.n → ∀ a, x.A = some a → some g ≠ some a.block) : MzOwn w' B v D neg :=
  ⟨h.1, ownG_only h.2.1 hg hB, fun x hx => ⟨WdsIn.grown (h.2.2 x hx).1 hg (hW x hx), fun hp a ha => ⟨((h.2.2 x hx).2 hp a ha).1, Nat.lt_of_lt_of_le ((h.2.2 x hx).2 hp a ha).2 hg.size⟩⟩⟩
/-- What l92Marks answers. -/
def DrawnMs (B g lim : Nat) (w : World) (e : Ending) (w' : World) : Prop :=
  ∃ (A : Option Addr) (n c : Nat) (ws : List Wd) (A' : Option Addr) (n' c' : Nat) (D : List Mr) (neg : Bool), e = .returned (.tuple #[.slice A n c, .slice A' n' c']) ∧ ws.length = n ∧ n ≤ 8 ∧ (∀ l ∈ ws, l.length ≤ 40) ∧ WdOwn w' w.heap.size (.slice A n c) ws ∧ D.length = n' ∧ n' ≤ 200 ∧
    (∀ x ∈ D, ShortM x ∧ (0 < x.n → ∀ p, x.A = some p → w.heap.size ≤ p.block)) ∧ MzOwn w' w.heap.size (.slice A' n' c') D neg ∧ w.grownBy w' (some g) ∧ RdIn w' B g (lim + 6030)
theorem l92Marks (g B lim : Nat) (w : World) (hl : lim ≤ 600000000) (hr : RdIn w B g lim) (hBw : B ≤ w.heap.size) :
    Calls Try.prog 45 #[.pointer (some ⟨g, 0, none⟩)] w (DrawnMs B g lim w) := by
  have hg0 := hr.lt
  have HSp := Lib.hid (l91Speech g B lim 8 w (by omega) (by omega) hr hBw)
  clear hr
  go_enter Try.func45, Try.ntmps45
  go_wp2_with fail
  refine HSp.out.mono ?_
  rintro e w1 ⟨v1, ws, rfl, hl1, hs1, ho1, hg1, hr1⟩
  obtain ⟨A1, c1, rfl, _, _⟩ := ownG_form ho1
  have hz1 := hg1.size
  obtain ⟨N, hN⟩ : ∃ N, N = ws.length := ⟨_, rfl⟩
  rw [← hN] at hl1
  have HW : Hid (∀ w2, w1.grownBy w2 (some g) → WdOwn w2 w.heap.size (.slice A1 ws.length c1) ws) := Lib.hid (fun w2 h2 => ownG_only ho1 h2 hg0)
  rw [← hN] at HW ⊢
  have HS := Lib.hid hs1; have HG := Lib.hid hg1; have HN := Lib.hid hN.symm
  have HM := Lib.hid (l92Some g B (lim + 30) A1 N c1 w1 (by omega) (by omega) hr1 (by omega))
  clear hs1 ho1 hg1 hr1 hN HSp
  go_wp2_with fail
  refine HM.out.mono ?_
  rintro e w2 ⟨v2, D, neg, rfl, hD, hX, hO, hg2, hr2⟩
  obtain ⟨A2, c2, rfl, _, _⟩ := ownG_form hO.2.1
  have HF : Hid (DrawnMs B g lim w (.returned (.tuple #[.slice A1 N c1, .slice A2 D.length c2])) w2) := Lib.hid ⟨A1, N, c1, ws, A2, D.length, c2, D, neg, rfl, HN.out, hl1, HS.out, HW.out w2 hg2, rfl, hD, fun x hx => ⟨(hX x hx).1, fun hp p hpA => by have := (hX x hx).2 hp p hpA; omega⟩, hO.mono hz1, only_next HG.out hg2, hr2.more (by omega)⟩
  clear hD hX hO hg2 hr2 HM HW HS HG HN
  generalize D.length = M at *
  go_wp2
  go_ret2
  exact HF.out
/-- What l92Pair answers. -/
def DrawnPr (B g lim : Nat) (w : World) (e : Ending) (w' : World) : Prop :=
  ∃ (A : Option Addr) (n c : Nat) (ws : List Wd) (A1 : Option Addr) (n1 c1 : Nat) (D1 : List Mr) (neg1 : Bool) (A2 : Option Addr) (n2 c2 : Nat) (D2 : List Mr) (neg2 : Bool), e = .returned (.tuple #[.slice A n c, .slice A1 n1 c1, .slice A2 n2 c2]) ∧ ws.length = n ∧ n ≤ 8 ∧ (∀ l ∈ ws, l.length ≤ 40) ∧ WdOwn w' w.heap.size (.slice A n c) ws ∧
    OkMs D1 ∧ MzIn w' w'.heap.size A1 n1 c1 D1 neg1 ∧ OkMs D2 ∧ MzIn w' w'.heap.size A2 n2 c2 D2 neg2 ∧ w.grownBy w' (some g) ∧ RdIn w' B g (lim + 13000)
theorem run_uptoM {A : Option Addr} {N c k : Nat} (h : k ≤ c) (w : World) : (Instr.slice 32 (.slice A N c) none (some (.int .i64 (k : Int))) none).run Try.prog w = .ok (.slice A k c) w := run_uptoA (sz := 3) (by kernel_rfl) (fun w => by kernel_rfl) A N c k h w
theorem run_fromM {A : Option Addr} {N c k : Nat} (h : k ≤ N) (w : World) : (Instr.slice 32 (.slice A N c) (some (.int .i64 (k : Int))) none none).run Try.prog w = .ok (.slice (fromB A k c 3) (N - k) (c - k)) w := run_fromS (sz := 3) (by kernel_rfl) (fun w => by kernel_rfl) A N c k h w
set_option maxHeartbeats 1600000 in
theorem l92Pair (g B lim : Nat) (w : World) (hl : lim ≤ 500000000) (hr : RdIn w B g lim) (hBw : B ≤ w.heap.size) :
    Calls Try.prog 23 #[.pointer (some ⟨g, 0, none⟩)] w (DrawnPr B g lim w) := by
  have hg0 := hr.lt
  have HM := Lib.hid (l92Marks g B lim w (by omega) hr hBw)
  clear hr
  go_enter Try.func23, Try.ntmps23
  go_wp2_with fail
  refine HM.out.mono ?_
  rintro e w1 ⟨A, n, c, ws, A1, N, c1, D, neg, rfl, hn, hn8, hs, ho, hD, hD2, hX, hO, hg1, hr1⟩
  have hz1 := hg1.size
  have HS2 := Lib.hid (l92Some g B (lim + 6030) A n c w1 (by omega) (by omega) hr1 (by omega))
  have HN := Lib.hid hn; have HD := Lib.hid hD; have HSh := Lib.hid hs; have HX := Lib.hid hX
  have HW := Lib.hid ho; have HO := Lib.hid hO; have HG := Lib.hid hg1
  clear hn hs ho hD hX hO hg1 hr1 HM
  go_wp2_with fail
  refine HS2.out.mono ?_
  rintro e w2 ⟨v2, D2, neg2, rfl, hE, hX2, hO2, hg2, hr2⟩
  obtain ⟨A2, c2, rfl, _, _⟩ := ownG_form hO2.2.1
  have HX2 := Lib.hid hX2
  obtain ⟨M, hM⟩ : ∃ M, M = D2.length := ⟨_, rfl⟩
  rw [← hM] at hO2 ⊢
  have HML := Lib.hid hM.symm
  clear hM
  have HW2 : Hid (WdOwn w2 w.heap.size (.slice A n c) ws) := Lib.hid (ownG_only HW.out hg2 hg0)
  have HO1 : Hid (MzOwn w2 w.heap.size (.slice A1 N c1) D neg) := Lib.hid (HO.out.rd hg2 hg0 (sepShort HX.out hg0))
  have HO2 := Lib.hid hO2; have HG2 := Lib.hid (only_next HG.out hg2); have HR2 := Lib.hid hr2
  have HSep2 : Hid (∀ x ∈ D2, 0 < x.n → ∀ a, x.A = some a → some g ≠ some a.block) := Lib.hid (sepShort HX2.out (by omega))
  have hg0' : g < w1.heap.size := by omega
  have hc1 := (MzOwn.reads HO1.out HD.out).2.2.1
  have hcm1 := (MzOwn.reads HO1.out HD.out).2.2.2.1
  clear hX2 hO2 hg2 hr2 HS2 HW HO HG
  have HEnd : Hid (∀ w3, w2.grownBy w3 (some g) → RdIn w3 B g (lim + 13000) → DrawnPr B g lim w (.returned (.tuple #[.slice A n c, .slice A1 N c1, .slice A2 M c2])) w3) := Lib.hid (fun w3 h3 hr3 =>
    ⟨A, n, c, ws, A1, N, c1, D, neg, A2, M, c2, D2, neg2, rfl, HN.out, hn8, HSh.out, ownG_only HW2.out h3 hg0, okShort HX.out,
      MzOwn.reads (HO1.out.rd h3 hg0 (sepShort HX.out hg0)) HD.out, okShort HX2.out,
      (by have := MzOwn.reads (n := M) (HO2.out.rd h3 hg0' HSep2.out) HML.out; exact this), only_next HG2.out h3, hr3⟩)
  by_cases h1 : N ≤ 1
  · have HF := Lib.hid (HEnd.out w2 (World.grownBy.refl w2 (some g)) (HR2.out.more (by omega)))
    have z0 : decide (1 < N) = false := decide_eq_false (by omega)
    have z1 : ¬ (1 : Int) < (N : Int) := by omega
    clear HEnd HW2 HO1 HO2 HG2 HR2 HSep2 HX HX2
    go_wp2
    go_returns
    exact HF.out
  · have z0 : decide (1 < N) = true := decide_eq_true (by omega)
    have z1 : (1 : Int) < (N : Int) := by omega
    have HP := Lib.hid (pickR (n := 2) HR2.out (by omega) (by omega) (by omega))
    go_wp2_with fail
    refine HP.out.mono ?_
    rintro e w3 ⟨m, rfl, hm, hg3, hr3⟩
    have HG3 := Lib.hid hg3
    have HR3 := Lib.hid hr3
    clear hg3 hr3 HP
    by_cases m0 : m = 0
    · subst m0
      have HP := Lib.hid (pickR (n := (N : Int) - 1) HR3.out (by omega) (by omega) (by omega))
      go_wp2_with fail
      refine HP.out.mono ?_
      rintro e w4 ⟨p, rfl, hp, hg4, hr4⟩
      have HG4 := Lib.hid (only_next HG3.out hg4)
      have HR4 := Lib.hid hr4
      clear hg4 hr4 HP HG3 HR3
      have hk1 : p + 1 ≤ N := by omega
      have hr0 : ∀ V, (Instr.slice 32 (.slice A1 N c1) none (some (.int .i64 (1 + (p : Int)))) none).run Try.prog V = .ok (.slice A1 (p + 1) c1) V := fun V => by
        have := run_uptoM (A := A1) (N := N) (c := c1) (k := p + 1) (by omega) V
        rw [show ((p + 1 : Nat) : Int) = 1 + (p : Int) by omega] at this; exact this
      have HP := Lib.hid (fun V (hV : Below w4.heap.size w4 V) => pickR (n := 2) (HR4.out.below hV) (by omega) (by omega) (by omega))
      have hw1 : IntKind.i64.wrap (1 + (p : Int)) = 1 + (p : Int) := IntWalk.i64_in _ (by unfold maxLen at hcm1; omega)
      have hs2 : ∀ (q : Nat), q < 2 → ∀ V, (Instr.slice 32 (.slice A1 N c1) (some (.int .i64 (1 + (p : Int) - (q : Int)))) none none).run Try.prog V = .ok (.slice (fromB A1 (p + 1 - q) c1 3) (N - (p + 1 - q)) (c1 - (p + 1 - q))) V := fun q hq V => by
        have := run_fromM (A := A1) (N := N) (c := c1) (k := p + 1 - q) (by omega) V
        rw [show ((p + 1 - q : Nat) : Int) = 1 + (p : Int) - (q : Int) by omega] at this; exact this
      have hw2 : ∀ (q : Nat), q < 2 → IntKind.i64.wrap (1 + (p : Int) - (q : Int)) = 1 + (p : Int) - (q : Int) := fun q hq => IntWalk.i64_in _ (by unfold maxLen at hcm1; omega)
      have HS2 := Lib.hid hs2
      have HWr := Lib.hid hw2
      clear hs2 hw2
      have p0 : (0 : Int) ≤ 1 + (p : Int) := by omega
      go_wp2_with fail
      go_region_held3 (fun _ => True) (trivial)
        (first
          | (go_at_call 25; refine (HP.out _ ((Below.refl _ _).drew)).mono ?_; rintro e w5 ⟨q, rfl, hq, hg5, hr5⟩; have hs3 := HS2.out q (by omega); have hw3 := HWr.out q (by omega)))
      have HF : Hid (DrawnPr B g lim w (.returned (.tuple #[.slice A n c, .slice A1 (p + 1) c1, .slice (fromB A1 (p + 1 - q) c1 3) (N - (p + 1 - q)) (c1 - (p + 1 - q))])) w5) := Lib.hid (by
        have h5 : w2.grownBy w5 (some g) := only_next (grown_drew HG4.out) hg5
        have hR := MzOwn.reads (HO1.out.rd h5 hg0 (sepShort HX.out hg0)) HD.out
        obtain ⟨neg', hN'⟩ := hR.fromS (k := p + 1 - q) (by omega)
        refine ⟨A, n, c, ws, A1, p + 1, c1, D.take (p + 1), neg, _, _, _, D.drop (p + 1 - q), neg', rfl, HN.out, hn8, HSh.out, ownG_only HW2.out h5 hg0, fun x hx => okShort HX.out x (List.mem_of_mem_take hx), hR.upto hk1 (by omega), fun x hx => okShort HX.out x (List.mem_of_mem_drop hx), hN', only_next HG2.out h5, hr5.more (by omega)⟩)
      clear hs3 hw3 hg5 hr5 HEnd HW2 HO1 HO2 HG2 HR2 HSep2 HX HX2 HS2 HWr hr0 hw1
      go_wp2
      go_returns
      exact HF.out
    · have e0 : ((m : Int) == 0) = false := by simpa using m0
      have HF := Lib.hid (HEnd.out w3 HG3.out (HR3.out.more (by omega)))
      clear HEnd HW2 HO1 HO2 HG2 HR2 HSep2 HX HX2 HG3 HR3 m0
      go_wp2
      go_returns
      exact HF.out
/-- Three transcripts that were drawn. -/
def DrawnMg (w : World) (e : Ending) (w' : World) : Prop :=
  ∃ (A0 : Option Addr) (n0 c0 : Nat) (base : List Wd) (A1 : Option Addr) (n1 c1 : Nat) (a : List Wd) (A2 : Option Addr) (n2 c2 : Nat) (b : List Wd), e = .returned (.tuple #[.slice A0 n0 c0, .slice A1 n1 c1, .slice A2 n2 c2]) ∧
    WdsIn w' w'.heap.size A0 n0 c0 base ∧ (∀ l ∈ base, l.length ≤ maxLen) ∧ WdsIn w' w'.heap.size A1 n1 c1 a ∧ (∀ l ∈ a, l.length ≤ maxLen) ∧ WdsIn w' w'.heap.size A2 n2 c2 b ∧ (∀ l ∈ b, l.length ≤ maxLen) ∧ Below w.heap.size w w'
set_option maxHeartbeats 1600000 in
theorem drawMergeThree (A : Option Addr) (n c : Nat) (bs : List Int) (w : World) (hb : BytesIn w w.heap.size A n c bs) :
    Calls Try.prog 12 #[.slice A n c] w (DrawnMg w) := by
  have HO := Lib.hid (l6Open A n c bs w.heap.size w (Nat.le_refl _) hb)
  clear hb
  go_enter Try.func12, Try.ntmps12
  go_wp2_with fail
  refine HO.out.mono ?_
  rintro e w1 ⟨rfl, b1, hr1⟩
  have hg1 := hr1.lt
  have HP := Lib.hid (l92Pair w.heap.size w.heap.size 0 w1 (by omega) hr1 b1.size)
  have HB1 := Lib.hid b1
  clear hr1 HO b1
  go_wp2_with fail
  refine HP.out.mono ?_
  rintro e w2 ⟨A0, n0, c0, ws, A1, n1, c1, D1, neg1, A2, n2, c2, D2, neg2, rfl, hn0, hn8, hs0, ho0, hx1, hm1, hx2, hm2, hg2, hr2⟩
  have hz2 := hg2.size
  have HB2 : Hid (Below w.heap.size w w2) := Lib.hid (HB1.out.grown hg2 HB1.out.size (fun k hk => by injection hk with hk; omega))
  have HSh : Hid (∀ l ∈ ws, l.length ≤ maxLen) := Lib.hid (fun l hl => by have := hs0 l hl; unfold maxLen; omega)
  have HN := Lib.hid hn0
  have HD1 := Lib.hid (specMarksDoAny A0 n0 c0 ws A1 n1 c1 D1 neg1 w2 HSh.out (WdOwn.reads ho0 hn0) hm1 hx1)
  have HD2 := Lib.hid (fun w3 (h : Below w2.heap.size w2 w3) => specMarksDoAny A0 n0 c0 ws A2 n2 c2 D2 neg2 w3 HSh.out ((WdOwn.reads ho0 hn0).keep h) (hm2.keep h) hx2)
  have HW := Lib.hid ho0
  have HR2 := Lib.hid hr2
  clear hn0 hs0 ho0 hx1 hm1 hx2 hm2 hg2 hr2 HP HB1
  go_wp2_with fail
  refine HD1.out.mono ?_
  rintro e w3 ⟨A3, n3, c3, x, p, rfl, hl3, ho3, hs3, hb3⟩
  have HD3 := Lib.hid (HD2.out w3 hb3)
  have HO3 := Lib.hid ho3; have HL3 := Lib.hid hl3; have HS3 := Lib.hid hs3; have HB3 := Lib.hid hb3
  clear ho3 hl3 hs3 hb3 HD1 HD2
  go_wp2_with fail
  refine HD3.out.mono ?_
  rintro e w4 ⟨A4, n4, c4, y, q, rfl, hl4, ho4, hs4, hb4⟩
  have HB4 : Hid (Below w2.heap.size w2 w4) := Lib.hid (below_next HB3.out hb4)
  have HX4 : Hid (WdOwn w4 w2.heap.size (.slice A3 n3 c3) x) := Lib.hid (HO3.out.keep hb4)
  have HY4 : Hid (WdOwn w4 w2.heap.size (.slice A4 n4 c4) y) := Lib.hid (ownG_mono ho4 HB3.out.size)
  have HW4 := Lib.hid (HW.out.keep HB4.out)
  have HR4 := Lib.hid (HR2.out.below HB4.out)
  have HL4 := Lib.hid hl4; have HS4 := Lib.hid hs4
  have HBw : Hid (Below w.heap.size w w4) := Lib.hid (below_next HB2.out HB4.out)
  have hz4 := HB4.out.size
  have hzw := HBw.out.size
  have HEnd : Hid (∀ w5 A n c l, w4.grownBy w5 (some w.heap.size) → WdsIn w5 w5.heap.size A n c l → (∀ z ∈ l, z.length ≤ maxLen) → DrawnMg w (.returned (.tuple #[.slice A0 n0 c0, .slice A n c, .slice A0 n0 c0])) w5) := Lib.hid (fun w5 A n c l hg hi hsl =>
    have h0 : WdsIn w5 w5.heap.size A0 n0 c0 ws := WdsIn.grown (WdOwn.reads HW4.out HN.out) hg (fun hp a ha e => by
      injection e with e
      subst ha
      have := ownG_base HW4.out rfl
      omega)
    ⟨A0, n0, c0, ws, A, n, c, l, A0, n0, c0, ws, rfl, h0, HSh.out, hi, hsl, h0, HSh.out, HBw.out.grown hg HBw.out.size (fun k hk => by injection hk with hk; omega)⟩)
  have HEnd2 : Hid (∀ w5, w4.grownBy w5 (some w.heap.size) → DrawnMg w (.returned (.tuple #[.slice A0 n0 c0, .slice A3 n3 c3, .slice A4 n4 c4])) w5) := Lib.hid (fun w5 hg =>
    have far : ∀ (A : Option Addr) (n c : Nat) (l : List Wd) (K : Nat), w.heap.size < K → l.length = n → WdOwn w4 K (.slice A n c) l → WdsIn w5 w5.heap.size A n c l := fun A n c l K hK hl ho => WdsIn.grown (WdOwn.reads ho hl) hg (fun hp a ha e => by
      injection e with e
      subst ha
      have := ownG_base ho rfl
      omega)
    ⟨A0, n0, c0, ws, A3, n3, c3, x, A4, n4, c4, y, rfl, far _ _ _ _ _ hg1 HN.out HW4.out, HSh.out, far _ _ _ _ _ (by omega) HL3.out HX4.out, HS3.out, far _ _ _ _ _ (by omega) HL4.out HY4.out, HS4.out, HBw.out.grown hg HBw.out.size (fun k hk => by injection hk with hk; omega)⟩)
  have HSp : Hid (∀ lim, lim ≤ 20000 → ∀ w5, w4.grownBy w5 (some w.heap.size) → RdIn w5 w.heap.size w.heap.size lim → Calls Try.prog 26 #[.pointer (some ⟨w.heap.size, 0, none⟩), .int .i64 ((6 : Nat) : Int)] w5 fun e w6 => ∃ A6 n6 c6, e = .returned (.slice A6 n6 c6) ∧ DrawnMg w (.returned (.tuple #[.slice A0 n0 c0, .slice A6 n6 c6, .slice A0 n0 c0])) w6) := Lib.hid (fun lim hl w5 hg hr => (l91Speech w.heap.size w.heap.size lim 6 w5 (by omega) (by omega) hr (by have := hg.size; omega)).mono (by
    rintro e w6 ⟨v6, l6, rfl, hl6, hs6, ho6, hg6, hr6⟩
    obtain ⟨A6, c6, rfl, _, _⟩ := ownG_form ho6
    exact ⟨A6, l6.length, c6, rfl, HEnd.out w6 _ _ _ _ (only_next hg hg6) (WdOwn.reads ho6 rfl) (fun l hl => by have := hs6 l hl; unfold maxLen; omega)⟩))
  clear ho4 hb4 hl4 hs4 HD3 HO3 HL3 HS3 HB3 HB4 HX4 HY4 HW4 HL4 HS4 HBw HEnd HW HR2 HN HB2 HSh
  cases p with
  | false =>
    have HS := Lib.hid (HSp.out 13000 (by omega) w4 (World.grownBy.refl w4 _) (HR4.out.more (by omega)))
    clear HSp HEnd2 HR4
    go_wp2_with fail
    refine HS.out.mono ?_
    rintro e w6 ⟨A6, n6, c6, rfl, hF⟩
    have HF := Lib.hid hF
    clear hF HS
    go_wp2
    go_returns
    exact HF.out
  | true =>
    cases q with
    | false =>
      have HS := Lib.hid (HSp.out 13000 (by omega) w4 (World.grownBy.refl w4 _) (HR4.out.more (by omega)))
      clear HSp HEnd2 HR4
      go_wp2_with fail
      refine HS.out.mono ?_
      rintro e w6 ⟨A6, n6, c6, rfl, hF⟩
      have HF := Lib.hid hF
      clear hF HS
      go_wp2
      go_returns
      exact HF.out
    | true =>
      have HP := Lib.hid (pickR (n := 6) HR4.out (by omega) (by omega) (by omega))
      go_wp2_with fail
      refine HP.out.mono ?_
      rintro e w5 ⟨m, rfl, hm, hg5, hr5⟩
      by_cases m0 : m = 0
      · subst m0
        have HS := Lib.hid (HSp.out 13001 (by omega) w5 hg5 (hr5.more (by omega)))
        clear HSp HEnd2 HR4 HP hg5 hr5
        go_wp2_with fail
        refine HS.out.mono ?_
        rintro e w6 ⟨A6, n6, c6, rfl, hF⟩
        have HF := Lib.hid hF
        clear hF HS
        go_wp2
        go_returns
        exact HF.out
      · have HF := Lib.hid (HEnd2.out w5 hg5)
        have z1 : (0 : Int) < (m : Int) := by omega
        clear HSp HEnd2 HR4 HP hg5 hr5 m0
        go_wp2
        go_returns
        exact HF.out
end Go.Proofs.Ytlfhgmbmgbbnjaa
