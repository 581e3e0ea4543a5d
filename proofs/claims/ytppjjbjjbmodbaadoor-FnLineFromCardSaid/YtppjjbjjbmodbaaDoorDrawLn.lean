/-
  The reader draws lines of writing. Conditions: as for pick.
-/
import Derived.Test.YtppjjbjjbmodbaaDoorDrawDi
import Derived.Test.YtppjjbjjbmodbaaDoorDrawWr
namespace Go.Proofs.YtppjjbjjbmodbaaDoor
open Go.ChangeShapes Go.WideShapes Go.ChangeAt Go.RowKit
set_option maxRecDepth 100000
set_option linter.unusedSimpArgs false

/-- A line of the call's own, its outlines too. -/
def LnOwn (w : World) (B : Nat) (v : Value) (xs : List Wr) : Prop := WrOwn w B v xs ∧ ∀ x ∈ xs, ∀ a, x.A = some a → B ≤ a.block
theorem LnOwn.only {w w' : World} {B g : Nat} {v : Value} {xs : List Wr} (h : LnOwn w B v xs) (hg : w.grownBy w' (some g)) (hB : g < B) : LnOwn w' B v xs :=
  ⟨⟨ownG_only h.1.1 hg hB, fun x hx => ⟨(h.1.2 x hx).1.grown hg (fun a ha e => by injection e with e; have := h.2 x hx a ha; omega), fun a ha => ⟨((h.1.2 x hx).2 a ha).1, Nat.lt_of_lt_of_le ((h.1.2 x hx).2 a ha).2 hg.size⟩⟩⟩, h.2⟩
theorem LnOwn.keep {w w' : World} {B : Nat} {v : Value} {xs : List Wr} (h : LnOwn w B v xs) (hb : Below w.heap.size w w') : LnOwn w' B v xs := ⟨h.1.keep hb, h.2⟩
theorem LnOwn.push {w w' : World} {B : Nat} {v v' : Value} {xs : List Wr} {x : Wr} (h : LnOwn w B v xs) (hx : WrIn w w.heap.size x) (hn : ∀ a, x.A = some a → v.ownBlock ≠ some a.block ∧ a.block < w.heap.size ∧ B ≤ a.block)
    (ho : w'.ownsRow B 36 2 v' (xs.length + 1) (xs.flatMap wrC ++ wrC x)) (hg : w.grownBy w' v.ownBlock) (hv : v'.ownBlock = v.ownBlock ∨ v'.ownBlock = some w.heap.size) : LnOwn w' B v' (xs ++ [x]) :=
  ⟨h.1.push hx (fun a ha => ⟨(hn a ha).1, (hn a ha).2.1⟩) ho hg hv, fun y hy => by
    rcases List.mem_append.1 hy with hy | hy
    · exact h.2 y hy
    · rw [List.mem_singleton] at hy
      subst hy
      exact fun a ha => (hn a ha).2.2⟩
theorem LnOwn.made (w : World) : LnOwn (w.alloc (.cells #[] 36)) w.heap.size (.slice (some ⟨w.heap.size, 0, none⟩) 0 0) [] :=
  ⟨⟨World.ownsRow_made (base := w.heap.size) (e := 36) (size := 2) w #[] 0 (Nat.le_refl _) (by unfold maxLen; omega) rfl, by simp⟩, by simp⟩
/-- A written form that was answered, with whether it is one. -/
def WrAny (w' : World) (B : Nat) (e : Ending) : Prop := ∃ (x : Wr) (ok : Bool), e = .returned (.tuple #[.agg #[.slice x.A x.n x.c, .int .i64 x.pos], .bool ok]) ∧ WrIn w' w'.heap.size x ∧ ∀ a, x.A = some a → B ≤ a.block ∧ a.block < w'.heap.size
theorem WrAns.any {w' : World} {B : Nat} {o : Option (List Stroke × Int)} {e : Ending} (h : WrAns w' B o e) (hp : ∀ ss p, o = some (ss, p) → -1 ≤ p ∧ p ≤ 3) : WrAny w' B e := by
  rcases h with ⟨_, rfl⟩ | ⟨A, c, ss, p, ho, rfl, hS, hg⟩
  · exact ⟨⟨none, 0, 0, [], 0⟩, false, rfl, ⟨⟨rfl, Nat.le_refl _, Nat.zero_le _, ⟨rfl, fun h => absurd h (by simp)⟩, by simp⟩, by decide⟩, nofun⟩
  · refine ⟨⟨A, ss.length, c, ss, p⟩, true, rfl, ⟨hS.reads rfl hg, show (Lit.int .i64 p).wf = true from WalkArith.wf_i64 (by have := hp ss p ho; omega)⟩, ?_⟩
    rintro a rfl
    exact ⟨ownG_base hS (k := a.block) rfl, ownG_lt hS (b := a.block) rfl⟩
theorem idx_at {xs : List Sg} {ws : List (List UInt8)} {m : Nat} (hm : m < (idxOf xs ws).length) : (idxOf xs ws).getD m 0 < ws.length := by
  rw [List.getD_eq_getElem?_getD, List.getElem?_eq_getElem hm]
  have h := List.getElem_mem hm
  simp only [Option.getD_some]
  generalize (idxOf xs ws)[m] = i at *
  unfold idxOf at h
  split at h
  · exact idxK_lt h
  · cases h
theorem idx_len {xs : List Sg} {ws : List (List UInt8)} : (idxOf xs ws).length ≤ ws.length := by
  unfold idxOf
  split
  · exact idxK_len _ _ _
  · simp
/-- What l91Line answers. -/
def DrawnLine (B g lim : Nat) (w : World) (e : Ending) (w' : World) : Prop :=
  ∃ A n c xs, xs.length = n ∧ n ≤ 4 ∧ e = .returned (.slice A n c) ∧ LnOwn w' w.heap.size (.slice A n c) xs ∧ w.grownBy w' (some g) ∧ RdIn w' B g (lim + 600)

set_option maxHeartbeats 1600000 in
theorem l91Line (g B lim B0 : Nat) (A : Option Addr) (n c : Nat) (xs : List Sg) (A' : Option Addr) (n' c' : Nat) (ws : List (List UInt8)) (w : World) (hl : lim ≤ 500000000) (hr : RdIn w B g lim) (hBw : B ≤ w.heap.size) (hB0 : g < B0) (hx : xs.length = n) (hx' : ws.length = n') (hn9 : n' ≤ 9)
    (h : SyOwn w B0 (.slice A n c) xs) (h' : DcOwn w B0 (.slice A' n' c') ws) :
    Calls Tryd.prog 24 #[.pointer (some ⟨g, 0, none⟩), .slice A n c, .slice A' n' c'] w (DrawnLine B g lim w) := by
  obtain ⟨i0, hi, hz0, hz1, hz2⟩ := info_parts infoWr
  have hg0 := hr.lt
  have HP := Lib.hid (fun o => pickR (n := 5) (hr.alloc' o) (by omega) (by omega) (by omega))
  have hal : ∀ o, Below w.heap.size w (w.alloc o) := fun o => (Below.refl _ _).alloc (Nat.le_refl _) o
  have HS0 := Lib.hid (fun o => SyOwn.keep h (hal o)); have HD0 := Lib.hid (fun o => DcOwn.keep h' (hal o))
  have HX := Lib.hid hx; have HX' := Lib.hid hx'
  have HSh := Lib.hid h'.short
  have HSb : Hid (∀ q, (Value.slice A n c).ownBlock = some q → q < w.heap.size) := Lib.hid (fun q hq => ownG_lt h.1 hq)
  have HDb : Hid (∀ q, (Value.slice A' n' c').ownBlock = some q → q < w.heap.size) := Lib.hid (fun q hq => ownG_lt h'.1 hq)
  clear hr h h' hx hx' hal
  go_enter Tryd.func24, Tryd.ntmps24
  go_wp2_with fail
  refine (HP.out _).mono ?_
  rintro e w1 ⟨N, rfl, hN', hg1, hr1⟩
  have hN : N ≤ 4 := by omega
  have HG1 := Lib.hid (only_next (World.grownBy_alloc w _ _) hg1)
  have HO1 := Lib.hid ((LnOwn.made w).only hg1 hg0)
  have HS1 := Lib.hid ((HS0.out _).only hg1 hB0); have HD1 := Lib.hid ((HD0.out _).only hg1 hB0)
  have HR1 := Lib.hid hr1
  clear hN' hg1 hr1 HP HS0 HD0
  have HDw := Lib.hid (specDictionaryWritten A n c xs A' n' c' ws w1 HSh.out (HS1.out.reads HX.out) (HD1.out.reads HX'.out))
  go_wp2_with fail
  refine HDw.out.mono ?_
  rintro e w2 ⟨⟨A2, c2, rfl, hO2⟩, hb2⟩
  have HI2 : Hid (NatOwn w2 w.heap.size (.slice A2 (idxOf xs ws).length c2) (idxOf xs ws)) := Lib.hid (ownG_mono hO2 HG1.out.size)
  have HO2 := Lib.hid (HO1.out.keep hb2); have HS2 := Lib.hid (HS1.out.keep hb2); have HD2 := Lib.hid (HD1.out.keep hb2)
  have HG2 := Lib.hid (grown_below HG1.out hb2); have HR2 := Lib.hid (HR1.out.below hb2)
  have HNb : Hid (∀ q, (Value.slice A2 (idxOf xs ws).length c2).ownBlock = some q → (Value.slice (some ⟨w.heap.size, 0, none⟩) 0 0).ownBlock ≠ some q) := Lib.hid (fun q hq e => by have h1 := ownG_base hO2 hq; have h2 := ownG_lt HO1.out.1.1 e; omega)
  clear hO2 hb2 HO1 HS1 HD1 HG1 HR1 HDw
  have HIl := Lib.hid (fun m (hm : m < (idxOf xs ws).length) => idx_at hm)
  have hil := @idx_len xs ws
  rw [HX'.out] at hil
  generalize hI : idxOf xs ws = is at *
  clear hI
  obtain ⟨M, hM⟩ : ∃ M, M = is.length := ⟨_, rfl⟩
  rw [← hM] at HI2 HNb HIl hil
  rw [← hM]
  have HM := Lib.hid hM.symm; clear hM
  go_wp2
  go_loopw [7, 10] (fun v0 i wr => ∃ (k : Nat) (ys : List Wr) (v : Value), k ≤ N ∧ i = .int .i64 k ∧ v = v0 ∧ Hid (ys.length = k) ∧ Hid (LnOwn wr w.heap.size v ys) ∧ Hid (NatOwn wr w.heap.size (.slice A2 M c2) is) ∧ Hid (∀ q, (Value.slice A2 M c2).ownBlock = some q → v.ownBlock ≠ some q) ∧ Hid (SyOwn wr B0 (.slice A n c) xs) ∧ Hid (DcOwn wr B0 (.slice A' n' c') ws) ∧ Hid (w.grownBy wr (some g)) ∧ Hid (RdIn wr B g (lim + 1 + 120 * k))) (fun _ i _ => N - (intOf i).toNat)
  case atStart => exact ⟨0, [], _, Nat.zero_le _, rfl, rfl, Lib.hid rfl, HO2, HI2, HNb, HS2, HD2, HG2, HR2⟩
  case round =>
    obtain ⟨k, ys, v, hk, rfl, rfl, HY, HO, HI, HNb, HS, HD, HG, HR⟩ := hrel
    by_cases hlt : k < N
    · have hY4 : ys.length ≤ 3 := by have := HY.out; omega
      by_cases hM0 : M = 0
      · subst hM0
        have HOp := HO; have HIp := HI; have HSp := HS; have HDp := HD; have HGp := HG
        have hzp := HGp.out.size
        have HW := Lib.hid (l91Written g B (lim + 1 + 120 * k) wr (by omega) HR.out (by omega))
        have HVb : Hid (∀ q, v.ownBlock = some q → q < wr.heap.size) := Lib.hid (fun q hq => ownG_lt HOp.out.1.1 hq)
        go_wp2_with fail
        refine HW.out.mono ?_
        rintro e w6 ⟨N6, v6, p6, hN6, rfl, hp0, hp1, hO6, hg6, hr6⟩
        obtain ⟨A6, c6, ss6, hl6, rfl, hS6⟩ := hO6.reads
        have HBl : Hid (∀ a, A6 = some a → v.ownBlock ≠ some a.block ∧ a.block < w6.heap.size ∧ w.heap.size ≤ a.block) := Lib.hid (by
          rintro a rfl
          have h1 := hO6.lt (gb := a.block) rfl
          exact ⟨fun e => by have := HVb.out _ e; omega, h1.2, by omega⟩)
        have HWr : Hid (WrIn w6 w6.heap.size ⟨A6, N6, c6, ss6, p6⟩) := Lib.hid ⟨hS6, show (Lit.int .i64 p6).wf = true from WalkArith.wf_i64 (by omega)⟩
        have HOq := Lib.hid (HOp.out.only hg6 hg0)
        have HIq : Hid (NatOwn w6 w.heap.size (.slice A2 0 c2) is) := Lib.hid (ownG_only HIp.out hg6 hg0)
        have HSq := Lib.hid (HSp.out.only hg6 hB0)
        have HDq := Lib.hid (HDp.out.only hg6 hB0)
        have HGq := Lib.hid (only_next HGp.out hg6)
        have HRq := Lib.hid hr6
        clear hO6 hg6 hr6 hS6 HW HOp HIp HSp HDp HGp
        have hal6 : Below w6.heap.size w6 (w6.alloc (.cells #[.slice A6 N6 c6, .int .i64 p6] 36)) := (Below.refl _ _).alloc (Nat.le_refl _) _
        have hsa6 := hal6.size
        have hzq := HGq.out.size
        have HOa : Hid ((w6.alloc (.cells #[.slice A6 N6 c6, .int .i64 p6] 36)).ownsRow w.heap.size 36 2 v ys.length (ys.flatMap wrC)) := Lib.hid (ownG_keep HOq.out.1.1 hal6)
        have HRow : Hid (Row (w6.alloc (.cells #[.slice A6 N6 c6, .int .i64 p6] 36)) (w6.heap.size + 1) (some ⟨w6.heap.size, 0, none⟩) 1 2 [.slice A6 N6 c6, .int .i64 p6]) := Lib.hid (by have h := rowNewSt w6 (.slice A6 N6 c6) (.int .i64 p6) 36; exact h)
        go_wp2_with (at_builtin; refine wpList_append_any _ rfl (.tmp 32) (.tmp 35) _ rfl w.heap.size 36 i0 _ 2 32 Tryd.underlying23 hi hz0 hz1 hz2 rfl (by omega) v ys.length (ys.flatMap wrC) rfl HOa.out (w6.heap.size + 1) (some ⟨w6.heap.size, 0, none⟩) 1 1 [.slice A6 N6 c6, .int .i64 p6] rfl HRow.out (by simp [Value.oneCell']) (by unfold maxLen; omega) (by omega) (by simp; omega) ?_; intro v7 w7 hown7 hg7 hat7)
        have HO7 : Hid (LnOwn w7 w.heap.size v7 (ys ++ [⟨A6, N6, c6, ss6, p6⟩])) := Lib.hid (LnOwn.push (HOq.out.keep hal6) (HWr.out.keep hal6) (fun a ha => ⟨(HBl.out a ha).1, Nat.lt_of_lt_of_le (HBl.out a ha).2.1 hsa6, (HBl.out a ha).2.2⟩) hown7 hg7 hat7)
        have HI7 : Hid (NatOwn w7 w.heap.size (.slice A2 0 c2) is) := Lib.hid (ownG_congr (ownG_keep HIq.out hal6) (fun z hz => hg7.block z (Nat.lt_of_lt_of_le (ownG_lt HIq.out hz) hsa6) (fun e => HNb.out z hz e.symm)))
        have HN7 : Hid (∀ q, (Value.slice A2 0 c2).ownBlock = some q → v7.ownBlock ≠ some q) := Lib.hid (fun z hz e => by
          rcases hat7 with e2 | e2
          · exact HNb.out z hz (e2.symm.trans e)
          · have := ownG_lt HIq.out hz
            rw [e2] at e
            injection e with e
            omega)
        have HS7 : Hid (SyOwn w7 B0 (.slice A n c) xs) := Lib.hid ⟨ownG_congr (HSq.out.keep hal6).1 (fun z hz => hg7.block z (Nat.lt_of_lt_of_le (ownG_lt HSq.out.1 hz) hsa6) (fun e => by have h1 := ownG_base HOq.out.1.1 e.symm; have h2 := HSb.out z hz; omega)), HSq.out.2⟩
        have HD7 : Hid (DcOwn w7 B0 (.slice A' n' c') ws) := Lib.hid ⟨ownG_congr (HDq.out.keep hal6).1 (fun z hz => hg7.block z (Nat.lt_of_lt_of_le (ownG_lt HDq.out.1 hz) hsa6) (fun e => by have h1 := ownG_base HOq.out.1.1 e.symm; have h2 := HDb.out z hz; omega)), HDq.out.2⟩
        have HG7 : Hid (w.grownBy w7 (some g)) := Lib.hid (own_after' (grown_below HGq.out hal6) hg7 (fun q hq => ownG_base HOq.out.1.1 hq))
        have HR7 : Hid (RdIn w7 B g (lim + 1 + 120 * (k + 1))) := Lib.hid (((HRq.out.below hal6).far hg7 (fun q hq => by have := ownG_base HOq.out.1.1 hq; exact ⟨by omega, by omega⟩) (by omega)).more (by omega))
        have HY7 : Hid ((ys ++ [(⟨A6, N6, c6, ss6, p6⟩ : Wr)]).length = k + 1) := Lib.hid (by rw [List.length_append, HY.out]; rfl)
        clear hown7 hg7 hat7 HOa HRow
        go_wp2
        go_roundw
        case rel => exact ⟨k + 1, _, _, by omega, by go_num, rfl, HY7, HO7, HI7, HN7, HS7, HD7, HG7, HR7⟩
        case measure => simp [intOf]; omega
      · have eM : ((M : Int) == 0) = false := by simpa using hM0
        have HP8 := Lib.hid (pickR (n := 8) HR.out (by omega) (by omega) (by omega))
        go_wp2_with fail
        refine HP8.out.mono ?_
        rintro e w3 ⟨m3, rfl, hm3, hg3, hr3⟩
        have HOp := Lib.hid (HO.out.only hg3 hg0)
        have HIp : Hid (NatOwn w3 w.heap.size (.slice A2 M c2) is) := Lib.hid (ownG_only HI.out hg3 hg0)
        have HSp := Lib.hid (HS.out.only hg3 hB0)
        have HDp := Lib.hid (HD.out.only hg3 hB0)
        have HGp := Lib.hid (only_next HG.out hg3)
        have HRp := Lib.hid hr3
        clear hg3 hr3 HP8 HO HI HS HD HG HR
        by_cases h0 : m3 = 0
        · subst h0
          have hzp := HGp.out.size
          have HW := Lib.hid (l91Written g B (lim + 1 + 120 * k + 1) w3 (by omega) HRp.out (by omega))
          have HVb : Hid (∀ q, v.ownBlock = some q → q < w3.heap.size) := Lib.hid (fun q hq => ownG_lt HOp.out.1.1 hq)
          go_wp2_with fail
          refine HW.out.mono ?_
          rintro e w6 ⟨N6, v6, p6, hN6, rfl, hp0, hp1, hO6, hg6, hr6⟩
          obtain ⟨A6, c6, ss6, hl6, rfl, hS6⟩ := hO6.reads
          have HBl : Hid (∀ a, A6 = some a → v.ownBlock ≠ some a.block ∧ a.block < w6.heap.size ∧ w.heap.size ≤ a.block) := Lib.hid (by
            rintro a rfl
            have h1 := hO6.lt (gb := a.block) rfl
            exact ⟨fun e => by have := HVb.out _ e; omega, h1.2, by omega⟩)
          have HWr : Hid (WrIn w6 w6.heap.size ⟨A6, N6, c6, ss6, p6⟩) := Lib.hid ⟨hS6, show (Lit.int .i64 p6).wf = true from WalkArith.wf_i64 (by omega)⟩
          have HOq := Lib.hid (HOp.out.only hg6 hg0)
          have HIq : Hid (NatOwn w6 w.heap.size (.slice A2 M c2) is) := Lib.hid (ownG_only HIp.out hg6 hg0)
          have HSq := Lib.hid (HSp.out.only hg6 hB0)
          have HDq := Lib.hid (HDp.out.only hg6 hB0)
          have HGq := Lib.hid (only_next HGp.out hg6)
          have HRq := Lib.hid hr6
          clear hO6 hg6 hr6 hS6 HW HOp HIp HSp HDp HGp
          have hal6 : Below w6.heap.size w6 (w6.alloc (.cells #[.slice A6 N6 c6, .int .i64 p6] 36)) := (Below.refl _ _).alloc (Nat.le_refl _) _
          have hsa6 := hal6.size
          have hzq := HGq.out.size
          have HOa : Hid ((w6.alloc (.cells #[.slice A6 N6 c6, .int .i64 p6] 36)).ownsRow w.heap.size 36 2 v ys.length (ys.flatMap wrC)) := Lib.hid (ownG_keep HOq.out.1.1 hal6)
          have HRow : Hid (Row (w6.alloc (.cells #[.slice A6 N6 c6, .int .i64 p6] 36)) (w6.heap.size + 1) (some ⟨w6.heap.size, 0, none⟩) 1 2 [.slice A6 N6 c6, .int .i64 p6]) := Lib.hid (by have h := rowNewSt w6 (.slice A6 N6 c6) (.int .i64 p6) 36; exact h)
          go_wp2_with (at_builtin; refine wpList_append_any _ rfl (.tmp 32) (.tmp 35) _ rfl w.heap.size 36 i0 _ 2 32 Tryd.underlying23 hi hz0 hz1 hz2 rfl (by omega) v ys.length (ys.flatMap wrC) rfl HOa.out (w6.heap.size + 1) (some ⟨w6.heap.size, 0, none⟩) 1 1 [.slice A6 N6 c6, .int .i64 p6] rfl HRow.out (by simp [Value.oneCell']) (by unfold maxLen; omega) (by omega) (by simp; omega) ?_; intro v7 w7 hown7 hg7 hat7)
          have HO7 : Hid (LnOwn w7 w.heap.size v7 (ys ++ [⟨A6, N6, c6, ss6, p6⟩])) := Lib.hid (LnOwn.push (HOq.out.keep hal6) (HWr.out.keep hal6) (fun a ha => ⟨(HBl.out a ha).1, Nat.lt_of_lt_of_le (HBl.out a ha).2.1 hsa6, (HBl.out a ha).2.2⟩) hown7 hg7 hat7)
          have HI7 : Hid (NatOwn w7 w.heap.size (.slice A2 M c2) is) := Lib.hid (ownG_congr (ownG_keep HIq.out hal6) (fun z hz => hg7.block z (Nat.lt_of_lt_of_le (ownG_lt HIq.out hz) hsa6) (fun e => HNb.out z hz e.symm)))
          have HN7 : Hid (∀ q, (Value.slice A2 M c2).ownBlock = some q → v7.ownBlock ≠ some q) := Lib.hid (fun z hz e => by
            rcases hat7 with e2 | e2
            · exact HNb.out z hz (e2.symm.trans e)
            · have := ownG_lt HIq.out hz
              rw [e2] at e
              injection e with e
              omega)
          have HS7 : Hid (SyOwn w7 B0 (.slice A n c) xs) := Lib.hid ⟨ownG_congr (HSq.out.keep hal6).1 (fun z hz => hg7.block z (Nat.lt_of_lt_of_le (ownG_lt HSq.out.1 hz) hsa6) (fun e => by have h1 := ownG_base HOq.out.1.1 e.symm; have h2 := HSb.out z hz; omega)), HSq.out.2⟩
          have HD7 : Hid (DcOwn w7 B0 (.slice A' n' c') ws) := Lib.hid ⟨ownG_congr (HDq.out.keep hal6).1 (fun z hz => hg7.block z (Nat.lt_of_lt_of_le (ownG_lt HDq.out.1 hz) hsa6) (fun e => by have h1 := ownG_base HOq.out.1.1 e.symm; have h2 := HDb.out z hz; omega)), HDq.out.2⟩
          have HG7 : Hid (w.grownBy w7 (some g)) := Lib.hid (own_after' (grown_below HGq.out hal6) hg7 (fun q hq => ownG_base HOq.out.1.1 hq))
          have HR7 : Hid (RdIn w7 B g (lim + 1 + 120 * (k + 1))) := Lib.hid (((HRq.out.below hal6).far hg7 (fun q hq => by have := ownG_base HOq.out.1.1 hq; exact ⟨by omega, by omega⟩) (by omega)).more (by omega))
          have HY7 : Hid ((ys ++ [(⟨A6, N6, c6, ss6, p6⟩ : Wr)]).length = k + 1) := Lib.hid (by rw [List.length_append, HY.out]; rfl)
          clear hown7 hg7 hat7 HOa HRow
          go_wp2
          go_roundw
          case rel => exact ⟨k + 1, _, _, by omega, by go_num, rfl, HY7, HO7, HI7, HN7, HS7, HD7, HG7, HR7⟩
          case measure => simp [intOf]; omega
        · have e0 : ((m3 : Int) == 0) = false := by simpa using h0
          have HP9 := Lib.hid (pickR (n := (M : Int)) HRp.out (by omega) (by omega) (by omega))
          go_wp2_with fail
          refine HP9.out.mono ?_
          rintro e w4 ⟨m4, rfl, hm4, hg4, hr4⟩
          have hm4' : m4 < M := by omega
          have HO4 := Lib.hid (HOp.out.only hg4 hg0)
          have HI4 : Hid (NatOwn w4 w.heap.size (.slice A2 M c2) is) := Lib.hid (ownG_only HIp.out hg4 hg0)
          have HS4 := Lib.hid (HSp.out.only hg4 hB0)
          have HD4 := Lib.hid (HDp.out.only hg4 hB0)
          have HG4 := Lib.hid (only_next HGp.out hg4)
          have HR4 := Lib.hid hr4
          clear hg4 hr4 HP9 HOp HIp HSp HDp HGp HRp
          obtain ⟨g2, rfl, y0, hg2a, hg2b⟩ := natOwn_at HI4.out HM.out hm4'
          have hix := HIl.out m4 hm4'
          have hix2 : is.getD m4 0 < n' := by rw [← HX'.out]; exact hix
          obtain ⟨b, off, rfl, hbB, c0⟩ := (HD4.out.reads HX'.out).at_ hix2
          have HWf := Lib.hid (specWrittenOf A n c xs (wdAt ws (is.getD m4 0)) w4 (HSh.out _ (wdAt_mem hix)) (HS4.out.reads HX.out))
          have hpo := posOf_bd (wdAt ws (is.getD m4 0))
          unfold natP at y0
          generalize wdAt ws (is.getD m4 0) = l4 at *
          generalize is.getD m4 0 = j4 at *
          have i1 : (0 : Int) ≤ (j4 : Int) := by omega
          have i2 : (j4 : Int) < (n' : Int) := by omega
          have i3 : (0 : Int) ≤ (m4 : Int) := by omega
          have HVb : Hid (∀ q, v.ownBlock = some q → q < w4.heap.size) := Lib.hid (fun q hq => ownG_lt HO4.out.1.1 hq)
          have hz4 := HG4.out.size
          go_wp2_with fail
          refine HWf.out.mono ?_
          rintro e w6 ⟨hA6, hb6⟩
          obtain ⟨x6, ok6, rfl, hW6, hx6⟩ := hA6.any (fun ss p h => by
            obtain ⟨o, _, h⟩ := Option.map_eq_some_iff.1 h
            injection h with _ h
            omega)
          have HOq := Lib.hid (HO4.out.keep hb6)
          have HIq : Hid (NatOwn w6 w.heap.size (.slice (some ⟨g2, 0, none⟩) M c2) is) := Lib.hid (ownG_keep HI4.out hb6)
          have HSq := Lib.hid (HS4.out.keep hb6)
          have HDq := Lib.hid (HD4.out.keep hb6)
          have HGq := Lib.hid (grown_below HG4.out hb6)
          have HRq := Lib.hid (HR4.out.below hb6)
          have HBl : Hid (∀ a, x6.A = some a → v.ownBlock ≠ some a.block ∧ a.block < w6.heap.size ∧ w.heap.size ≤ a.block) := Lib.hid (fun a ha => by
            have h1 := hx6 a ha
            exact ⟨fun e => by have := HVb.out _ e; omega, h1.2, by omega⟩)
          obtain ⟨A6, N6, c6, ss6, p6⟩ := x6
          have HWr : Hid (WrIn w6 w6.heap.size ⟨A6, N6, c6, ss6, p6⟩) := Lib.hid hW6
          have K6 := Blk.new w6 36 #[.slice A6 N6 c6, .int .i64 p6]
          obtain ⟨k60, k61, _, _⟩ := K6.two
          dsimp only at HBl
          clear hA6 hb6 hW6 hx6 HWf HO4 HI4 HS4 HD4 HG4 HR4 y0 c0 K6
          dsimp only
          have hal6 : Below w6.heap.size w6 ((w6.alloc (.cells #[.slice A6 N6 c6, .int .i64 p6] 36)).alloc (.cells #[.slice A6 N6 c6, .int .i64 p6] 36)) := ((Below.refl _ _).alloc (Nat.le_refl _) _).alloc (by simp) _
          have hsa6 := hal6.size
          have hzq := HGq.out.size
          have HOa : Hid (((w6.alloc (.cells #[.slice A6 N6 c6, .int .i64 p6] 36)).alloc (.cells #[.slice A6 N6 c6, .int .i64 p6] 36)).ownsRow w.heap.size 36 2 v ys.length (ys.flatMap wrC)) := Lib.hid (ownG_keep HOq.out.1.1 hal6)
          have HRow : Hid (Row ((w6.alloc (.cells #[.slice A6 N6 c6, .int .i64 p6] 36)).alloc (.cells #[.slice A6 N6 c6, .int .i64 p6] 36)) (w6.heap.size + 2) (some ⟨w6.heap.size + 1, 0, none⟩) 1 2 [.slice A6 N6 c6, .int .i64 p6]) := Lib.hid (by have h := rowNewSt (w6.alloc (.cells #[.slice A6 N6 c6, .int .i64 p6] 36)) (.slice A6 N6 c6) (.int .i64 p6) 36; simp only [World.size_alloc] at h; exact h)
          go_wp2_with (at_builtin; refine wpList_append_any _ rfl (.tmp 52) (.tmp 54) _ rfl w.heap.size 36 i0 _ 2 32 Tryd.underlying23 hi hz0 hz1 hz2 rfl (by omega) v ys.length (ys.flatMap wrC) rfl HOa.out (w6.heap.size + 2) (some ⟨w6.heap.size + 1, 0, none⟩) 1 1 [.slice A6 N6 c6, .int .i64 p6] rfl HRow.out (by simp [Value.oneCell']) (by unfold maxLen; omega) (by omega) (by simp; omega) ?_; intro v7 w7 hown7 hg7 hat7)
          have HO7 : Hid (LnOwn w7 w.heap.size v7 (ys ++ [⟨A6, N6, c6, ss6, p6⟩])) := Lib.hid (LnOwn.push (HOq.out.keep hal6) (HWr.out.keep hal6) (fun a ha => ⟨(HBl.out a ha).1, Nat.lt_of_lt_of_le (HBl.out a ha).2.1 hsa6, (HBl.out a ha).2.2⟩) hown7 hg7 hat7)
          have HI7 : Hid (NatOwn w7 w.heap.size (.slice (some ⟨g2, 0, none⟩) M c2) is) := Lib.hid (ownG_congr (ownG_keep HIq.out hal6) (fun z hz => hg7.block z (Nat.lt_of_lt_of_le (ownG_lt HIq.out hz) hsa6) (fun e => HNb.out z hz e.symm)))
          have HN7 : Hid (∀ q, (Value.slice (some ⟨g2, 0, none⟩) M c2).ownBlock = some q → v7.ownBlock ≠ some q) := Lib.hid (fun z hz e => by
            rcases hat7 with e2 | e2
            · exact HNb.out z hz (e2.symm.trans e)
            · have := ownG_lt HIq.out hz
              rw [e2] at e
              injection e with e
              omega)
          have HS7 : Hid (SyOwn w7 B0 (.slice A n c) xs) := Lib.hid ⟨ownG_congr (HSq.out.keep hal6).1 (fun z hz => hg7.block z (Nat.lt_of_lt_of_le (ownG_lt HSq.out.1 hz) hsa6) (fun e => by have h1 := ownG_base HOq.out.1.1 e.symm; have h2 := HSb.out z hz; omega)), HSq.out.2⟩
          have HD7 : Hid (DcOwn w7 B0 (.slice (some ⟨b, off, none⟩) n' c') ws) := Lib.hid ⟨ownG_congr (HDq.out.keep hal6).1 (fun z hz => hg7.block z (Nat.lt_of_lt_of_le (ownG_lt HDq.out.1 hz) hsa6) (fun e => by have h1 := ownG_base HOq.out.1.1 e.symm; have h2 := HDb.out z hz; omega)), HDq.out.2⟩
          have HG7 : Hid (w.grownBy w7 (some g)) := Lib.hid (own_after' (grown_below HGq.out hal6) hg7 (fun q hq => ownG_base HOq.out.1.1 hq))
          have HR7 : Hid (RdIn w7 B g (lim + 1 + 120 * (k + 1))) := Lib.hid (((HRq.out.below hal6).far hg7 (fun q hq => by have := ownG_base HOq.out.1.1 hq; exact ⟨by omega, by omega⟩) (by omega)).more (by omega))
          have HY7 : Hid ((ys ++ [(⟨A6, N6, c6, ss6, p6⟩ : Wr)]).length = k + 1) := Lib.hid (by rw [List.length_append, HY.out]; rfl)
          clear hown7 hg7 hat7 HOa HRow
          go_wp2
          go_roundw
          case rel => exact ⟨k + 1, _, _, by omega, by go_num, rfl, HY7, HO7, HI7, HN7, HS7, HD7, HG7, HR7⟩
          case measure => simp [intOf]; omega
    · obtain rfl : k = N := by omega
      have HR1 := Lib.hid (HR.out.more (show lim + 1 + 120 * k ≤ lim + 600 by omega))
      obtain ⟨A3, c3, rfl, hc3, hm3⟩ := ownG_form HO.out.1.1
      have hY4 : ys.length ≤ 4 := by have := HY.out; omega
      clear HR
      go_wp2
      go_returns
      exact ⟨A3, ys.length, c3, ys, rfl, hY4, rfl, HO.out, HG.out, HR1.out⟩
end Go.Proofs.YtppjjbjjbmodbaaDoor
