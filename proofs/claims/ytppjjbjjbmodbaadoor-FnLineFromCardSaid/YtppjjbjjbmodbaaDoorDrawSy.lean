/-
  The reader draws systems. Conditions: as for pick.
-/
import Derived.Test.YtppjjbjjbmodbaaDoorDrawWd
import Derived.Test.YtppjjbjjbmodbaaDoorSysS3
import Derived.Deep.RegionHeld3
namespace Go.Proofs.YtppjjbjjbmodbaaDoor
open Go.ChangeShapes Go.WideShapes Go.ChangeAt Go.RowKit
set_option maxRecDepth 100000
set_option linter.unusedSimpArgs false

theorem grown_below {a w w' : World} {g : Nat} (h : a.grownBy w (some g)) (hb : Below w.heap.size w w') : a.grownBy w' (some g) :=
  ⟨hb.os.trans h.os, hb.tape.trans h.tape, hb.output.trans h.output, Nat.le_trans h.size hb.size, fun i hi hne => (hb.block i (Nat.lt_of_lt_of_le hi h.size)).trans (h.block i hi hne)⟩
theorem ownG_only {w w' : World} {B g sz n : Nat} {t : TypeId} {v : Value} {xs : List Value} (h : w.ownsRow B t sz v n xs) (hg : w.grownBy w' (some g)) (hB : g < B) : w'.ownsRow B t sz v n xs :=
  ownG_congr h fun b hb => hg.block b (ownG_lt h hb) (fun e => by injection e with e; have := ownG_base h hb; omega)
theorem StrsAt.only {w w' : World} {b g : Nat} {ss : List ByteArray} (h : StrsAt w b ss) (hg : w.grownBy w' (some g)) (hne : b ≠ g) : StrsAt w' b ss := fun k s hk => ocell hg (h k s hk) hne
theorem StrsAt.keep {w w' : World} {b : Nat} {ss : List ByteArray} (h : StrsAt w b ss) (hb : Below w.heap.size w w') : StrsAt w' b ss := fun k s hk => kcell hb (h k s hk)
/-- A sign as it is drawn. -/
def SmSg (x : Sg) : Prop := x.l.length ≤ 40 ∧ SmallS x.st
def SyOwn (w : World) (B : Nat) (v : Value) (xs : List Sg) : Prop := SgOwn w B v xs ∧ ∀ x ∈ xs, SmSg x
theorem SyOwn.only {w w' : World} {B g : Nat} {v : Value} {xs : List Sg} (h : SyOwn w B v xs) (hg : w.grownBy w' (some g)) (hB : g < B) : SyOwn w' B v xs := ⟨ownG_only h.1 hg hB, h.2⟩
theorem SyOwn.keep {w w' : World} {B : Nat} {v : Value} {xs : List Sg} (h : SyOwn w B v xs) (hb : Below w.heap.size w w') : SyOwn w' B v xs := ⟨ownG_keep h.1 hb, h.2⟩
theorem SyOwn.low {w : World} {B B' : Nat} {v : Value} {xs : List Sg} (h : SyOwn w B v xs) (hB : B' ≤ B) : SyOwn w B' v xs := ⟨ownG_mono h.1 hB, h.2⟩
theorem SyOwn.reads {w : World} {B n c : Nat} {A : Option Addr} {xs : List Sg} (h : SyOwn w B (.slice A n c) xs) (hn : xs.length = n) : SgsIn w w.heap.size A n c xs :=
  SgOwn.reads h.1 hn (fun x hx => (h.2 x hx).2.good)
theorem SyOwn.letter {w : World} {B gb c : Nat} {x : Sg} {r : List Sg} {l : List UInt8} (h : SyOwn w B (.slice (some ⟨gb, 0, none⟩) (r.length + 1) c) (x :: r)) (hl : l.length ≤ 40) :
    SyOwn (w.setCell ⟨gb, 0, none⟩ (.string (mkStr l))) B (.slice (some ⟨gb, 0, none⟩) (r.length + 1) c) (⟨l, x.st⟩ :: r) := by
  refine ⟨own_set (j := 0) (u := .string (mkStr l)) h.1 rfl, fun y hy => ?_⟩
  rcases List.mem_cons.1 hy with rfl | hy
  · exact ⟨hl, (h.2 x (by simp)).2⟩
  · exact h.2 y (by simp [hy])
theorem SyOwn.size0 {w : World} {B gb c : Nat} {x : Sg} {r : List Sg} (h : SyOwn w B (.slice (some ⟨gb, 0, none⟩) (r.length + 1) c) (x :: r)) :
    SyOwn (w.setCell ⟨gb, 2, none⟩ (.int .i64 0)) B (.slice (some ⟨gb, 0, none⟩) (r.length + 1) c) (⟨x.l, ⟨x.st.dir, 0⟩⟩ :: r) := by
  refine ⟨own_set (j := 2) (u := .int .i64 0) h.1 rfl, fun y hy => ?_⟩
  rcases List.mem_cons.1 hy with rfl | hy
  · have := h.2 x (by simp)
    exact ⟨this.1, this.2.1, this.2.2.1, by simp, by simp⟩
  · exact h.2 y (by simp [hy])
theorem SyOwn.cells {w : World} {B gb c : Nat} {x : Sg} {r : List Sg} (h : SyOwn w B (.slice (some ⟨gb, 0, none⟩) (r.length + 1) c) (x :: r)) :
    (w.cell? ⟨gb, 0, none⟩ = some (.string (mkStr x.l)) ∧ w.frozen? ⟨gb, 0, none⟩ = false) ∧ (w.cell? ⟨gb, 1, none⟩ = some (.int .i64 x.st.dir) ∧ w.frozen? ⟨gb, 1, none⟩ = false) ∧ (w.cell? ⟨gb, 2, none⟩ = some (.int .i64 x.st.size) ∧ w.frozen? ⟨gb, 2, none⟩ = false) :=
  ⟨own_cell h.1 rfl rfl, own_cell h.1 rfl rfl, own_cell h.1 rfl rfl⟩
def SysBoth (w' : World) (B : Nat) (ys : List Sg) (e : Ending) : Prop :=
  ∃ A n c ok, e = .returned (.tuple #[.slice A n c, .bool ok]) ∧ (ok = true → n = ys.length ∧ SgOwn w' B (.slice A n c) ys)
theorem SysAns.both {w' : World} {B : Nat} {ys : List Sg} {e : Ending} (h : SysAns w' B ys e) : SysBoth w' B ys e := by
  rcases h with ⟨_, A, c, rfl, _⟩ | ⟨_, A, c, rfl, h⟩
  · exact ⟨A, 0, c, false, rfl, nofun⟩
  · exact ⟨A, _, c, true, rfl, fun _ => ⟨rfl, h⟩⟩
/-- What l91System answers. -/
def DrawnSys (B g lim : Nat) (w : World) (e : Ending) (w' : World) : Prop :=
  ∃ A n c xs, xs.length = n ∧ n ≤ 7 ∧ e = .returned (.slice A n c) ∧ SyOwn w' w.heap.size (.slice A n c) xs ∧ w.grownBy w' (some g) ∧ RdIn w' B g (lim + 20)
def sysL : List ByteArray := [⟨#[98]⟩, ⟨#[100]⟩, ⟨#[116]⟩, ⟨#[110]⟩, ⟨#[115]⟩, ⟨#[114]⟩]
theorem sysL_at {k : Nat} (hk : k < 6) : ∃ s : List UInt8, sysL[k]? = some (mkStr s) ∧ s.length ≤ 40 := by
  match k, hk with
  | 0, _ => exact ⟨[98], rfl, by decide⟩
  | 1, _ => exact ⟨[100], rfl, by decide⟩
  | 2, _ => exact ⟨[116], rfl, by decide⟩
  | 3, _ => exact ⟨[110], rfl, by decide⟩
  | 4, _ => exact ⟨[115], rfl, by decide⟩
  | 5, _ => exact ⟨[114], rfl, by decide⟩

set_option maxHeartbeats 1600000 in
theorem l91System (g B lim : Nat) (w : World) (hl : lim ≤ 800000000) (hr : RdIn w B g lim) (hBw : B ≤ w.heap.size) :
    Calls Tryd.prog 41 #[.pointer (some ⟨g, 0, none⟩)] w (DrawnSys B g lim w) := by
  obtain ⟨i0, hi, hz0, hz1, hz2⟩ := info_parts infoSg
  have hg0 := hr.lt
  have HP := Lib.hid (fun o o' => pickR (n := 7) ((hr.alloc' o).alloc' o') (by omega) (by omega) (by omega))
  clear hr
  go_enter Tryd.func41, Tryd.ntmps41
  go_wp2_with fail
  refine (HP.out _ _).mono ?_
  rintro e w1 ⟨N, rfl, hN', hg1, hr1⟩
  have hN : N ≤ 6 := by omega
  have HG1 := Lib.hid (only_next (only_alloc (World.grownBy_alloc w _ _) _) hg1)
  have HO1 : Hid (SyOwn w1 w.heap.size (.slice (some ⟨w.heap.size, 0, none⟩) 0 0) []) := Lib.hid (SyOwn.only ⟨World.ownsRow.alloc (SgOwn.made w) _, by simp⟩ hg1 hg0)
  have ht1 := (StrsAt.new (w.alloc (.cells #[] 96)) sysL _ 9 rfl).only hg1 (by simp; omega)
  simp only [World.size_alloc] at ht1
  have HT1 := Lib.hid ht1
  have HR1 := Lib.hid hr1
  clear hN' hg1 hr1 ht1 HP
  go_wp2
  go_loopw [3, 6] (fun v i wr => ∃ (k : Nat) (xs : List Sg), k ≤ N ∧ i = .int .i64 k ∧ Hid (xs.length ≤ k) ∧ Hid (SyOwn wr w.heap.size v xs) ∧ Hid (StrsAt wr (w.heap.size + 1) sysL) ∧ Hid (w.grownBy wr (some g)) ∧ Hid (RdIn wr B g (lim + 1 + 2 * k))) (fun _ i _ => N - (intOf i).toNat)
  case atStart => exact ⟨0, [], Nat.zero_le _, rfl, Lib.hid (Nat.le_refl _), HO1, HT1, HG1, HR1⟩
  case round =>
    obtain ⟨k, xs, hk, rfl, HX, HO, HT, HG, HR⟩ := hrel
    by_cases hlt : k < N
    · obtain ⟨A3, c3, rfl, hc3, hm3⟩ := ownG_form HO.out.1
      have hx6 : xs.length ≤ 6 := by have := HX.out; omega
      obtain ⟨s, hs, hs40⟩ := sysL_at (k := k) (by omega)
      have c0 : wr.drew.cell? ⟨w.heap.size + 1, k, none⟩ = some (.string (mkStr s)) := HT.out k _ hs
      have i1 : (0 : Int) ≤ (k : Int) := by omega
      have i2 : (k : Int) < 6 := by omega
      have HP1 := Lib.hid (pickR (n := 8) HR.out.drew' (by omega) (by omega) (by omega))
      have HGd := Lib.hid (grown_drew HG.out)
      have HOd : Hid (SyOwn wr.drew w.heap.size (.slice A3 xs.length c3) xs) := Lib.hid HO.out
      have HTd : Hid (StrsAt wr.drew (w.heap.size + 1) sysL) := Lib.hid HT.out
      have hne : w.heap.size + 1 ≠ g := by omega
      generalize hM : xs.length = M at *
      have HM := Lib.hid hM
      clear hs hM HO HT HG HR
      go_wp2_with fail
      go_region_held3 (fun w' => w'.cell? ⟨w.heap.size + 1, k, none⟩ = some (.string (mkStr s))) (first | assumption | go_keep)
        (first
          | (go_at_call_of 25 (Value.int IntKind.i64 8); refine HP1.out.mono ?_; rintro e w3 ⟨d, rfl, hd, hg3, hr3⟩; have c3' := ocell hg3 c0 hne; have HG3 := Lib.hid (only_next HGd.out hg3); have HO3 := Lib.hid (HOd.out.only hg3 hg0); have HT3 := Lib.hid (HTd.out.only hg3 hne); have HP3 := Lib.hid (pickR (n := 3) hr3 (by omega) (by omega) (by omega)); clear hg3 hr3)
          | (go_at_call_of 25 (Value.int IntKind.i64 3); refine HP3.out.mono ?_; rintro e w4 ⟨z, rfl, hz, hg4, hr4⟩; have c4' := ocell hg4 c3' hne; have HG4 := Lib.hid (only_next HG3.out hg4); have HO4 := Lib.hid (HO3.out.only hg4 hg0); have HT4 := Lib.hid (HT3.out.only hg4 hne); have HR4 := Lib.hid hr4; have hwz : IntKind.i64.wrap (1 + (z : Int)) = 1 + (z : Int) := IntWalk.i64_in _ (by omega); have HSm : Hid (SmSg ⟨s, ⟨d, 1 + z⟩⟩) := Lib.hid ⟨hs40, by unfold SmallS; dsimp only; omega⟩; have HSA := Lib.hid (specSystemAdd A3 M c3 xs s d (1 + z) w4 (by omega) (fun x hx => (by rcases List.mem_append.1 hx with h | h; exact (HO4.out.2 x h).2.good; rw [List.mem_singleton] at h; subst h; exact HSm.out.2.good)) (HO4.out.reads HM.out)); clear hg4 hr4)
          | (go_at_call 58; refine HSA.out.mono ?_; rintro e w5 ⟨hA, hb5⟩; obtain ⟨A5, n5, c5, ok, rfl, hok⟩ := hA.both; have c5' := kcell hb5 c4'; have HOK := Lib.hid hok; have HB5 := Lib.hid hb5; clear hok hA hb5))
      clear c0 c3' c4' c5' hwz HP1 HP3 HSA HGd HOd HTd HG3 HO3 HT3
      have HG5 := Lib.hid (grown_below HG4.out HB5.out)
      have HO5 := Lib.hid (HO4.out.keep HB5.out)
      have HT5 := Lib.hid (HT4.out.keep HB5.out)
      have HR5 : Hid (RdIn w5 B g (lim + 1 + 2 * (k + 1))) := Lib.hid (HR4.out.below HB5.out)
      have HZ4 := Lib.hid HG4.out.size
      cases ok with
      | false =>
        go_wp2
        go_roundw
        case rel => exact ⟨k + 1, xs, by omega, by go_num, Lib.hid (by have := HX.out; rw [HM.out]; omega), HO5, HT5, HG5, HR5⟩
        case measure => simp [intOf]; omega
      | true =>
        obtain ⟨hn5, hS5⟩ := HOK.out rfl
        have HO6 : Hid (SyOwn w5 w.heap.size (.slice A5 n5 c5) (xs ++ [⟨s, ⟨d, 1 + z⟩⟩])) := Lib.hid ⟨ownG_mono hS5 HZ4.out, fun x hx => by
          rcases List.mem_append.1 hx with h | h
          · exact HO4.out.2 x h
          · rw [List.mem_singleton] at h; subst h; exact HSm.out⟩
        clear hn5 hS5
        go_wp2
        go_roundw
        case rel => exact ⟨k + 1, _, by omega, by go_num, Lib.hid (by have := HX.out; rw [List.length_append, HM.out]; simp; omega), HO6, HT5, HG5, HR5⟩
        case measure => simp [intOf]; omega
    · obtain rfl : k = N := by omega
      have HR1 := Lib.hid (HR.out.more (show lim + 1 + 2 * k ≤ lim + 13 by omega))
      have hz := HG.out.size
      clear hlt HR HT
      cases xs with
      | nil =>
        obtain ⟨A3, c3, rfl, hc3, hm3⟩ := ownG_form HO.out.1
        have HO3 : Hid (SyOwn wr w.heap.size (.slice A3 0 c3) []) := HO
        have HR2 := Lib.hid (HR1.out.more (show lim + 13 ≤ lim + 20 by omega))
        have hl0 : (List.length ([] : List Sg)) = 0 := rfl
        go_wp2
        go_returns
        exact ⟨A3, 0, c3, [], rfl, by omega, rfl, HO3.out, HG.out, HR2.out⟩
      | cons x r =>
        obtain ⟨gb, c3, rfl, hgb, hkc, hcm, _⟩ := own_some HO.out.1 (show 0 < (x :: r).length by simp)
        have hr5 : r.length ≤ 5 := by have := HX.out; simp at this; omega
        have HO3 : Hid (SyOwn wr w.heap.size (.slice (some ⟨gb, 0, none⟩) (r.length + 1) c3) (x :: r)) := HO
        have HP := Lib.hid (pickR (n := 40) HR1.out (by omega) (by omega) (by omega))
        have hpos : 0 < r.length + 1 := by omega
        clear HO
        go_wp2_with fail
        refine HP.out.mono ?_
        rintro e w3 ⟨m, rfl, hm, hg3, hr3⟩
        have HG4 := Lib.hid (only_next HG.out hg3)
        have HO4 := Lib.hid (HO3.out.only hg3 hg0)
        have HR4 := Lib.hid hr3
        have hz4 := HG4.out.size
        clear hg3 hr3 HP HG HO3 HR1
        by_cases h0 : m = 0
        · subst h0
          have HOf := Lib.hid (fun cs t h => ofNew g B (lim + 13 + 1) 4 [⟨#[97]⟩, ⟨#[]⟩, ⟨#[98, 98]⟩, ⟨#[66]⟩] cs t w3 h rfl (by omega) (by omega) (by decide) (by omega) HR4.out)
          go_wp2_with fail
          refine (HOf.out _ _ rfl).mono ?_
          rintro e w5 ⟨l, hl5, rfl, hg5, hr5'⟩
          have hO5 := HO4.out.only hg5 hg0
          have HO6 : Hid (SyOwn w5 w.heap.size (.slice (some ⟨gb, 0, none⟩) (r.length + 1) c3) (x :: r)) := Lib.hid hO5
          obtain ⟨⟨k0, f0⟩, _, _⟩ := HO6.out.cells
          have HO7 : Hid (SyOwn (w5.setCell ⟨gb, 0, none⟩ (.string (mkStr l))) w.heap.size (.slice (some ⟨gb, 0, none⟩) (r.length + 1) c3) (⟨l, x.st⟩ :: r)) := Lib.hid (HO6.out.letter hl5)
          have HG7 := Lib.hid (only_setCell (only_next HG4.out hg5) (p := ⟨gb, 0, none⟩) (.inr hgb) (.string (mkStr l)))
          have HR7 := Lib.hid ((hr5'.set' (p := ⟨gb, 0, none⟩) (by simp; omega) (by simp; omega) (.string (mkStr l))).more (show lim + 13 + 1 + 1 ≤ lim + 20 by omega))
          clear hg5 hr5' hO5 HO6 HOf HG4 HO4 HR4
          go_wp2
          go_returns
          exact ⟨_, r.length + 1, c3, _, by simp, by omega, rfl, HO7.out, HG7.out, HR7.out⟩
        have e0 : ((m : Int) == 0) = false := by simpa using h0
        have HR5 := Lib.hid (HR4.out.more (show lim + 13 + 1 ≤ lim + 20 by omega))
        have HO6 : Hid (SyOwn w3 w.heap.size (.slice (some ⟨gb, 0, none⟩) (r.length + 1) c3) (x :: r)) := Lib.hid HO4.out
        obtain ⟨⟨k0, f0⟩, ⟨k1, f1⟩, ⟨k2, f2⟩⟩ := HO6.out.cells
        by_cases h1 : m = 1
        · subst h1
          have HOw : Hid (w3.ownsRow w.heap.size 96 3 (.slice (some ⟨gb, 0, none⟩) (r.length + 1) c3) (r.length + 1) ((x :: r).flatMap sgC)) := Lib.hid (by have := HO4.out.1; unfold SgOwn at this; rw [List.length_cons] at this; exact this)
          clear HO6
          go_wp2_with (at_builtin; refine wpList_append_any _ rfl (.tmp 51) (.tmp 55) _ rfl w.heap.size 96 i0 _ 3 32 Tryd.underlying47 hi hz0 hz1 hz2 rfl (by omega) _ (r.length + 1) ((x :: r).flatMap sgC) rfl (HOw.out.alloc _) (w3.heap.size + 1) (some ⟨w3.heap.size, 0, none⟩) 1 1 [.string (mkStr x.l), .int .i64 x.st.dir, .int .i64 x.st.size] rfl (rowNewSg _ _ _ _ _) (by simp [Value.oneCell']) (by unfold maxLen; omega) (by omega) (by simp; omega) ?_; intro v4 w4 hown4 hg4 hat4)
          obtain ⟨A4, c4, rfl, hc4, hm4⟩ := ownG_form hown4
          have HO7 : Hid (SyOwn w4 w.heap.size (.slice A4 (r.length + 1 + 1) c4) ((x :: r) ++ [x])) := Lib.hid ⟨by unfold SgOwn; rw [List.length_append, List.length_cons, List.flatMap_append]; exact hown4, fun y hy => by
            rcases List.mem_append.1 hy with h | h
            · exact HO4.out.2 y h
            · rw [List.mem_singleton] at h; subst h; exact HO4.out.2 y (by simp)⟩
          have HG7 := Lib.hid (own_after' (only_next HG4.out (World.grownBy_alloc w3 _ _)) hg4 (fun q hq => ownG_base HOw.out hq))
          have HR7 := Lib.hid ((HR5.out.alloc' _).far hg4 (fun q hq => by have := ownG_base HOw.out hq; exact ⟨by omega, by omega⟩) (by simp; omega))
          clear hown4 hg4 hat4
          go_wp2
          go_returns
          exact ⟨_, r.length + 1 + 1, c4, _, by simp, by omega, rfl, HO7.out, HG7.out, HR7.out⟩
        have e1 : ((m : Int) == 1) = false := by simp; omega
        by_cases h2 : m = 2
        · subst h2
          have HO7 : Hid (SyOwn (w3.setCell ⟨gb, 2, none⟩ (.int .i64 0)) w.heap.size (.slice (some ⟨gb, 0, none⟩) (r.length + 1) c3) (⟨x.l, ⟨x.st.dir, 0⟩⟩ :: r)) := Lib.hid HO6.out.size0
          have HG7 := Lib.hid (only_setCell HG4.out (p := ⟨gb, 2, none⟩) (.inr hgb) (.int .i64 0))
          have HR7 := Lib.hid (HR5.out.set' (p := ⟨gb, 2, none⟩) (by simp; omega) (by simp; omega) (.int .i64 0))
          clear HO6 HG4 HO4 HR4 HR5
          go_wp2
          go_returns
          exact ⟨_, r.length + 1, c3, _, by simp, by omega, rfl, HO7.out, HG7.out, HR7.out⟩
        have e2 : ((m : Int) == 2) = false := by simp; omega
        clear HO6
        go_wp2
        go_returns
        exact ⟨_, r.length + 1, c3, _, by simp, by omega, rfl, HO4.out, HG4.out, HR5.out⟩
end Go.Proofs.YtppjjbjjbmodbaaDoor
