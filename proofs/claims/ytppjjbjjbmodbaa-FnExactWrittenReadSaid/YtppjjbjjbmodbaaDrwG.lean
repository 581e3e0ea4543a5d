/-
  The reader draws words. Conditions: as for pick.
  The reader draws systems. Conditions: as for pick.
  The reader draws dictionaries, and both lists. Conditions: as for pick.
  l91Written draws a written form. Conditions: as for pick.
  The reader draws lines of writing. Conditions: as for pick.
  DrawLineValid, DrawLineText, DrawLineFrom. Conditions: none.
-/
import Derived.Test.YtppjjbjjbmodbaaDrawO2
import Derived.Test.YtppjjbjjbmodbaaSysG
import Derived.Deep.RegionHeld3
import Derived.Test.YtppjjbjjbmodbaaDicW
namespace Go.Proofs.Ytppjjbjjbmodbaa
open Go.ChangeShapes Go.WideShapes Go.ChangeAt Go.RowKit
set_option maxRecDepth 100000
set_option linter.unusedSimpArgs false

/-- A text of a fresh table. -/
theorem ofNew (g B lim n : Nat) (ss : List ByteArray) (cs : Array Value) (t : TypeId) (w : World) (hcs : cs = (ss.map Value.string).toArray) (hn : n = ss.length) (hn0 : 0 < n) (hn1 : n ≤ 1000) (hss : ∀ s ∈ ss, s.size ≤ 40) (hl : lim ≤ 1000000000) (hr : RdIn w B g lim) :
    Calls Try.prog 77 #[.pointer (some ⟨g, 0, none⟩), .slice (some ⟨w.heap.size, 0, none⟩) n n] (w.alloc (.cells cs t)) fun e w' => ∃ l : List UInt8, l.length ≤ 40 ∧ e = .returned (.string (mkStr l)) ∧ w.grownBy w' (some g) ∧ RdIn w' B g (lim + 1) := by
  have hg := hr.lt
  refine (pickOf w.heap.size g B lim n n ss _ hn hn0 hn1 hl (hr.alloc' _) (StrsAt.new w _ _ _ hcs) (by omega)).mono ?_
  rintro e w' ⟨s, hs, rfl, h1, h2⟩
  exact ⟨s.data.toList, by have := hss s hs; simpa using this, by rw [mkStr_self], only_next (World.grownBy_alloc w _ _) h1, h2⟩

/-- What l91Word answers. -/
def DrawnWord (B g lim : Nat) (w : World) (e : Ending) (w' : World) : Prop :=
  ∃ l : List UInt8, l.length ≤ 1000 ∧ e = .returned (.string (mkStr l)) ∧ w.grownBy w' (some g) ∧ RdIn w' B g (lim + 20)

set_option maxHeartbeats 800000 in
theorem l91Word (g B lim : Nat) (w : World) (hl : lim ≤ 800000000) (hr : RdIn w B g lim) :
    Calls Try.prog 44 #[.pointer (some ⟨g, 0, none⟩)] w (DrawnWord B g lim w) := by
  have HP := Lib.hid (pickR (n := 40) hr (by omega) (by omega) (by omega))
  clear hr
  go_enter Try.func44, Try.ntmps44
  go_wp2_with fail
  refine HP.out.mono ?_
  rintro e w1 ⟨m, rfl, hm, hg1, hr1⟩
  clear HP
  by_cases h0 : m = 0
  · subst h0
    have HO := Lib.hid (fun cs t h => ofNew g B (lim + 1) 4 [⟨#[]⟩, ⟨#[65]⟩, ⟨#[97, 49]⟩, ⟨#[97, 98, 99, 100, 101, 102, 103, 104, 105, 106, 107, 108, 109]⟩] cs t w1 h rfl (by omega) (by omega) (by decide) (by omega) hr1)
    have HG1 := Lib.hid hg1
    clear hr1 hg1
    go_wp2_with fail
    refine (HO.out _ _ rfl).mono ?_
    rintro e w2 ⟨l, hl2, rfl, hg2, hr2⟩
    have HG := Lib.hid (only_next HG1.out hg2)
    have HR := Lib.hid (hr2.more (show lim + 1 + 1 ≤ lim + 20 by omega))
    clear hg2 hr2 HO HG1
    go_wp2
    go_ret
    exact ⟨l, by omega, rfl, HG.out, HR.out⟩
  · have e0 : ((m : Int) == 0) = false := by simpa using h0
    have HP := Lib.hid (pickR (n := 3) hr1 (by omega) (by omega) (by omega))
    have HG1 := Lib.hid hg1
    clear hr1 hg1
    go_wp2_with fail
    refine HP.out.mono ?_
    rintro e w2 ⟨N, rfl, hN, hg2, hr2⟩
    have HG := Lib.hid (only_next HG1.out hg2)
    have HR := Lib.hid hr2
    clear hg2 hr2 HP HG1 e0
    go_wp2
    go_loopw [3, 5] (fun s i wr => ∃ (k : Nat) (l : List UInt8), k ≤ 1 + N ∧ i = .int .i64 k ∧ s = .string (mkStr l) ∧ l.length ≤ 80 * k ∧ Hid (w.grownBy wr (some g)) ∧ Hid (RdIn wr B g (lim + 2 + 2 * k))) (fun _ i _ => 1 + N - (intOf i).toNat)
    case atStart => exact ⟨0, [], Nat.zero_le _, rfl, rfl, by simp, HG, HR⟩
    case round =>
      obtain ⟨k, l, hk, rfl, rfl, hll, hG, hR⟩ := hrel
      by_cases hlt : k < 1 + N
      · have hlt' : (k : Int) < 1 + (N : Int) := by omega
        have HO := Lib.hid (fun cs t h => ofNew g B (lim + 2 + 2 * k) 6 [⟨#[98]⟩, ⟨#[100]⟩, ⟨#[116]⟩, ⟨#[110]⟩, ⟨#[110, 110]⟩, ⟨#[115]⟩] cs t wr h rfl (by omega) (by omega) (by decide) (by omega) hR.out)
        go_wp2_with fail
        refine (HO.out _ _ rfl).mono ?_
        rintro e w3 ⟨l3, hl3, rfl, hg3, hr3⟩
        have HG3 := Lib.hid (only_next hG.out hg3)
        have HO := Lib.hid (fun cs t h => ofNew g B (lim + 2 + 2 * k + 1) 5 [⟨#[97]⟩, ⟨#[101]⟩, ⟨#[105]⟩, ⟨#[]⟩, ⟨#[111]⟩] cs t w3 h rfl (by omega) (by omega) (by decide) (by omega) hr3)
        have ha1 := fun W => run_add (P := Try.prog) l l3 (by omega) W
        clear hg3 hr3 hG hR
        go_wp2_with fail
        refine (HO.out _ _ rfl).mono ?_
        rintro e w4 ⟨l4, hl4, rfl, hg4, hr4⟩
        have HG4 := Lib.hid (only_next HG3.out hg4)
        have HR4 : Hid (RdIn w4 B g (lim + 2 + 2 * (k + 1))) := Lib.hid hr4
        have ha2 := fun W => run_add (P := Try.prog) (l ++ l3) l4 (by rw [List.length_append]; omega) W
        clear hg4 hr4 HG3 HO ha1
        go_wp2
        go_roundw
        case rel => exact ⟨k + 1, l ++ (l3 ++ l4), by omega, by go_num, rfl, by rw [List.length_append, List.length_append]; omega, HG4, HR4⟩
        case measure => simp [intOf]; omega
      · obtain rfl : k = 1 + N := by omega
        have hlt' : ¬ (((1 + N : Nat) : Int) < 1 + (N : Int)) := by omega
        have HO := Lib.hid (fun cs t h => ofNew g B (lim + 2 + 2 * (1 + N)) 4 [⟨#[]⟩, ⟨#[97]⟩, ⟨#[]⟩, ⟨#[101]⟩] cs t wr h rfl (by omega) (by omega) (by decide) (by omega) hR.out)
        go_wp2_with fail
        refine (HO.out _ _ rfl).mono ?_
        rintro e w3 ⟨l3, hl3, rfl, hg3, hr3⟩
        have HG3 := Lib.hid (only_next hG.out hg3)
        have HR3 := Lib.hid (hr3.more (show lim + 2 + 2 * (1 + N) + 1 ≤ lim + 20 by omega))
        have ha1 := fun W => run_add (P := Try.prog) l3 l (by omega) W
        clear hg3 hr3 hG hR HO
        go_wp2
        go_ret
        exact ⟨l3 ++ l, by rw [List.length_append]; omega, rfl, HG3.out, HR3.out⟩

def IsBool (e : Ending) : Prop := ∃ b, e = .returned (.bool b)
set_option maxHeartbeats 400000 in
theorem l3Is (A : Option Addr) (n c : Nat) (ws : List (List UInt8)) (l : List UInt8) (w : World) (h : WdsIn w w.heap.size A n c ws) :
    Calls Try.prog 98 #[.slice A n c, .string (mkStr l)] w fun e w' => IsBool e ∧ w = w' := by
  have hm := h.2.2.1; have hnc := h.2.1
  unfold maxLen at hm
  have H := Lib.hid h
  clear h
  go_enter Try.func98, Try.ntmps98
  go_wp2
  go_loop [5] (fun i => ∃ k : Nat, k ≤ n ∧ i = .int .i64 k) (fun i => n - (intOf i).toNat)
  case atStart => exact ⟨0, Nat.zero_le _, rfl⟩
  case round =>
    obtain ⟨k, hk, rfl⟩ := hrel
    by_cases hlt : k < n
    · obtain ⟨b, off, rfl, hbB, c0⟩ := H.out.at_ hlt
      go_wp2
      · go_ret
        exact ⟨⟨true, rfl⟩, rfl⟩
      · go_round
        case rel => exact ⟨k + 1, by omega, by go_num⟩
        case measure => simp [intOf]; omega
    · go_wp2
      go_ret
      exact ⟨⟨false, rfl⟩, rfl⟩
end Go.Proofs.Ytppjjbjjbmodbaa

namespace Go.Proofs.Ytppjjbjjbmodbaa
open Go.ChangeShapes Go.WideShapes Go.ChangeAt Go.RowKit
set_option maxRecDepth 100000
set_option linter.unusedSimpArgs false

theorem grown_below {a w w' : World} {g : Nat} (h : a.grownBy w (some g)) (hb : Below w.heap.size w w') : a.grownBy w' (some g) :=
  ⟨hb.os.trans h.os, hb.tape.trans h.tape, hb.output.trans h.output, Nat.le_trans h.size hb.size, fun i hi hne => (hb.block i (Nat.lt_of_lt_of_le hi h.size)).trans (h.block i hi hne)⟩
theorem ownG_only {w w' : World} {B g sz n : Nat} {t : TypeId} {v : Value} {xs : List Value} (h : w.ownsRow B t sz v n xs) (hg : w.grownBy w' (some g)) (hB : g < B) : w'.ownsRow B t sz v n xs :=
  ownG_congr h fun b hb => hg.block b (ownG_lt h hb) (fun e => by injection e with e; have := ownG_base h hb; omega)
theorem StrsAt.only {w w' : World} {b g : Nat} {ss : List ByteArray} (h : StrsAt w b ss) (hg : w.grownBy w' (some g)) (hne : b ≠ g) : StrsAt w' b ss := fun k s hk => ocell hg (h k s hk) hne
theorem StrsAt.keep {w w' : World} {b : Nat} {ss : List ByteArray} (h : StrsAt w b ss) (hb : Below w.heap.size w w') : StrsAt w' b ss := fun k s hk => kcell hb (h k s hk)
/-- A sign as it is drawn. -/
def SmSg (x : Sg) : Prop := x.l.length ≤ 40 ∧ SmallS x.st
def SyOwn (w : World) (B : Nat) (v : Value) (xs : List Sg) : Prop := SgOwn w B v xs ∧ ∀ x ∈ xs, SmSg x
theorem SyOwn.only {w w' : World} {B g : Nat} {v : Value} {xs : List Sg} (h : SyOwn w B v xs) (hg : w.grownBy w' (some g)) (hB : g < B) : SyOwn w' B v xs := ⟨ownG_only h.1 hg hB, h.2⟩
theorem SyOwn.keep {w w' : World} {B : Nat} {v : Value} {xs : List Sg} (h : SyOwn w B v xs) (hb : Below w.heap.size w w') : SyOwn w' B v xs := ⟨ownG_keep h.1 hb, h.2⟩
theorem SyOwn.low {w : World} {B B' : Nat} {v : Value} {xs : List Sg} (h : SyOwn w B v xs) (hB : B' ≤ B) : SyOwn w B' v xs := ⟨ownG_mono h.1 hB, h.2⟩
theorem SyOwn.reads {w : World} {B n c : Nat} {A : Option Addr} {xs : List Sg} (h : SyOwn w B (.slice A n c) xs) (hn : xs.length = n) : SgsIn w w.heap.size A n c xs :=
  SgOwn.reads h.1 hn (fun x hx => (h.2 x hx).2.good)
theorem SyOwn.letter {w : World} {B gb c : Nat} {x : Sg} {r : List Sg} {l : List UInt8} (h : SyOwn w B (.slice (some ⟨gb, 0, none⟩) (r.length + 1) c) (x :: r)) (hl : l.length ≤ 40) :
    SyOwn (w.setCell ⟨gb, 0, none⟩ (.string (mkStr l))) B (.slice (some ⟨gb, 0, none⟩) (r.length + 1) c) (⟨l, x.st⟩ :: r) := by
  refine ⟨own_set (j := 0) (u := .string (mkStr l)) h.1 rfl, fun y hy => ?_⟩
  rcases List.mem_cons.1 hy with rfl | hy
  · exact ⟨hl, (h.2 x (by simp)).2⟩
  · exact h.2 y (by simp [hy])
theorem SyOwn.size0 {w : World} {B gb c : Nat} {x : Sg} {r : List Sg} (h : SyOwn w B (.slice (some ⟨gb, 0, none⟩) (r.length + 1) c) (x :: r)) :
    SyOwn (w.setCell ⟨gb, 2, none⟩ (.int .i64 0)) B (.slice (some ⟨gb, 0, none⟩) (r.length + 1) c) (⟨x.l, ⟨x.st.dir, 0⟩⟩ :: r) := by
  refine ⟨own_set (j := 2) (u := .int .i64 0) h.1 rfl, fun y hy => ?_⟩
  rcases List.mem_cons.1 hy with rfl | hy
  · have := h.2 x (by simp)
    exact ⟨this.1, this.2.1, this.2.2.1, by simp, by simp⟩
  · exact h.2 y (by simp [hy])
theorem SyOwn.cells {w : World} {B gb c : Nat} {x : Sg} {r : List Sg} (h : SyOwn w B (.slice (some ⟨gb, 0, none⟩) (r.length + 1) c) (x :: r)) :
    (w.cell? ⟨gb, 0, none⟩ = some (.string (mkStr x.l)) ∧ w.frozen? ⟨gb, 0, none⟩ = false) ∧ (w.cell? ⟨gb, 1, none⟩ = some (.int .i64 x.st.dir) ∧ w.frozen? ⟨gb, 1, none⟩ = false) ∧ (w.cell? ⟨gb, 2, none⟩ = some (.int .i64 x.st.size) ∧ w.frozen? ⟨gb, 2, none⟩ = false) :=
  ⟨own_cell h.1 rfl rfl, own_cell h.1 rfl rfl, own_cell h.1 rfl rfl⟩
def SysBoth (w' : World) (B : Nat) (ys : List Sg) (e : Ending) : Prop :=
  ∃ A n c ok, e = .returned (.tuple #[.slice A n c, .bool ok]) ∧ (ok = true → n = ys.length ∧ SgOwn w' B (.slice A n c) ys)
theorem SysAns.both {w' : World} {B : Nat} {ys : List Sg} {e : Ending} (h : SysAns w' B ys e) : SysBoth w' B ys e := by
  rcases h with ⟨_, A, c, rfl, _⟩ | ⟨_, A, c, rfl, h⟩
  · exact ⟨A, 0, c, false, rfl, nofun⟩
  · exact ⟨A, _, c, true, rfl, fun _ => ⟨rfl, h⟩⟩
/-- What l91System answers. -/
def DrawnSys (B g lim : Nat) (w : World) (e : Ending) (w' : World) : Prop :=
  ∃ A n c xs, xs.length = n ∧ n ≤ 7 ∧ e = .returned (.slice A n c) ∧ SyOwn w' w.heap.size (.slice A n c) xs ∧ w.grownBy w' (some g) ∧ RdIn w' B g (lim + 20)
def sysL : List ByteArray := [⟨#[98]⟩, ⟨#[100]⟩, ⟨#[116]⟩, ⟨#[110]⟩, ⟨#[115]⟩, ⟨#[114]⟩]
theorem sysL_at {k : Nat} (hk : k < 6) : ∃ s : List UInt8, sysL[k]? = some (mkStr s) ∧ s.length ≤ 40 := by
  match k, hk with
  | 0, _ => exact ⟨[98], rfl, by decide⟩
  | 1, _ => exact ⟨[100], rfl, by decide⟩
  | 2, _ => exact ⟨[116], rfl, by decide⟩
  | 3, _ => exact ⟨[110], rfl, by decide⟩
  | 4, _ => exact ⟨[115], rfl, by decide⟩
  | 5, _ => exact ⟨[114], rfl, by decide⟩

set_option maxHeartbeats 1600000 in
theorem l91System (g B lim : Nat) (w : World) (hl : lim ≤ 800000000) (hr : RdIn w B g lim) (hBw : B ≤ w.heap.size) :
    Calls Try.prog 74 #[.pointer (some ⟨g, 0, none⟩)] w (DrawnSys B g lim w) := by
  obtain ⟨i0, hi, hz0, hz1, hz2⟩ := info_parts infoSg
  have hg0 := hr.lt
  have HP := Lib.hid (fun o o' => pickR (n := 7) ((hr.alloc' o).alloc' o') (by omega) (by omega) (by omega))
  clear hr
  go_enter Try.func74, Try.ntmps74
  go_wp2_with fail
  refine (HP.out _ _).mono ?_
  rintro e w1 ⟨N, rfl, hN', hg1, hr1⟩
  have hN : N ≤ 6 := by omega
  have HG1 := Lib.hid (only_next (only_alloc (World.grownBy_alloc w _ _) _) hg1)
  have HO1 : Hid (SyOwn w1 w.heap.size (.slice (some ⟨w.heap.size, 0, none⟩) 0 0) []) := Lib.hid (SyOwn.only ⟨World.ownsRow.alloc (SgOwn.made w) _, by simp⟩ hg1 hg0)
  have ht1 := (StrsAt.new (w.alloc (.cells #[] 109)) sysL _ 9 rfl).only hg1 (by simp; omega)
  simp only [World.size_alloc] at ht1
  have HT1 := Lib.hid ht1
  have HR1 := Lib.hid hr1
  clear hN' hg1 hr1 ht1 HP
  go_wp2
  go_loopw [3, 6] (fun v i wr => ∃ (k : Nat) (xs : List Sg), k ≤ N ∧ i = .int .i64 k ∧ Hid (xs.length ≤ k) ∧ Hid (SyOwn wr w.heap.size v xs) ∧ Hid (StrsAt wr (w.heap.size + 1) sysL) ∧ Hid (w.grownBy wr (some g)) ∧ Hid (RdIn wr B g (lim + 1 + 2 * k))) (fun _ i _ => N - (intOf i).toNat)
  case atStart => exact ⟨0, [], Nat.zero_le _, rfl, Lib.hid (Nat.le_refl _), HO1, HT1, HG1, HR1⟩
  case round =>
    obtain ⟨k, xs, hk, rfl, HX, HO, HT, HG, HR⟩ := hrel
    by_cases hlt : k < N
    · obtain ⟨A3, c3, rfl, hc3, hm3⟩ := ownG_form HO.out.1
      have hx6 : xs.length ≤ 6 := by have := HX.out; omega
      obtain ⟨s, hs, hs40⟩ := sysL_at (k := k) (by omega)
      have c0 : wr.drew.cell? ⟨w.heap.size + 1, k, none⟩ = some (.string (mkStr s)) := HT.out k _ hs
      have i1 : (0 : Int) ≤ (k : Int) := by omega
      have i2 : (k : Int) < 6 := by omega
      have HP1 := Lib.hid (pickR (n := 8) HR.out.drew' (by omega) (by omega) (by omega))
      have HGd := Lib.hid (grown_drew HG.out)
      have HOd : Hid (SyOwn wr.drew w.heap.size (.slice A3 xs.length c3) xs) := Lib.hid HO.out
      have HTd : Hid (StrsAt wr.drew (w.heap.size + 1) sysL) := Lib.hid HT.out
      have hne : w.heap.size + 1 ≠ g := by omega
      generalize hM : xs.length = M at *
      have HM := Lib.hid hM
      clear hs hM HO HT HG HR
      go_wp2_with fail
      go_region_held3 (fun w' => w'.cell? ⟨w.heap.size + 1, k, none⟩ = some (.string (mkStr s))) (first | assumption | go_keep)
        (first
          | (go_at_call_of 43 (Value.int IntKind.i64 8); refine HP1.out.mono ?_; rintro e w3 ⟨d, rfl, hd, hg3, hr3⟩; have c3' := ocell hg3 c0 hne; have HG3 := Lib.hid (only_next HGd.out hg3); have HO3 := Lib.hid (HOd.out.only hg3 hg0); have HT3 := Lib.hid (HTd.out.only hg3 hne); have HP3 := Lib.hid (pickR (n := 3) hr3 (by omega) (by omega) (by omega)); clear hg3 hr3)
          | (go_at_call_of 43 (Value.int IntKind.i64 3); refine HP3.out.mono ?_; rintro e w4 ⟨z, rfl, hz, hg4, hr4⟩; have c4' := ocell hg4 c3' hne; have HG4 := Lib.hid (only_next HG3.out hg4); have HO4 := Lib.hid (HO3.out.only hg4 hg0); have HT4 := Lib.hid (HT3.out.only hg4 hne); have HR4 := Lib.hid hr4; have hwz : IntKind.i64.wrap (1 + (z : Int)) = 1 + (z : Int) := IntWalk.i64_in _ (by omega); have HSm : Hid (SmSg ⟨s, ⟨d, 1 + z⟩⟩) := Lib.hid ⟨hs40, by unfold SmallS; dsimp only; omega⟩; have HSA := Lib.hid (specSystemAdd A3 M c3 xs s d (1 + z) w4 (by omega) (fun x hx => (by rcases List.mem_append.1 hx with h | h; exact (HO4.out.2 x h).2.good; rw [List.mem_singleton] at h; subst h; exact HSm.out.2.good)) (HO4.out.reads HM.out)); clear hg4 hr4)
          | (go_at_call 97; refine HSA.out.mono ?_; rintro e w5 ⟨hA, hb5⟩; obtain ⟨A5, n5, c5, ok, rfl, hok⟩ := hA.both; have c5' := kcell hb5 c4'; have HOK := Lib.hid hok; have HB5 := Lib.hid hb5; clear hok hA hb5))
      clear c0 c3' c4' c5' hwz HP1 HP3 HSA HGd HOd HTd HG3 HO3 HT3
      have HG5 := Lib.hid (grown_below HG4.out HB5.out)
      have HO5 := Lib.hid (HO4.out.keep HB5.out)
      have HT5 := Lib.hid (HT4.out.keep HB5.out)
      have HR5 : Hid (RdIn w5 B g (lim + 1 + 2 * (k + 1))) := Lib.hid (HR4.out.below HB5.out)
      have HZ4 := Lib.hid HG4.out.size
      cases ok with
      | false =>
        go_wp2
        go_roundw
        case rel => exact ⟨k + 1, xs, by omega, by go_num, Lib.hid (by have := HX.out; rw [HM.out]; omega), HO5, HT5, HG5, HR5⟩
        case measure => simp [intOf]; omega
      | true =>
        obtain ⟨hn5, hS5⟩ := HOK.out rfl
        have HO6 : Hid (SyOwn w5 w.heap.size (.slice A5 n5 c5) (xs ++ [⟨s, ⟨d, 1 + z⟩⟩])) := Lib.hid ⟨ownG_mono hS5 HZ4.out, fun x hx => by
          rcases List.mem_append.1 hx with h | h
          · exact HO4.out.2 x h
          · rw [List.mem_singleton] at h; subst h; exact HSm.out⟩
        clear hn5 hS5
        go_wp2
        go_roundw
        case rel => exact ⟨k + 1, _, by omega, by go_num, Lib.hid (by have := HX.out; rw [List.length_append, HM.out]; simp; omega), HO6, HT5, HG5, HR5⟩
        case measure => simp [intOf]; omega
    · obtain rfl : k = N := by omega
      have HR1 := Lib.hid (HR.out.more (show lim + 1 + 2 * k ≤ lim + 13 by omega))
      have hz := HG.out.size
      clear hlt HR HT
      cases xs with
      | nil =>
        obtain ⟨A3, c3, rfl, hc3, hm3⟩ := ownG_form HO.out.1
        have HO3 : Hid (SyOwn wr w.heap.size (.slice A3 0 c3) []) := HO
        have HR2 := Lib.hid (HR1.out.more (show lim + 13 ≤ lim + 20 by omega))
        have hl0 : (List.length ([] : List Sg)) = 0 := rfl
        go_wp2
        go_returns
        exact ⟨A3, 0, c3, [], rfl, by omega, rfl, HO3.out, HG.out, HR2.out⟩
      | cons x r =>
        obtain ⟨gb, c3, rfl, hgb, hkc, hcm, _⟩ := own_some HO.out.1 (show 0 < (x :: r).length by simp)
        have hr5 : r.length ≤ 5 := by have := HX.out; simp at this; omega
        have HO3 : Hid (SyOwn wr w.heap.size (.slice (some ⟨gb, 0, none⟩) (r.length + 1) c3) (x :: r)) := HO
        have HP := Lib.hid (pickR (n := 40) HR1.out (by omega) (by omega) (by omega))
        have hpos : 0 < r.length + 1 := by omega
        clear HO
        go_wp2_with fail
        refine HP.out.mono ?_
        rintro e w3 ⟨m, rfl, hm, hg3, hr3⟩
        have HG4 := Lib.hid (only_next HG.out hg3)
        have HO4 := Lib.hid (HO3.out.only hg3 hg0)
        have HR4 := Lib.hid hr3
        have hz4 := HG4.out.size
        clear hg3 hr3 HP HG HO3 HR1
        by_cases h0 : m = 0
        · subst h0
          have HOf := Lib.hid (fun cs t h => ofNew g B (lim + 13 + 1) 4 [⟨#[97]⟩, ⟨#[]⟩, ⟨#[98, 98]⟩, ⟨#[66]⟩] cs t w3 h rfl (by omega) (by omega) (by decide) (by omega) HR4.out)
          go_wp2_with fail
          refine (HOf.out _ _ rfl).mono ?_
          rintro e w5 ⟨l, hl5, rfl, hg5, hr5'⟩
          have hO5 := HO4.out.only hg5 hg0
          have HO6 : Hid (SyOwn w5 w.heap.size (.slice (some ⟨gb, 0, none⟩) (r.length + 1) c3) (x :: r)) := Lib.hid hO5
          obtain ⟨⟨k0, f0⟩, _, _⟩ := HO6.out.cells
          have HO7 : Hid (SyOwn (w5.setCell ⟨gb, 0, none⟩ (.string (mkStr l))) w.heap.size (.slice (some ⟨gb, 0, none⟩) (r.length + 1) c3) (⟨l, x.st⟩ :: r)) := Lib.hid (HO6.out.letter hl5)
          have HG7 := Lib.hid (only_setCell (only_next HG4.out hg5) (p := ⟨gb, 0, none⟩) (.inr hgb) (.string (mkStr l)))
          have HR7 := Lib.hid ((hr5'.set' (p := ⟨gb, 0, none⟩) (by simp; omega) (by simp; omega) (.string (mkStr l))).more (show lim + 13 + 1 + 1 ≤ lim + 20 by omega))
          clear hg5 hr5' hO5 HO6 HOf HG4 HO4 HR4
          go_wp2
          go_returns
          exact ⟨_, r.length + 1, c3, _, by simp, by omega, rfl, HO7.out, HG7.out, HR7.out⟩
        have e0 : ((m : Int) == 0) = false := by simpa using h0
        have HR5 := Lib.hid (HR4.out.more (show lim + 13 + 1 ≤ lim + 20 by omega))
        have HO6 : Hid (SyOwn w3 w.heap.size (.slice (some ⟨gb, 0, none⟩) (r.length + 1) c3) (x :: r)) := Lib.hid HO4.out
        obtain ⟨⟨k0, f0⟩, ⟨k1, f1⟩, ⟨k2, f2⟩⟩ := HO6.out.cells
        by_cases h1 : m = 1
        · subst h1
          have HOw : Hid (w3.ownsRow w.heap.size 109 3 (.slice (some ⟨gb, 0, none⟩) (r.length + 1) c3) (r.length + 1) ((x :: r).flatMap sgC)) := Lib.hid (by have := HO4.out.1; unfold SgOwn at this; rw [List.length_cons] at this; exact this)
          clear HO6
          go_wp2_with (at_builtin; refine wpList_append_any _ rfl (.tmp 51) (.tmp 55) _ rfl w.heap.size 109 i0 _ 3 32 Try.underlying23 hi hz0 hz1 hz2 rfl (by omega) _ (r.length + 1) ((x :: r).flatMap sgC) rfl (HOw.out.alloc _) (w3.heap.size + 1) (some ⟨w3.heap.size, 0, none⟩) 1 1 [.string (mkStr x.l), .int .i64 x.st.dir, .int .i64 x.st.size] rfl (rowNewSg _ _ _ _ _) (by simp [Value.oneCell']) (by unfold maxLen; omega) (by omega) (by simp; omega) ?_; intro v4 w4 hown4 hg4 hat4)
          obtain ⟨A4, c4, rfl, hc4, hm4⟩ := ownG_form hown4
          have HO7 : Hid (SyOwn w4 w.heap.size (.slice A4 (r.length + 1 + 1) c4) ((x :: r) ++ [x])) := Lib.hid ⟨by unfold SgOwn; rw [List.length_append, List.length_cons, List.flatMap_append]; exact hown4, fun y hy => by
            rcases List.mem_append.1 hy with h | h
            · exact HO4.out.2 y h
            · rw [List.mem_singleton] at h; subst h; exact HO4.out.2 y (by simp)⟩
          have HG7 := Lib.hid (own_after' (only_next HG4.out (World.grownBy_alloc w3 _ _)) hg4 (fun q hq => ownG_base HOw.out hq))
          have HR7 := Lib.hid ((HR5.out.alloc' _).far hg4 (fun q hq => by have := ownG_base HOw.out hq; exact ⟨by omega, by omega⟩) (by simp; omega))
          clear hown4 hg4 hat4
          go_wp2
          go_returns
          exact ⟨_, r.length + 1 + 1, c4, _, by simp, by omega, rfl, HO7.out, HG7.out, HR7.out⟩
        have e1 : ((m : Int) == 1) = false := by simp; omega
        by_cases h2 : m = 2
        · subst h2
          have HO7 : Hid (SyOwn (w3.setCell ⟨gb, 2, none⟩ (.int .i64 0)) w.heap.size (.slice (some ⟨gb, 0, none⟩) (r.length + 1) c3) (⟨x.l, ⟨x.st.dir, 0⟩⟩ :: r)) := Lib.hid HO6.out.size0
          have HG7 := Lib.hid (only_setCell HG4.out (p := ⟨gb, 2, none⟩) (.inr hgb) (.int .i64 0))
          have HR7 := Lib.hid (HR5.out.set' (p := ⟨gb, 2, none⟩) (by simp; omega) (by simp; omega) (.int .i64 0))
          clear HO6 HG4 HO4 HR4 HR5
          go_wp2
          go_returns
          exact ⟨_, r.length + 1, c3, _, by simp, by omega, rfl, HO7.out, HG7.out, HR7.out⟩
        have e2 : ((m : Int) == 2) = false := by simp; omega
        clear HO6
        go_wp2
        go_returns
        exact ⟨_, r.length + 1, c3, _, by simp, by omega, rfl, HO4.out, HG4.out, HR5.out⟩
end Go.Proofs.Ytppjjbjjbmodbaa

namespace Go.Proofs.Ytppjjbjjbmodbaa
open Go.ChangeShapes Go.WideShapes Go.ChangeAt Go.RowKit
set_option maxRecDepth 100000
set_option linter.unusedSimpArgs false

/-- A dictionary as it is drawn. -/
def DcOwn (w : World) (B : Nat) (v : Value) (ws : List (List UInt8)) : Prop := WdOwn w B v ws ∧ ∀ l ∈ ws, wordB l = true
theorem DcOwn.only {w w' : World} {B g : Nat} {v : Value} {ws : List (List UInt8)} (h : DcOwn w B v ws) (hg : w.grownBy w' (some g)) (hB : g < B) : DcOwn w' B v ws := ⟨ownG_only h.1 hg hB, h.2⟩
theorem DcOwn.keep {w w' : World} {B : Nat} {v : Value} {ws : List (List UInt8)} (h : DcOwn w B v ws) (hb : Below w.heap.size w w') : DcOwn w' B v ws := ⟨ownG_keep h.1 hb, h.2⟩
theorem DcOwn.low {w : World} {B B' : Nat} {v : Value} {ws : List (List UInt8)} (h : DcOwn w B v ws) (hB : B' ≤ B) : DcOwn w B' v ws := ⟨ownG_mono h.1 hB, h.2⟩
theorem DcOwn.reads {w : World} {B n c : Nat} {A : Option Addr} {ws : List (List UInt8)} (h : DcOwn w B (.slice A n c) ws) (hn : ws.length = n) : WdsIn w w.heap.size A n c ws := WdOwn.reads h.1 hn
theorem word_len {l : List UInt8} (h : wordB l = true) : l.length ≤ 12 := (wordB_iff.1 h).1.2
theorem DcOwn.short {w : World} {B : Nat} {v : Value} {ws : List (List UInt8)} (h : DcOwn w B v ws) : ∀ l ∈ ws, l.length ≤ maxLen := fun l hl => by have := word_len (h.2 l hl); unfold maxLen; omega
theorem infoWd : (Try.prog.info? 9).map (fun i => (i.zero, i.size, i.bytes)) = some (some (.string ByteArray.empty), 1, 16) := by kernel_rfl
/-- What l91Dictionary answers. -/
def DrawnDic (B g lim : Nat) (w : World) (e : Ending) (w' : World) : Prop :=
  ∃ A n c ws, ws.length = n ∧ n ≤ 9 ∧ e = .returned (.slice A n c) ∧ DcOwn w' w.heap.size (.slice A n c) ws ∧ w.grownBy w' (some g) ∧ RdIn w' B g (lim + 200)

set_option maxHeartbeats 1600000 in
theorem l91Dictionary (g B lim : Nat) (w : World) (hl : lim ≤ 700000000) (hr : RdIn w B g lim) (hBw : B ≤ w.heap.size) :
    Calls Try.prog 75 #[.pointer (some ⟨g, 0, none⟩)] w (DrawnDic B g lim w) := by
  obtain ⟨i0, hi, hz0, hz1, hz2⟩ := info_parts infoWd
  have hg0 := hr.lt
  have HP := Lib.hid (fun o => pickR (n := 9) (hr.alloc' o) (by omega) (by omega) (by omega))
  clear hr
  go_enter Try.func75, Try.ntmps75
  go_wp2_with fail
  refine (HP.out _).mono ?_
  rintro e w1 ⟨N, rfl, hN', hg1, hr1⟩
  have hN : N ≤ 8 := by omega
  have HG1 := Lib.hid (only_next (World.grownBy_alloc w _ _) hg1)
  have HO1 : Hid (DcOwn w1 w.heap.size (.slice (some ⟨w.heap.size, 0, none⟩) 0 0) []) := Lib.hid (DcOwn.only ⟨World.ownsRow_made w #[] 0 (Nat.le_refl _) (by simp) (by simp), by simp⟩ hg1 hg0)
  have HR1 := Lib.hid hr1
  clear hN' hg1 hr1 HP
  go_wp2
  go_loopw [3, 5] (fun v i wr => ∃ (k : Nat) (ws : List (List UInt8)), k ≤ N ∧ i = .int .i64 k ∧ Hid (ws.length ≤ k) ∧ Hid (DcOwn wr w.heap.size v ws) ∧ Hid (w.grownBy wr (some g)) ∧ Hid (RdIn wr B g (lim + 1 + 20 * k))) (fun _ i _ => N - (intOf i).toNat)
  case atStart => exact ⟨0, [], Nat.zero_le _, rfl, Lib.hid (Nat.le_refl _), HO1, HG1, HR1⟩
  case round =>
    obtain ⟨k, ws, hk, rfl, HX, HO, HG, HR⟩ := hrel
    by_cases hlt : k < N
    · obtain ⟨A3, c3, rfl, hc3, hm3⟩ := ownG_form HO.out.1
      have hx8 : ws.length ≤ 8 := by have := HX.out; omega
      have HWd := Lib.hid (l91Word g B (lim + 1 + 20 * k) wr (by omega) HR.out)
      have HOr : Hid (DcOwn wr w.heap.size (.slice A3 ws.length c3) ws) := HO
      generalize hM : ws.length = M at *
      have HM := Lib.hid hM
      clear hM HO HR
      go_wp2_with fail
      refine HWd.out.mono ?_
      rintro e w3 ⟨l, hll, rfl, hg3, hr3⟩
      have HG3 := Lib.hid (only_next HG.out hg3)
      have HO3 := Lib.hid (HOr.out.only hg3 hg0)
      have HR3 : Hid (RdIn w3 B g (lim + 1 + 20 * (k + 1))) := Lib.hid hr3
      have HWv : Hid (Calls Try.prog 81 #[.string (mkStr l)] w3 fun e w' => e = .returned (.bool (wordB l)) ∧ w3 = w') := Lib.hid (by
        have := specWordValid (mkStr l) w3 (by rw [mkStr_size]; unfold maxLen; omega)
        rw [mkStr_data] at this
        exact this)
      clear hg3 hr3 HWd HOr HG
      cases hw : wordB l with
      | false =>
        rw [hw] at HWv
        clear hw
        go_wp2_with fail
        refine HWv.out.mono ?_
        rintro e w4 ⟨rfl, rfl⟩
        go_wp2
        go_roundw
        case rel => exact ⟨k + 1, ws, by omega, by go_num, Lib.hid (by have := HX.out; rw [HM.out]; omega), HO3, HG3, HR3⟩
        case measure => simp [intOf]; omega
      | true =>
        rw [hw] at HWv
        have HWt := Lib.hid hw
        have HIs := Lib.hid (l3Is A3 M c3 ws l w3 (HO3.out.reads HM.out))
        clear hw
        go_wp2_with fail
        refine HWv.out.mono ?_
        rintro e w4 ⟨rfl, rfl⟩
        go_wp2_with fail
        refine HIs.out.mono ?_
        rintro e w4 ⟨⟨b, rfl⟩, rfl⟩
        have hz3 := HG3.out.size
        cases b with
        | true =>
          go_wp2
          go_roundw
          case rel => exact ⟨k + 1, ws, by omega, by go_num, Lib.hid (by have := HX.out; rw [HM.out]; omega), HO3, HG3, HR3⟩
          case measure => simp [intOf]; omega
        | false =>
          have HOw : Hid (w3.ownsRow w.heap.size 9 1 (.slice A3 M c3) M (ws.map strP)) := Lib.hid (by have := HO3.out.1; unfold WdOwn at this; rw [HM.out] at this; exact this)
          go_wp2_with (at_builtin; refine wpList_append_any _ rfl (.tmp 25) (.tmp 27) _ rfl w.heap.size 9 i0 _ 1 16 Try.underlying24 hi hz0 hz1 hz2 rfl (by omega) _ M (ws.map strP) rfl (HOw.out.alloc _) (w3.heap.size + 1) (some ⟨w3.heap.size, 0, none⟩) 1 1 [.string (mkStr l)] rfl (rowNew1 _ _ _) (by simp [Value.oneCell']) (by unfold maxLen; omega) (by omega) (by simp; omega) ?_; intro v4 w4 hown4 hg4 hat4)
          have HO4 : Hid (DcOwn w4 w.heap.size v4 (ws ++ [l])) := Lib.hid ⟨by unfold WdOwn; rw [List.length_append, HM.out, List.map_append]; exact hown4, fun y hy => by
            rcases List.mem_append.1 hy with h | h
            · exact HO3.out.2 y h
            · rw [List.mem_singleton] at h; subst h; exact HWt.out⟩
          have HG4 := Lib.hid (own_after' (only_next HG3.out (World.grownBy_alloc w3 _ _)) hg4 (fun q hq => ownG_base HOw.out hq))
          have HR4 := Lib.hid ((HR3.out.alloc' _).far hg4 (fun q hq => by have := ownG_base HOw.out hq; exact ⟨by omega, by omega⟩) (by simp; omega))
          clear hown4 hg4 hat4
          go_wp2
          go_roundw
          case rel => exact ⟨k + 1, _, by omega, by go_num, Lib.hid (by have := HX.out; rw [List.length_append, HM.out]; simp; omega), HO4, HG4, HR4⟩
          case measure => simp [intOf]; omega
    · obtain rfl : k = N := by omega
      have HR1 := Lib.hid (HR.out.more (show lim + 1 + 20 * k ≤ lim + 161 by omega))
      have hz := HG.out.size
      clear hlt HR
      cases ws with
      | nil =>
        obtain ⟨A3, c3, rfl, hc3, hm3⟩ := ownG_form HO.out.1
        have HO3 : Hid (DcOwn wr w.heap.size (.slice A3 0 c3) []) := HO
        have HR2 := Lib.hid (HR1.out.more (show lim + 161 ≤ lim + 200 by omega))
        have hl0 : (List.length ([] : List (List UInt8))) = 0 := rfl
        go_wp2
        go_returns
        exact ⟨A3, 0, c3, [], rfl, by omega, rfl, HO3.out, HG.out, HR2.out⟩
      | cons x r =>
        obtain ⟨gb, c3, rfl, hgb, hkc, hcm, _⟩ := own_some HO.out.1 (show 0 < (x :: r).length by simp)
        have hr7 : r.length ≤ 7 := by have := HX.out; simp at this; omega
        have HO3 : Hid (DcOwn wr w.heap.size (.slice (some ⟨gb, 0, none⟩) (r.length + 1) c3) (x :: r)) := HO
        have HP := Lib.hid (pickR (n := 40) HR1.out (by omega) (by omega) (by omega))
        have hpos : 0 < r.length + 1 := by omega
        clear HO
        go_wp2_with fail
        refine HP.out.mono ?_
        rintro e w3 ⟨m, rfl, hm, hg3, hr3⟩
        have HG4 := Lib.hid (only_next HG.out hg3)
        have HO4 := Lib.hid (HO3.out.only hg3 hg0)
        have hz4 := HG4.out.size
        have HR5 := Lib.hid (hr3.more (show lim + 161 + 1 ≤ lim + 200 by omega))
        clear hg3 hr3 HP HG HO3 HR1
        by_cases h0 : m = 0
        · subst h0
          have HOw : Hid (w3.ownsRow w.heap.size 9 1 (.slice (some ⟨gb, 0, none⟩) (r.length + 1) c3) (r.length + 1) ((x :: r).map strP)) := Lib.hid HO4.out.1
          obtain ⟨k0, f0⟩ := own_cell (j := 0) (u := strP x) HOw.out rfl rfl
          unfold strP at k0
          go_wp2_with (at_builtin; refine wpList_append_any _ rfl (.tmp 37) (.tmp 41) _ rfl w.heap.size 9 i0 _ 1 16 Try.underlying24 hi hz0 hz1 hz2 rfl (by omega) _ (r.length + 1) ((x :: r).map strP) rfl (HOw.out.alloc _) (w3.heap.size + 1) (some ⟨w3.heap.size, 0, none⟩) 1 1 [.string (mkStr x)] rfl (rowNew1 _ _ _) (by simp [Value.oneCell']) (by unfold maxLen; omega) (by omega) (by simp; omega) ?_; intro v4 w4 hown4 hg4 hat4)
          obtain ⟨A4, c4, rfl, hc4, hm4⟩ := ownG_form hown4
          have HO7 : Hid (DcOwn w4 w.heap.size (.slice A4 (r.length + 1 + 1) c4) ((x :: r) ++ [x])) := Lib.hid ⟨by unfold WdOwn; rw [List.length_append, List.length_cons, List.map_append]; exact hown4, fun y hy => by
            rcases List.mem_append.1 hy with h | h
            · exact HO4.out.2 y h
            · rw [List.mem_singleton] at h; subst h; exact HO4.out.2 y (by simp)⟩
          have HG7 := Lib.hid (own_after' (only_next HG4.out (World.grownBy_alloc w3 _ _)) hg4 (fun q hq => ownG_base HOw.out hq))
          have HR7 := Lib.hid ((HR5.out.alloc' _).far hg4 (fun q hq => by have := ownG_base HOw.out hq; exact ⟨by omega, by omega⟩) (by simp; omega))
          clear hown4 hg4 hat4
          go_wp2
          go_returns
          exact ⟨_, r.length + 1 + 1, c4, _, by simp, by omega, rfl, HO7.out, HG7.out, HR7.out⟩
        · have e0 : ((m : Int) == 0) = false := by simpa using h0
          go_wp2
          go_returns
          exact ⟨_, r.length + 1, c3, _, by simp, by omega, rfl, HO4.out, HG4.out, HR5.out⟩

/-- What l91Both answers. -/
def DrawnBoth (B g lim : Nat) (w : World) (e : Ending) (w' : World) : Prop :=
  ∃ A n c xs A' n' c' ws, xs.length = n ∧ n ≤ 7 ∧ ws.length = n' ∧ n' ≤ 9 ∧ e = .returned (.tuple #[.slice A n c, .slice A' n' c']) ∧ SyOwn w' w.heap.size (.slice A n c) xs ∧ DcOwn w' w.heap.size (.slice A' n' c') ws ∧ w.grownBy w' (some g) ∧ RdIn w' B g (lim + 220)
theorem l91Both (g B lim : Nat) (w : World) (hl : lim ≤ 600000000) (hr : RdIn w B g lim) (hBw : B ≤ w.heap.size) :
    Calls Try.prog 41 #[.pointer (some ⟨g, 0, none⟩)] w (DrawnBoth B g lim w) := by
  have hg0 := hr.lt
  have HS := Lib.hid (l91System g B lim w (by omega) hr hBw)
  clear hr
  go_enter Try.func41, Try.ntmps41
  go_wp2_with fail
  refine HS.out.mono ?_
  rintro e w1 ⟨A, n, c, xs, hx, hn, rfl, hO1, hg1, hr1⟩
  have hz1 := hg1.size
  have HD := Lib.hid (l91Dictionary g B (lim + 20) w1 (by omega) hr1 (by omega))
  have HX := Lib.hid hx; have HO1 := Lib.hid hO1; have HG1 := Lib.hid hg1
  clear hr1 hx hO1 hg1 HS
  go_wp2_with fail
  refine HD.out.mono ?_
  rintro e w2 ⟨A', n', c', ws, hx', hn', rfl, hO2, hg2, hr2⟩
  have HO3 := Lib.hid (HO1.out.only hg2 hg0)
  have HG2 := Lib.hid (only_next HG1.out hg2)
  have HX' := Lib.hid hx'; have HO2 := Lib.hid (hO2.low hz1); have HR2 := Lib.hid hr2
  clear hr2 hx' hO2 hg2 HD HO1 HG1
  go_wp2
  go_returns
  exact ⟨A, n, c, xs, A', n', c', ws, HX.out, hn, HX'.out, hn', rfl, HO3.out, HO2.out, HG2.out, HR2.out⟩
end Go.Proofs.Ytppjjbjjbmodbaa

namespace Go.Proofs.Ytppjjbjjbmodbaa
open Go.ChangeShapes Go.WideShapes Go.ChangeAt Go.RowKit
set_option maxRecDepth 100000

theorem SmOwn.alloc {w : World} {B N : Nat} {v : Value} (h : SmOwn w B N v) (o : Obj) : SmOwn (w.alloc o) B N v := by
  obtain ⟨ss, h1, h2, h3⟩ := h
  exact ⟨ss, h1, ownG_keep h2 ((Below.refl _ _).alloc (Nat.le_refl _) _), h3⟩
theorem SmOwn.lt {w : World} {B N gb : Nat} {v : Value} (h : SmOwn w B N v) (hb : v.ownBlock = some gb) : B ≤ gb ∧ gb < w.heap.size := by
  obtain ⟨ss, h1, h2, h3⟩ := h
  exact ⟨ownG_base h2 hb, ownG_lt h2 hb⟩
theorem SmOwn.farc {w : World} {B N : Nat} {v u : Value} {p : Addr} (h : SmOwn w B N v) (hp : ∀ gb, v.ownBlock = some gb → gb ≠ p.block) : SmOwn (w.setCell p u) B N v := by
  obtain ⟨ss, h1, h2, h3⟩ := h
  exact ⟨ss, h1, ownG_congr h2 fun b hb => Below.heap_setCell w p u b (hp b hb), h3⟩
theorem two3 {m : Nat} (hm : m < 2) : ∃ x : Int, (#[.int .i64 (-1), .int .i64 3] : Array Value)[m]? = some (.int .i64 x) ∧ -1 ≤ x ∧ x ≤ 3 := by
  match m, hm with
  | 0, _ => exact ⟨-1, rfl, by omega, by omega⟩
  | 1, _ => exact ⟨3, rfl, by omega, by omega⟩
def DrawnWr (B g lim : Nat) (w : World) (e : Ending) (w' : World) : Prop :=
  ∃ N v p, N ≤ 4 ∧ e = .returned (.agg #[v, .int .i64 p]) ∧ -1 ≤ p ∧ p ≤ 3 ∧ SmOwn w' w.heap.size N v ∧ w.grownBy w' (some g) ∧ RdIn w' B g (lim + 110)

set_option maxHeartbeats 1600000 in
theorem l91Written (g B lim : Nat) (w : World) (hl : lim ≤ 700000000) (hr : RdIn w B g lim) (hBw : B ≤ w.heap.size) :
    Calls Try.prog 54 #[.pointer (some ⟨g, 0, none⟩)] w (DrawnWr B g lim w) := by
  have hg0 := hr.lt
  have HO := Lib.hid (fun o => l91Outline g B lim 4 (w.alloc o) (by omega) (by omega) (hr.alloc' o) (by simp; omega))
  clear hr
  go_enter Try.func54, Try.ntmps54
  go_wp2_with fail
  refine (HO.out _).mono ?_
  rintro e w2 ⟨N, v, hN, rfl, hO2, hg2, hr2⟩
  obtain ⟨A1, c1, ss1, hl1, rfl, _⟩ := hO2.reads
  have K2 := (Blk.new w _ _).only hg2 (by omega)
  have G2 := only_next (World.grownBy_alloc w _ _) hg2
  have z2 := K2.lt
  simp only [World.size_alloc] at hO2
  have HP := Lib.hid (pickR (n := 3) hr2 (by omega) (by omega) (by omega))
  clear hg2 hr2 HO
  go_wp2_with fail
  refine HP.out.mono ?_
  rintro e w3 ⟨m, rfl, hm, hg3, hr3⟩
  have K3 := K2.only hg3 (by omega)
  have G3 := only_next G2 hg3
  have O3 := hO2.only hg3 (by omega)
  have z3 := K3.lt
  have HP := Lib.hid (fun o => pickR (n := 40) (hr3.alloc' o) (by omega) (by omega) (by omega))
  clear hg3 hr3 K2 G2 hO2
  go_wp2_with fail
  refine (HP.out _).mono ?_
  rintro e w4 ⟨m4, rfl, hm4, hg4, hr4⟩
  have K4 := (K3.alloc _).only hg4 (by omega)
  have L4 := (Blk.new w3 _ _).only hg4 (by omega)
  have G4 := only_next (only_alloc G3 _) hg4
  have O4 := (O3.alloc _).only hg4 (by omega)
  have z4 := L4.lt
  have D3 : ∀ gb, (Value.slice A1 N c1).ownBlock = some gb → w.heap.size + 1 ≤ gb ∧ gb ≠ w3.heap.size := fun gb hb => by have := O3.lt hb; exact ⟨this.1, by omega⟩
  clear hg4 K3 G3 O3
  by_cases h0 : m4 = 0
  · subst h0
    have HP5 := Lib.hid (fun o => pickR (n := 2) (hr4.alloc' o) (by omega) (by omega) (by omega))
    clear hr4
    go_wp2_with fail
    refine (HP5.out _).mono ?_
    rintro e w5 ⟨m5, rfl, hm5, hg5, hr5⟩
    have hm5' : m5 < 2 := by omega
    obtain ⟨x, hx, hx0, hx1⟩ := two3 hm5'
    have T5 := ((Blk.new w4 _ _).only hg5 (by omega) |>.cell m5).trans hx
    have K5 := (K4.alloc _).only hg5 (by omega)
    have L5 := (L4.alloc _).only hg5 (by omega)
    have G5 := only_next (only_alloc G4 _) hg5
    have O5 := (O4.alloc _).only hg5 (by omega)
    obtain ⟨k0, k1, kf0, kf1⟩ := K5.two
    obtain ⟨l0, l1, lf0, lf1⟩ := L5.two
    have HG := Lib.hid (only_setCell (only_setCell (only_setCell G5 (p := ⟨w3.heap.size, 1, none⟩) (.inr (by simp; omega)) (.int .i64 x)) (p := ⟨w.heap.size, 0, none⟩) (.inr (by simp)) (.slice A1 N c1)) (p := ⟨w.heap.size, 1, none⟩) (.inr (by simp)) (.int .i64 x))
    have HR := Lib.hid ((((hr5.set' (p := ⟨w3.heap.size, 1, none⟩) (by simp; omega) (by simp; omega) (.int .i64 x)).set' (p := ⟨w.heap.size, 0, none⟩) (by simp; omega) (by simp; omega) (.slice A1 N c1)).set' (p := ⟨w.heap.size, 1, none⟩) (by simp; omega) (by simp; omega) (.int .i64 x)).more (show lim + 100 + 1 + 1 + 1 ≤ lim + 110 by omega))
    have HS := Lib.hid (((O5.farc (p := ⟨w3.heap.size, 1, none⟩) (u := .int .i64 x) (fun gb hb => (D3 gb hb).2)).farc (p := ⟨w.heap.size, 0, none⟩) (u := .slice A1 N c1) (fun gb hb => by have := (D3 gb hb).1; simp; omega)).farc (p := ⟨w.heap.size, 1, none⟩) (u := .int .i64 x) (fun gb hb => by have := (D3 gb hb).1; simp; omega))
    clear K4 L4 G4 O4 K5 L5 G5 O5 hr5 hg5 HP5 HP
    go_wp2
    refine bodyPost_ret (v := .agg #[.slice A1 N c1, .int .i64 x]) (by simp [results, Try.results54, go_sem, k0, k1]) rfl ?_
    obtain ⟨ss, h1, h2, h3⟩ := HS.out
    exact ⟨N, .slice A1 N c1, x, hN, rfl, hx0, hx1, ⟨ss, h1, ownG_mono h2 (by omega), h3⟩, HG.out, HR.out⟩
  · have e0 : ((m4 : Int) == 0) = false := by simpa using h0
    obtain ⟨k0, k1, kf0, kf1⟩ := K4.two
    obtain ⟨l0, l1, lf0, lf1⟩ := L4.two
    have HG := Lib.hid (only_setCell (only_setCell G4 (p := ⟨w.heap.size, 0, none⟩) (.inr (by simp)) (.slice A1 N c1)) (p := ⟨w.heap.size, 1, none⟩) (.inr (by simp)) (.int .i64 m))
    have HR := Lib.hid (((hr4.set' (p := ⟨w.heap.size, 0, none⟩) (by simp; omega) (by simp; omega) (.slice A1 N c1)).set' (p := ⟨w.heap.size, 1, none⟩) (by simp; omega) (by simp; omega) (.int .i64 m)).more (show lim + 100 + 1 + 1 ≤ lim + 110 by omega))
    have HS := Lib.hid ((O4.farc (p := ⟨w.heap.size, 0, none⟩) (u := .slice A1 N c1) (fun gb hb => by have := (D3 gb hb).1; simp; omega)).farc (p := ⟨w.heap.size, 1, none⟩) (u := .int .i64 m) (fun gb hb => by have := (D3 gb hb).1; simp; omega))
    clear K4 L4 G4 O4 hr4 HP
    go_wp2
    refine bodyPost_ret (v := .agg #[.slice A1 N c1, .int .i64 m]) (by simp [results, Try.results54, go_sem, k0, k1]) rfl ?_
    obtain ⟨ss, h1, h2, h3⟩ := HS.out
    exact ⟨N, .slice A1 N c1, m, hN, rfl, by omega, by omega, ⟨ss, h1, ownG_mono h2 (by omega), h3⟩, HG.out, HR.out⟩
end Go.Proofs.Ytppjjbjjbmodbaa

namespace Go.Proofs.Ytppjjbjjbmodbaa
open Go.ChangeShapes Go.WideShapes Go.ChangeAt Go.RowKit
set_option maxRecDepth 100000
set_option linter.unusedSimpArgs false

/-- A line of the call's own, its outlines too. -/
def LnOwn (w : World) (B : Nat) (v : Value) (xs : List Wr) : Prop := WrOwn w B v xs ∧ ∀ x ∈ xs, ∀ a, x.A = some a → B ≤ a.block
theorem LnOwn.only {w w' : World} {B g : Nat} {v : Value} {xs : List Wr} (h : LnOwn w B v xs) (hg : w.grownBy w' (some g)) (hB : g < B) : LnOwn w' B v xs :=
  ⟨⟨ownG_only h.1.1 hg hB, fun x hx => ⟨(h.1.2 x hx).1.grown hg (fun a ha e => by injection e with e; have := h.2 x hx a ha; omega), fun a ha => ⟨((h.1.2 x hx).2 a ha).1, Nat.lt_of_lt_of_le ((h.1.2 x hx).2 a ha).2 hg.size⟩⟩⟩, h.2⟩
theorem LnOwn.keep {w w' : World} {B : Nat} {v : Value} {xs : List Wr} (h : LnOwn w B v xs) (hb : Below w.heap.size w w') : LnOwn w' B v xs := ⟨h.1.keep hb, h.2⟩
theorem LnOwn.push {w w' : World} {B : Nat} {v v' : Value} {xs : List Wr} {x : Wr} (h : LnOwn w B v xs) (hx : WrIn w w.heap.size x) (hn : ∀ a, x.A = some a → v.ownBlock ≠ some a.block ∧ a.block < w.heap.size ∧ B ≤ a.block)
    (ho : w'.ownsRow B 35 2 v' (xs.length + 1) (xs.flatMap wrC ++ wrC x)) (hg : w.grownBy w' v.ownBlock) (hv : v'.ownBlock = v.ownBlock ∨ v'.ownBlock = some w.heap.size) : LnOwn w' B v' (xs ++ [x]) :=
  ⟨h.1.push hx (fun a ha => ⟨(hn a ha).1, (hn a ha).2.1⟩) ho hg hv, fun y hy => by
    rcases List.mem_append.1 hy with hy | hy
    · exact h.2 y hy
    · rw [List.mem_singleton] at hy
      subst hy
      exact fun a ha => (hn a ha).2.2⟩
theorem LnOwn.made (w : World) : LnOwn (w.alloc (.cells #[] 35)) w.heap.size (.slice (some ⟨w.heap.size, 0, none⟩) 0 0) [] :=
  ⟨⟨World.ownsRow_made (base := w.heap.size) (e := 35) (size := 2) w #[] 0 (Nat.le_refl _) (by unfold maxLen; omega) rfl, by simp⟩, by simp⟩
/-- A written form that was answered, with whether it is one. -/
def WrAny (w' : World) (B : Nat) (e : Ending) : Prop := ∃ (x : Wr) (ok : Bool), e = .returned (.tuple #[.agg #[.slice x.A x.n x.c, .int .i64 x.pos], .bool ok]) ∧ WrIn w' w'.heap.size x ∧ ∀ a, x.A = some a → B ≤ a.block ∧ a.block < w'.heap.size
theorem WrAns.any {w' : World} {B : Nat} {o : Option (List Stroke × Int)} {e : Ending} (h : WrAns w' B o e) (hp : ∀ ss p, o = some (ss, p) → -1 ≤ p ∧ p ≤ 3) : WrAny w' B e := by
  rcases h with ⟨_, rfl⟩ | ⟨A, c, ss, p, ho, rfl, hS, hg⟩
  · exact ⟨⟨none, 0, 0, [], 0⟩, false, rfl, ⟨⟨rfl, Nat.le_refl _, Nat.zero_le _, ⟨rfl, fun h => absurd h (by simp)⟩, by simp⟩, by decide⟩, nofun⟩
  · refine ⟨⟨A, ss.length, c, ss, p⟩, true, rfl, ⟨hS.reads rfl hg, show (Lit.int .i64 p).wf = true from WalkArith.wf_i64 (by have := hp ss p ho; omega)⟩, ?_⟩
    rintro a rfl
    exact ⟨ownG_base hS (k := a.block) rfl, ownG_lt hS (b := a.block) rfl⟩
theorem idx_at {xs : List Sg} {ws : List (List UInt8)} {m : Nat} (hm : m < (idxOf xs ws).length) : (idxOf xs ws).getD m 0 < ws.length := by
  rw [List.getD_eq_getElem?_getD, List.getElem?_eq_getElem hm]
  have h := List.getElem_mem hm
  simp only [Option.getD_some]
  generalize (idxOf xs ws)[m] = i at *
  unfold idxOf at h
  split at h
  · exact idxK_lt h
  · cases h
theorem idx_len {xs : List Sg} {ws : List (List UInt8)} : (idxOf xs ws).length ≤ ws.length := by
  unfold idxOf
  split
  · exact idxK_len _ _ _
  · simp
/-- What l91Line answers. -/
def DrawnLine (B g lim : Nat) (w : World) (e : Ending) (w' : World) : Prop :=
  ∃ A n c xs, xs.length = n ∧ n ≤ 4 ∧ e = .returned (.slice A n c) ∧ LnOwn w' w.heap.size (.slice A n c) xs ∧ w.grownBy w' (some g) ∧ RdIn w' B g (lim + 600)

set_option maxHeartbeats 1600000 in
theorem l91Line (g B lim B0 : Nat) (A : Option Addr) (n c : Nat) (xs : List Sg) (A' : Option Addr) (n' c' : Nat) (ws : List (List UInt8)) (w : World) (hl : lim ≤ 500000000) (hr : RdIn w B g lim) (hBw : B ≤ w.heap.size) (hB0 : g < B0) (hx : xs.length = n) (hx' : ws.length = n') (hn9 : n' ≤ 9)
    (h : SyOwn w B0 (.slice A n c) xs) (h' : DcOwn w B0 (.slice A' n' c') ws) :
    Calls Try.prog 64 #[.pointer (some ⟨g, 0, none⟩), .slice A n c, .slice A' n' c'] w (DrawnLine B g lim w) := by
  obtain ⟨i0, hi, hz0, hz1, hz2⟩ := info_parts infoWr
  have hg0 := hr.lt
  have HP := Lib.hid (fun o => pickR (n := 5) (hr.alloc' o) (by omega) (by omega) (by omega))
  have hal : ∀ o, Below w.heap.size w (w.alloc o) := fun o => (Below.refl _ _).alloc (Nat.le_refl _) o
  have HS0 := Lib.hid (fun o => SyOwn.keep h (hal o)); have HD0 := Lib.hid (fun o => DcOwn.keep h' (hal o))
  have HX := Lib.hid hx; have HX' := Lib.hid hx'
  have HSh := Lib.hid h'.short
  have HSb : Hid (∀ q, (Value.slice A n c).ownBlock = some q → q < w.heap.size) := Lib.hid (fun q hq => ownG_lt h.1 hq)
  have HDb : Hid (∀ q, (Value.slice A' n' c').ownBlock = some q → q < w.heap.size) := Lib.hid (fun q hq => ownG_lt h'.1 hq)
  clear hr h h' hx hx' hal
  go_enter Try.func64, Try.ntmps64
  go_wp2_with fail
  refine (HP.out _).mono ?_
  rintro e w1 ⟨N, rfl, hN', hg1, hr1⟩
  have hN : N ≤ 4 := by omega
  have HG1 := Lib.hid (only_next (World.grownBy_alloc w _ _) hg1)
  have HO1 := Lib.hid ((LnOwn.made w).only hg1 hg0)
  have HS1 := Lib.hid ((HS0.out _).only hg1 hB0); have HD1 := Lib.hid ((HD0.out _).only hg1 hB0)
  have HR1 := Lib.hid hr1
  clear hN' hg1 hr1 HP HS0 HD0
  have HDw := Lib.hid (specDictionaryWritten A n c xs A' n' c' ws w1 HSh.out (HS1.out.reads HX.out) (HD1.out.reads HX'.out))
  go_wp2_with fail
  refine HDw.out.mono ?_
  rintro e w2 ⟨⟨A2, c2, rfl, hO2⟩, hb2⟩
  have HI2 : Hid (NatOwn w2 w.heap.size (.slice A2 (idxOf xs ws).length c2) (idxOf xs ws)) := Lib.hid (ownG_mono hO2 HG1.out.size)
  have HO2 := Lib.hid (HO1.out.keep hb2); have HS2 := Lib.hid (HS1.out.keep hb2); have HD2 := Lib.hid (HD1.out.keep hb2)
  have HG2 := Lib.hid (grown_below HG1.out hb2); have HR2 := Lib.hid (HR1.out.below hb2)
  have HNb : Hid (∀ q, (Value.slice A2 (idxOf xs ws).length c2).ownBlock = some q → (Value.slice (some ⟨w.heap.size, 0, none⟩) 0 0).ownBlock ≠ some q) := Lib.hid (fun q hq e => by have h1 := ownG_base hO2 hq; have h2 := ownG_lt HO1.out.1.1 e; omega)
  clear hO2 hb2 HO1 HS1 HD1 HG1 HR1 HDw
  have HIl := Lib.hid (fun m (hm : m < (idxOf xs ws).length) => idx_at hm)
  have hil := @idx_len xs ws
  rw [HX'.out] at hil
  generalize hI : idxOf xs ws = is at *
  clear hI
  obtain ⟨M, hM⟩ : ∃ M, M = is.length := ⟨_, rfl⟩
  rw [← hM] at HI2 HNb HIl hil
  rw [← hM]
  have HM := Lib.hid hM.symm; clear hM
  go_wp2
  go_loopw [7, 10] (fun v0 i wr => ∃ (k : Nat) (ys : List Wr) (v : Value), k ≤ N ∧ i = .int .i64 k ∧ v = v0 ∧ Hid (ys.length = k) ∧ Hid (LnOwn wr w.heap.size v ys) ∧ Hid (NatOwn wr w.heap.size (.slice A2 M c2) is) ∧ Hid (∀ q, (Value.slice A2 M c2).ownBlock = some q → v.ownBlock ≠ some q) ∧ Hid (SyOwn wr B0 (.slice A n c) xs) ∧ Hid (DcOwn wr B0 (.slice A' n' c') ws) ∧ Hid (w.grownBy wr (some g)) ∧ Hid (RdIn wr B g (lim + 1 + 120 * k))) (fun _ i _ => N - (intOf i).toNat)
  case atStart => exact ⟨0, [], _, Nat.zero_le _, rfl, rfl, Lib.hid rfl, HO2, HI2, HNb, HS2, HD2, HG2, HR2⟩
  case round =>
    obtain ⟨k, ys, v, hk, rfl, rfl, HY, HO, HI, HNb, HS, HD, HG, HR⟩ := hrel
    by_cases hlt : k < N
    · have hY4 : ys.length ≤ 3 := by have := HY.out; omega
      by_cases hM0 : M = 0
      · subst hM0
        have HOp := HO; have HIp := HI; have HSp := HS; have HDp := HD; have HGp := HG
        have hzp := HGp.out.size
        have HW := Lib.hid (l91Written g B (lim + 1 + 120 * k) wr (by omega) HR.out (by omega))
        have HVb : Hid (∀ q, v.ownBlock = some q → q < wr.heap.size) := Lib.hid (fun q hq => ownG_lt HOp.out.1.1 hq)
        go_wp2_with fail
        refine HW.out.mono ?_
        rintro e w6 ⟨N6, v6, p6, hN6, rfl, hp0, hp1, hO6, hg6, hr6⟩
        obtain ⟨A6, c6, ss6, hl6, rfl, hS6⟩ := hO6.reads
        have HBl : Hid (∀ a, A6 = some a → v.ownBlock ≠ some a.block ∧ a.block < w6.heap.size ∧ w.heap.size ≤ a.block) := Lib.hid (by
          rintro a rfl
          have h1 := hO6.lt (gb := a.block) rfl
          exact ⟨fun e => by have := HVb.out _ e; omega, h1.2, by omega⟩)
        have HWr : Hid (WrIn w6 w6.heap.size ⟨A6, N6, c6, ss6, p6⟩) := Lib.hid ⟨hS6, show (Lit.int .i64 p6).wf = true from WalkArith.wf_i64 (by omega)⟩
        have HOq := Lib.hid (HOp.out.only hg6 hg0)
        have HIq : Hid (NatOwn w6 w.heap.size (.slice A2 0 c2) is) := Lib.hid (ownG_only HIp.out hg6 hg0)
        have HSq := Lib.hid (HSp.out.only hg6 hB0)
        have HDq := Lib.hid (HDp.out.only hg6 hB0)
        have HGq := Lib.hid (only_next HGp.out hg6)
        have HRq := Lib.hid hr6
        clear hO6 hg6 hr6 hS6 HW HOp HIp HSp HDp HGp
        have hal6 : Below w6.heap.size w6 (w6.alloc (.cells #[.slice A6 N6 c6, .int .i64 p6] 35)) := (Below.refl _ _).alloc (Nat.le_refl _) _
        have hsa6 := hal6.size
        have hzq := HGq.out.size
        have HOa : Hid ((w6.alloc (.cells #[.slice A6 N6 c6, .int .i64 p6] 35)).ownsRow w.heap.size 35 2 v ys.length (ys.flatMap wrC)) := Lib.hid (ownG_keep HOq.out.1.1 hal6)
        have HRow : Hid (Row (w6.alloc (.cells #[.slice A6 N6 c6, .int .i64 p6] 35)) (w6.heap.size + 1) (some ⟨w6.heap.size, 0, none⟩) 1 2 [.slice A6 N6 c6, .int .i64 p6]) := Lib.hid (by have h := rowNewSt w6 (.slice A6 N6 c6) (.int .i64 p6) 35; exact h)
        go_wp2_with (at_builtin; refine wpList_append_any _ rfl (.tmp 32) (.tmp 35) _ rfl w.heap.size 35 i0 _ 2 32 Try.underlying27 hi hz0 hz1 hz2 rfl (by omega) v ys.length (ys.flatMap wrC) rfl HOa.out (w6.heap.size + 1) (some ⟨w6.heap.size, 0, none⟩) 1 1 [.slice A6 N6 c6, .int .i64 p6] rfl HRow.out (by simp [Value.oneCell']) (by unfold maxLen; omega) (by omega) (by simp; omega) ?_; intro v7 w7 hown7 hg7 hat7)
        have HO7 : Hid (LnOwn w7 w.heap.size v7 (ys ++ [⟨A6, N6, c6, ss6, p6⟩])) := Lib.hid (LnOwn.push (HOq.out.keep hal6) (HWr.out.keep hal6) (fun a ha => ⟨(HBl.out a ha).1, Nat.lt_of_lt_of_le (HBl.out a ha).2.1 hsa6, (HBl.out a ha).2.2⟩) hown7 hg7 hat7)
        have HI7 : Hid (NatOwn w7 w.heap.size (.slice A2 0 c2) is) := Lib.hid (ownG_congr (ownG_keep HIq.out hal6) (fun z hz => hg7.block z (Nat.lt_of_lt_of_le (ownG_lt HIq.out hz) hsa6) (fun e => HNb.out z hz e.symm)))
        have HN7 : Hid (∀ q, (Value.slice A2 0 c2).ownBlock = some q → v7.ownBlock ≠ some q) := Lib.hid (fun z hz e => by
          rcases hat7 with e2 | e2
          · exact HNb.out z hz (e2.symm.trans e)
          · have := ownG_lt HIq.out hz
            rw [e2] at e
            injection e with e
            omega)
        have HS7 : Hid (SyOwn w7 B0 (.slice A n c) xs) := Lib.hid ⟨ownG_congr (HSq.out.keep hal6).1 (fun z hz => hg7.block z (Nat.lt_of_lt_of_le (ownG_lt HSq.out.1 hz) hsa6) (fun e => by have h1 := ownG_base HOq.out.1.1 e.symm; have h2 := HSb.out z hz; omega)), HSq.out.2⟩
        have HD7 : Hid (DcOwn w7 B0 (.slice A' n' c') ws) := Lib.hid ⟨ownG_congr (HDq.out.keep hal6).1 (fun z hz => hg7.block z (Nat.lt_of_lt_of_le (ownG_lt HDq.out.1 hz) hsa6) (fun e => by have h1 := ownG_base HOq.out.1.1 e.symm; have h2 := HDb.out z hz; omega)), HDq.out.2⟩
        have HG7 : Hid (w.grownBy w7 (some g)) := Lib.hid (own_after' (grown_below HGq.out hal6) hg7 (fun q hq => ownG_base HOq.out.1.1 hq))
        have HR7 : Hid (RdIn w7 B g (lim + 1 + 120 * (k + 1))) := Lib.hid (((HRq.out.below hal6).far hg7 (fun q hq => by have := ownG_base HOq.out.1.1 hq; exact ⟨by omega, by omega⟩) (by omega)).more (by omega))
        have HY7 : Hid ((ys ++ [(⟨A6, N6, c6, ss6, p6⟩ : Wr)]).length = k + 1) := Lib.hid (by rw [List.length_append, HY.out]; rfl)
        clear hown7 hg7 hat7 HOa HRow
        go_wp2
        go_roundw
        case rel => exact ⟨k + 1, _, _, by omega, by go_num, rfl, HY7, HO7, HI7, HN7, HS7, HD7, HG7, HR7⟩
        case measure => simp [intOf]; omega
      · have eM : ((M : Int) == 0) = false := by simpa using hM0
        have HP8 := Lib.hid (pickR (n := 8) HR.out (by omega) (by omega) (by omega))
        go_wp2_with fail
        refine HP8.out.mono ?_
        rintro e w3 ⟨m3, rfl, hm3, hg3, hr3⟩
        have HOp := Lib.hid (HO.out.only hg3 hg0)
        have HIp : Hid (NatOwn w3 w.heap.size (.slice A2 M c2) is) := Lib.hid (ownG_only HI.out hg3 hg0)
        have HSp := Lib.hid (HS.out.only hg3 hB0)
        have HDp := Lib.hid (HD.out.only hg3 hB0)
        have HGp := Lib.hid (only_next HG.out hg3)
        have HRp := Lib.hid hr3
        clear hg3 hr3 HP8 HO HI HS HD HG HR
        by_cases h0 : m3 = 0
        · subst h0
          have hzp := HGp.out.size
          have HW := Lib.hid (l91Written g B (lim + 1 + 120 * k + 1) w3 (by omega) HRp.out (by omega))
          have HVb : Hid (∀ q, v.ownBlock = some q → q < w3.heap.size) := Lib.hid (fun q hq => ownG_lt HOp.out.1.1 hq)
          go_wp2_with fail
          refine HW.out.mono ?_
          rintro e w6 ⟨N6, v6, p6, hN6, rfl, hp0, hp1, hO6, hg6, hr6⟩
          obtain ⟨A6, c6, ss6, hl6, rfl, hS6⟩ := hO6.reads
          have HBl : Hid (∀ a, A6 = some a → v.ownBlock ≠ some a.block ∧ a.block < w6.heap.size ∧ w.heap.size ≤ a.block) := Lib.hid (by
            rintro a rfl
            have h1 := hO6.lt (gb := a.block) rfl
            exact ⟨fun e => by have := HVb.out _ e; omega, h1.2, by omega⟩)
          have HWr : Hid (WrIn w6 w6.heap.size ⟨A6, N6, c6, ss6, p6⟩) := Lib.hid ⟨hS6, show (Lit.int .i64 p6).wf = true from WalkArith.wf_i64 (by omega)⟩
          have HOq := Lib.hid (HOp.out.only hg6 hg0)
          have HIq : Hid (NatOwn w6 w.heap.size (.slice A2 M c2) is) := Lib.hid (ownG_only HIp.out hg6 hg0)
          have HSq := Lib.hid (HSp.out.only hg6 hB0)
          have HDq := Lib.hid (HDp.out.only hg6 hB0)
          have HGq := Lib.hid (only_next HGp.out hg6)
          have HRq := Lib.hid hr6
          clear hO6 hg6 hr6 hS6 HW HOp HIp HSp HDp HGp
          have hal6 : Below w6.heap.size w6 (w6.alloc (.cells #[.slice A6 N6 c6, .int .i64 p6] 35)) := (Below.refl _ _).alloc (Nat.le_refl _) _
          have hsa6 := hal6.size
          have hzq := HGq.out.size
          have HOa : Hid ((w6.alloc (.cells #[.slice A6 N6 c6, .int .i64 p6] 35)).ownsRow w.heap.size 35 2 v ys.length (ys.flatMap wrC)) := Lib.hid (ownG_keep HOq.out.1.1 hal6)
          have HRow : Hid (Row (w6.alloc (.cells #[.slice A6 N6 c6, .int .i64 p6] 35)) (w6.heap.size + 1) (some ⟨w6.heap.size, 0, none⟩) 1 2 [.slice A6 N6 c6, .int .i64 p6]) := Lib.hid (by have h := rowNewSt w6 (.slice A6 N6 c6) (.int .i64 p6) 35; exact h)
          go_wp2_with (at_builtin; refine wpList_append_any _ rfl (.tmp 32) (.tmp 35) _ rfl w.heap.size 35 i0 _ 2 32 Try.underlying27 hi hz0 hz1 hz2 rfl (by omega) v ys.length (ys.flatMap wrC) rfl HOa.out (w6.heap.size + 1) (some ⟨w6.heap.size, 0, none⟩) 1 1 [.slice A6 N6 c6, .int .i64 p6] rfl HRow.out (by simp [Value.oneCell']) (by unfold maxLen; omega) (by omega) (by simp; omega) ?_; intro v7 w7 hown7 hg7 hat7)
          have HO7 : Hid (LnOwn w7 w.heap.size v7 (ys ++ [⟨A6, N6, c6, ss6, p6⟩])) := Lib.hid (LnOwn.push (HOq.out.keep hal6) (HWr.out.keep hal6) (fun a ha => ⟨(HBl.out a ha).1, Nat.lt_of_lt_of_le (HBl.out a ha).2.1 hsa6, (HBl.out a ha).2.2⟩) hown7 hg7 hat7)
          have HI7 : Hid (NatOwn w7 w.heap.size (.slice A2 M c2) is) := Lib.hid (ownG_congr (ownG_keep HIq.out hal6) (fun z hz => hg7.block z (Nat.lt_of_lt_of_le (ownG_lt HIq.out hz) hsa6) (fun e => HNb.out z hz e.symm)))
          have HN7 : Hid (∀ q, (Value.slice A2 M c2).ownBlock = some q → v7.ownBlock ≠ some q) := Lib.hid (fun z hz e => by
            rcases hat7 with e2 | e2
            · exact HNb.out z hz (e2.symm.trans e)
            · have := ownG_lt HIq.out hz
              rw [e2] at e
              injection e with e
              omega)
          have HS7 : Hid (SyOwn w7 B0 (.slice A n c) xs) := Lib.hid ⟨ownG_congr (HSq.out.keep hal6).1 (fun z hz => hg7.block z (Nat.lt_of_lt_of_le (ownG_lt HSq.out.1 hz) hsa6) (fun e => by have h1 := ownG_base HOq.out.1.1 e.symm; have h2 := HSb.out z hz; omega)), HSq.out.2⟩
          have HD7 : Hid (DcOwn w7 B0 (.slice A' n' c') ws) := Lib.hid ⟨ownG_congr (HDq.out.keep hal6).1 (fun z hz => hg7.block z (Nat.lt_of_lt_of_le (ownG_lt HDq.out.1 hz) hsa6) (fun e => by have h1 := ownG_base HOq.out.1.1 e.symm; have h2 := HDb.out z hz; omega)), HDq.out.2⟩
          have HG7 : Hid (w.grownBy w7 (some g)) := Lib.hid (own_after' (grown_below HGq.out hal6) hg7 (fun q hq => ownG_base HOq.out.1.1 hq))
          have HR7 : Hid (RdIn w7 B g (lim + 1 + 120 * (k + 1))) := Lib.hid (((HRq.out.below hal6).far hg7 (fun q hq => by have := ownG_base HOq.out.1.1 hq; exact ⟨by omega, by omega⟩) (by omega)).more (by omega))
          have HY7 : Hid ((ys ++ [(⟨A6, N6, c6, ss6, p6⟩ : Wr)]).length = k + 1) := Lib.hid (by rw [List.length_append, HY.out]; rfl)
          clear hown7 hg7 hat7 HOa HRow
          go_wp2
          go_roundw
          case rel => exact ⟨k + 1, _, _, by omega, by go_num, rfl, HY7, HO7, HI7, HN7, HS7, HD7, HG7, HR7⟩
          case measure => simp [intOf]; omega
        · have e0 : ((m3 : Int) == 0) = false := by simpa using h0
          have HP9 := Lib.hid (pickR (n := (M : Int)) HRp.out (by omega) (by omega) (by omega))
          go_wp2_with fail
          refine HP9.out.mono ?_
          rintro e w4 ⟨m4, rfl, hm4, hg4, hr4⟩
          have hm4' : m4 < M := by omega
          have HO4 := Lib.hid (HOp.out.only hg4 hg0)
          have HI4 : Hid (NatOwn w4 w.heap.size (.slice A2 M c2) is) := Lib.hid (ownG_only HIp.out hg4 hg0)
          have HS4 := Lib.hid (HSp.out.only hg4 hB0)
          have HD4 := Lib.hid (HDp.out.only hg4 hB0)
          have HG4 := Lib.hid (only_next HGp.out hg4)
          have HR4 := Lib.hid hr4
          clear hg4 hr4 HP9 HOp HIp HSp HDp HGp HRp
          obtain ⟨g2, rfl, y0, hg2a, hg2b⟩ := natOwn_at HI4.out HM.out hm4'
          have hix := HIl.out m4 hm4'
          have hix2 : is.getD m4 0 < n' := by rw [← HX'.out]; exact hix
          obtain ⟨b, off, rfl, hbB, c0⟩ := (HD4.out.reads HX'.out).at_ hix2
          have HWf := Lib.hid (specWrittenOf A n c xs (wdAt ws (is.getD m4 0)) w4 (HSh.out _ (wdAt_mem hix)) (HS4.out.reads HX.out))
          have hpo := posOf_bd (wdAt ws (is.getD m4 0))
          unfold natP at y0
          generalize wdAt ws (is.getD m4 0) = l4 at *
          generalize is.getD m4 0 = j4 at *
          have i1 : (0 : Int) ≤ (j4 : Int) := by omega
          have i2 : (j4 : Int) < (n' : Int) := by omega
          have i3 : (0 : Int) ≤ (m4 : Int) := by omega
          have HVb : Hid (∀ q, v.ownBlock = some q → q < w4.heap.size) := Lib.hid (fun q hq => ownG_lt HO4.out.1.1 hq)
          have hz4 := HG4.out.size
          go_wp2_with fail
          refine HWf.out.mono ?_
          rintro e w6 ⟨hA6, hb6⟩
          obtain ⟨x6, ok6, rfl, hW6, hx6⟩ := hA6.any (fun ss p h => by
            obtain ⟨o, _, h⟩ := Option.map_eq_some_iff.1 h
            injection h with _ h
            omega)
          have HOq := Lib.hid (HO4.out.keep hb6)
          have HIq : Hid (NatOwn w6 w.heap.size (.slice (some ⟨g2, 0, none⟩) M c2) is) := Lib.hid (ownG_keep HI4.out hb6)
          have HSq := Lib.hid (HS4.out.keep hb6)
          have HDq := Lib.hid (HD4.out.keep hb6)
          have HGq := Lib.hid (grown_below HG4.out hb6)
          have HRq := Lib.hid (HR4.out.below hb6)
          have HBl : Hid (∀ a, x6.A = some a → v.ownBlock ≠ some a.block ∧ a.block < w6.heap.size ∧ w.heap.size ≤ a.block) := Lib.hid (fun a ha => by
            have h1 := hx6 a ha
            exact ⟨fun e => by have := HVb.out _ e; omega, h1.2, by omega⟩)
          obtain ⟨A6, N6, c6, ss6, p6⟩ := x6
          have HWr : Hid (WrIn w6 w6.heap.size ⟨A6, N6, c6, ss6, p6⟩) := Lib.hid hW6
          have K6 := Blk.new w6 35 #[.slice A6 N6 c6, .int .i64 p6]
          obtain ⟨k60, k61, _, _⟩ := K6.two
          dsimp only at HBl
          clear hA6 hb6 hW6 hx6 HWf HO4 HI4 HS4 HD4 HG4 HR4 y0 c0 K6
          dsimp only
          have hal6 : Below w6.heap.size w6 ((w6.alloc (.cells #[.slice A6 N6 c6, .int .i64 p6] 35)).alloc (.cells #[.slice A6 N6 c6, .int .i64 p6] 35)) := ((Below.refl _ _).alloc (Nat.le_refl _) _).alloc (by simp) _
          have hsa6 := hal6.size
          have hzq := HGq.out.size
          have HOa : Hid (((w6.alloc (.cells #[.slice A6 N6 c6, .int .i64 p6] 35)).alloc (.cells #[.slice A6 N6 c6, .int .i64 p6] 35)).ownsRow w.heap.size 35 2 v ys.length (ys.flatMap wrC)) := Lib.hid (ownG_keep HOq.out.1.1 hal6)
          have HRow : Hid (Row ((w6.alloc (.cells #[.slice A6 N6 c6, .int .i64 p6] 35)).alloc (.cells #[.slice A6 N6 c6, .int .i64 p6] 35)) (w6.heap.size + 2) (some ⟨w6.heap.size + 1, 0, none⟩) 1 2 [.slice A6 N6 c6, .int .i64 p6]) := Lib.hid (by have h := rowNewSt (w6.alloc (.cells #[.slice A6 N6 c6, .int .i64 p6] 35)) (.slice A6 N6 c6) (.int .i64 p6) 35; simp only [World.size_alloc] at h; exact h)
          go_wp2_with (at_builtin; refine wpList_append_any _ rfl (.tmp 52) (.tmp 54) _ rfl w.heap.size 35 i0 _ 2 32 Try.underlying27 hi hz0 hz1 hz2 rfl (by omega) v ys.length (ys.flatMap wrC) rfl HOa.out (w6.heap.size + 2) (some ⟨w6.heap.size + 1, 0, none⟩) 1 1 [.slice A6 N6 c6, .int .i64 p6] rfl HRow.out (by simp [Value.oneCell']) (by unfold maxLen; omega) (by omega) (by simp; omega) ?_; intro v7 w7 hown7 hg7 hat7)
          have HO7 : Hid (LnOwn w7 w.heap.size v7 (ys ++ [⟨A6, N6, c6, ss6, p6⟩])) := Lib.hid (LnOwn.push (HOq.out.keep hal6) (HWr.out.keep hal6) (fun a ha => ⟨(HBl.out a ha).1, Nat.lt_of_lt_of_le (HBl.out a ha).2.1 hsa6, (HBl.out a ha).2.2⟩) hown7 hg7 hat7)
          have HI7 : Hid (NatOwn w7 w.heap.size (.slice (some ⟨g2, 0, none⟩) M c2) is) := Lib.hid (ownG_congr (ownG_keep HIq.out hal6) (fun z hz => hg7.block z (Nat.lt_of_lt_of_le (ownG_lt HIq.out hz) hsa6) (fun e => HNb.out z hz e.symm)))
          have HN7 : Hid (∀ q, (Value.slice (some ⟨g2, 0, none⟩) M c2).ownBlock = some q → v7.ownBlock ≠ some q) := Lib.hid (fun z hz e => by
            rcases hat7 with e2 | e2
            · exact HNb.out z hz (e2.symm.trans e)
            · have := ownG_lt HIq.out hz
              rw [e2] at e
              injection e with e
              omega)
          have HS7 : Hid (SyOwn w7 B0 (.slice A n c) xs) := Lib.hid ⟨ownG_congr (HSq.out.keep hal6).1 (fun z hz => hg7.block z (Nat.lt_of_lt_of_le (ownG_lt HSq.out.1 hz) hsa6) (fun e => by have h1 := ownG_base HOq.out.1.1 e.symm; have h2 := HSb.out z hz; omega)), HSq.out.2⟩
          have HD7 : Hid (DcOwn w7 B0 (.slice (some ⟨b, off, none⟩) n' c') ws) := Lib.hid ⟨ownG_congr (HDq.out.keep hal6).1 (fun z hz => hg7.block z (Nat.lt_of_lt_of_le (ownG_lt HDq.out.1 hz) hsa6) (fun e => by have h1 := ownG_base HOq.out.1.1 e.symm; have h2 := HDb.out z hz; omega)), HDq.out.2⟩
          have HG7 : Hid (w.grownBy w7 (some g)) := Lib.hid (own_after' (grown_below HGq.out hal6) hg7 (fun q hq => ownG_base HOq.out.1.1 hq))
          have HR7 : Hid (RdIn w7 B g (lim + 1 + 120 * (k + 1))) := Lib.hid (((HRq.out.below hal6).far hg7 (fun q hq => by have := ownG_base HOq.out.1.1 hq; exact ⟨by omega, by omega⟩) (by omega)).more (by omega))
          have HY7 : Hid ((ys ++ [(⟨A6, N6, c6, ss6, p6⟩ : Wr)]).length = k + 1) := Lib.hid (by rw [List.length_append, HY.out]; rfl)
          clear hown7 hg7 hat7 HOa HRow
          go_wp2
          go_roundw
          case rel => exact ⟨k + 1, _, _, by omega, by go_num, rfl, HY7, HO7, HI7, HN7, HS7, HD7, HG7, HR7⟩
          case measure => simp [intOf]; omega
    · obtain rfl : k = N := by omega
      have HR1 := Lib.hid (HR.out.more (show lim + 1 + 120 * k ≤ lim + 600 by omega))
      obtain ⟨A3, c3, rfl, hc3, hm3⟩ := ownG_form HO.out.1.1
      have hY4 : ys.length ≤ 4 := by have := HY.out; omega
      clear HR
      go_wp2
      go_returns
      exact ⟨A3, ys.length, c3, ys, rfl, hY4, rfl, HO.out, HG.out, HR1.out⟩
end Go.Proofs.Ytppjjbjjbmodbaa

namespace Go.Proofs.Ytppjjbjjbmodbaa
open Go.ChangeShapes Go.WideShapes Go.ChangeAt Go.RowKit
set_option maxRecDepth 100000
set_option linter.unusedSimpArgs false

theorem LnOwn.reads {w : World} {B n c : Nat} {A : Option Addr} {xs : List Wr} (h : LnOwn w B (.slice A n c) xs) (hn : xs.length = n) : WrsIn w w.heap.size A n c xs := WrOwn.reads h.1 hn
/-- A line that was drawn. -/
def LineDrawn (w : World) (e : Ending) : Prop := ∃ A N c xs, e = .returned (.slice A N c) ∧ N ≤ 4 ∧ WrsIn w w.heap.size A N c xs
theorem lineText_len (L : List Dat) : (lineText L).length ≤ 18 * L.length := by
  cases h : lineB L with
  | true => rw [lineText_yes h]; exact lineT_len L
  | false => rw [lineText_no h]; simp
end Go.Proofs.Ytppjjbjjbmodbaa
