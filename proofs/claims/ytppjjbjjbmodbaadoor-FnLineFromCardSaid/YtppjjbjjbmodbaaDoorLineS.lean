/-
  A text read as a line, of the reference; lines compared. Conditions: the text is no longer than a law's texts.
-/
import Derived.Test.YtppjjbjjbmodbaaDoorCut
import Derived.Test.YtppjjbjjbmodbaaDoorSameW
namespace Go.Proofs.YtppjjbjjbmodbaaDoor
open Go.ChangeShapes Go.WideShapes Go.ChangeAt Go.RowKit
set_option maxRecDepth 100000
set_option linter.unusedSimpArgs false

def allFrom : List (List UInt8) → Option (List Dat)
  | [] => some []
  | p :: r => (wrFrom p).bind fun d => (allFrom r).map (d :: ·)
def lineFrom (l : List UInt8) : Option (List Dat) := if l = [] then some [] else if (cutS l).length ≤ 20 then allFrom (cutS l) else none
theorem allFrom_snoc (a : List (List UInt8)) (p : List UInt8) : allFrom (a ++ [p]) = (allFrom a).bind fun L => (wrFrom p).map fun d => L ++ [d] := by
  induction a with
  | nil => simp only [List.nil_append, allFrom]; cases wrFrom p <;> rfl
  | cons x r ih =>
    simp only [List.cons_append, allFrom, ih]
    cases wrFrom x <;> cases allFrom r <;> cases wrFrom p <;> rfl
theorem allFrom_no {a : List (List UInt8)} {p : List UInt8} (h : p ∈ a) (hn : wrFrom p = none) : allFrom a = none := by
  induction a with
  | nil => cases h
  | cons x r ih =>
    rcases List.mem_cons.1 h with rfl | h
    · simp [allFrom, hn]
    · simp only [allFrom, ih h]; cases wrFrom x <;> rfl
theorem lineFrom_no {l : List UInt8} {p : List UInt8} (h0 : l ≠ []) (h : p ∈ cutS l) (hn : wrFrom p = none) : lineFrom l = none := by
  unfold lineFrom; rw [if_neg h0]; split
  · exact allFrom_no h hn
  · rfl
theorem lineFrom_long {l : List UInt8} (h0 : l ≠ []) (h : ¬ (cutS l).length ≤ 20) : lineFrom l = none := by unfold lineFrom; rw [if_neg h0, if_neg h]
theorem lineFrom_all {l : List UInt8} (h0 : l ≠ []) (h : (cutS l).length ≤ 20) : lineFrom l = allFrom (cutS l) := by unfold lineFrom; rw [if_neg h0, if_pos h]

/-- Forms of the call's own in a row. -/
def WrOwn (w : World) (B : Nat) (v : Value) (xs : List Wr) : Prop := w.ownsRow B 36 2 v xs.length (xs.flatMap wrC) ∧ ∀ x ∈ xs, WrIn w w.heap.size x ∧ ∀ a, x.A = some a → v.ownBlock ≠ some a.block ∧ a.block < w.heap.size
theorem Row.grown {w w' : World} {B n sz : Nat} {A : Option Addr} {xs : List Value} {row : Option Nat} (h : Row w B A n sz xs) (hg : w.grownBy w' row) (hne : ∀ a, A = some a → row ≠ some a.block) : Row w' B A n sz xs := by
  refine ⟨h.1, fun h0 => ?_⟩
  obtain ⟨b, off, e, hb, hc⟩ := h.2 h0
  refine ⟨b, off, e, hb, fun j x hx => ?_⟩
  have h1 := hc j x hx
  have hlt := World.block_lt_of_cell? _ _ h1
  unfold World.cell? at h1 ⊢
  rw [hg.block _ hlt (fun e2 => hne _ e e2.symm)]
  exact h1
theorem WrIn.grown {w w' : World} {x : Wr} {row : Option Nat} (h : WrIn w w.heap.size x) (hg : w.grownBy w' row) (hne : ∀ a, x.A = some a → row ≠ some a.block) : WrIn w' w'.heap.size x :=
  WrIn.more ⟨⟨h.1.1, h.1.2.1, h.1.2.2.1, h.1.2.2.2.1.grown hg hne, h.1.2.2.2.2⟩, h.2⟩ hg.size
theorem WrOwn.keep {w w' : World} {B : Nat} {v : Value} {xs : List Wr} (h : WrOwn w B v xs) (hb : Below w.heap.size w w') : WrOwn w' B v xs :=
  ⟨ownG_keep h.1 hb, fun x hx => ⟨(h.2 x hx).1.keep hb, fun a ha => ⟨((h.2 x hx).2 a ha).1, Nat.lt_of_lt_of_le ((h.2 x hx).2 a ha).2 hb.size⟩⟩⟩
/-- A form of a later row joins the row. -/
theorem WrOwn.push {w w' : World} {B : Nat} {v v' : Value} {xs : List Wr} {x : Wr} (h : WrOwn w B v xs) (hx : WrIn w w.heap.size x) (hn : ∀ a, x.A = some a → v.ownBlock ≠ some a.block ∧ a.block < w.heap.size)
    (ho : w'.ownsRow B 36 2 v' (xs.length + 1) (xs.flatMap wrC ++ wrC x)) (hg : w.grownBy w' v.ownBlock) (hv : v'.ownBlock = v.ownBlock ∨ v'.ownBlock = some w.heap.size) : WrOwn w' B v' (xs ++ [x]) := by
  refine ⟨by rw [List.length_append, List.flatMap_append]; simpa using ho, fun y hy => ?_⟩
  have key : WrIn w w.heap.size y ∧ ∀ a, y.A = some a → v.ownBlock ≠ some a.block ∧ a.block < w.heap.size := by
    rcases List.mem_append.1 hy with hy | hy
    · exact h.2 y hy
    · rw [List.mem_singleton] at hy
      subst hy
      exact ⟨hx, hn⟩
  refine ⟨key.1.grown hg (fun a ha => (key.2 a ha).1), fun a ha => ⟨fun e => ?_, Nat.lt_of_lt_of_le (key.2 a ha).2 hg.size⟩⟩
  rcases hv with e2 | e2
  · exact (key.2 a ha).1 (e2.symm.trans e)
  · have := (key.2 a ha).2
    rw [e2] at e
    injection e with e
    omega
theorem WrOwn.reads {w : World} {B n c : Nat} {A : Option Addr} {xs : List Wr} (h : WrOwn w B (.slice A n c) xs) (hn : xs.length = n) : WrsIn w w.heap.size A n c xs := by
  have h1 := h.1
  rw [hn] at h1
  obtain ⟨A', c', e, h2, h3⟩ := ownG_form h1
  injection e with e1 e2 e3
  subst e1 e3
  exact ⟨hn, h2, h3, Row.of_own h1, fun x hx => (h.2 x hx).1⟩
/-- The answer of reading a text as a line. -/
def LinAns (w' : World) (o : Option (List Dat)) (e : Ending) : Prop :=
  (o = none ∧ ∃ A c, e = .returned (.tuple #[.slice A 0 c, .bool false]) ∧ WrsIn w' w'.heap.size A 0 c []) ∨
  ∃ A c xs, o = some (xs.map Wr.dat) ∧ e = .returned (.tuple #[.slice A xs.length c, .bool true]) ∧ WrsIn w' w'.heap.size A xs.length c xs
theorem WrsIn.zero (w : World) (B : Nat) (A : Option Addr) : WrsIn w B A 0 0 [] := ⟨rfl, Nat.le_refl _, by unfold maxLen; omega, ⟨rfl, fun h => absurd h (by omega)⟩, by simp⟩
theorem infoWr : (Tryd.prog.info? 36).map (fun i => (i.zero, i.size, i.bytes)) = some (some (.agg #[.slice none 0 0, .int .i64 0]), 2, 32) := by kernel_rfl
theorem strRow_at {w : World} {B n c : Nat} {A : Option Addr} {ps : List (List UInt8)} (h : w.ownsRow B 9 1 (.slice A n c) n (ps.map strP)) {k : Nat} {p : List UInt8} (hk : ps[k]? = some p) :
    ∃ g, A = some ⟨g, 0, none⟩ ∧ w.cell? ⟨g, k, none⟩ = some (strP p) ∧ g < w.heap.size := by
  have hlt : k < ps.length := (List.getElem?_eq_some_iff.1 hk).1
  have hn : ps.length = n := by have := h.1; simpa using this
  rcases h.2 with ⟨_, h0⟩ | ⟨g, cap, cur, e, hB, hg, h1, h2, h3, h4⟩
  · omega
  · injection e with e1 e2 e3
    subst e1
    refine ⟨g, rfl, ?_, Blk.lt (w := w) (t := 9) hg⟩
    rw [Blk.cell (w := w) (t := 9) hg k]
    have hu : (ps.map strP)[k]? = some (strP p) := by rw [List.getElem?_map, hk]; rfl
    rw [← h4, List.getElem?_take_of_lt (by omega)] at hu
    simpa using hu
theorem part_len {l : List UInt8} {p : List UInt8} (h : p ∈ cutS l) : p.length ≤ l.length := by have := cutP_bd [] l p h; simpa using this
theorem wrFrom_bd {p : List UInt8} {ss : List Stroke} {q : Int} (h : wrFrom p = some (ss, q)) : 0 ≤ q ∧ q ≤ 2 := by
  cases p with
  | nil => cases h
  | cons c r =>
    simp only [wrFrom] at h
    split at h
    · rename_i h0
      obtain ⟨o, _, e⟩ := Option.map_eq_some_iff.1 h
      injection e with _ e
      subst e
      exact ⟨h0, (markN_le c).2⟩
    · cases h
theorem mkStr_isEmpty {l : List UInt8} (h : l ≠ []) : (mkStr l).toList.isEmpty = false := by
  rw [Lib.toList_data, mkStr_data]
  cases l with
  | nil => exact absurd rfl h
  | cons _ _ => rfl

set_option maxHeartbeats 1600000 in
theorem specLineFrom (l : List UInt8) (w : World) (hs : l.length ≤ 4096) :
    Calls Tryd.prog 12 #[.string (mkStr l)] w fun e w' => LinAns w' (lineFrom l) e ∧ Below w.heap.size w w' := by
  obtain ⟨i0, hi, hz0, hz1, hz2⟩ := info_parts infoWr
  have hal : Below w.heap.size w (w.alloc (.cells #[] 36)) := (Below.refl _ _).alloc (Nat.le_refl _) _
  by_cases h0 : l = []
  · subst h0
    have he : (mkStr []).toList.isEmpty = true := by rw [Lib.toList_data, mkStr_data]; rfl
    have HW := Lib.hid (fun (W : World) (B : Nat) (A : Option Addr) => WrsIn.zero W B A)
    go_enter Tryd.func12, Tryd.ntmps12
    go_wp2
    go_returns
    exact ⟨.inr ⟨_, _, [], rfl, rfl, HW.out _ _ _⟩, hal⟩
  have he := mkStr_isEmpty h0
  have HC := Lib.hid (l3Cut (mkStr l) (w.alloc (.cells #[] 36)) (by rw [mkStr_size]; exact hs))
  rw [mkStr_data] at HC
  have HLo := Lib.hid (fun h => lineFrom_long (l := l) h0 h)
  have HAl := Lib.hid (fun h => lineFrom_all (l := l) h0 h)
  have HNo := Lib.hid (fun p (h : p ∈ cutS l) hn => lineFrom_no h0 h hn)
  have HPl : Hid (∀ p ∈ cutS l, p.length ≤ 4096) := Lib.hid (fun p h => by have := part_len h; omega)
  have hm1 : 0 < (cutS l).length := by
    unfold cutS
    cases l with
    | nil => exact absurd rfl h0
    | cons c r =>
      unfold cutP
      split
      · simp
      · have : ∀ cur r, 0 < (cutP cur r).length := by
          intro cur r
          induction r generalizing cur with
          | nil => simp [cutP]
          | cons c r ih => unfold cutP; split <;> first | simp | exact ih _
        exact this _ _
  have HWn := Lib.hid (fun (W : World) (B : Nat) (A : Option Addr) => WrsIn.zero W B A)
  have HO0 := Lib.hid (World.ownsRow_made (base := w.heap.size) (e := 36) (size := 2) w #[] 0 (Nat.le_refl _) (by unfold maxLen; omega) rfl)
  generalize lineFrom l = ans at *
  generalize mkStr l = s at *
  clear hs h0
  obtain ⟨m, hm⟩ : ∃ m, m = (cutS l).length := ⟨_, rfl⟩
  rw [← hm] at HC HLo HAl hm1
  generalize cutS l = ps at *
  have HM := Lib.hid hm.symm
  clear hm
  by_cases h20 : m ≤ 20
  · go_enter Tryd.func12, Tryd.ntmps12
    go_wp2_with fail
    refine HC.out.mono ?_
    rintro e w1 ⟨⟨A, c, rfl, hO⟩, hb1⟩
    have b1 := below_next hal hb1
    have HR : Hid (w1.ownsRow (w.heap.size + 1) 9 1 (.slice A m c) m (ps.map strP)) := Lib.hid (by simpa using hO)
    have HO1 : Hid (WrOwn w1 w.heap.size (.slice (some ⟨w.heap.size, 0, none⟩) 0 0) []) := Lib.hid ⟨ownG_keep HO0.out hb1, by simp⟩
    have HA := Lib.hid (HAl.out h20)
    clear hO hb1 HC HLo HAl
    go_wp2
    go_loopw [4, 6] (fun v i wr => ∃ (k : Nat) (xs : List Wr), k ≤ m ∧ i = .int .i64 k ∧ Hid (xs.length = k) ∧ Hid (allFrom (ps.take k) = some (xs.map Wr.dat)) ∧ Hid (WrOwn wr w.heap.size v xs) ∧ Hid (wr.ownsRow (w.heap.size + 1) 9 1 (.slice A m c) m (ps.map strP)) ∧ Hid (∀ q, (Value.slice A m c).ownBlock = some q → v.ownBlock ≠ some q) ∧ Below w.heap.size w wr) (fun _ i _ => m - (intOf i).toNat)
    case atStart => exact ⟨0, [], Nat.zero_le _, rfl, Lib.hid rfl, Lib.hid rfl, HO1, HR, Lib.hid (fun q hq e => by have h1 := ownG_base HR.out hq; injection e with e; simp at e; omega), b1⟩
    case round =>
      obtain ⟨k, xs, hk, rfl, HX, HF, HO, HRr, HQ, hb⟩ := hrel
      have hz := hb.size
      by_cases hlt : k < m
      · have hkl : k < ps.length := by rw [HM.out]; exact hlt
        obtain ⟨p, hp⟩ : ∃ p, ps[k]? = some p := ⟨_, List.getElem?_eq_getElem hkl⟩
        obtain ⟨g, rfl, x0, _⟩ := strRow_at HRr.out hp
        have hpm := List.mem_of_getElem? hp
        have HWf := Lib.hid (specWrittenFrom p wr (HPl.out p hpm))
        have HSn : Hid (allFrom (ps.take (k + 1)) = (wrFrom p).map fun d => xs.map Wr.dat ++ [d]) := Lib.hid (by
          rw [List.take_add_one, hp]
          show allFrom (ps.take k ++ [p]) = _
          rw [allFrom_snoc, HF.out]; rfl)
        have HNp := Lib.hid (fun h => HNo.out p hpm h)
        unfold strP at x0
        clear hp hpm hkl
        go_wp2_with fail
        refine HWf.out.mono ?_
        rintro e w2 ⟨hA2, hb2⟩
        have b2 := below_next hb hb2
        have HR2 := Lib.hid (ownG_keep HRr.out hb2)
        have hsz2 := hb2.size
        have HVb : Hid (∀ q, u4.ownBlock = some q → q < wr.heap.size) := Lib.hid (fun q hq => ownG_lt HO.out.1 hq)
        have HO2 : Hid (WrOwn w2 w.heap.size u4 xs) := Lib.hid (HO.out.keep hb2)
        clear hb2 HWf HO HRr
        rcases hA2 with ⟨hno, rfl⟩ | ⟨A2, c2, ss, q, hso, rfl, hS2, hg2⟩
        · have hn := HNp.out hno
          subst hn
          have b3 := b2.alloc b2.size (.cells #[.slice none 0 0, .int .i64 0] 36)
          have b4 := b3.alloc b3.size (.cells #[] 36)
          clear hno
          go_wp2
          go_returns
          exact ⟨.inl ⟨rfl, _, _, rfl, HWn.out _ _ _⟩, b4⟩
        · have HBl : Hid (∀ a, A2 = some a → u4.ownBlock ≠ some a.block ∧ a.block < w2.heap.size) := Lib.hid (by
            rintro a rfl
            have h1 := ownG_base hS2 (k := a.block) rfl
            have h2 := ownG_lt hS2 (b := a.block) rfl
            exact ⟨fun e => by have := HVb.out _ e; omega, h2⟩)
          have HWr : Hid (WrIn w2 w2.heap.size ⟨A2, ss.length, c2, ss, q⟩) := Lib.hid ⟨hS2.reads rfl hg2, show (Lit.int .i64 q).wf = true from WalkArith.wf_i64 (by have := wrFrom_bd hso; omega)⟩
          have HF2 : Hid (allFrom (ps.take (k + 1)) = some ((xs ++ [(⟨A2, ss.length, c2, ss, q⟩ : Wr)]).map Wr.dat)) := Lib.hid (by rw [HSn.out, hso, List.map_append]; rfl)
          clear hso hS2 hg2 HSn HNp
          generalize hNn : ss.length = N2 at *
          have HNn := Lib.hid hNn; clear hNn
          have b3 := b2.alloc b2.size (.cells #[.slice A2 N2 c2, .int .i64 q] 36)
          have K3 := Blk.new w2 36 #[.slice A2 N2 c2, .int .i64 q]
          obtain ⟨k0, k1, _, _⟩ := K3.two
          have hxl := HX.out
          go_wp2_with (at_builtin; refine wpList_append_any _ rfl (.tmp 37) (.tmp 39) _ rfl w.heap.size 36 i0 _ 2 32 Tryd.underlying23 hi hz0 hz1 hz2 rfl (by omega) _ xs.length (xs.flatMap wrC) rfl ((ownG_keep HO2.out.1 ((Below.refl _ _).alloc (Nat.le_refl _) _)).alloc _) ((w2.alloc (.cells #[.slice A2 N2 c2, .int .i64 q] 36)).heap.size + 1) (some ⟨(w2.alloc (.cells #[.slice A2 N2 c2, .int .i64 q] 36)).heap.size, 0, none⟩) 1 1 [.slice A2 N2 c2, .int .i64 q] (by simp [Act.eval, Act.put]) (rowNewSt _ _ _ _) (by simp [Value.oneCell']) (by unfold maxLen; omega) (by omega) (by have := b2.size; simp; omega) ?_; intro v4 w4 hown4 hg4 hat4)
          have b4 := (b3.alloc b3.size (.cells #[.slice A2 N2 c2, .int .i64 q] 36)).grown hg4 (b3.alloc b3.size (.cells #[.slice A2 N2 c2, .int .i64 q] 36)).size (fun z hz => ownG_base HO2.out.1 hz)
          have hal2 : Below w2.heap.size w2 ((w2.alloc (.cells #[.slice A2 N2 c2, .int .i64 q] 36)).alloc (.cells #[.slice A2 N2 c2, .int .i64 q] 36)) := ((Below.refl _ _).alloc (Nat.le_refl _) _).alloc (by simp) _
          have hsa := hal2.size
          have HO4 : Hid (WrOwn w4 w.heap.size v4 (xs ++ [⟨A2, N2, c2, ss, q⟩])) := Lib.hid (WrOwn.push (HO2.out.keep hal2) (HWr.out.keep hal2) (fun a ha => ⟨(HBl.out a ha).1, Nat.lt_of_lt_of_le (HBl.out a ha).2 hsa⟩) hown4 hg4 hat4)
          have HR4 := Lib.hid (ownG_congr (w' := w4) (ownG_keep HR2.out hal2) (fun z hz => hg4.block z (Nat.lt_of_lt_of_le (ownG_lt HR2.out hz) hsa) (fun e => HQ.out z hz e.symm)))
          have HQ4 : Hid (∀ z, (Value.slice (some ⟨g, 0, none⟩) m c).ownBlock = some z → v4.ownBlock ≠ some z) := Lib.hid (fun z hz e => by
            rcases hat4 with e2 | e2
            · exact HQ.out z hz (e2.symm.trans e)
            · have := ownG_lt HR2.out hz
              rw [e2] at e
              injection e with e
              omega)
          have HX4 : Hid ((xs ++ [(⟨A2, N2, c2, ss, q⟩ : Wr)]).length = k + 1) := Lib.hid (by rw [List.length_append, HX.out]; rfl)
          refine ⟨⟨k + 1, xs ++ [⟨A2, N2, c2, ss, q⟩], by omega, by go_num, HX4, HF2, HO4, HR4, HQ4, b4⟩, by simp [intOf]; omega⟩
      · have e2 : ps.take k = ps := List.take_of_length_le (by rw [HM.out]; omega)
        rw [e2] at HF
        have HE : Hid (ans = some (xs.map Wr.dat)) := Lib.hid (HA.out.trans HF.out)
        obtain ⟨A5, c5, rfl, _, _⟩ := ownG_form HO.out.1
        have HR5 := Lib.hid (HO.out.reads rfl)
        clear e2
        go_wp2
        go_returns
        exact ⟨.inr ⟨A5, c5, xs, HE.out, rfl, HR5.out⟩, hb⟩
  · have hn := HLo.out h20
    subst hn
    have hkl : 0 < ps.length := by rw [HM.out]; exact hm1
    obtain ⟨p, hp⟩ : ∃ p, ps[0]? = some p := ⟨_, List.getElem?_eq_getElem hkl⟩
    have hpl := HPl.out p (List.mem_of_getElem? hp)
    have HP0 := Lib.hid hp
    clear hkl hp
    go_enter Tryd.func12, Tryd.ntmps12
    go_wp2_with fail
    refine HC.out.mono ?_
    rintro e w1 ⟨⟨A, c, rfl, hO⟩, hb1⟩
    have b1 := below_next hal hb1
    obtain ⟨g, rfl, x0, _⟩ := strRow_at hO HP0.out
    have HX0 := Lib.hid x0
    unfold strP at HX0
    have HWf := Lib.hid (fun W => specWrittenFrom p W hpl)
    clear hO hb1 HC HLo HAl x0
    go_wp2
    go_loopw [4, 6] (fun v i wr => v = .slice (some ⟨w.heap.size, 0, none⟩) 0 0 ∧ i = .int .i64 0 ∧ Hid (wr.cell? ⟨g, 0, none⟩ = some (.string (mkStr p))) ∧ Below w.heap.size w wr) (fun _ _ _ => 0)
    case atStart => exact ⟨rfl, rfl, HX0, b1⟩
    case round =>
      obtain ⟨rfl, rfl, HX, hb⟩ := hrel
      have x0 := HX.out
      have h1 : (0 : Int) < (m : Int) := by omega
      have h2 : (20 : Int) < (m : Int) := by omega
      go_wp2_with fail
      refine (HWf.out _).mono ?_
      rintro e w2 ⟨hA2, hb2⟩
      have b2 := below_next hb hb2
      clear hb2 HWf HX x0
      rcases hA2 with ⟨_, rfl⟩ | ⟨A2, c2, ss, q, _, rfl, _, _⟩
      · have b3 := b2.alloc b2.size (.cells #[.slice none 0 0, .int .i64 0] 36)
        have b4 := b3.alloc b3.size (.cells #[] 36)
        go_wp2
        go_returns
        exact ⟨.inl ⟨rfl, _, _, rfl, HWn.out _ _ _⟩, b4⟩
      · generalize ss.length = N2 at *
        have b3 := b2.alloc b2.size (.cells #[.slice A2 N2 c2, .int .i64 q] 36)
        have b4 := b3.alloc b3.size (.cells #[] 36)
        go_wp2
        go_returns
        exact ⟨.inl ⟨rfl, _, _, rfl, HWn.out _ _ _⟩, b4⟩

/-- Lines of equal forms are the same. -/
theorem sameLine (A A' : Option Addr) (n c c' : Nat) (xs ys : List Wr) (w : World) (h : WrsIn w w.heap.size A n c xs) (h' : WrsIn w w.heap.size A' n c' ys) (he : xs.map Wr.dat = ys.map Wr.dat) :
    Calls Tryd.prog 9 #[.slice A n c, .slice A' n c'] w fun e w' => e = .returned (.bool true) ∧ Below w.heap.size w w' := by
  have hm := h.2.2.1; have hnc := h.2.1
  unfold maxLen at hm
  have HL := Lib.hid h.1
  have H := Lib.hid h; have H' := Lib.hid h'
  have HE : Hid (∀ k, k < n → (wrAt xs k).dat = (wrAt ys k).dat) := Lib.hid (fun k hk => by
    have h1 := wrAt_some (xs := xs) (k := k) (by rw [h.1]; exact hk)
    have h2 := wrAt_some (xs := ys) (k := k) (by rw [h'.1]; exact hk)
    have h3 := congrArg (·[k]?) he
    simp only [List.getElem?_map, h1, h2, Option.map_some] at h3
    exact Option.some.inj h3)
  clear h h' he
  go_enter Tryd.func9, Tryd.ntmps9
  go_wp2
  go_loopw [5] (fun i wr => ∃ k : Nat, k ≤ n ∧ i = .int .i64 k ∧ Below w.heap.size w wr) (fun i _ => n - (intOf i).toNat)
  case atStart => exact ⟨0, Nat.zero_le _, rfl, Below.refl _ _⟩
  case round =>
    obtain ⟨k, hk, rfl, hb⟩ := hrel
    by_cases hlt : k < n
    · obtain ⟨b, off, eA, _, c0, c1, hx⟩ := (H.out.keep hb).at_ hlt
      obtain ⟨b', off', eA', _, c0', c1', hy⟩ := (H'.out.keep hb).at_ hlt
      have he := HE.out k hlt
      subst eA eA'
      generalize wrAt xs k = x at *
      generalize wrAt ys k = y at *
      obtain ⟨xA, xn, xc, xs', xp⟩ := x
      obtain ⟨yA, yn, yc, ys', yp⟩ := y
      obtain ⟨rfl, rfl⟩ : xs' = ys' ∧ xp = yp := by unfold Wr.dat at he; exact ⟨congrArg Prod.fst he, congrArg Prod.snd he⟩
      obtain rfl : xn = yn := hx.1.1.symm.trans hy.1.1
      have HV : Hid (∀ W, Below wr.heap.size wr W → Calls Tryd.prog 21 #[.agg #[.slice xA xn xc, .int .i64 xp], .agg #[.slice yA xn yc, .int .i64 xp]] W fun e w' => e = .returned (.bool true) ∧ Below W.heap.size W w') := Lib.hid (fun W hW => sameWritten xA yA xn xc yc xs' xp W (hx.1.keep hW) (hy.1.keep hW))
      clear he hx hy
      dsimp only at c0 c1 c0' c1'
      have r0 := qcell c0; have r1 := qcell c1; have r0' := qcell c0'; have r1' := qcell c1'
      have i1 : (0 : Int) ≤ (k : Int) := by omega
      have i2 : (k : Int) < (n : Int) := by omega
      go_wp2_with fail
      refine region_qb (by kernel_rfl) (by kernel_rfl) ?_
      repeat (first | go_big_quiet_step ((go_at_call 21; exact quietB (HV.out _ (below_regrown wr _ _)))) | quiet_step ((go_at_call 21; exact quietB (HV.out _ (below_regrown wr _ _)))))
      refine wpQuiet_nil ?_
      intro w1 hb1; have b1 := below_next hb hb1
      clear r0 r1 r0' r1' c0 c1 c0' c1' hb1
      go_wp2
      go_roundw
      case rel => exact ⟨k + 1, by omega, by go_num, b1⟩
      case measure => simp [intOf]; omega
    · go_wp2
      go_ret
      exact ⟨rfl, hb⟩
end Go.Proofs.YtppjjbjjbmodbaaDoor
