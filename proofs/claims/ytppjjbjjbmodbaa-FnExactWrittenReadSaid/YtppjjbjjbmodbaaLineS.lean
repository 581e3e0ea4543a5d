/-
  A text read as a line, of the reference; lines compared. Conditions: the text is no longer than a law's texts.
-/
import Derived.Test.YtppjjbjjbmodbaaCut
import Derived.Test.YtppjjbjjbmodbaaSameW
namespace Go.Proofs.Ytppjjbjjbmodbaa
open Go.ChangeShapes Go.WideShapes Go.ChangeAt Go.RowKit
set_option maxRecDepth 100000
set_option linter.unusedSimpArgs false

def allFrom : List (List UInt8) → Option (List Dat)
  | [] => some []
  | p :: r => (wrFrom p).bind fun d => (allFrom r).map (d :: ·)
def lineFrom (l : List UInt8) : Option (List Dat) := if l = [] then some [] else if (cutS l).length ≤ 20 then allFrom (cutS l) else none
theorem allFrom_snoc (a : List (List UInt8)) (p : List UInt8) : allFrom (a ++ [p]) = (allFrom a).bind fun L => (wrFrom p).map fun d => L ++ [d] := by
  induction a with
  | nil => simp only [List.nil_append, allFrom]; cases wrFrom p <;> rfl
  | cons x r ih =>
    simp only [List.cons_append, allFrom, ih]
    cases wrFrom x <;> cases allFrom r <;> cases wrFrom p <;> rfl
theorem allFrom_no {a : List (List UInt8)} {p : List UInt8} (h : p ∈ a) (hn : wrFrom p = none) : allFrom a = none := by
  induction a with
  | nil => cases h
  | cons x r ih =>
    rcases List.mem_cons.1 h with rfl | h
    · simp [allFrom, hn]
    · simp only [allFrom, ih h]; cases wrFrom x <;> rfl
theorem lineFrom_no {l : List UInt8} {p : List UInt8} (h0 : l ≠ []) (h : p ∈ cutS l) (hn : wrFrom p = none) : lineFrom l = none := by
  unfold lineFrom; rw [if_neg h0]; split
  · exact allFrom_no h hn
  · rfl
theorem lineFrom_long {l : List UInt8} (h0 : l ≠ []) (h : ¬ (cutS l).length ≤ 20) : lineFrom l = none := by unfold lineFrom; rw [if_neg h0, if_neg h]
theorem lineFrom_all {l : List UInt8} (h0 : l ≠ []) (h : (cutS l).length ≤ 20) : lineFrom l = allFrom (cutS l) := by unfold lineFrom; rw [if_neg h0, if_pos h]

/-- Forms of the call's own in a row. -/
def WrOwn (w : World) (B : Nat) (v : Value) (xs : List Wr) : Prop := w.ownsRow B 35 2 v xs.length (xs.flatMap wrC) ∧ ∀ x ∈ xs, WrIn w w.heap.size x ∧ ∀ a, x.A = some a → v.ownBlock ≠ some a.block ∧ a.block < w.heap.size
theorem Row.grown {w w' : World} {B n sz : Nat} {A : Option Addr} {xs : List Value} {row : Option Nat} (h : Row w B A n sz xs) (hg : w.grownBy w' row) (hne : ∀ a, A = some a → row ≠ some a.block) : Row w' B A n sz xs := by
  refine ⟨h.1, fun h0 => ?_⟩
  obtain ⟨b, off, e, hb, hc⟩ := h.2 h0
  refine ⟨b, off, e, hb, fun j x hx => ?_⟩
  have h1 := hc j x hx
  have hlt := World.block_lt_of_cell? _ _ h1
  unfold World.cell? at h1 ⊢
  rw [hg.block _ hlt (fun e2 => hne _ e e2.symm)]
  exact h1
theorem WrIn.grown {w w' : World} {x : Wr} {row : Option Nat} (h : WrIn w w.heap.size x) (hg : w.grownBy w' row) (hne : ∀ a, x.A = some a → row ≠ some a.block) : WrIn w' w'.heap.size x :=
  WrIn.more ⟨⟨h.1.1, h.1.2.1, h.1.2.2.1, h.1.2.2.2.1.grown hg hne, h.1.2.2.2.2⟩, h.2⟩ hg.size
theorem WrOwn.keep {w w' : World} {B : Nat} {v : Value} {xs : List Wr} (h : WrOwn w B v xs) (hb : Below w.heap.size w w') : WrOwn w' B v xs :=
  ⟨ownG_keep h.1 hb, fun x hx => ⟨(h.2 x hx).1.keep hb, fun a ha => ⟨((h.2 x hx).2 a ha).1, Nat.lt_of_lt_of_le ((h.2 x hx).2 a ha).2 hb.size⟩⟩⟩
/-- A form of a later row joins the row. -/
theorem WrOwn.push {w w' : World} {B : Nat} {v v' : Value} {xs : List Wr} {x : Wr} (h : WrOwn w B v xs) (hx : WrIn w w.heap.size x) (hn : ∀ a, x.A = some a → v.ownBlock ≠ some a.block ∧ a.block < w.heap.size)
    (ho : w'.ownsRow B 35 2 v' (xs.length + 1) (xs.flatMap wrC ++ wrC x)) (hg : w.grownBy w' v.ownBlock) (hv : v'.ownBlock = v.ownBlock ∨ v'.ownBlock = some w.heap.size) : WrOwn w' B v' (xs ++ [x]) := by
  refine ⟨by rw [List.length_append, List.flatMap_append]; simpa using ho, fun y hy => ?_⟩
  have key : WrIn w w.heap.size y ∧ ∀ a, y.A = some a → v.ownBlock ≠ some a.block ∧ a.block < w.heap.size := by
    rcases List.mem_append.1 hy with hy | hy
    · exact h.2 y hy
    · rw [List.mem_singleton] at hy
      subst hy
      exact ⟨hx, hn⟩
  refine ⟨key.1.grown hg (fun a ha => (key.2 a ha).1), fun a ha => ⟨fun e => ?_, Nat.lt_of_lt_of_le (key.2 a ha).2 hg.size⟩⟩
  rcases hv with e2 | e2
  · exact (key.2 a ha).1 (e2.symm.trans e)
  · have := (key.2 a ha).2
    rw [e2] at e
    injection e with e
    omega
theorem WrOwn.reads {w : World} {B n c : Nat} {A : Option Addr} {xs : List Wr} (h : WrOwn w B (.slice A n c) xs) (hn : xs.length = n) : WrsIn w w.heap.size A n c xs := by
  have h1 := h.1
  rw [hn] at h1
  obtain ⟨A', c', e, h2, h3⟩ := ownG_form h1
  injection e with e1 e2 e3
  subst e1 e3
  exact ⟨hn, h2, h3, Row.of_own h1, fun x hx => (h.2 x hx).1⟩
/-- The answer of reading a text as a line. -/
def LinAns (w' : World) (o : Option (List Dat)) (e : Ending) : Prop :=
  (o = none ∧ ∃ A c, e = .returned (.tuple #[.slice A 0 c, .bool false]) ∧ WrsIn w' w'.heap.size A 0 c []) ∨
  ∃ A c xs, o = some (xs.map Wr.dat) ∧ e = .returned (.tuple #[.slice A xs.length c, .bool true]) ∧ WrsIn w' w'.heap.size A xs.length c xs
theorem WrsIn.zero (w : World) (B : Nat) (A : Option Addr) : WrsIn w B A 0 0 [] := ⟨rfl, Nat.le_refl _, by unfold maxLen; omega, ⟨rfl, fun h => absurd h (by omega)⟩, by simp⟩
theorem infoWr : (Try.prog.info? 35).map (fun i => (i.zero, i.size, i.bytes)) = some (some (.agg #[.slice none 0 0, .int .i64 0]), 2, 32) := by kernel_rfl
theorem strRow_at {w : World} {B n c : Nat} {A : Option Addr} {ps : List (List UInt8)} (h : w.ownsRow B 9 1 (.slice A n c) n (ps.map strP)) {k : Nat} {p : List UInt8} (hk : ps[k]? = some p) :
    ∃ g, A = some ⟨g, 0, none⟩ ∧ w.cell? ⟨g, k, none⟩ = some (strP p) ∧ g < w.heap.size := by
  have hlt : k < ps.length := (List.getElem?_eq_some_iff.1 hk).1
  have hn : ps.length = n := by have := h.1; simpa using this
  rcases h.2 with ⟨_, h0⟩ | ⟨g, cap, cur, e, hB, hg, h1, h2, h3, h4⟩
  · omega
  · injection e with e1 e2 e3
    subst e1
    refine ⟨g, rfl, ?_, Blk.lt (w := w) (t := 9) hg⟩
    rw [Blk.cell (w := w) (t := 9) hg k]
    have hu : (ps.map strP)[k]? = some (strP p) := by rw [List.getElem?_map, hk]; rfl
    rw [← h4, List.getElem?_take_of_lt (by omega)] at hu
    simpa using hu
theorem part_len {l : List UInt8} {p : List UInt8} (h : p ∈ cutS l) : p.length ≤ l.length := by have := cutP_bd [] l p h; simpa using this
theorem wrFrom_bd {p : List UInt8} {ss : List Stroke} {q : Int} (h : wrFrom p = some (ss, q)) : 0 ≤ q ∧ q ≤ 2 := by
  cases p with
  | nil => cases h
  | cons c r =>
    simp only [wrFrom] at h
    split at h
    · rename_i h0
      obtain ⟨o, _, e⟩ := Option.map_eq_some_iff.1 h
      injection e with _ e
      subst e
      exact ⟨h0, (markN_le c).2⟩
    · cases h
theorem mkStr_isEmpty {l : List UInt8} (h : l ≠ []) : (mkStr l).toList.isEmpty = false := by
  rw [Lib.toList_data, mkStr_data]
  cases l with
  | nil => exact absurd rfl h
  | cons _ _ => rfl

/-- Lines of equal forms are the same. -/
theorem sameLine (A A' : Option Addr) (n c c' : Nat) (xs ys : List Wr) (w : World) (h : WrsIn w w.heap.size A n c xs) (h' : WrsIn w w.heap.size A' n c' ys) (he : xs.map Wr.dat = ys.map Wr.dat) :
    Calls Try.prog 11 #[.slice A n c, .slice A' n c'] w fun e w' => e = .returned (.bool true) ∧ Below w.heap.size w w' := by
  have hm := h.2.2.1; have hnc := h.2.1
  unfold maxLen at hm
  have HL := Lib.hid h.1
  have H := Lib.hid h; have H' := Lib.hid h'
  have HE : Hid (∀ k, k < n → (wrAt xs k).dat = (wrAt ys k).dat) := Lib.hid (fun k hk => by
    have h1 := wrAt_some (xs := xs) (k := k) (by rw [h.1]; exact hk)
    have h2 := wrAt_some (xs := ys) (k := k) (by rw [h'.1]; exact hk)
    have h3 := congrArg (·[k]?) he
    simp only [List.getElem?_map, h1, h2, Option.map_some] at h3
    exact Option.some.inj h3)
  clear h h' he
  go_enter Try.func11, Try.ntmps11
  go_wp2
  go_loopw [5] (fun i wr => ∃ k : Nat, k ≤ n ∧ i = .int .i64 k ∧ Below w.heap.size w wr) (fun i _ => n - (intOf i).toNat)
  case atStart => exact ⟨0, Nat.zero_le _, rfl, Below.refl _ _⟩
  case round =>
    obtain ⟨k, hk, rfl, hb⟩ := hrel
    by_cases hlt : k < n
    · obtain ⟨b, off, eA, _, c0, c1, hx⟩ := (H.out.keep hb).at_ hlt
      obtain ⟨b', off', eA', _, c0', c1', hy⟩ := (H'.out.keep hb).at_ hlt
      have he := HE.out k hlt
      subst eA eA'
      generalize wrAt xs k = x at *
      generalize wrAt ys k = y at *
      obtain ⟨xA, xn, xc, xs', xp⟩ := x
      obtain ⟨yA, yn, yc, ys', yp⟩ := y
      obtain ⟨rfl, rfl⟩ : xs' = ys' ∧ xp = yp := by unfold Wr.dat at he; exact ⟨congrArg Prod.fst he, congrArg Prod.snd he⟩
      obtain rfl : xn = yn := hx.1.1.symm.trans hy.1.1
      have HV : Hid (∀ W, Below wr.heap.size wr W → Calls Try.prog 49 #[.agg #[.slice xA xn xc, .int .i64 xp], .agg #[.slice yA xn yc, .int .i64 xp]] W fun e w' => e = .returned (.bool true) ∧ Below W.heap.size W w') := Lib.hid (fun W hW => sameWritten xA yA xn xc yc xs' xp W (hx.1.keep hW) (hy.1.keep hW))
      clear he hx hy
      dsimp only at c0 c1 c0' c1'
      have r0 := qcell c0; have r1 := qcell c1; have r0' := qcell c0'; have r1' := qcell c1'
      have i1 : (0 : Int) ≤ (k : Int) := by omega
      have i2 : (k : Int) < (n : Int) := by omega
      go_wp2_with fail
      refine region_qb (by kernel_rfl) (by kernel_rfl) ?_
      repeat (first | go_big_quiet_step ((go_at_call 49; exact quietB (HV.out _ (below_regrown wr _ _)))) | quiet_step ((go_at_call 49; exact quietB (HV.out _ (below_regrown wr _ _)))))
      refine wpQuiet_nil ?_
      intro w1 hb1; have b1 := below_next hb hb1
      clear r0 r1 r0' r1' c0 c1 c0' c1' hb1
      go_wp2
      go_roundw
      case rel => exact ⟨k + 1, by omega, by go_num, b1⟩
      case measure => simp [intOf]; omega
    · go_wp2
      go_ret
      exact ⟨rfl, hb⟩
end Go.Proofs.Ytppjjbjjbmodbaa
