/-
  slices.Chunk at pads, with pieces of four: its iterator's contract. Conditions: the list lies in memory that was there when the loop began.
-/
import Derived.Test.YtlphefpgnfogfaaPackLaw
import Derived.Test.YtlphefpgnfogfaaTreeB
import Derived.RangeFuncCalls
import Derived.RangeFuncLeaves
import Derived.RangeFuncBox
import Derived.RangeFuncWrites
import Derived.Shelf.Abstract
import Derived.OwnWalkIn
import Derived.TacticsInMore
import Derived.LoopNIn
import Derived.LoopIn
namespace Go.Proofs.Ytlphefpgnfogfaa
open Go.ChangeShapes Go.WideShapes Go.ChangeAt Go.RowKit Go.Shelf
set_option maxRecDepth 100000

attribute [local go_sem] Oper.semAt_some

/-- Below n, all blocks but those from lo to q lie as they lay. -/
def KeepB (n lo q : Nat) (W W' : World) : Prop := ∀ b, b < n → b < lo ∨ q < b → W'.heap[b]? = W.heap[b]?
theorem KeepB.refl (n lo q : Nat) (W : World) : KeepB n lo q W W := fun _ _ _ => rfl
theorem KeepB.trans {n lo q : Nat} {W1 W2 W3 : World} (h : KeepB n lo q W1 W2) (h2 : KeepB n lo q W2 W3) : KeepB n lo q W1 W3 := fun b hb hq => (h2 b hb hq).trans (h b hb hq)
theorem KeepB.cell {n lo q : Nat} {W W' : World} (h : KeepB n lo q W W') {p : Addr} (hb : p.block < n) (hq : q < p.block) : W'.cell? p = W.cell? p := by
  unfold World.cell?; rw [h _ hb (.inr hq)]
theorem KeepB.of_below {n lo q : Nat} {W W' : World} (h : Below n W W') : KeepB n lo q W W' := fun b hb _ => h.block b hb
theorem KeepB.row {w w' : World} {B lo q n sz : Nat} {A : Option Addr} {xs : List Value} (hk : KeepB B lo q w w') (h : Row w B A n sz xs) (hA : ∀ a, A = some a → q < a.block) : Row w' B A n sz xs := by
  refine ⟨h.1, fun hn => ?_⟩
  obtain ⟨b, off, e, hb, hc⟩ := h.2 hn
  exact ⟨b, off, e, hb, fun j x hx => (hk.cell (p := ⟨b, off + j, none⟩) hb (show q < b from hA _ e)).trans (hc j x hx)⟩
theorem KeepB.pads {w w' : World} {B lo q n c : Nat} {A : Option Addr} {ps : List Pad} (hk : KeepB B lo q w w') (h : PadsIn w B A n c ps) (hA : ∀ a, A = some a → q < a.block) : PadsIn w' B A n c ps :=
  ⟨h.1, h.2.1, h.2.2.1, hk.row h.2.2.2.1 hA, h.2.2.2.2⟩
/-- A piece of a list of pads. -/
def PieceIn (w : World) (B q : Nat) (d : Drawer) : Prop := PadsIn w B d.A d.n d.c d.ps ∧ (∀ a, d.A = some a → q < a.block) ∧ 1 ≤ d.n ∧ d.n ≤ 4
abbrev Piece (w : World) (B q : Nat) := { d : Drawer // PieceIn w B q d }
def pieceD (A : Option Addr) (N : Nat) (ps : List Pad) (k : Nat) : Drawer := ⟨A.map (·.add (4 * k * 2)), min 4 (N - 4 * k), min 4 (N - 4 * k), pieceAt ps N k⟩
theorem run_mid {P : Program} {t : TypeId} {sz : Nat} (ht : P.underlying t = some (.slice (P.elem t))) (hs : ∀ w, (sizeOf (P.elem t)).run P w = .ok sz w) (a : Option Addr) (n c lo m : Nat) (hm : 0 < m) (hn : lo + m ≤ c) (w : World) :
    (Instr.slice t (.slice a n c) (some (.int .i64 (lo : Int))) (some (.int .i64 ((lo : Int) + (m : Int)))) (some (.int .i64 ((lo : Int) + (m : Int))))).run P w = .ok (.slice (a.map (·.add (lo * sz))) m m) w := by
  rw [run_slice_lhm w t a n c ht .i64 .i64 .i64 (lo : Int) ((lo : Int) + (m : Int)) ((lo : Int) + (m : Int)) (by omega) (by omega) (by omega) (by omega), hs]
  have h1 : ((lo : Int) + (m : Int)).toNat = lo + m := by omega
  simp only [Result.andThen, sliced, h1, Int.toNat_natCast]
  rw [show lo + m - lo = m by omega, if_neg (by omega)]
theorem pieceD_in {w : World} {B q N c k : Nat} {A : Option Addr} {ps : List Pad} (h : PadsIn w B A N c ps) (hA : ∀ a, A = some a → q < a.block) (hk : 4 * k < N) : PieceIn w B q (pieceD A N ps k) := by
  have h1 := (h.from_ (k := 4 * k) (by omega)).upto (k := min 4 (N - 4 * k)) (by omega)
  have hc := h.2.1
  refine ⟨⟨?_, Nat.le_refl _, ?_, ?_, ?_⟩, ?_, ?_, ?_⟩
  · exact h1.1
  · show min 4 (N - 4 * k) ≤ maxLen
    have := h1.2.2.1; have := h1.2.1; omega
  · have h4 := h1.2.2.2.1
    unfold fromA at h4
    rw [if_neg (by omega)] at h4
    exact h4
  · exact h1.2.2.2.2
  · intro a ha
    obtain ⟨a0, h0, rfl⟩ := Option.map_eq_some_iff.1 ha
    have := hA a0 h0
    unfold Addr.add
    split <;> exact this
  · show 1 ≤ min 4 (N - 4 * k); omega
  · show min 4 (N - 4 * k) ≤ 4; omega

set_option maxHeartbeats 2000000 in
theorem chunkIn (n l Bs Bn n₀ lo q N c : Nat) (w0 : World) (A : Option Addr) (ps : List Pad) (HP : PadsIn w0 n₀ A N c ps) (hN : N ≤ 1048576) (hn : 1 ≤ n) (hBs : Bs < n₀) (hBn : Bn < n₀) (hqs : q < Bs) (hqn : q < Bn) (hA : ∀ a, A = some a → q < a.block) (J Jx : List (Piece w0 n₀ q) → World → Prop) (hAb : ∀ s W, J s W → J s W.drew)
    (hY : ∀ pre x W, J pre W → pre.length < (N + 3) / 4 → YieldAt Fence.wide (n - 1) Try.prog l #[x.1.v] W fun e W' =>
      (e = .returned (.bool true) ∧ J (pre ++ [x]) W' ∧ KeepB n₀ lo q W W') ∨ (e = .returned (.bool false) ∧ Jx (pre ++ [x]) W'))
    (W : World) (hs : W.cell? ⟨Bs, 0, none⟩ = some (.slice A N c)) (h4 : W.cell? ⟨Bn, 0, none⟩ = some (.int .i64 4)) (h0 : J [] W) :
    CallsIn Fence.wide n Try.prog 34 #[.func (.yield l) #[] #[], .pointer (some ⟨Bs, 0, none⟩), .pointer (some ⟨Bn, 0, none⟩)] W fun e W' => (∃ v, e = .returned v) ∧
      ((∃ ys : List (Piece w0 n₀ q), ys.map (·.1) = (List.range ((N + 3) / 4)).map (pieceD A N ps) ∧ J ys W') ∨ (∃ pre, True ∧ Jx pre W')) := by
  refine callsIn_of_wp Try.func34 rfl trivial ?_ rfl
  simp only [Try.ntmps34, List.size_toArray, List.length_cons, List.length_nil, Nat.reduceAdd, Nat.reduceSub, Array.replicate_succ, Array.replicate_zero, List.push_toArray, List.append_toArray, List.nil_append, List.cons_append]
  gi_wp2
  gi_loopw [4] (fun iv wr => ∃ (k i : Nat) (pre : List (Piece w0 n₀ q)), Hid (i = 4 * k ∧ k ≤ (N + 3) / 4) ∧ iv = .int .i64 i ∧ Hid (pre.map (·.1) = (List.range k).map (pieceD A N ps)) ∧ J pre wr ∧ KeepB n₀ lo q W wr)
    (fun i _ => N + 8 - (intOf i).toNat)
  case atStart => exact ⟨0, 0, [], Lib.hid ⟨rfl, Nat.zero_le _⟩, rfl, Lib.hid rfl, h0, KeepB.refl _ _ _ _⟩
  case round =>
    obtain ⟨k, i, pre, HK, rfl, HM, hJ, hb⟩ := hrel
    have c1 := (hb.cell (p := ⟨Bs, 0, none⟩) hBs hqs).trans hs
    have c2 := (hb.cell (p := ⟨Bn, 0, none⟩) hBn hqn).trans h4
    by_cases hlt : i < N
    · have hki : 4 * k < N := by have := HK.out; omega
      obtain ⟨fn, tmps, assign, body, hy, hR⟩ := hY pre ⟨pieceD A N ps k, pieceD_in HP hA hki⟩ wr.drew (hAb _ _ hJ) (by
        have := congrArg List.length HM.out
        rw [List.length_map, List.length_map, List.length_range] at this
        have := HK.out; omega)
      obtain ⟨m, hm⟩ : ∃ m, m = min 4 (N - i) := ⟨_, rfl⟩
      have hm1 : 0 < m := by omega
      have hmN : i + m ≤ c := by have := HP.2.1; omega
      have hmI : min (4 : Int) ((N - i : Nat) : Int) = (m : Int) := by omega
      have hmm : m ≤ 4 := by omega
      have hv : (pieceD A N ps k).v = .slice (A.map (·.add (i * 2))) m m := by
        have := HK.out.1
        subst this
        rw [hm]
        rfl
      have hs1 : ∀ W', (Instr.slice 33 (.slice A N c) (some (.int .i64 (i : Int))) none none).run Try.prog W' = .ok (.slice (fromA A i c 2) (N - i) (c - i)) W' := fun W' => run_from elemPads sizePad A N c i (by omega) W'
      have hs2 : ∀ W', (Instr.slice 33 (.slice A N c) (some (.int .i64 (i : Int))) (some (.int .i64 ((i : Int) + (m : Int)))) (some (.int .i64 ((i : Int) + (m : Int))))).run Try.prog W' = .ok (.slice (A.map (·.add (i * 2))) m m) W' := fun W' => run_mid elemPads sizePad A N c i m hm1 hmN W'
      have hw : IntKind.i64.wrap ((i : Int) + (m : Int)) = (i : Int) + (m : Int) := IntWalk.i64_in _ (by omega)
      simp only [hv] at hy
      have HMx : Hid (∀ h, (pre ++ [(⟨pieceD A N ps k, h⟩ : Piece w0 n₀ q)]).map (·.1) = (List.range (k + 1)).map (pieceD A N ps)) := Lib.hid (fun h => by rw [List.map_append, HM.out, List.range_succ, List.map_append]; rfl)
      have HKx : Hid (i + 4 = 4 * (k + 1) ∧ k + 1 ≤ (N + 3) / 4) := Lib.hid (by have := HK.out; omega)
      clear hm hv HM
      generalize fromA A i c 2 = AF at *
      generalize A.map (·.add (i * 2)) = AK at *
      gi_wp2
      gi_region
      gi_wp2
      refine hR.mono ?_
      rintro e W3 (⟨rfl, hJ3, hk3⟩ | ⟨rfl, hJx3⟩)
      · have hb3 : KeepB n₀ lo q W W3 := hb.trans hk3
        have c3 := (hb3.cell (p := ⟨Bs, 0, none⟩) hBs hqs).trans hs
        have c4 := (hb3.cell (p := ⟨Bn, 0, none⟩) hBn hqn).trans h4
        clear c1 c2
        gi_wp2
        go_roundw
        case rel => exact ⟨k + 1, i + 4, _, HKx, by go_num, Lib.hid (HMx.out _), hJ3, hb3⟩
        case measure => simp [intOf]; omega
      · gi_wp2
        refine bodyPost_ret (results_none rfl _ _ _) rfl ?_
        exact ⟨⟨_, rfl⟩, .inr ⟨_, trivial, hJx3⟩⟩
    · have hk : k = (N + 3) / 4 := by have := HK.out; omega
      gi_wp2
      go_end0
      exact ⟨⟨_, rfl⟩, .inl ⟨pre, by rw [HM.out, hk], hJ⟩⟩

/-- slices.Chunk at four: its value. -/
theorem chunkVal (A : Option Addr) (N c : Nat) (w : World) :
    Calls Try.prog 20 #[.slice A N c, .int .i64 4] w fun e w' => e = .returned (.func (.func 34) #[] #[.pointer (some ⟨w.heap.size, 0, none⟩), .pointer (some ⟨w.heap.size + 1, 0, none⟩)]) ∧ w' = (w.alloc (.cells #[.slice A N c] 33)).alloc (.cells #[.int .i64 4] 3) := by
  go_enter Try.func20, Try.ntmps20
  go_wp2
  go_ret
  exact ⟨rfl, rfl⟩
end Go.Proofs.Ytlphefpgnfogfaa
