/-
  strings.SplitSeq's iterator at one space. Conditions: none beyond a text's size.
-/
import Derived.Test.YtppjjbjjbmodbaaDoorLineS
import Derived.Test.YtppjjbjjbmodbaaDoorSeqBox
import Derived.Lib.Bytealg
import Derived.OwnWalkIn
import Derived.TacticsInMore
import Derived.LoopNIn
import Derived.LoopIn
namespace Go.Proofs.YtppjjbjjbmodbaaDoor
open Go.ChangeShapes Go.WideShapes Go.ChangeAt Go.RowKit Go.Shelf
set_option maxRecDepth 100000
set_option linter.unusedSimpArgs false

theorem cut_index (cur r : List UInt8) : cutP cur r = if Lib.indexByte r 32 = -1 then [cur ++ r] else (cur ++ r.take (Lib.indexByte r 32).toNat) :: cutP [] (r.drop ((Lib.indexByte r 32).toNat + 1)) := by
  induction r generalizing cur with
  | nil => simp [cutP, Lib.indexByte]
  | cons c r ih =>
    show (if c = 32 then cur :: cutP [] r else cutP (cur ++ [c]) r) = _
    unfold Lib.indexByte
    by_cases h : c = 32
    · subst h; simp
    · have hb : (c == 32) = false := beq_eq_false_iff_ne.2 h
      rw [if_neg h, ih, hb]
      have hge := Lib.indexByte_ge r 32
      by_cases h1 : Lib.indexByte r 32 = -1
      · simp [h1]
      · have hb1 : (Lib.indexByte r 32 == -1) = false := beq_eq_false_iff_ne.2 h1
        rw [if_neg h1, hb1]
        obtain ⟨m, hm⟩ : ∃ m : Nat, Lib.indexByte r 32 = (m : Int) := ⟨_, (Int.toNat_of_nonneg (by omega)).symm⟩
        have e : ((m : Int) + 1).toNat = m + 1 := by omega
        simp only [hm, Bool.false_eq_true, if_false, Int.toNat_natCast, e, List.take_succ_cons, List.drop_succ_cons]
        rw [if_neg (by omega)]
        simp
theorem cut_none {r : List UInt8} (h : Lib.indexByte r 32 = -1) : cutS r = [r] := by unfold cutS; rw [cut_index, if_pos h]; rfl
theorem cut_some {r : List UInt8} {m : Nat} (h : Lib.indexByte r 32 = (m : Int)) : cutS r = r.take m :: cutS (r.drop (m + 1)) := by
  unfold cutS; rw [cut_index, if_neg (by omega), h, Int.toNat_natCast]; rfl
theorem index_lt {r : List UInt8} {m : Nat} (h : Lib.indexByte r 32 = (m : Int)) : m < r.length := by
  induction r generalizing m with
  | nil => simp [Lib.indexByte] at h
  | cons c r ih =>
    unfold Lib.indexByte at h
    split at h
    · simp at h ⊢; omega
    · split at h
      · omega
      · rename_i h1
        have hge := Lib.indexByte_ge r 32
        have : Lib.indexByte r 32 ≠ -1 := fun e => h1 (by rw [e]; rfl)
        have := ih (m := m - 1) (by omega)
        simp; omega

/-- Below n, all blocks but those from lo to q lie as they lay. -/
def KeepQ (n lo q : Nat) (W W' : World) : Prop := ∀ b, b < n → b < lo ∨ q < b → W'.heap[b]? = W.heap[b]?
theorem KeepQ.blk {n lo q b : Nat} {W W' : World} {t : TypeId} {cs : Array Value} (h : KeepQ n lo q W W') (hb : b < n) (hq : q < b) (hB : Blk W b t cs) : Blk W' b t cs := (h b hb (.inr hq)).trans hB
/-- The length of the text in a box. -/
def boxLen (b : Nat) (W : World) : Nat := match W.cell? ⟨b, 0, none⟩ with | some (.string s) => s.size | _ => 0

/-- A piece of a text. -/
abbrev Part (l : List UInt8) := { p : List UInt8 // p ∈ cutS l }

attribute [local go_sem] Oper.semAt_some

set_option maxHeartbeats 2000000 in
theorem splitIn (n Bs Bp Bv n₀ lo q : Nat) (l : List UInt8) (hl : l.length ≤ 4096) (hn : 1 ≤ n) (hBs : Bs < n₀) (hBp : Bp < n₀) (hBv : Bv < n₀) (hqs : q < Bs) (hqp : q < Bp) (hqv : q < Bv) (hne1 : Bs ≠ Bp) (hne2 : Bs ≠ Bv)
    (y : Nat) (J Jx : List (Part l) → World → Prop) (hJb : ∀ s W1 u, J s W1 → J s (W1.setCell ⟨Bs, 0, none⟩ u))
    (hY : ∀ pre x W, J pre W → pre.length < (cutS l).length → YieldAt Fence.wide (n - 1) Tryd.prog y #[strP x.1] W fun e W' =>
      (e = .returned (.bool true) ∧ J (pre ++ [x]) W' ∧ KeepQ n₀ lo q W W') ∨ (e = .returned (.bool false) ∧ Jx (pre ++ [x]) W'))
    (W : World) (hs : Blk W Bs 9 #[strP l]) (hp : Blk W Bp 9 #[.string { data := #[32] }]) (hv : Blk W Bv 3 #[.int .i64 0]) (h0 : J [] W) :
    CallsIn Fence.wide n Tryd.prog 54 #[.func (.yield y) #[] #[], .pointer (some ⟨Bp, 0, none⟩), .pointer (some ⟨Bs, 0, none⟩), .pointer (some ⟨Bv, 0, none⟩)] W fun e W' => (∃ v, e = .returned v) ∧
      ((∃ ys : List (Part l), ys.map (·.1) = cutS l ∧ J ys W') ∨ (∃ pre, True ∧ Jx pre W')) := by
  refine callsIn_of_wp Tryd.func54 rfl trivial ?_ rfl
  simp only [Tryd.ntmps54, List.size_toArray, List.length_cons, List.length_nil, Nat.reduceAdd, Nat.reduceSub, Array.replicate_succ, Array.replicate_zero, List.push_toArray, List.append_toArray, List.nil_append, List.cons_append]
  have p0 := hp.cell 0
  gi_wp2
  gi_loopw [7, 8] (fun _ _ wr => ∃ (r : List UInt8) (pre : List (Part l)), Hid (r.length ≤ 4096) ∧ Hid (Blk wr Bs 9 #[strP r]) ∧ Hid (Blk wr Bp 9 #[.string { data := #[32] }]) ∧ Hid (Blk wr Bv 3 #[.int .i64 0]) ∧ Hid (cutS l = pre.map (·.1) ++ cutS r) ∧ J pre wr) (fun _ _ wr => boxLen Bs wr)
  case atStart => exact ⟨l, [], Lib.hid hl, Lib.hid hs, Lib.hid hp, Lib.hid hv, Lib.hid rfl, h0⟩
  case round =>
    obtain ⟨r, pre, HR, HS, HP, HV, HC, hJ⟩ := hrel
    have s0 := HS.out.cell 0
    have sf := HS.out.free 0
    have p0 := HP.out.cell 0
    have v0 := HV.out.cell 0
    have HIx := Lib.hid (Tryd.strings_Index_one (mkStr r) 32 wr)
    rw [mkStr_data] at HIx
    have hrl := HR.out
    have hsz : (mkStr r).size = r.length := mkStr_size r
    unfold strP at s0
    by_cases hi : Lib.indexByte r 32 = -1
    · have HC2 : Hid (cutS l = pre.map (·.1) ++ [r]) := Lib.hid (HC.out.trans (congrArg (pre.map (·.1) ++ ·) (cut_none hi)))
      have hmem : r ∈ cutS l := by have h := HC2.out; exact h.symm ▸ (by simp : r ∈ pre.map (·.1) ++ [r])
      obtain ⟨fn, tmps, assign, body, hy, hR⟩ := hY pre ⟨r, hmem⟩ wr hJ (by have h := congrArg List.length HC2.out; simp at h; omega)
      rw [hi] at HIx
      unfold strP at hy
      clear hi HC
      gi_wp2_with fail
      refine ⟨trivial, ?_⟩
      refine (callsIn_wide.2 HIx.out).mono ?_
      rintro e w1 ⟨rfl, rfl⟩
      gi_wp2
      refine hR.mono ?_
      rintro e W3 (⟨rfl, hJ3, _⟩ | ⟨rfl, hJx3⟩)
      · gi_wp2
        go_end0
        exact ⟨⟨_, rfl⟩, .inl ⟨pre ++ [⟨r, hmem⟩], by rw [List.map_append]; exact HC2.out.symm, hJ3⟩⟩
      · gi_wp2
        go_end0
        exact ⟨⟨_, rfl⟩, .inr ⟨_, trivial, hJx3⟩⟩
    · obtain ⟨m, hm⟩ : ∃ m : Nat, Lib.indexByte r 32 = (m : Int) := ⟨_, (Int.toNat_of_nonneg (by have := Lib.indexByte_ge r 32; omega)).symm⟩
      have hml := index_lt hm
      have HC2 : Hid (cutS l = (pre.map (·.1) ++ [r.take m]) ++ cutS (r.drop (m + 1))) := Lib.hid ((HC.out.trans (congrArg (pre.map (·.1) ++ ·) (cut_some hm))).trans (by rw [List.append_assoc]; rfl))
      have hmem : r.take m ∈ cutS l := by have h := HC2.out; exact h.symm ▸ (by simp : r.take m ∈ (pre.map (·.1) ++ [r.take m]) ++ cutS (r.drop (m + 1)))
      have HC3 : Hid (cutS l = (pre ++ [(⟨r.take m, hmem⟩ : Part l)]).map (·.1) ++ cutS (r.drop (m + 1))) := Lib.hid (by rw [List.map_append]; exact HC2.out)
      obtain ⟨fn, tmps, assign, body, hy, hR⟩ := hY pre ⟨r.take m, hmem⟩ wr hJ (by have h := congrArg List.length HC2.out; simp at h; omega)
      have hx1 : (mkStr r).extract 0 m = mkStr (r.take m) := by rw [ext_mid, mkStr_data, List.drop_zero]
      have hx2 : (mkStr r).extract (m + 1) r.length = mkStr (r.drop (m + 1)) := by rw [← hsz, ext_end, mkStr_data]
      rw [hm] at HIx
      unfold strP at hy
      have i1 : (0 : Int) ≤ (m : Int) := by omega
      have i2 : (m : Int) ≤ ((mkStr r).size : Int) := by omega
      have i3 : (m : Int) + 1 ≤ ((mkStr r).size : Int) := by omega
      clear hi hm HC
      gi_wp2_with fail
      refine ⟨trivial, ?_⟩
      refine (callsIn_wide.2 HIx.out).mono ?_
      rintro e w1 ⟨rfl, rfl⟩
      gi_wp2
      refine hR.mono ?_
      rintro e W3 (⟨rfl, hJ3, hk3⟩ | ⟨rfl, hJx3⟩)
      · have S3 := hk3.blk hBs hqs HS.out
        have P3 := hk3.blk hBp hqp HP.out
        have V3 := hk3.blk hBv hqv HV.out
        have HS4 : Hid (Blk (W3.setCell ⟨Bs, 0, none⟩ (.string (mkStr (r.drop (m + 1))))) Bs 9 #[strP (r.drop (m + 1))]) := Lib.hid (by have h := S3.set 0 (.string (mkStr (r.drop (m + 1)))); simpa [strP] using h)
        have HP4 : Hid (Blk (W3.setCell ⟨Bs, 0, none⟩ (.string (mkStr (r.drop (m + 1))))) Bp 9 #[.string { data := #[32] }]) := Lib.hid (P3.far (p := ⟨Bs, 0, none⟩) (fun e => hne1 e.symm) _)
        have HV4 : Hid (Blk (W3.setCell ⟨Bs, 0, none⟩ (.string (mkStr (r.drop (m + 1))))) Bv 3 #[.int .i64 0]) := Lib.hid (V3.far (p := ⟨Bs, 0, none⟩) (fun e => hne2 e.symm) _)
        have hJ4 := hJb _ _ (.string (mkStr (r.drop (m + 1)))) hJ3
        have HR4 : Hid ((r.drop (m + 1)).length ≤ 4096) := Lib.hid (by rw [List.length_drop]; omega)
        have hms : boxLen Bs (W3.setCell ⟨Bs, 0, none⟩ (.string (mkStr (r.drop (m + 1))))) < boxLen Bs w1 := by
          unfold boxLen
          rw [HS4.out.cell 0, HS.out.cell 0]
          simp only [strP, List.getElem?_toArray, List.getElem?_cons_zero, mkStr_size, List.length_drop]
          omega
        have q0 := S3.cell 0
        have qf := S3.free 0
        have q1 := P3.cell 0
        unfold strP at q0
        clear s0 sf p0 v0 HS HP HV HR S3 P3 V3 HIx
        gi_wp2
        go_roundw
        case rel => exact ⟨r.drop (m + 1), pre ++ [⟨r.take m, hmem⟩], HR4, HS4, HP4, HV4, HC3, hJ4⟩
        case measure => exact hms
      · gi_wp2
        refine bodyPost_ret (results_none rfl _ _ _) rfl ?_
        exact ⟨⟨_, rfl⟩, .inr ⟨_, trivial, hJx3⟩⟩

theorem splitBox (n Bs Bp Bv lo q : Nat) (l : List UInt8) (hl : l.length ≤ 4096) (w : World) (hn : 1 ≤ n) (hBs : Bs < w.heap.size) (hBp : Bp < w.heap.size) (hBv : Bv < w.heap.size) (hqs : q < Bs) (hqp : q < Bp) (hqv : q < Bv) (hne1 : Bs ≠ Bp) (hne2 : Bs ≠ Bv)
    (hs : Blk w Bs 9 #[strP l]) (hp : Blk w Bp 9 #[.string { data := #[32] }]) (hv : Blk w Bv 3 #[.int .i64 0]) :
    SeqBox Fence.wide n Tryd.prog 54 #[.pointer (some ⟨Bp, 0, none⟩), .pointer (some ⟨Bs, 0, none⟩), .pointer (some ⟨Bv, 0, none⟩)] (fun x : Part l => #[strP x.1]) (KeepQ w.heap.size lo q) (fun ys => ys.map (·.1) = cutS l) (fun _ => True) (cutS l).length Bs w :=
  fun y J Jx W hW _ hJb hY h0 => splitIn n Bs Bp Bv w.heap.size lo q l hl hn hBs hBp hBv hqs hqp hqv hne1 hne2 y J Jx hJb hY W (hs.below hW) (hp.below hW) (hv.below hW) h0

/-- strings.SplitSeq at a space: its value. -/
theorem splitVal (s : ByteArray) (w : World) :
    Calls Tryd.prog 19 #[.string s, .string { data := #[32] }] w fun e w' => e = .returned (.func (.func 54) #[] #[.pointer (some ⟨w.heap.size + 1, 0, none⟩), .pointer (some ⟨w.heap.size, 0, none⟩), .pointer (some ⟨w.heap.size + 2, 0, none⟩)]) ∧
      w' = ((w.alloc (.cells #[.string s] 9)).alloc (.cells #[.string { data := #[32] }] 9)).alloc (.cells #[.int .i64 0] 3) := by
  have h1 : Calls Tryd.prog 37 #[.string s, .string { data := #[32] }, .int .i64 0] w fun e w' => e = .returned (.func (.func 54) #[] #[.pointer (some ⟨w.heap.size + 1, 0, none⟩), .pointer (some ⟨w.heap.size, 0, none⟩), .pointer (some ⟨w.heap.size + 2, 0, none⟩)]) ∧
      w' = ((w.alloc (.cells #[.string s] 9)).alloc (.cells #[.string { data := #[32] }] 9)).alloc (.cells #[.int .i64 0] 3) := by
    go_enter Tryd.func37, Tryd.ntmps37
    go_wp2
    go_ret
    exact ⟨rfl, rfl⟩
  go_enter Tryd.func19, Tryd.ntmps19
  go_wp2_with fail
  refine h1.mono ?_
  rintro e w' ⟨rfl, rfl⟩
  go_wp2
  go_ret
  exact ⟨rfl, rfl⟩
end Go.Proofs.YtppjjbjjbmodbaaDoor
