/-
  Systems, of the reference: a sign is added; the outline of a word. Conditions: the list lies in memory and is not absurdly long.
-/
import Derived.Test.YtppjjbjjbmodbaaDoorSysS2
import Derived.Test.YtppjjbjjbmodbaaDoorFrom
import Derived.Test.YtppjjbjjbmodbaaDoorBase
import Derived.Test.YtppjjbjjbmodbaaDoorWordS2
import Derived.RegionTactic
import Derived.BigRegion
namespace Go.Proofs.YtppjjbjjbmodbaaDoor
open Go.ChangeShapes Go.WideShapes Go.ChangeAt Go.RowKit
set_option maxRecDepth 100000
set_option linter.unusedSimpArgs false

theorem sgC_one {xs : List Sg} : ∀ u ∈ xs.flatMap sgC, u.oneCell' = true := by
  intro u hu
  obtain ⟨s, _, h⟩ := List.mem_flatMap.1 hu
  simp [sgC] at h
  rcases h with rfl | rfl | rfl <;> rfl
theorem rowNewSg (w : World) (u1 u2 u3 : Value) (t : TypeId) : Row (w.alloc (.cells #[u1, u2, u3] t)) (w.heap.size + 1) (some ⟨w.heap.size, 0, none⟩) 1 3 [u1, u2, u3] := by
  refine ⟨rfl, fun _ => ⟨w.heap.size, 0, rfl, by omega, fun j x hj => ?_⟩⟩
  rw [World.cell?_alloc_at _ t w.heap.size (0 + j) rfl]
  simpa using hj
theorem SgOwn.made (w : World) : SgOwn (w.alloc (.cells #[] 96)) w.heap.size (.slice (some ⟨w.heap.size, 0, none⟩) 0 0) [] := World.ownsRow_made w #[] 0 (Nat.le_refl _) (by simp) (by simp)
theorem gcell {w w' : World} {row : Option Nat} {a : Addr} {v : Value} (h : w.grownBy w' row) (hc : w.cell? a = some v) (hne : row ≠ some a.block) : w'.cell? a = some v := by
  rw [World.cell?_of_block (h.block a.block (World.block_lt_of_cell? _ _ hc) (fun e => hne e.symm))]; exact hc
/-- The answer of adding a sign. -/
def SysAns (w' : World) (B : Nat) (ys : List Sg) (e : Ending) : Prop :=
  (sysB ys = false ∧ ∃ A c, e = .returned (.tuple #[.slice A 0 c, .bool false]) ∧ SgOwn w' B (.slice A 0 c) []) ∨
  (sysB ys = true ∧ ∃ A c, e = .returned (.tuple #[.slice A ys.length c, .bool true]) ∧ SgOwn w' B (.slice A ys.length c) ys)


def appZ (ats : Array TypeId) (ty : TypeId) (args : Array Value) := Builtin.append_ ats ty args
theorem appZ_eq (ats : Array TypeId) (ty : TypeId) (args : Array Value) : Builtin.append_ ats ty args = appZ ats ty args := rfl
/-- The first append: all signs behind a fresh empty row. -/
theorem add_one {w V : World} {p n c : Nat} {A : Option Addr} {xs : List Sg} (hV : Below w.heap.size w V) (hown : V.ownsRow (w.heap.size + 1) 96 3 (.slice (some ⟨p, 0, none⟩) 0 0) 0 []) (h : SgsIn w w.heap.size A n c xs) (hn : n ≤ 1000) (hz : w.heap.size + 1 ≤ V.heap.size) :
    ∃ v1 w1, (appZ #[47, 47] 47 #[.slice (some ⟨p, 0, none⟩) 0 0, .slice A n c]).run Tryd.prog V = .ok v1 w1 ∧ w1.ownsRow (w.heap.size + 1) 96 3 v1 n (xs.flatMap sgC) ∧ Below w.heap.size w w1 ∧ V.grownBy w1 (some p) := by
  obtain ⟨i0, hi, hz0, hz1, hz2⟩ := info_parts infoSg
  have hm := h.2.2.1
  obtain ⟨v1, w1, h1, h2, h3, h4⟩ := run_append_any (P := Tryd.prog) (w := V) (w.heap.size + 1) 47 47 96 i0 _ 3 32 Tryd.underlying47 hi hz0 hz1 hz2 rfl (by omega) _ 0 [] hown w.heap.size A n c (xs.flatMap sgC) (h.below hV).2.2.2.1 sgC_one (by unfold maxLen; omega) (by omega) hz
  rw [Nat.zero_add, List.nil_append] at h2
  have hb : w.heap.size + 1 ≤ p := ownG_base hown rfl
  exact ⟨v1, w1, h1, h2, hV.grown h3 (by omega) (fun q hq => by have e : some p = some q := hq; injection e with e; omega), h3⟩
/-- The second: the new sign. -/
theorem add_two {w V : World} {p n B : Nat} {v1 : Value} {xs : List Sg} {x : Sg} (hV : Below w.heap.size w V) (hown : V.ownsRow (w.heap.size + 1) 96 3 v1 n (xs.flatMap sgC)) (hr : Row V B (some ⟨p, 0, none⟩) 1 3 (sgC x)) (hl : xs.length = n) (hn : n ≤ 1000) (hz : w.heap.size + 1 ≤ V.heap.size) :
    ∃ A2 c2 w2, (appZ #[47, 47] 47 #[v1, .slice (some ⟨p, 0, none⟩) 1 1]).run Tryd.prog V = .ok (.slice A2 (n + 1) c2) w2 ∧ SgOwn w2 w.heap.size (.slice A2 (n + 1) c2) (xs ++ [x]) ∧ Below w.heap.size w w2 := by
  obtain ⟨i0, hi, hz0, hz1, hz2⟩ := info_parts infoSg
  obtain ⟨v2, w2, h1, h2, h3, h4⟩ := run_append_any (P := Tryd.prog) (w := V) (w.heap.size + 1) 47 47 96 i0 _ 3 32 Tryd.underlying47 hi hz0 hz1 hz2 rfl (by omega) _ n _ hown B (some ⟨p, 0, none⟩) 1 1 (sgC x) hr (by simp [sgC, Value.oneCell']) (by unfold maxLen; omega) (by omega) hz
  have hb : Below w.heap.size w w2 := hV.grown h3 (by omega) (fun q hq => by have := ownG_base hown hq; omega)
  have hL : (xs ++ [x]).length = n + 1 := by simp [hl]
  obtain ⟨A2, c2, rfl, _, _⟩ := ownG_form h2
  refine ⟨A2, c2, w2, h1, ?_, hb⟩
  unfold SgOwn
  rw [hL, List.flatMap_append]
  exact ownG_mono (by simpa using h2) (by omega)
def AddEnd (w : World) (ys : List Sg) (v : Value) (W : World) : Prop := SgOwn W w.heap.size v ys ∧ Below w.heap.size w W
attribute [local go_sem ↓] appZ_eq

set_option maxHeartbeats 1600000 in
theorem specSystemAdd (A : Option Addr) (n c : Nat) (xs : List Sg) (l : List UInt8) (d z : Int) (w : World) (hn1 : n ≤ 1000) (hg : ∀ x ∈ xs ++ [⟨l, ⟨d, z⟩⟩], x.st.good) (h : SgsIn w w.heap.size A n c xs) :
    Calls Tryd.prog 58 #[.slice A n c, .agg #[.string (mkStr l), .int .i64 d, .int .i64 z]] w fun e w' => SysAns w' w.heap.size (xs ++ [⟨l, ⟨d, z⟩⟩]) e ∧ Below w.heap.size w w' := by
  obtain ⟨W, eW⟩ : ∃ W, W = w.alloc (.cells #[.string (mkStr l), .int .i64 d, .int .i64 z] 96) := ⟨_, rfl⟩
  have B1 : Below w.heap.size w W := by rw [eW]; exact (Below.refl _ _).alloc (Nat.le_refl _) _
  have K : Blk W w.heap.size 96 #[.string (mkStr l), .int .i64 d, .int .i64 z] := by rw [eW]; exact Blk.new _ _ _
  have z1 : w.heap.size + 1 ≤ W.heap.size := by rw [eW]; simp
  have hl := h.1
  have hne : w.heap.size ≠ W.heap.size := by omega
  have ba : Below w.heap.size w (W.alloc (.cells #[] 96)).drew := (B1.alloc B1.size _).drew
  have bb : Below w.heap.size w ((W.alloc (.cells #[] 96)).alloc (.cells #[.string (mkStr l), .int .i64 d, .int .i64 z] 96)).drew := ((B1.alloc B1.size _).alloc (by simp; omega) _).drew
  have bc : Below w.heap.size w ((W.alloc (.cells #[.string (mkStr l), .int .i64 d, .int .i64 z] 96)).alloc (.cells #[] 96)).drew := ((B1.alloc B1.size _).alloc (by simp; omega) _).drew
  have Ka : Blk (W.alloc (.cells #[] 96)).drew w.heap.size 96 #[.string (mkStr l), .int .i64 d, .int .i64 z] := K.alloc _
  -- a: the new sign's row is made behind the first append
  obtain ⟨va, wa, ra, oa, ba1, ga⟩ := add_one ba (ownG_mono (SgOwn.made W) z1) h hn1 (by simp; omega)
  have ka := Ka.only ga hne
  have a0 := ka.cell 0; have a1 := ka.cell 1; have a2 := ka.cell 2
  obtain ⟨Aa2, ca2, wa2, ra2, oa2, ba2⟩ := add_two (x := ⟨l, ⟨d, z⟩⟩) (p := wa.heap.size) (ba1.alloc ba1.size (.cells #[.string (mkStr l), .int .i64 d, .int .i64 z] 96)) (oa.alloc _) (rowNewSg wa _ _ _ _) hl hn1 (by have := ga.size; simp at this ⊢; omega)
  -- b: ahead of it, behind the empty row
  obtain ⟨vb, wb, rb, ob, bb1, gb⟩ := add_one bb (ownG_mono (World.ownsRow.alloc (SgOwn.made W) _) z1) h hn1 (by simp; omega)
  have rb0 := rowNewSg (W.alloc (.cells #[] 96)) (.string (mkStr l)) (.int .i64 d) (.int .i64 z) 96
  simp only [World.size_alloc] at rb0
  have rowb : Row wb (W.heap.size + 2) (some ⟨W.heap.size + 1, 0, none⟩) 1 3 (sgC ⟨l, ⟨d, z⟩⟩) := Row.grown (w := ((W.alloc (.cells #[] 96)).alloc (.cells #[.string (mkStr l), .int .i64 d, .int .i64 z] 96)).drew) rb0 gb (fun a ha e => by injection ha with ha; subst ha; injection e with e; simp at e)
  obtain ⟨Ab2, cb2, wb2, rb2, ob2, bb2⟩ := add_two bb1 ob rowb hl hn1 (by have := gb.size; simp at this; omega)
  -- c: ahead of both
  have oc0 := SgOwn.made (W.alloc (.cells #[.string (mkStr l), .int .i64 d, .int .i64 z] 96))
  simp only [World.size_alloc] at oc0
  obtain ⟨vc, wc, rc, oc, bc1, gc⟩ := add_one (p := W.heap.size + 1) bc (ownG_mono oc0 (by omega)) h hn1 (by simp; omega)
  have rowc : Row wc (W.heap.size + 1) (some ⟨W.heap.size, 0, none⟩) 1 3 (sgC ⟨l, ⟨d, z⟩⟩) := Row.grown (w := ((W.alloc (.cells #[.string (mkStr l), .int .i64 d, .int .i64 z] 96)).alloc (.cells #[] 96)).drew) ((rowNewSg W (.string (mkStr l)) (.int .i64 d) (.int .i64 z) 96).keep (fun p hp => World.cell?_alloc_lt _ _ _ (by simp; omega))) gc (fun a ha e => by injection ha with ha; subst ha; injection e with e; simp at e)
  obtain ⟨Ac2, cc2, wc2, rc2, oc2, bc2⟩ := add_two bc1 oc rowc hl hn1 (by have := gc.size; simp at this; omega)
  have k0 := K.cell 0; have k1 := K.cell 1; have k2 := K.cell 2
  have m0 : (W.alloc (.cells #[] 96)).cell? ⟨w.heap.size, 0, none⟩ = some (.string (mkStr l)) := (K.alloc _).cell 0
  have m1 : (W.alloc (.cells #[] 96)).cell? ⟨w.heap.size, 1, none⟩ = some (.int .i64 d) := (K.alloc _).cell 1
  have m2 : (W.alloc (.cells #[] 96)).cell? ⟨w.heap.size, 2, none⟩ = some (.int .i64 z) := (K.alloc _).cell 2
  have HFa : Hid (AddEnd w (xs ++ [⟨l, ⟨d, z⟩⟩]) (.slice Aa2 (n + 1) ca2) wa2) := Lib.hid ⟨oa2, ba2⟩
  have HFb : Hid (AddEnd w (xs ++ [⟨l, ⟨d, z⟩⟩]) (.slice Ab2 (n + 1) cb2) wb2) := Lib.hid ⟨ob2, bb2⟩
  have HFc : Hid (AddEnd w (xs ++ [⟨l, ⟨d, z⟩⟩]) (.slice Ac2 (n + 1) cc2) wc2) := Lib.hid ⟨oc2, bc2⟩
  have HG := Lib.hid hg
  have HH := Lib.hid h
  have HN : Hid (∀ V : World, Below w.heap.size w V → SgOwn (V.alloc (.cells #[] 96)) w.heap.size (.slice (some ⟨V.heap.size, 0, none⟩) 0 0) []) := Lib.hid (fun V hV => ownG_mono (SgOwn.made V) hV.size)
  have HLn : Hid ((xs ++ [(⟨l, ⟨d, z⟩⟩ : Sg)]).length = n + 1) := Lib.hid (by simp [hl])
  clear oa ba1 ga ka oa2 ba2 ob bb1 gb rowb ob2 bb2 oc bc1 gc rowc oc2 bc2 rb0 oc0 hg h hl ba bb bc Ka K
  generalize xs ++ [(⟨l, ⟨d, z⟩⟩ : Sg)] = ys at *
  go_enter Tryd.func58, Tryd.ntmps58
  go_wp2_with fail
  rw [← eW]
  clear eW
  go_region
  · have HS := Lib.hid (specSystemValid Aa2 (n + 1) ca2 _ wa2 (SgOwn.reads HFa.out.1 HLn.out HG.out))
    have b4 := HFa.out.2
    cases hb : sysB ys with
    | false =>
      rw [hb] at HS
      have HB := Lib.hid hb
      clear hb
      go_wp2_with fail
      refine HS.out.mono ?_
      rintro e w5 ⟨rfl, hb5⟩
      have b5 := below_next b4 hb5
      go_wp2
      go_returns
      exact ⟨.inl ⟨HB.out, _, _, rfl, HN.out _ b5⟩, b5.alloc b5.size _⟩
    | true =>
      rw [hb] at HS
      have HB := Lib.hid hb
      clear hb
      go_wp2_with fail
      refine HS.out.mono ?_
      rintro e w5 ⟨rfl, hb5⟩
      have b5 := below_next b4 hb5
      have HO5 := Lib.hid (ownG_keep HFa.out.1 hb5)
      go_wp2
      go_returns
      exact ⟨.inr ⟨HB.out, Aa2, ca2, by rw [HLn.out]; rfl, by rw [HLn.out]; exact HO5.out⟩, b5⟩
  · have HS := Lib.hid (specSystemValid Ab2 (n + 1) cb2 _ wb2 (SgOwn.reads HFb.out.1 HLn.out HG.out))
    have b4 := HFb.out.2
    cases hb : sysB ys with
    | false =>
      rw [hb] at HS
      have HB := Lib.hid hb
      clear hb
      go_wp2_with fail
      refine HS.out.mono ?_
      rintro e w5 ⟨rfl, hb5⟩
      have b5 := below_next b4 hb5
      go_wp2
      go_returns
      exact ⟨.inl ⟨HB.out, _, _, rfl, HN.out _ b5⟩, b5.alloc b5.size _⟩
    | true =>
      rw [hb] at HS
      have HB := Lib.hid hb
      clear hb
      go_wp2_with fail
      refine HS.out.mono ?_
      rintro e w5 ⟨rfl, hb5⟩
      have b5 := below_next b4 hb5
      have HO5 := Lib.hid (ownG_keep HFb.out.1 hb5)
      go_wp2
      go_returns
      exact ⟨.inr ⟨HB.out, Ab2, cb2, by rw [HLn.out]; rfl, by rw [HLn.out]; exact HO5.out⟩, b5⟩
  · have HS := Lib.hid (specSystemValid Ac2 (n + 1) cc2 _ wc2 (SgOwn.reads HFc.out.1 HLn.out HG.out))
    have b4 := HFc.out.2
    cases hb : sysB ys with
    | false =>
      rw [hb] at HS
      have HB := Lib.hid hb
      clear hb
      go_wp2_with fail
      refine HS.out.mono ?_
      rintro e w5 ⟨rfl, hb5⟩
      have b5 := below_next b4 hb5
      go_wp2
      go_returns
      exact ⟨.inl ⟨HB.out, _, _, rfl, HN.out _ b5⟩, b5.alloc b5.size _⟩
    | true =>
      rw [hb] at HS
      have HB := Lib.hid hb
      clear hb
      go_wp2_with fail
      refine HS.out.mono ?_
      rintro e w5 ⟨rfl, hb5⟩
      have b5 := below_next b4 hb5
      have HO5 := Lib.hid (ownG_keep HFc.out.1 hb5)
      go_wp2
      go_returns
      exact ⟨.inr ⟨HB.out, Ac2, cc2, by rw [HLn.out]; rfl, by rw [HLn.out]; exact HO5.out⟩, b5⟩
end Go.Proofs.YtppjjbjjbmodbaaDoor
