/-
  The laws' own functions on signs and on words: how they lie in memory, sizes, copies, comparisons, marks. Conditions: Go's own sizes.
-/
import Derived.Test.YtppjjbjjbmodbaaSysG
import Derived.Test.YtppjjbjjbmodbaaSLaw
import Derived.Test.YtppjjbjjbmodbaaMarkN
namespace Go.Proofs.Ytppjjbjjbmodbaa
open Go.ChangeShapes Go.WideShapes Go.ChangeAt Go.RowKit Go.Joins
set_option maxRecDepth 100000

theorem mkStr_of (s : ByteArray) : s = mkStr s.data.toList := by
  have := mkStr_data s.data.toList
  cases s; rfl
section
variable {H : Type} {enc : TypeId × Value → H} {W : World} {base : Nat} {v : Value} {d : DataW H} {p : List MemPlace}
theorem trodSign (fuel : Nat) (cs : List Value) (x : DataW H × List MemPlace) (hlen : cs.length = 3) (h : DataW.trod enc Try.prog W 0 (fun _ => true) true fuel 106 cs = some x) :
    ∃ a : Sg, cs = sgC a ∧ a.st.good ∧ a.l.length ≤ maxLen := by
  match cs, hlen with
  | [c0, c1, c2], _ =>
    obtain ⟨y0, y1, n, _, _, h0, h1⟩ := trod_struct2 Try.underlying106 h
    have k0 : Try.prog.cellsOf 9 = 1 := by kernel_rfl
    have k1 : Try.prog.cellsOf 104 = 2 := by kernel_rfl
    dsimp only at h0 h1
    rw [k0] at h0
    rw [k1] at h1
    obtain ⟨s, e0, _, hs⟩ := DataW.trod_string Try.underlying9 h0
    obtain ⟨a, e1, hg⟩ := trodStroke n _ _ rfl h1
    simp [stC] at e0 e1
    obtain ⟨rfl, rfl⟩ := e1
    subst e0
    refine ⟨⟨s.data.toList, a⟩, ?_, hg, ?_⟩
    · unfold sgC
      rw [← mkStr_of]
    · exact hs
theorem openSigns (hv : Value.okWide Try.prog W .any base 47 v) (h : DataW.Trod enc Try.prog W 0 (fun _ => true) true 47 v d p) :
    ∃ A n c xs, v = .slice A n c ∧ SgsIn W W.heap.size A n c xs ∧ ∀ x ∈ xs, x.l.length ≤ maxLen := by
  obtain ⟨fuel, hf⟩ := okSlice Try.underlying47 hv h
  obtain ⟨A, n, c, l, h1, h2, h3, h4, h5, h6⟩ := openRows 3 sgC (fun a => a.st.good ∧ a.l.length ≤ maxLen) Try.underlying47 (by kernel_rfl) (fun fuel cs x => trodSign fuel cs x) sgC_len (by omega) hf
  exact ⟨A, n, c, l, by simpa using h1, ⟨h2, h3, h4, h5, fun x hx => (h6 x hx).1⟩, fun x hx => (h6 x hx).2⟩
theorem openWords (hv : Value.okWide Try.prog W .any base 24 v) (h : DataW.Trod enc Try.prog W 0 (fun _ => true) true 24 v d p) :
    ∃ A n c ws, v = .slice A n c ∧ WdsIn W W.heap.size A n c ws ∧ ∀ l ∈ ws, l.length ≤ maxLen := by
  obtain ⟨fuel, hf⟩ := okSlice Try.underlying24 hv h
  obtain ⟨A, n, c, l, h1, h2, h3, h4, h5, h6⟩ := openRows 1 (fun l : List UInt8 => [strP l]) (fun l => l.length ≤ maxLen) Try.underlying24 (by kernel_rfl) (fun fuel cs x _ hx => by
    obtain ⟨s, e, _, hs⟩ := DataW.trod_string Try.underlying9 hx
    exact ⟨s.data.toList, by rw [e]; unfold strP; rw [← mkStr_of], hs⟩) (fun _ => rfl) (by omega) hf
  have hfs : ∀ r : List (List UInt8), (r.flatMap fun l : List UInt8 => [strP l]) = r.map strP := by
    intro r; induction r with
    | nil => rfl
    | cons y r ih => simp only [List.flatMap_cons, List.map_cons, List.singleton_append, ih]
  have hfl : (l.flatMap fun l : List UInt8 => [strP l]) = l.map strP := hfs l
  rw [hfl] at h5
  exact ⟨A, n, c, l, by simpa using h1, ⟨h2, h3, h4, h5⟩, h6⟩
end

theorem Blk.three {w : World} {b : Nat} {t : TypeId} {x y z : Value} (h : Blk w b t #[x, y, z]) :
    w.cell? ⟨b, 0, none⟩ = some x ∧ w.cell? ⟨b, 1, none⟩ = some y ∧ w.cell? ⟨b, 2, none⟩ = some z ∧ w.frozen? ⟨b, 0, none⟩ = false ∧ w.frozen? ⟨b, 1, none⟩ = false ∧ w.frozen? ⟨b, 2, none⟩ = false :=
  ⟨h.cell 0, h.cell 1, h.cell 2, h.free 0, h.free 1, h.free 2⟩

theorem szSign (s : ByteArray) (d z left : Int) (w : World) (h0 : 0 ≤ left) (h1 : left ≤ 1048576) (hs : s.size ≤ maxLen) :
    Calls Try.prog 66 #[.agg #[.string s, .int .i64 d, .int .i64 z], .int .i64 left] w fun e w' => ∃ r, e = .returned (.int .i64 r) ∧ SzL left r 0 ∧ Below w.heap.size w w' := by
  unfold maxLen at hs
  by_cases hl : left - (s.size : Int) < 0
  · go_enter Try.func66, Try.ntmps66
    go_wp2
    go_returns
    exact ⟨-1, rfl, .inl rfl, by go_grown⟩
  · have hl2 : 0 ≤ left - (s.size : Int) := by omega
    have HR : Hid (SzL left (left - (s.size : Int)) 0) := Lib.hid (.inr ⟨hl2, by omega⟩)
    clear hl
    go_enter Try.func66, Try.ntmps66
    go_wp2
    go_returns
    exact ⟨_, rfl, HR.out, by go_grown⟩

theorem szSignS (A : Option Addr) (n c : Nat) (xs : List Sg) (left : Int) (w : World) (h0 : 0 ≤ left) (h1 : left ≤ 1048576) (h : SgsIn w w.heap.size A n c xs) (hx : ∀ x ∈ xs, x.l.length ≤ maxLen) :
    Calls Try.prog 22 #[.slice A n c, .int .i64 left] w fun e w' => ∃ r, e = .returned (.int .i64 r) ∧ SzL left r n ∧ Below w.heap.size w w' := by
  have hnc := h.2.1; have hm := h.2.2.1
  unfold maxLen at hm
  have HL := Lib.hid h.1
  have HX := Lib.hid hx
  have H := Lib.hid h; clear h hx
  by_cases hl : left - (n : Int) < 0
  · have HR : Hid (SzL left (-1) n) := Lib.hid (.inl rfl)
    go_enter Try.func22, Try.ntmps22
    go_wp2
    go_returns
    exact ⟨-1, rfl, HR.out, Below.refl _ _⟩
  · have hl2 : 0 ≤ left - (n : Int) := by omega
    clear hl
    go_enter Try.func22, Try.ntmps22
    go_wp2
    go_loopw [1, 5] (fun l i wr => ∃ (k : Nat) (r : Int), k ≤ n ∧ i = .int .i64 k ∧ l = .int .i64 r ∧ 0 ≤ r ∧ r + n ≤ left ∧ Below w.heap.size w wr) (fun _ i _ => n - (intOf i).toNat)
    case atStart => exact ⟨0, _, Nat.zero_le _, rfl, rfl, hl2, by omega, Below.refl _ _⟩
    case round =>
      obtain ⟨k, r, hk, rfl, rfl, hr0, hr1, hb⟩ := hrel
      by_cases hlt : k < n
      · have hkl : k < xs.length := by rw [HL.out]; exact hlt
        obtain ⟨b, off, rfl, hbB, q0, q1, q2, _⟩ := (H.out.keep hb).at_ hlt
        have HS := Lib.hid (szSign (mkStr (sgAt xs k).l) (sgAt xs k).st.dir (sgAt xs k).st.size r wr hr0 (by omega) (by rw [mkStr_size]; exact HX.out _ (sgAt_mem hkl)))
        have HR : Hid (SzL left (-1) n) := Lib.hid (.inl rfl)
        clear hkl
        generalize sgAt xs k = x at *
        go_wp2_with fail
        refine HS.out.mono ?_
        rintro e w1 ⟨r1, rfl, hz, hb1⟩
        have b1 := below_next hb hb1
        clear hb1 q0 q1 q2 HS
        rcases hz with rfl | ⟨z0, z1⟩
        · go_wp2
          go_returns
          exact ⟨-1, rfl, HR.out, b1⟩
        · have hrr : r1 + n ≤ left := by omega
          clear z1 hr1 hr0
          go_wp2
          go_roundw
          case rel => exact ⟨k + 1, r1, by omega, by go_num, rfl, z0, hrr, b1⟩
          case measure => simp [intOf]; omega
      · have HR : Hid (SzL left r n) := Lib.hid (.inr ⟨hr0, by omega⟩)
        clear hr1
        go_wp2
        go_returns
        exact ⟨r, rfl, HR.out, hb⟩

theorem szStringS (A : Option Addr) (n c : Nat) (ws : List (List UInt8)) (left : Int) (w : World) (h0 : 0 ≤ left) (h1 : left ≤ 1048576) (h : WdsIn w w.heap.size A n c ws) (hx : ∀ l ∈ ws, l.length ≤ maxLen) :
    Calls Try.prog 23 #[.slice A n c, .int .i64 left] w fun e w' => ∃ r, e = .returned (.int .i64 r) ∧ SzL left r n ∧ w = w' := by
  have hnc := h.2.1; have hm := h.2.2.1
  unfold maxLen at hm
  have HL := Lib.hid h.1
  have HX := Lib.hid hx
  have H := Lib.hid h; clear h hx
  by_cases hl : left - (n : Int) < 0
  · have HR : Hid (SzL left (-1) n) := Lib.hid (.inl rfl)
    go_enter Try.func23, Try.ntmps23
    go_wp2
    go_returns
    exact ⟨-1, rfl, HR.out, rfl⟩
  · have hl2 : 0 ≤ left - (n : Int) := by omega
    clear hl
    go_enter Try.func23, Try.ntmps23
    go_wp2
    go_loop [1, 5] (fun l i => ∃ (k : Nat) (r : Int), k ≤ n ∧ i = .int .i64 k ∧ l = .int .i64 r ∧ 0 ≤ r ∧ r + n ≤ left) (fun _ i => n - (intOf i).toNat)
    case atStart => exact ⟨0, _, Nat.zero_le _, rfl, rfl, hl2, by omega⟩
    case round =>
      obtain ⟨k, r, hk, rfl, rfl, hr0, hr1⟩ := hrel
      by_cases hlt : k < n
      · have hkl : k < ws.length := by rw [HL.out]; exact hlt
        obtain ⟨b, off, rfl, hbB, q0⟩ := H.out.at_ hlt
        have HR : Hid (SzL left (-1) n) := Lib.hid (.inl rfl)
        have hsz : (mkStr (wdAt ws k)).size ≤ 9223372036854775807 := by have := HX.out _ (wdAt_mem hkl); rw [mkStr_size]; unfold maxLen at this; omega
        clear hkl
        generalize mkStr (wdAt ws k) = s at *
        have i1 : (0 : Int) ≤ (k : Int) := by omega
        have i2 : (k : Int) < (n : Int) := by omega
        by_cases hneg : r - (s.size : Int) < 0
        · go_wp2
          go_returns
          exact ⟨-1, rfl, HR.out, rfl⟩
        · have hp : 0 ≤ r - (s.size : Int) := by omega
          have hrr : r - (s.size : Int) + n ≤ left := by omega
          clear hneg
          go_wp2
          go_round
          case rel => exact ⟨k + 1, _, by omega, by go_num, rfl, hp, hrr⟩
          case measure => simp [intOf]; omega
      · have HR : Hid (SzL left r n) := Lib.hid (.inr ⟨hr0, by omega⟩)
        clear hr1
        go_wp2
        go_returns
        exact ⟨r, rfl, HR.out, rfl⟩

set_option maxHeartbeats 800000 in
theorem toSign (s : ByteArray) (d z : Int) (w : World) :
    Calls Try.prog 68 #[.agg #[.string s, .int .i64 d, .int .i64 z]] w fun e w' => e = .returned (.agg #[.string s, .int .i64 d, .int .i64 z]) ∧ Below w.heap.size w w' := by
  generalize h1 : w.alloc (.cells #[.string s, .int .i64 d, .int .i64 z] 106) = W1
  generalize h2 : W1.alloc (.cells #[.string { data := #[] }, .int .i64 0, .int .i64 0] 109) = W2
  generalize h3 : W2.alloc (.cells #[.string { data := #[] }, .int .i64 0, .int .i64 0] 109) = W3
  have z1 : W1.heap.size = w.heap.size + 1 := by rw [← h1]; simp
  have z2 : W2.heap.size = w.heap.size + 2 := by rw [← h2]; simp [z1]
  have z3 : W3.heap.size = w.heap.size + 3 := by rw [← h3]; simp [z2]
  have hal3 : Below w.heap.size w W3 := by
    rw [← h3, ← h2, ← h1]
    exact (((Below.refl _ _).alloc (Nat.le_refl _) _).alloc (by simp) _).alloc (by simp; omega) _
  have B0 : Blk W3 w.heap.size 106 #[.string s, .int .i64 d, .int .i64 z] := by rw [← h3, ← h2, ← h1]; exact ((Blk.new _ _ _).alloc _).alloc _
  have B1 : Blk W3 (w.heap.size + 1) 109 #[.string { data := #[] }, .int .i64 0, .int .i64 0] := by rw [← h3, ← h2, ← z1]; exact (Blk.new _ _ _).alloc _
  have B2 : Blk W3 (w.heap.size + 2) 109 #[.string { data := #[] }, .int .i64 0, .int .i64 0] := by rw [← h3, ← z2]; exact Blk.new _ _ _
  obtain ⟨a0, a1, a2, _, _, _⟩ := B0.three
  obtain ⟨b0, b1, b2, bf0, bf1, bf2⟩ := B1.three
  obtain ⟨c0, c1, c2, cf0, cf1, cf2⟩ := B2.three
  generalize h4 : W3.setCell ⟨w.heap.size + 2, 0, none⟩ (.string s) = W4
  have hal4 : Below w.heap.size w W4 := by rw [← h4]; exact hal3.setCell (by simp) _
  have D0 : Blk W4 w.heap.size 106 #[.string s, .int .i64 d, .int .i64 z] := by rw [← h4]; exact B0.far (by simp) _
  have D1 : Blk W4 (w.heap.size + 1) 109 #[.string { data := #[] }, .int .i64 0, .int .i64 0] := by rw [← h4]; exact B1.far (by simp) _
  have D2 : Blk W4 (w.heap.size + 2) 109 #[.string s, .int .i64 0, .int .i64 0] := by rw [← h4]; exact B2.set 0 (.string s)
  obtain ⟨d0, d1, d2, _, _, _⟩ := D0.three
  have HB := Lib.hid (And.intro D1 D2)
  have HAl := Lib.hid hal4
  clear B0 B1 B2 D0 D1 D2 hal3 hal4
  go_enter Try.func68, Try.ntmps68
  go_wp2_with fail
  refine (toStroke d z W4).mono ?_
  rintro e w1 ⟨rfl, hb1⟩
  have bb := Lib.hid (below_next HAl.out hb1)
  obtain ⟨D1, D2⟩ := HB.out
  obtain ⟨e0, e1, e2, ef0, ef1, ef2⟩ := (D1.below hb1).three
  obtain ⟨g0, g1, g2, gf0, gf1, gf2⟩ := (D2.below hb1).three
  clear a0 a1 a2 b0 b1 b2 bf0 bf1 bf2 c0 c1 c2 cf0 cf1 cf2 d0 d1 d2 h1 h2 h3 h4 HB HAl D1 D2 hb1
  go_wp2
  refine bodyPost_ret (v := .agg #[.string s, .int .i64 d, .int .i64 z]) (by simp [results, Try.results68, go_sem, e0, e1, e2]) rfl ?_
  refine ⟨rfl, ?_⟩
  have p1 : ∀ j, w.heap.size ≤ (⟨w.heap.size + 1, j, none⟩ : Addr).block := fun j => by simp
  have p2 : ∀ j, w.heap.size ≤ (⟨w.heap.size + 2, j, none⟩ : Addr).block := fun j => by simp
  exact ((((bb.out.setCell (p2 1) _).setCell (p2 2) _).setCell (p1 0) _).setCell (p1 1) _).setCell (p1 2) _

set_option maxHeartbeats 800000 in
theorem toSignS (A : Option Addr) (n c : Nat) (xs : List Sg) (w : World) (hn : n ≤ 1048576) (h : SgsIn w w.heap.size A n c xs) :
    Calls Try.prog 25 #[.slice A n c] w fun e w' => e = .returned (.slice (some ⟨w.heap.size, 0, none⟩) n n) ∧ Blk w' w.heap.size 109 (xs.flatMap sgC).toArray ∧ Below w.heap.size w w' := by
  have HL : Hid (xs.length = n) := Lib.hid h.1
  have HX : Hid ((xs.flatMap sgC).length = n * 3) := Lib.hid h.2.2.2.1.1
  have H := Lib.hid h; clear h
  obtain ⟨i0, hi, hz0, hz1, hz2⟩ := info_parts infoSg
  have hmk := fun W => run_make_rowN (P := Try.prog) 23 109 i0 _ Try.underlying23 hi hz0 .i64 .i64 n n (Nat.le_refl _) (by rw [hz2]; omega) (by omega) W
  rw [hz1] at hmk
  go_enter Try.func25, Try.ntmps25
  go_wp2
  go_loopw [4] (fun i wr => ∃ (k : Nat) (arr : Array Value), k ≤ n ∧ i = .int .i64 k ∧ Blk wr w.heap.size 109 arr ∧ Hid (Filled arr (xs.flatMap sgC) (k * 3)) ∧ Below w.heap.size w wr) (fun i _ => n - (intOf i).toNat)
  case atStart => exact ⟨0, _, Nat.zero_le _, rfl, Blk.new _ _ _, Lib.hid (Filled.zero (by rw [madeCells_size, HX.out])), (Below.refl _ _).alloc (Nat.le_refl _) _⟩
  case round =>
    obtain ⟨k, arr, hk, rfl, hB, hF, hb⟩ := hrel
    by_cases hlt : k < n
    · obtain ⟨b, off, eA, hbB, q0, q1, q2, hg⟩ := (H.out.below hb).at_ hlt
      subst eA
      have hkl : k < xs.length := by rw [HL.out]; exact hlt
      have hx0 := flat_at sgC_len xs k _ 0 (.string (mkStr (sgAt xs k).l)) (sgAt_some hkl) rfl
      have hx1 := flat_at sgC_len xs k _ 1 (.int .i64 (sgAt xs k).st.dir) (sgAt_some hkl) rfl
      have hx2 := flat_at sgC_len xs k _ 2 (.int .i64 (sgAt xs k).st.size) (sgAt_some hkl) rfl
      have HF2 : Hid (Filled (((arr.setIfInBounds (k * 3) (.string (mkStr (sgAt xs k).l))).setIfInBounds (k * 3 + 1) (.int .i64 (sgAt xs k).st.dir)).setIfInBounds (k * 3 + 2) (.int .i64 (sgAt xs k).st.size)) (xs.flatMap sgC) ((k + 1) * 3)) := Lib.hid (by
        rw [show (k + 1) * 3 = k * 3 + 1 + 1 + 1 by omega]
        exact ((hF.out.step (by simpa using hx0)).step hx1).step hx2)
      obtain ⟨x0, hy0⟩ := hF.out.there (j := k * 3) (by rw [HX.out]; omega)
      obtain ⟨x1, hy1⟩ := hF.out.there (j := k * 3 + 1) (by rw [HX.out]; omega)
      obtain ⟨x2, hy2⟩ := hF.out.there (j := k * 3 + 2) (by rw [HX.out]; omega)
      clear hkl
      generalize sgAt xs k = p at *
      have HT := Lib.hid (toSign (mkStr p.l) p.st.dir p.st.size wr)
      generalize mkStr p.l = s at *
      go_wp2_with fail
      refine HT.out.mono ?_; rintro e w1 ⟨rfl, hb1⟩
      have b1 := hb.trans (hb1.mono hb.size)
      have B1 := hB.below hb1
      have d0 : w1.cell? ⟨w.heap.size, k * 3, none⟩ = some x0 := (B1.cell _).trans hy0
      have d1 : w1.cell? ⟨w.heap.size, k * 3 + 1, none⟩ = some x1 := (B1.cell _).trans hy1
      have d2 : w1.cell? ⟨w.heap.size, k * 3 + 2, none⟩ = some x2 := (B1.cell _).trans hy2
      have f0 := B1.free (k * 3)
      have f1 := B1.free (k * 3 + 1)
      have f2 := B1.free (k * 3 + 2)
      have B2 := Lib.hid (((B1.set (k * 3) (.string s)).set (k * 3 + 1) (.int .i64 p.st.dir)).set (k * 3 + 2) (.int .i64 p.st.size))
      have b2 := Lib.hid (((b1.setCell (p := ⟨w.heap.size, k * 3, none⟩) (Nat.le_refl _) (.string s)).setCell (p := ⟨w.heap.size, k * 3 + 1, none⟩) (Nat.le_refl _) (.int .i64 p.st.dir)).setCell (p := ⟨w.heap.size, k * 3 + 2, none⟩) (Nat.le_refl _) (.int .i64 p.st.size))
      clear hb1 q0 q1 q2 hx0 hx1 hx2 hy0 hy1 hy2 B1 b1 hF hB hb HT
      go_wp2
      go_roundw
      case rel => exact ⟨k + 1, _, by omega, by go_num, B2.out, HF2, b2.out⟩
      case measure => simp [intOf]; omega
    · obtain rfl : k = n := by omega
      have e : arr = (xs.flatMap sgC).toArray := Filled.done (by rw [HX.out]; exact hF.out)
      subst e
      go_wp2
      go_ret
      exact ⟨rfl, hB, hb⟩
theorem SgsIn.ofBlk {w : World} {g n : Nat} {xs : List Sg} (h : Blk w g 109 (xs.flatMap sgC).toArray) (hn : xs.length = n) (hm : n ≤ maxLen) (hg : ∀ x ∈ xs, x.st.good) : SgsIn w w.heap.size (some ⟨g, 0, none⟩) n n xs :=
  ⟨hn, Nat.le_refl _, hm, ⟨by rw [flat_len sgC_len, hn], fun _ => ⟨g, 0, rfl, h.lt, fun j u hu => by rw [Nat.zero_add]; exact (h.cell j).trans (by simpa using hu)⟩⟩, hg⟩
theorem infoStrg : (Try.prog.info? 9).map (fun i => (i.zero, i.size, i.bytes)) = some (some (.string ByteArray.empty), 1, 16) := by kernel_rfl

theorem toStringS (A : Option Addr) (n c : Nat) (ws : List (List UInt8)) (w : World) (hn : n ≤ 1048576) (h : WdsIn w w.heap.size A n c ws) :
    Calls Try.prog 26 #[.slice A n c] w fun e w' => e = .returned (.slice (some ⟨w.heap.size, 0, none⟩) n n) ∧ Blk w' w.heap.size 9 (ws.map strP).toArray ∧ Below w.heap.size w w' := by
  have HL : Hid (ws.length = n) := Lib.hid h.1
  have HX : Hid ((ws.map strP).length = n) := Lib.hid (by rw [List.length_map]; exact h.1)
  have H := Lib.hid h; clear h
  obtain ⟨i0, hi, hz0, hz1, hz2⟩ := info_parts infoStrg
  have hmk := fun W => run_make_rowN (P := Try.prog) 24 9 i0 _ Try.underlying24 hi hz0 .i64 .i64 n n (Nat.le_refl _) (by rw [hz2]; omega) (by omega) W
  rw [hz1] at hmk
  go_enter Try.func26, Try.ntmps26
  go_wp2
  go_loopw [4] (fun i wr => ∃ (k : Nat) (arr : Array Value), k ≤ n ∧ i = .int .i64 k ∧ Blk wr w.heap.size 9 arr ∧ Hid (Filled arr (ws.map strP) k) ∧ Below w.heap.size w wr) (fun i _ => n - (intOf i).toNat)
  case atStart => exact ⟨0, _, Nat.zero_le _, rfl, Blk.new _ _ _, Lib.hid (Filled.zero (by rw [madeCells_size, HX.out])), (Below.refl _ _).alloc (Nat.le_refl _) _⟩
  case round =>
    obtain ⟨k, arr, hk, rfl, hB, hF, hb⟩ := hrel
    by_cases hlt : k < n
    · obtain ⟨b, off, rfl, hbB, q0⟩ := (H.out.below hb).at_ hlt
      have hkl : k < ws.length := by rw [HL.out]; exact hlt
      have hx0 : (ws.map strP)[k]? = some (.string (mkStr (wdAt ws k))) := by rw [List.getElem?_map, wdAt_some hkl]; rfl
      have HF2 := Lib.hid (hF.out.step hx0)
      obtain ⟨x0, hy0⟩ := hF.out.there (j := k) (by rw [HX.out]; omega)
      have d0 : wr.cell? ⟨w.heap.size, k, none⟩ = some x0 := (hB.cell _).trans hy0
      have f0 := hB.free k
      generalize mkStr (wdAt ws k) = s at *
      have B2 := Lib.hid (hB.set k (.string s))
      have b2 := Lib.hid (hb.setCell (p := ⟨w.heap.size, k, none⟩) (Nat.le_refl _) (.string s))
      have i1 : (0 : Int) ≤ (k : Int) := by omega
      have i2 : (k : Int) < (n : Int) := by omega
      clear hkl hx0 hy0 hF hB hb
      go_wp2
      go_roundw
      case rel => exact ⟨k + 1, _, by omega, by go_num, B2.out, HF2, b2.out⟩
      case measure => simp [intOf]; omega
    · obtain rfl : k = n := by omega
      have e : arr = (ws.map strP).toArray := Filled.done (by rw [HX.out]; exact hF.out)
      subst e
      go_wp2
      go_ret
      exact ⟨rfl, hB, hb⟩
theorem WdsIn.ofBlk {w : World} {g n : Nat} {ws : List (List UInt8)} (h : Blk w g 9 (ws.map strP).toArray) (hn : ws.length = n) (hm : n ≤ maxLen) : WdsIn w w.heap.size (some ⟨g, 0, none⟩) n n ws :=
  ⟨hn, Nat.le_refl _, hm, ⟨by rw [List.length_map, hn, Nat.mul_one], fun _ => ⟨g, 0, rfl, h.lt, fun j u hu => by rw [Nat.zero_add]; exact (h.cell j).trans (by simpa using hu)⟩⟩⟩

theorem eqSign (s : ByteArray) (d z : Int) (w : World) :
    Calls Try.prog 70 #[.agg #[.string s, .int .i64 d, .int .i64 z], .agg #[.string s, .int .i64 d, .int .i64 z]] w fun e w' => e = .returned (.bool true) ∧ Below w.heap.size w w' := by
  have h1 : (s.toList != s.toList) = false := by simp
  have hal : ∀ o o', Below w.heap.size w ((w.alloc o).alloc o') := fun o o' => ((Below.refl _ _).alloc (Nat.le_refl _) o).alloc (by simp) o'
  have HAl := Lib.hid hal
  clear hal
  go_enter Try.func70, Try.ntmps70
  go_wp2_with fail
  refine (eqStroke d z _).mono ?_
  rintro e w1 ⟨rfl, hb1⟩
  have b1 := below_next (HAl.out _ _) hb1
  go_wp2
  go_ret
  exact ⟨rfl, b1⟩

theorem eqSignS (A A' : Option Addr) (n c c' : Nat) (xs : List Sg) (w : World) (h : SgsIn w w.heap.size A n c xs) (h' : SgsIn w w.heap.size A' n c' xs) :
    Calls Try.prog 29 #[.slice A n c, .slice A' n c'] w fun e w' => e = .returned (.bool true) ∧ Below w.heap.size w w' := by
  have hm := h.2.2.1; have hnc := h.2.1
  unfold maxLen at hm
  have H := Lib.hid h; have H' := Lib.hid h'; clear h h'
  go_enter Try.func29, Try.ntmps29
  go_wp2
  go_loopw [5] (fun i wr => ∃ k : Nat, k ≤ n ∧ i = .int .i64 k ∧ Below w.heap.size w wr) (fun i _ => n - (intOf i).toNat)
  case atStart => exact ⟨0, Nat.zero_le _, rfl, Below.refl _ _⟩
  case round =>
    obtain ⟨k, hk, rfl, hb⟩ := hrel
    by_cases hlt : k < n
    · obtain ⟨b, off, eA, hbB, c0, c1, c2, hg⟩ := (H.out.below hb).at_ hlt
      obtain ⟨b', off', eA', hbB', c0', c1', c2', hg'⟩ := (H'.out.below hb).at_ hlt
      subst eA eA'
      generalize sgAt xs k = p at *
      generalize mkStr p.l = s at *
      have r0 := qcell c0; have r1 := qcell c1; have r2 := qcell c2; have r0' := qcell c0'; have r1' := qcell c1'; have r2' := qcell c2'
      go_wp2_with fail
      refine region_qb (by kernel_rfl) (by kernel_rfl) ?_
      repeat (quiet_step ((go_at_call 70; exact quietB (eqSign _ _ _ _))))
      refine wpQuiet_nil ?_
      intro w1 hb1; have b1 := hb.trans (hb1.mono hb.size)
      clear r0 r1 r2 r0' r1' r2' c0 c1 c2 c0' c1' c2' hb1
      go_wp2
      go_roundw
      case rel => exact ⟨k + 1, by omega, by go_num, b1⟩
      case measure => simp [intOf]; omega
    · go_wp2
      go_ret
      exact ⟨rfl, hb⟩

theorem eqStringS (A A' : Option Addr) (n c c' : Nat) (ws : List (List UInt8)) (w : World) (h : WdsIn w w.heap.size A n c ws) (h' : WdsIn w w.heap.size A' n c' ws) :
    Calls Try.prog 30 #[.slice A n c, .slice A' n c'] w fun e w' => e = .returned (.bool true) ∧ Below w.heap.size w w' := by
  have hm := h.2.2.1; have hnc := h.2.1
  unfold maxLen at hm
  have H := Lib.hid h; have H' := Lib.hid h'; clear h h'
  go_enter Try.func30, Try.ntmps30
  go_wp2
  go_loopw [5] (fun i wr => ∃ k : Nat, k ≤ n ∧ i = .int .i64 k ∧ Below w.heap.size w wr) (fun i _ => n - (intOf i).toNat)
  case atStart => exact ⟨0, Nat.zero_le _, rfl, Below.refl _ _⟩
  case round =>
    obtain ⟨k, hk, rfl, hb⟩ := hrel
    by_cases hlt : k < n
    · obtain ⟨b, off, rfl, hbB, c0⟩ := (H.out.below hb).at_ hlt
      obtain ⟨b', off', rfl, hbB', c0'⟩ := (H'.out.below hb).at_ hlt
      generalize mkStr (wdAt ws k) = s at *
      have hne : (s.toList != s.toList) = false := by simp
      have r0 := qcell c0; have r0' := qcell c0'
      go_wp2_with fail
      refine region_qb (by kernel_rfl) (by kernel_rfl) ?_
      repeat (first | go_big_quiet_step (fail) | quiet_step (fail))
      refine wpQuiet_nil ?_
      intro w1 hb1; have b1 := hb.trans (hb1.mono hb.size)
      clear r0 r0' c0 c0' hb1
      go_wp2
      go_roundw
      case rel => exact ⟨k + 1, by omega, by go_num, b1⟩
      case measure => simp [intOf]; omega
    · go_wp2
      go_ret
      exact ⟨rfl, hb⟩
end Go.Proofs.Ytppjjbjjbmodbaa
