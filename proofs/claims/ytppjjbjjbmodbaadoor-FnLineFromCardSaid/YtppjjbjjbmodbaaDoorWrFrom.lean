/-
  WrittenFrom of both: a text is read as a written form. Conditions: the text is no longer than the laws' texts.
-/
import Derived.Test.YtppjjbjjbmodbaaDoorWrLaw
import Derived.Test.YtppjjbjjbmodbaaDoorFrom
import Derived.Lib.IndexBytes
import Derived.WalkSmall
namespace Go.Proofs.YtppjjbjjbmodbaaDoor
open Go.ChangeShapes Go.WideShapes Go.ChangeAt Go.RowKit
set_option maxRecDepth 100000

/-- The answer of reading a text as a form. -/
def WrAns (w' : World) (B : Nat) (o : Option (List Stroke × Int)) (e : Ending) : Prop :=
  (o = none ∧ e = .returned (.tuple #[.agg #[.slice none 0 0, .int .i64 0], .bool false])) ∨
  ∃ A c ss p, o = some (ss, p) ∧ e = .returned (.tuple #[.agg #[.slice A ss.length c, .int .i64 p], .bool true]) ∧ StrOwn w' B (.slice A ss.length c) ss ∧ ∀ s ∈ ss, s.good
theorem index_mark (c : UInt8) : Lib.indexByte [94, 45, 95] c = markN c := by
  unfold markN
  by_cases h1 : c = 94
  · subst h1; decide
  · by_cases h2 : c = 45
    · subst h2; decide
    · by_cases h3 : c = 95
      · subst h3; decide
      · rw [if_neg h1, if_neg h2, if_neg h3]
        have e1 : ¬ (94 : UInt8) = c := fun h => h1 h.symm
        have e2 : ¬ (45 : UInt8) = c := fun h => h2 h.symm
        have e3 : ¬ (95 : UInt8) = c := fun h => h3 h.symm
        simp [Lib.indexByte, e1, e2, e3]
theorem tail_str (c : UInt8) (r : List UInt8) : (mkStr (c :: r)).extract 1 (mkStr (c :: r)).size = mkStr r := by
  apply ByteArray.ext
  apply Array.toList_inj.1
  rw [Lib.extract_to_end]
  rfl
theorem wr_no {c : UInt8} {r : List UInt8} (h : markN c < 0 ∨ fromS r = none) : wrFrom (c :: r) = none := by
  simp only [wrFrom]
  rcases h with h | h
  · rw [if_neg (by omega)]
  · rw [h]; split <;> rfl
theorem wr_yes {c : UInt8} {r : List UInt8} {o : List Stroke} (h : 0 ≤ markN c) (h2 : fromS r = some o) : wrFrom (c :: r) = some (o, markN c) := by
  simp only [wrFrom]; rw [if_pos h, h2]; rfl
theorem StrOwn.far {w : World} {B : Nat} {v : Value} {ss : List Stroke} (h : StrOwn w B v ss) {p : Addr} (hp : p.block < B) (u : Value) : StrOwn (w.setCell p u) B v ss :=
  ownG_congr h fun b hb => Below.heap_setCell w p u b (by have := ownG_base h hb; omega)
theorem markN_le (c : UInt8) : -1 ≤ markN c ∧ markN c ≤ 2 := by
  unfold markN; split <;> (try split) <;> (try split) <;> omega

set_option maxHeartbeats 800000 in
theorem implWrittenFrom (l : List UInt8) (w : World) (hs : l.length ≤ 4096) :
    Calls Tryd.prog 20 #[.string (mkStr l)] w fun e w' => WrAns w' w.heap.size (wrFrom l) e ∧ Below w.heap.size w w' := by
  have hal : Below w.heap.size w (w.alloc (.cells #[.slice none 0 0, .int .i64 0] 36)) := (Below.refl _ _).alloc (Nat.le_refl _) _
  have K0 := Blk.new w 36 #[.slice none 0 0, .int .i64 0]
  cases l with
  | nil =>
    have he : (mkStr []).toList.isEmpty = true := by rw [Lib.toList_data, mkStr_data]; rfl
    obtain ⟨k0, k1, kf0, kf1⟩ := K0.two
    have hA : Hid (∀ w', WrAns w' w.heap.size (wrFrom []) (.returned (.tuple #[.agg #[.slice none 0 0, .int .i64 0], .bool false]))) := Lib.hid (fun w' => .inl ⟨rfl, rfl⟩)
    clear hal K0
    go_enter Tryd.func20, Tryd.ntmps20
    go_wp2
    refine bodyPost_ret (v := .tuple #[.agg #[.slice none 0 0, .int .i64 0], .bool false]) (by simp [results, Tryd.results20, go_sem, k0, k1]) rfl ?_
    exact ⟨hA.out _, by go_grown⟩
  | cons c r =>
    have HIx : Hid (∀ W, Calls Tryd.prog 38 #[.string { data := #[94, 45, 95] }, .int .u8 (c.toNat : Int)] W fun e w' => e = .returned (.int .i64 (markN c)) ∧ w' = W) := Lib.hid (fun W => (Tryd.strings_IndexByte { data := #[94, 45, 95] } (c.toNat : Int) W).mono fun e w' ⟨he, hw⟩ => ⟨by
        rw [he]
        have e1 : ((c.toNat : Int).toNat.toUInt8) = c := by rw [Int.toNat_natCast]; simp
        rw [e1]
        exact ret_int (index_mark c), hw⟩)
    have HO : Hid (∀ W, Calls Tryd.prog 39 #[.string (mkStr r)] W fun e w' => FromAns w' W.heap.size (fromS r) e ∧ Below W.heap.size W w') := Lib.hid (fun W => implOutlineFrom (mkStr r) W (by rw [mkStr_size]; simp at hs; omega))
    have hz0 : 0 < (mkStr (c :: r)).size := by rw [mkStr_size]; simp
    have h0 : (mkStr (c :: r))[0] = c := rfl
    have hx := tail_str c r
    have he : (mkStr (c :: r)).toList.isEmpty = false := by rw [Lib.toList_data, mkStr_data]; rfl
    obtain ⟨m1, m2⟩ := markN_le c
    have HW := Lib.hid (fun (h : markN c < 0 ∨ fromS r = none) => wr_no h)
    have HY := Lib.hid (fun (o : List Stroke) (h : 0 ≤ markN c) (h2 : fromS r = some o) => wr_yes h h2)
    generalize wrFrom (c :: r) = ans at *
    generalize mkStr (c :: r) = s at *
    generalize markN c = m at *
    clear hs
    have HC := HO.out (w.alloc (.cells #[.slice none 0 0, .int .i64 0] 36))
    go_enter Tryd.func20, Tryd.ntmps20
    go_wp2_with fail
    refine (HIx.out _).mono ?_
    rintro e w' ⟨rfl, rfl⟩
    clear HO
    have HC := Lib.hid HC
    go_wp2_with fail
    refine HC.out.mono ?_
    rintro e w1 ⟨hA, hb1⟩
    have b1 := below_next hal hb1
    have K1 := K0.below hb1
    obtain ⟨k0, k1, kf0, kf1⟩ := K1.two
    have hB := Lib.hid (fun u1 u2 => (b1.setCell (p := ⟨w.heap.size, 0, none⟩) (Nat.le_refl _) u1).setCell (p := ⟨w.heap.size, 1, none⟩) (Nat.le_refl _) u2)
    clear hb1 HC HIx hal K0 K1 hx h0
    rcases hA with ⟨hn, A, cc, rfl, _⟩ | ⟨A, cc, ss, hy, rfl, hO, hg⟩
    · have HN := HW.out (.inr hn)
      subst HN
      clear hn HW HY
      by_cases hm : m < 0
      all_goals (
        go_wp2
        refine bodyPost_ret (v := .tuple #[.agg #[.slice none 0 0, .int .i64 0], .bool false]) (by simp [results, Tryd.results20, go_sem, k0, k1]) rfl ?_
        exact ⟨.inl ⟨rfl, rfl⟩, hB.out _ _⟩)
    · by_cases hm : m < 0
      · have HN := HW.out (.inl hm)
        subst HN
        clear hy HW HY hO
        go_wp2
        refine bodyPost_ret (v := .tuple #[.agg #[.slice none 0 0, .int .i64 0], .bool false]) (by simp [results, Tryd.results20, go_sem, k0, k1]) rfl ?_
        exact ⟨.inl ⟨rfl, rfl⟩, hB.out _ _⟩
      · have HN := HY.out ss (by omega) hy
        subst HN
        have HS : Hid (∀ u1 u2, StrOwn ((w1.setCell ⟨w.heap.size, 0, none⟩ u1).setCell ⟨w.heap.size, 1, none⟩ u2) w.heap.size (.slice A ss.length cc) ss) := Lib.hid (fun u1 u2 => own_mono0 ((hO.far (p := ⟨w.heap.size, 0, none⟩) (by simp) u1).far (p := ⟨w.heap.size, 1, none⟩) (by simp) u2) (by simp))
        have HG := Lib.hid hg
        clear hy HW HY hO hg
        generalize hNn : ss.length = N at *
        have HNn := Lib.hid hNn; clear hNn
        go_wp2
        refine bodyPost_ret (v := .tuple #[.agg #[.slice A N cc, .int .i64 m], .bool true]) (by simp [results, Tryd.results20, go_sem, k0, k1]) rfl ?_
        refine ⟨.inr ⟨A, cc, ss, m, rfl, by rw [HNn.out], ?_, HG.out⟩, hB.out _ _⟩
        rw [HNn.out]
        exact HS.out _ _

theorem markN_cases (c : UInt8) : (c = 94 ∧ markN c = 0) ∨ (c = 45 ∧ markN c = 1) ∨ (c = 95 ∧ markN c = 2) ∨ ((c.toNat : Int) == 94) = false ∧ ((c.toNat : Int) == 45) = false ∧ ((c.toNat : Int) == 95) = false ∧ markN c = -1 := by
  by_cases h1 : c = 94
  · subst h1; exact .inl ⟨rfl, rfl⟩
  · by_cases h2 : c = 45
    · subst h2; exact .inr (.inl ⟨rfl, rfl⟩)
    · by_cases h3 : c = 95
      · subst h3; exact .inr (.inr (.inl ⟨rfl, rfl⟩))
      · have g : ∀ d : UInt8, c ≠ d → ((c.toNat : Int) == (d.toNat : Int)) = false := fun d hd => beq_eq_false_iff_ne.2 (fun e => hd (UInt8.toNat_inj.1 (by omega)))
        exact .inr (.inr (.inr ⟨g 94 h1, g 45 h2, g 95 h3, by unfold markN; rw [if_neg h1, if_neg h2, if_neg h3]⟩))
set_option maxHeartbeats 1600000 in
theorem specWrittenFrom (l : List UInt8) (w : World) (hs : l.length ≤ 4096) :
    Calls Tryd.prog 28 #[.string (mkStr l)] w fun e w' => WrAns w' w.heap.size (wrFrom l) e ∧ Below w.heap.size w w' := by
  have hal : Below w.heap.size w (w.alloc (.cells #[.slice none 0 0, .int .i64 0] 36)) := (Below.refl _ _).alloc (Nat.le_refl _) _
  have K0 := Blk.new w 36 #[.slice none 0 0, .int .i64 0]
  cases l with
  | nil =>
    have he : (mkStr []).toList.isEmpty = true := by rw [Lib.toList_data, mkStr_data]; rfl
    obtain ⟨k0, k1, kf0, kf1⟩ := K0.two
    have hA : Hid (∀ w', WrAns w' w.heap.size (wrFrom []) (.returned (.tuple #[.agg #[.slice none 0 0, .int .i64 0], .bool false]))) := Lib.hid (fun w' => .inl ⟨rfl, rfl⟩)
    clear hal K0
    go_enter Tryd.func28, Tryd.ntmps28
    go_wp2
    refine bodyPost_ret (v := .tuple #[.agg #[.slice none 0 0, .int .i64 0], .bool false]) (by simp [results, Tryd.results28, go_sem, k0, k1]) rfl ?_
    exact ⟨hA.out _, by go_grown⟩
  | cons c r =>
    have HO : Hid (∀ W, Calls Tryd.prog 46 #[.string (mkStr r)] W fun e w' => FromAns w' W.heap.size (fromS r) e ∧ Below W.heap.size W w') := Lib.hid (fun W => specOutlineFrom (mkStr r) W (by rw [mkStr_size]; simp at hs; omega))
    have hz0 : 0 < (mkStr (c :: r)).size := by rw [mkStr_size]; simp
    have h0 : (mkStr (c :: r))[0] = c := rfl
    have hx := tail_str c r
    have he : (mkStr (c :: r)).toList.isEmpty = false := by rw [Lib.toList_data, mkStr_data]; rfl
    have HW := Lib.hid (fun (h : markN c < 0 ∨ fromS r = none) => wr_no h)
    have HY := Lib.hid (fun (o : List Stroke) (h : 0 ≤ markN c) (h2 : fromS r = some o) => wr_yes h h2)
    have hm := markN_cases c
    have q0 : (⟨#[94, 45, 95]⟩ : ByteArray)[0].toNat = 94 := rfl
    have q1 : (⟨#[94, 45, 95]⟩ : ByteArray)[1].toNat = 45 := rfl
    have q2 : (⟨#[94, 45, 95]⟩ : ByteArray)[2].toNat = 95 := rfl
    have KD := Lib.hid (fun (n : Nat) (w1 : World) (hb : Below ((w.alloc (.cells #[.slice none 0 0, .int .i64 0] 36)).drewN n).heap.size ((w.alloc (.cells #[.slice none 0 0, .int .i64 0] 36)).drewN n) w1) => (show Below w.heap.size w w1 ∧ Blk w1 w.heap.size 36 #[.slice none 0 0, .int .i64 0] from ⟨below_next (below_drewN hal n) hb, Blk.below (w := (w.alloc (.cells #[.slice none 0 0, .int .i64 0] 36)).drewN n) K0 hb⟩))
    generalize wrFrom (c :: r) = ans at *
    generalize mkStr (c :: r) = s at *
    generalize markN c = m at *
    clear hs
    rcases hm with ⟨rfl, rfl⟩ | ⟨rfl, rfl⟩ | ⟨rfl, rfl⟩ | ⟨e1, e2, e3, rfl⟩
    · go_enter Tryd.func28, Tryd.ntmps28
      go_wp2_with fail
      refine wp_loop_rounds 1 ?_
      rw [rounds_succ]
      go_wp2_with fail
      go_quiet (fail)
      go_wp2_with fail
      refine (HO.out _).mono ?_
      rintro e w1 ⟨hA, hb1⟩
      obtain ⟨b1, K1⟩ := KD.out _ _ hb1
      clear KD q0 q1 q2
      obtain ⟨k0, k1, kf0, kf1⟩ := K1.two
      have hB := Lib.hid (fun u1 u2 => (b1.setCell (p := ⟨w.heap.size, 0, none⟩) (Nat.le_refl _) u1).setCell (p := ⟨w.heap.size, 1, none⟩) (Nat.le_refl _) u2)
      clear hb1 HO hal K1 hx h0
      rcases hA with ⟨hn, A, cc, rfl, _⟩ | ⟨A, cc, ss, hy, rfl, hO, hg⟩
      · have HN := HW.out (.inr hn)
        subst HN
        clear hn HW HY
        go_wp2
        refine bodyPost_ret (v := .tuple #[.agg #[.slice none 0 0, .int .i64 0], .bool false]) (by simp [results, Tryd.results28, go_sem, k0, k1]) rfl ?_
        exact ⟨.inl ⟨rfl, rfl⟩, hB.out _ _⟩
      · have HN := HY.out ss (by omega) hy
        subst HN
        have HS : Hid (∀ u1 u2, StrOwn ((w1.setCell ⟨w.heap.size, 0, none⟩ u1).setCell ⟨w.heap.size, 1, none⟩ u2) w.heap.size (.slice A ss.length cc) ss) := Lib.hid (fun u1 u2 => own_mono0 ((hO.far (p := ⟨w.heap.size, 0, none⟩) (by simp) u1).far (p := ⟨w.heap.size, 1, none⟩) (by simp) u2) (by simp))
        have HG := Lib.hid hg
        clear hy HW HY hO hg
        generalize hNn : ss.length = N at *
        have HNn := Lib.hid hNn; clear hNn
        go_wp2
        refine bodyPost_ret (v := .tuple #[.agg #[.slice A N cc, .int .i64 0], .bool true]) (by simp [results, Tryd.results28, go_sem, k0, k1]) rfl ?_
        refine ⟨.inr ⟨A, cc, ss, 0, rfl, by rw [HNn.out], ?_, HG.out⟩, hB.out _ _⟩
        rw [HNn.out]
        exact HS.out _ _
    · go_enter Tryd.func28, Tryd.ntmps28
      go_wp2_with fail
      refine wp_loop_rounds 2 ?_
      rw [rounds_succ]
      go_wp2_with fail
      go_quiet (fail)
      go_wp2_with fail
      rw [rounds_succ]
      go_wp2_with fail
      go_quiet (fail)
      go_wp2_with fail
      refine (HO.out _).mono ?_
      rintro e w1 ⟨hA, hb1⟩
      obtain ⟨b1, K1⟩ := KD.out _ _ hb1
      clear KD q0 q1 q2
      obtain ⟨k0, k1, kf0, kf1⟩ := K1.two
      have hB := Lib.hid (fun u1 u2 => (b1.setCell (p := ⟨w.heap.size, 0, none⟩) (Nat.le_refl _) u1).setCell (p := ⟨w.heap.size, 1, none⟩) (Nat.le_refl _) u2)
      clear hb1 HO hal K1 hx h0
      rcases hA with ⟨hn, A, cc, rfl, _⟩ | ⟨A, cc, ss, hy, rfl, hO, hg⟩
      · have HN := HW.out (.inr hn)
        subst HN
        clear hn HW HY
        go_wp2
        refine bodyPost_ret (v := .tuple #[.agg #[.slice none 0 0, .int .i64 0], .bool false]) (by simp [results, Tryd.results28, go_sem, k0, k1]) rfl ?_
        exact ⟨.inl ⟨rfl, rfl⟩, hB.out _ _⟩
      · have HN := HY.out ss (by omega) hy
        subst HN
        have HS : Hid (∀ u1 u2, StrOwn ((w1.setCell ⟨w.heap.size, 0, none⟩ u1).setCell ⟨w.heap.size, 1, none⟩ u2) w.heap.size (.slice A ss.length cc) ss) := Lib.hid (fun u1 u2 => own_mono0 ((hO.far (p := ⟨w.heap.size, 0, none⟩) (by simp) u1).far (p := ⟨w.heap.size, 1, none⟩) (by simp) u2) (by simp))
        have HG := Lib.hid hg
        clear hy HW HY hO hg
        generalize hNn : ss.length = N at *
        have HNn := Lib.hid hNn; clear hNn
        go_wp2
        refine bodyPost_ret (v := .tuple #[.agg #[.slice A N cc, .int .i64 1], .bool true]) (by simp [results, Tryd.results28, go_sem, k0, k1]) rfl ?_
        refine ⟨.inr ⟨A, cc, ss, 1, rfl, by rw [HNn.out], ?_, HG.out⟩, hB.out _ _⟩
        rw [HNn.out]
        exact HS.out _ _
    · go_enter Tryd.func28, Tryd.ntmps28
      go_wp2_with fail
      refine wp_loop_rounds 3 ?_
      rw [rounds_succ]
      go_wp2_with fail
      go_quiet (fail)
      go_wp2_with fail
      rw [rounds_succ]
      go_wp2_with fail
      go_quiet (fail)
      go_wp2_with fail
      rw [rounds_succ]
      go_wp2_with fail
      go_quiet (fail)
      go_wp2_with fail
      refine (HO.out _).mono ?_
      rintro e w1 ⟨hA, hb1⟩
      obtain ⟨b1, K1⟩ := KD.out _ _ hb1
      clear KD q0 q1 q2
      obtain ⟨k0, k1, kf0, kf1⟩ := K1.two
      have hB := Lib.hid (fun u1 u2 => (b1.setCell (p := ⟨w.heap.size, 0, none⟩) (Nat.le_refl _) u1).setCell (p := ⟨w.heap.size, 1, none⟩) (Nat.le_refl _) u2)
      clear hb1 HO hal K1 hx h0
      rcases hA with ⟨hn, A, cc, rfl, _⟩ | ⟨A, cc, ss, hy, rfl, hO, hg⟩
      · have HN := HW.out (.inr hn)
        subst HN
        clear hn HW HY
        go_wp2
        refine bodyPost_ret (v := .tuple #[.agg #[.slice none 0 0, .int .i64 0], .bool false]) (by simp [results, Tryd.results28, go_sem, k0, k1]) rfl ?_
        exact ⟨.inl ⟨rfl, rfl⟩, hB.out _ _⟩
      · have HN := HY.out ss (by omega) hy
        subst HN
        have HS : Hid (∀ u1 u2, StrOwn ((w1.setCell ⟨w.heap.size, 0, none⟩ u1).setCell ⟨w.heap.size, 1, none⟩ u2) w.heap.size (.slice A ss.length cc) ss) := Lib.hid (fun u1 u2 => own_mono0 ((hO.far (p := ⟨w.heap.size, 0, none⟩) (by simp) u1).far (p := ⟨w.heap.size, 1, none⟩) (by simp) u2) (by simp))
        have HG := Lib.hid hg
        clear hy HW HY hO hg
        generalize hNn : ss.length = N at *
        have HNn := Lib.hid hNn; clear hNn
        go_wp2
        refine bodyPost_ret (v := .tuple #[.agg #[.slice A N cc, .int .i64 2], .bool true]) (by simp [results, Tryd.results28, go_sem, k0, k1]) rfl ?_
        refine ⟨.inr ⟨A, cc, ss, 2, rfl, by rw [HNn.out], ?_, HG.out⟩, hB.out _ _⟩
        rw [HNn.out]
        exact HS.out _ _
    · go_enter Tryd.func28, Tryd.ntmps28
      go_wp2_with fail
      refine wp_loop_rounds 4 ?_
      rw [rounds_succ]
      go_wp2_with fail
      go_quiet (fail)
      go_wp2_with fail
      rw [rounds_succ]
      go_wp2_with fail
      go_quiet (fail)
      go_wp2_with fail
      rw [rounds_succ]
      go_wp2_with fail
      go_quiet (fail)
      go_wp2_with fail
      rw [rounds_succ]
      go_wp2
      have K1 : ∀ n, Blk ((w.alloc (.cells #[.slice none 0 0, .int .i64 0] 36)).drewN n) w.heap.size 36 #[.slice none 0 0, .int .i64 0] := fun n => K0
      have k0 := fun n => (K1 n).two.1
      have k1 := fun n => (K1 n).two.2.1
      have HN := HW.out (.inl (by omega))
      subst HN
      refine bodyPost_ret (v := .tuple #[.agg #[.slice none 0 0, .int .i64 0], .bool false]) (by simp [results, Tryd.results28, go_sem, k0, k1]) rfl ?_
      exact ⟨.inl ⟨rfl, rfl⟩, ((below_drewN hal _).setCell (p := ⟨w.heap.size, 0, none⟩) (Nat.le_refl _) _).setCell (p := ⟨w.heap.size, 1, none⟩) (Nat.le_refl _) _⟩
end Go.Proofs.YtppjjbjjbmodbaaDoor
