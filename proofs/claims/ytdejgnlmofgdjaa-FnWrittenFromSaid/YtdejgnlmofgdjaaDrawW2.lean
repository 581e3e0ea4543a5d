/-
  DrawWrittenText and DrawWrittenFrom. Conditions: none.
-/
import Derived.Test.YtdejgnlmofgdjaaDrawWr
import Derived.Test.YtdejgnlmofgdjaaWritten
namespace Go.Proofs.Ytdejgnlmofgdjaa
open Go.ChangeShapes Go.WideShapes Go.ChangeAt Go.RowKit
set_option maxRecDepth 100000

theorem SmOwn.low {w : World} {B B' N : Nat} {v : Value} (h : SmOwn w B N v) (hB : B' ≤ B) : SmOwn w B' N v := by
  obtain ⟨ss, h1, h2, h3⟩ := h
  exact ⟨ss, h1, ownG_mono h2 hB, h3⟩
theorem drawWrittenText (A : Option Addr) (n c : Nat) (bs : List Int) (w : World) (hb : BytesIn w w.heap.size A n c bs) :
    Calls Try.prog 33 #[.slice A n c] w fun e w' => (∃ A N c ss p, e = .returned (.agg #[.slice A N c, .int .i64 p]) ∧ N ≤ 4 ∧ -1 ≤ p ∧ p ≤ 3 ∧ StrokesIn w' w'.heap.size A N c ss) ∧ Below w.heap.size w w' := by
  have HB : Hid (∀ o, BytesIn (w.alloc o) w.heap.size A n c bs) := Lib.hid (fun o => hb.keep fun q hq => World.cell?_alloc_lt _ _ _ hq)
  clear hb
  go_enter Try.func33, Try.ntmps33
  go_wp2_with fail
  refine (l6Open A n c bs w.heap.size _ (by simp) (HB.out _)).mono ?_
  rintro e w1 ⟨rfl, hb1, hr1⟩
  have K1 := (Blk.new w _ _).below hb1
  have G1 := below_next ((Below.refl w.heap.size w).alloc (Nat.le_refl _) _) hb1
  have hz1 := hb1.size
  simp only [World.size_alloc] at hr1 hz1
  simp only [World.size_alloc]
  clear hb1 HB
  go_wp2_with fail
  refine (l91Written (w.heap.size + 1) w.heap.size 0 w1 (by omega) hr1 (by omega)).mono ?_
  rintro e w2 ⟨N, v, p, hN, rfl, hp0, hp1, hO2, hg2, hr2⟩
  have K2 := K1.only hg2 (by omega)
  have G2 := G1.grown hg2 (by omega) (fun k hk => by injection hk with hk; omega)
  obtain ⟨A1, c1, ss1, hl1, rfl, _⟩ := hO2.reads
  have D3 : ∀ gb, (Value.slice A1 N c1).ownBlock = some gb → w.heap.size + 1 ≤ gb := fun gb hb => by have := hO2.lt hb; omega
  obtain ⟨k0, k1, kf0, kf1⟩ := K2.two
  have HG := Lib.hid ((G2.setCell (p := ⟨w.heap.size, 0, none⟩) (Nat.le_refl _) (.slice A1 N c1)).setCell (p := ⟨w.heap.size, 1, none⟩) (Nat.le_refl _) (.int .i64 p))
  have HS := Lib.hid ((hO2.farc (p := ⟨w.heap.size, 0, none⟩) (u := .slice A1 N c1) (fun gb hb => by have := D3 gb hb; simp; omega)).farc (p := ⟨w.heap.size, 1, none⟩) (u := .int .i64 p) (fun gb hb => by have := D3 gb hb; simp; omega))
  clear K1 K2 G1 G2 hg2 hr2 hr1 hO2
  go_wp2
  refine bodyPost_ret (v := .agg #[.slice A1 N c1, .int .i64 p]) (by simp [results, Try.results33, go_sem, k0, k1]) rfl ?_
  obtain ⟨A2, c2, ss2, hl2, e2, hR⟩ := HS.out.reads
  injection e2 with e2 _ e3
  subst e2 e3
  exact ⟨⟨A1, N, c1, ss2, p, rfl, hN, hp0, hp1, hR⟩, HG.out⟩

theorem drawWrittenFrom (A : Option Addr) (n c : Nat) (bs : List Int) (w : World) (hb : BytesIn w w.heap.size A n c bs) :
    Calls Try.prog 36 #[.slice A n c] w fun e w' => (∃ s : ByteArray, e = .returned (.string s) ∧ s.size ≤ 4095) ∧ Below w.heap.size w w' := by
  have HO := Lib.hid (l6Open A n c bs w.heap.size w (Nat.le_refl _) hb)
  clear hb
  go_enter Try.func36, Try.ntmps36
  go_wp2_with fail
  refine HO.out.mono ?_
  rintro e w1 ⟨rfl, b1, hr1⟩
  have hg1 := hr1.lt
  have HL := Lib.hid (l91Written w.heap.size w.heap.size 0 w1 (by omega) hr1 b1.size)
  clear hr1 HO
  go_wp2_with fail
  refine HL.out.mono ?_
  rintro e w2 ⟨N, v, p, hN, rfl, hp0, hp1, hO2, hg2, hr2⟩
  have b2 := b1.grown hg2 b1.size (fun k hk => by injection hk with hk; omega)
  obtain ⟨A2, c2, ss, hl, rfl, hS⟩ := hO2.reads
  have HT := Lib.hid (specWrittenText A2 N c2 ss p w2 hS)
  have hlen : (wrText ss p).length ≤ 17 := by
    unfold wrText
    have := outText_len ss
    split
    · simp; omega
    · simp
  clear hS hO2 hg2 HL
  go_wp2_with fail
  refine HT.out.mono ?_
  rintro e w3 ⟨rfl, hb3⟩
  have b3 := below_next b2 hb3
  have hr3 := hr2.below hb3
  have HP := Lib.hid (pickR (n := 8) hr3 (by omega) (by omega) (by omega))
  clear hb3 hr2 hr3 HT
  generalize wrText ss p = t at *
  go_wp2_with fail
  refine HP.out.mono ?_
  rintro e w4 ⟨m, rfl, hm, hg4, hr4⟩
  have b4 := b3.grown hg4 b3.size (fun k hk => by injection hk with hk; omega)
  have HR4 := Lib.hid hr4
  have hgl := hr4.lt
  clear hg4 hr4 HP
  have hts : (mkStr t).size ≤ 17 := by rw [mkStr_size]; exact hlen
  by_cases h0 : m = 0
  · subst h0
    have HOf : Hid (∀ o, StrsAt (w4.alloc o) w4.heap.size [⟨#[48]⟩, ⟨#[32]⟩, ⟨#[57, 115]⟩] → Calls Try.prog 60 #[.pointer (some ⟨w.heap.size, 0, none⟩), .slice (some ⟨w4.heap.size, 0, none⟩) 3 3] (w4.alloc o) fun e w' => (∃ l : List UInt8, e = .returned (.string (mkStr l)) ∧ l.length ≤ 40) ∧ Below w.heap.size w w') := Lib.hid (fun o ho => by
      refine (pickOf w4.heap.size w.heap.size w.heap.size _ 3 3 _ _ rfl (by omega) (by omega) (by omega) (HR4.out.alloc' o) ho (by omega)).mono ?_
      rintro e w' ⟨s, hs, rfl, hg, hr⟩
      refine ⟨⟨s.data.toList, by rw [mkStr_self], ?_⟩, (b4.alloc b4.size o).grown hg (by simp; have := b4.size; omega) (fun k hk => by injection hk with hk; omega)⟩
      simp only [List.mem_cons, List.mem_nil_iff, or_false] at hs
      rcases hs with rfl | rfl | rfl <;> decide)
    clear HR4
    go_wp2_with fail
    refine (HOf.out _ (StrsAt.new w4 _ _ _ rfl)).mono ?_
    rintro e w5 ⟨⟨l, rfl, hl5⟩, b5⟩
    have hadd := fun W => run_add (P := Try.prog) t l (by omega) W
    go_wp2
    go_returns
    exact ⟨⟨_, rfl, by rw [mkStr_size, List.length_append]; omega⟩, b5⟩
  have e0 : ((m : Int) == 0) = false := by simpa using h0
  by_cases h1 : m = 1
  · subst h1
    have HOf : Hid (∀ o, StrsAt (w4.alloc o) w4.heap.size [⟨#[]⟩, ⟨#[94]⟩, ⟨#[45]⟩, ⟨#[95]⟩, ⟨#[48, 109]⟩, ⟨#[43, 48, 109]⟩, ⟨#[94, 48, 109, 48, 109]⟩] → Calls Try.prog 60 #[.pointer (some ⟨w.heap.size, 0, none⟩), .slice (some ⟨w4.heap.size, 0, none⟩) 7 7] (w4.alloc o) fun e w' => (∃ l : List UInt8, e = .returned (.string (mkStr l)) ∧ l.length ≤ 40) ∧ Below w.heap.size w w') := Lib.hid (fun o ho => by
      refine (pickOf w4.heap.size w.heap.size w.heap.size _ 7 7 _ _ rfl (by omega) (by omega) (by omega) (HR4.out.alloc' o) ho (by omega)).mono ?_
      rintro e w' ⟨s, hs, rfl, hg, hr⟩
      refine ⟨⟨s.data.toList, by rw [mkStr_self], ?_⟩, (b4.alloc b4.size o).grown hg (by simp; have := b4.size; omega) (fun k hk => by injection hk with hk; omega)⟩
      simp only [List.mem_cons, List.mem_nil_iff, or_false] at hs
      rcases hs with rfl | rfl | rfl | rfl | rfl | rfl | rfl <;> decide)
    clear HR4
    go_wp2_with fail
    refine (HOf.out _ (StrsAt.new w4 _ _ _ rfl)).mono ?_
    rintro e w5 ⟨⟨l, rfl, hl5⟩, b5⟩
    go_wp2
    go_returns
    exact ⟨⟨_, rfl, by rw [mkStr_size]; omega⟩, b5⟩
  have e1 : ((m : Int) == 1) = false := by simp; omega
  go_wp2
  go_returns
  exact ⟨⟨_, rfl, by omega⟩, b4⟩
end Go.Proofs.Ytdejgnlmofgdjaa
