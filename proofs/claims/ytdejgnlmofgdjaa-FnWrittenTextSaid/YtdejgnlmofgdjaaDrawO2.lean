/-
  DrawOutlineText and DrawOutlineFrom. Conditions: none.
-/
import Derived.Test.YtdejgnlmofgdjaaDrawOut
namespace Go.Proofs.Ytdejgnlmofgdjaa
open Go.ChangeShapes Go.WideShapes Go.ChangeAt Go.RowKit
set_option maxRecDepth 100000

theorem SmOwn.reads {w : World} {B N : Nat} {v : Value} (h : SmOwn w B N v) : ∃ A c ss, ss.length = N ∧ v = .slice A N c ∧ StrokesIn w w.heap.size A N c ss := by
  obtain ⟨ss, hl, hO, hS⟩ := h
  obtain ⟨A, c, rfl, _, _⟩ := ownG_form hO
  subst hl
  exact ⟨A, c, ss, rfl, rfl, hO.reads rfl fun s hs => (hS s hs).good⟩
theorem drawOutlineText (A : Option Addr) (n c : Nat) (bs : List Int) (w : World) (hb : BytesIn w w.heap.size A n c bs) :
    Calls Try.prog 24 #[.slice A n c] w fun e w' => (∃ A N c ss, e = .returned (.slice A N c) ∧ N ≤ 6 ∧ StrokesIn w' w'.heap.size A N c ss) ∧ Below w.heap.size w w' := by
  have HO := Lib.hid (l6Open A n c bs w.heap.size w (Nat.le_refl _) hb)
  clear hb
  go_enter Try.func24, Try.ntmps24
  go_wp2_with fail
  refine HO.out.mono ?_
  rintro e w1 ⟨rfl, b1, hr1⟩
  have HL := Lib.hid (l91Outline w.heap.size w.heap.size 0 6 w1 (by omega) (by omega) hr1 b1.size)
  clear hr1 HO
  go_wp2_with fail
  refine HL.out.mono ?_
  rintro e w2 ⟨N, v, hN, rfl, hO2, hg2, hr2⟩
  have b2 := b1.grown hg2 b1.size (fun k hk => by injection hk with hk; omega)
  have HS := Lib.hid hO2.reads
  clear hO2 hg2 hr2 HL
  go_wp2
  go_returns
  obtain ⟨A2, c2, ss, hl, rfl, hS⟩ := HS.out
  exact ⟨⟨A2, N, c2, ss, rfl, hN, hS⟩, b2⟩

theorem drawOutlineFrom (A : Option Addr) (n c : Nat) (bs : List Int) (w : World) (hb : BytesIn w w.heap.size A n c bs) :
    Calls Try.prog 25 #[.slice A n c] w fun e w' => (∃ s : ByteArray, e = .returned (.string s) ∧ s.size ≤ 4095) ∧ Below w.heap.size w w' := by
  have HO := Lib.hid (l6Open A n c bs w.heap.size w (Nat.le_refl _) hb)
  clear hb
  go_enter Try.func25, Try.ntmps25
  go_wp2_with fail
  refine HO.out.mono ?_
  rintro e w1 ⟨rfl, b1, hr1⟩
  have hg1 := hr1.lt
  have HL := Lib.hid (l91Outline w.heap.size w.heap.size 0 6 w1 (by omega) (by omega) hr1 b1.size)
  clear hr1 HO
  go_wp2_with fail
  refine HL.out.mono ?_
  rintro e w2 ⟨N, v, hN, rfl, hO2, hg2, hr2⟩
  have b2 := b1.grown hg2 b1.size (fun k hk => by injection hk with hk; omega)
  obtain ⟨A2, c2, ss, hl, rfl, hS⟩ := hO2.reads
  have HT := Lib.hid (specOutlineText A2 N c2 ss w2 hS)
  have hlen : (outText ss).length ≤ 12 := by
    unfold outText
    split
    · rw [textS_len]; omega
    · simp
  clear hS hO2 hg2 HL
  go_wp2_with fail
  refine HT.out.mono ?_
  rintro e w3 ⟨rfl, hb3⟩
  have b3 := below_next b2 hb3
  have hr3 := hr2.below hb3
  have HP := Lib.hid (pickR (n := 8) hr3 (by omega) (by omega) (by omega))
  clear hb3 hr2 hr3 HT
  generalize outText ss = t at *
  go_wp2_with fail
  refine HP.out.mono ?_
  rintro e w4 ⟨m, rfl, hm, hg4, hr4⟩
  have b4 := b3.grown hg4 b3.size (fun k hk => by injection hk with hk; omega)
  have HR4 := Lib.hid hr4
  have hgl := hr4.lt
  clear hg4 hr4 HP
  have hts : (mkStr t).size ≤ 12 := by rw [mkStr_size]; exact hlen
  by_cases h0 : m = 0
  · subst h0
    have HOf : Hid (∀ o, StrsAt (w4.alloc o) w4.heap.size [⟨#[48]⟩, ⟨#[48, 115, 48, 109]⟩, ⟨#[56, 115]⟩, ⟨#[50, 120]⟩, ⟨#[115, 50]⟩] → Calls Try.prog 60 #[.pointer (some ⟨w.heap.size, 0, none⟩), .slice (some ⟨w4.heap.size, 0, none⟩) 5 5] (w4.alloc o) fun e w' => (∃ l : List UInt8, e = .returned (.string (mkStr l)) ∧ l.length ≤ 40) ∧ Below w.heap.size w w') := Lib.hid (fun o ho => by
      refine (pickOf w4.heap.size w.heap.size w.heap.size _ 5 5 _ _ rfl (by omega) (by omega) (by omega) (HR4.out.alloc' o) ho (by omega)).mono ?_
      rintro e w' ⟨s, hs, rfl, hg, hr⟩
      refine ⟨⟨s.data.toList, by rw [mkStr_self], ?_⟩, (b4.alloc b4.size o).grown hg (by simp; have := b4.size; omega) (fun k hk => by injection hk with hk; omega)⟩
      simp only [List.mem_cons, List.mem_nil_iff, or_false] at hs
      rcases hs with rfl | rfl | rfl | rfl | rfl <;> decide)
    clear HR4
    go_wp2_with fail
    refine (HOf.out _ (StrsAt.new w4 _ _ _ rfl)).mono ?_
    rintro e w5 ⟨⟨l, rfl, hl5⟩, b5⟩
    have hadd := fun W => run_add (P := Try.prog) t l (by omega) W
    go_wp2
    go_returns
    exact ⟨⟨_, rfl, by rw [mkStr_size, List.length_append]; omega⟩, b5⟩
  have e0 : ((m : Int) == 0) = false := by simpa using h0
  by_cases h1 : m = 1
  · subst h1
    have HOf : Hid (∀ o, StrsAt (w4.alloc o) w4.heap.size [⟨#[]⟩, ⟨#[48, 109]⟩, ⟨#[48, 109, 52, 109]⟩, ⟨#[48, 115, 50, 115, 52, 115, 54, 115, 48, 115, 50, 115, 52, 115, 54, 115]⟩, ⟨#[48, 115, 50, 115, 52, 115, 54, 115, 48, 115, 50, 115, 52, 115, 54, 115, 48, 115]⟩, ⟨#[57, 115]⟩] → Calls Try.prog 60 #[.pointer (some ⟨w.heap.size, 0, none⟩), .slice (some ⟨w4.heap.size, 0, none⟩) 6 6] (w4.alloc o) fun e w' => (∃ l : List UInt8, e = .returned (.string (mkStr l)) ∧ l.length ≤ 40) ∧ Below w.heap.size w w') := Lib.hid (fun o ho => by
      refine (pickOf w4.heap.size w.heap.size w.heap.size _ 6 6 _ _ rfl (by omega) (by omega) (by omega) (HR4.out.alloc' o) ho (by omega)).mono ?_
      rintro e w' ⟨s, hs, rfl, hg, hr⟩
      refine ⟨⟨s.data.toList, by rw [mkStr_self], ?_⟩, (b4.alloc b4.size o).grown hg (by simp; have := b4.size; omega) (fun k hk => by injection hk with hk; omega)⟩
      simp only [List.mem_cons, List.mem_nil_iff, or_false] at hs
      rcases hs with rfl | rfl | rfl | rfl | rfl | rfl <;> decide)
    clear HR4
    go_wp2_with fail
    refine (HOf.out _ (StrsAt.new w4 _ _ _ rfl)).mono ?_
    rintro e w5 ⟨⟨l, rfl, hl5⟩, b5⟩
    go_wp2
    go_returns
    exact ⟨⟨_, rfl, by rw [mkStr_size]; omega⟩, b5⟩
  have e1 : ((m : Int) == 1) = false := by simp; omega
  go_wp2
  go_returns
  exact ⟨⟨_, rfl, by omega⟩, b4⟩
end Go.Proofs.Ytdejgnlmofgdjaa
