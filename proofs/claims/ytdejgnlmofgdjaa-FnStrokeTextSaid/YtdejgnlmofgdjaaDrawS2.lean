/-
  DrawStrokeText draws a stroke. Conditions: none.
-/
import Derived.Test.YtdejgnlmofgdjaaDrawS1
namespace Go.Proofs.Ytdejgnlmofgdjaa
open Go.ChangeShapes Go.WideShapes Go.ChangeAt Go.RowKit
set_option maxRecDepth 100000

theorem drawStrokeText (A : Option Addr) (n c : Nat) (bs : List Int) (w : World) (hb : BytesIn w w.heap.size A n c bs) :
    Calls Try.prog 15 #[.slice A n c] w fun e w' => (∃ d z : Int, e = .returned (.agg #[.int .i64 d, .int .i64 z]) ∧ SmallS ⟨d, z⟩) ∧ Below w.heap.size w w' := by
  have HB : Hid (∀ o, BytesIn (w.alloc o) w.heap.size A n c bs) := Lib.hid (fun o => hb.keep fun q hq => World.cell?_alloc_lt _ _ _ hq)
  clear hb
  go_enter Try.func15, Try.ntmps15
  go_wp2_with fail
  refine (l6Open A n c bs w.heap.size _ (by simp) (HB.out _)).mono ?_
  rintro e w1 ⟨rfl, hb1, hr1⟩
  have K1 := (Blk.new w _ _).below hb1
  have G1 := below_next ((Below.refl w.heap.size w).alloc (Nat.le_refl _) _) hb1
  have hz1 := hb1.size
  simp only [World.size_alloc] at hr1 hz1
  simp only [World.size_alloc]
  clear hb1 HB
  go_wp2_with fail
  refine (l91Stroke (w.heap.size + 1) w.heap.size 0 w1 (by omega) hr1 (by omega)).mono ?_
  rintro e w2 ⟨d, z, rfl, hs, hg2, hr2⟩
  have K2 := K1.only hg2 (by omega)
  have G2 := G1.grown hg2 (by omega) (fun k hk => by injection hk with hk; omega)
  obtain ⟨k0, k1, kf0, kf1⟩ := K2.two
  have HG := Lib.hid ((G2.setCell (p := ⟨w.heap.size, 0, none⟩) (Nat.le_refl _) (.int .i64 d)).setCell (p := ⟨w.heap.size, 1, none⟩) (Nat.le_refl _) (.int .i64 z))
  clear K1 K2 G1 G2 hg2 hr2 hr1
  go_wp2
  refine bodyPost_ret (v := .agg #[.int .i64 d, .int .i64 z]) (by simp [results, Try.results15, go_sem, k0, k1]) rfl ?_
  exact ⟨⟨d, z, rfl, hs⟩, HG.out⟩
end Go.Proofs.Ytdejgnlmofgdjaa
