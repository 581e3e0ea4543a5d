/-
  What the laws on filing, finding, packing and listing draw. Conditions: none.
-/
import Derived.Test.YtfbfapobmhfenaaThere
import Derived.Test.YtfbfapobmhfenaaDrawA
import Derived.Test.YtfbfapobmhfenaaCabOf
import Derived.Test.YtfbfapobmhfenaaSame
namespace Go.Proofs.Ytfbfapobmhfenaa
open Go.ChangeShapes Go.WideShapes Go.ChangeAt Go.RowKit
set_option maxRecDepth 100000

theorem drawCabinetFind (A : Option Addr) (n c : Nat) (bs : List Int) (w : World) (hb : BytesIn w w.heap.size A n c bs) :
    Calls Try.prog 50 #[.slice A n c] w fun e w' => ∃ A c ds p, e = .returned (.tuple #[.slice A ds.length c, padVal p]) ∧ DrawersIn w' w'.heap.size A ds.length c ds ∧ cabSz ds ≤ 4096 ∧ p.good ∧ Below w.heap.size w w' := by
  have hb0 : BytesIn (w.alloc (.cells #[.int .i64 0, .string ByteArray.empty] 49)) (w.heap.size + 1) A n c bs :=
    ⟨hb.1, hb.2.1, hb.2.2.1, (hb.2.2.2.1.keep (fun q hq => World.cell?_alloc_lt _ _ _ hq)).more (by omega), hb.2.2.2.2⟩
  have HO := Lib.hid (l6Open A n c bs (w.heap.size + 1) _ (by simp) hb0)
  clear hb hb0
  go_enter Try.func50, Try.ntmps50
  go_wp2_with fail
  refine HO.out.mono ?_
  rintro e w1 ⟨rfl, hb1, hr1⟩
  have b1 : Below w.heap.size w w1 := below_next (by go_grown) hb1
  have K1 := (Blk.new w _ _).below hb1
  have hz1 : w.heap.size + 1 ≤ w1.heap.size := by have := hb1.size; simp at this; omega
  simp only [World.size_alloc] at hr1
  have HT := Lib.hid (l92There (w.heap.size + 1) (w.heap.size + 1) 0 w1 (by omega) hr1 hz1)
  clear hb1 hr1 HO
  go_wp2_with fail
  refine HT.out.mono ?_
  rintro e w2 ⟨A2, c2, ds, p, rfl, hO2, hs2, hg2, hb2⟩
  have K2 : Blk w2 w.heap.size 49 #[.int .i64 0, .string ByteArray.empty] := (hb2.block w.heap.size (by omega)).trans K1
  have b2 := b1.trans (hb2.mono (by omega))
  obtain ⟨k0, k1, kf0, kf1⟩ := K2.two
  have HO5 := Lib.hid (((hO2.farCell (p := ⟨w.heap.size, 0, none⟩) (by simp; omega) (.int .i64 p.day)).farCell (p := ⟨w.heap.size, 1, none⟩) (by simp; omega) (.string p.case)).reads rfl)
  have HB5 := Lib.hid ((b2.setCell (p := ⟨w.heap.size, 0, none⟩) (by simp) (.int .i64 p.day)).setCell (p := ⟨w.heap.size, 1, none⟩) (by simp) (.string p.case))
  have HGo := Lib.hid hg2
  clear hO2 K1 K2 b2 hb2 hg2 HT
  unfold padVal
  go_wp2
  refine bodyPost_ret (v := .tuple #[.slice A2 ds.length c2, .agg #[.int .i64 p.day, .string p.case]]) (by simp [results, Try.results50, go_sem, k0, k1]) rfl ?_
  exact ⟨A2, c2, ds, p, rfl, HO5.out, hs2, HGo.out, HB5.out⟩

theorem drawCabinetPads (A : Option Addr) (n c : Nat) (bs : List Int) (w : World) (hb : BytesIn w w.heap.size A n c bs) :
    Calls Try.prog 45 #[.slice A n c] w (DrawnC w) := by
  have HD := Lib.hid (drawCab A n c bs w hb); clear hb
  go_enter Try.func45, Try.ntmps45
  go_wp2_with fail
  refine HD.out.mono ?_
  rintro e w1 ⟨rfl, _, hC⟩
  have HC := Lib.hid hC; clear hC
  go_wp2_with fail
  refine HC.out.mono ?_
  rintro e w2 ⟨⟨A2, c2, ds, rfl, hO, h2, _⟩, b2⟩
  have H1 := Lib.hid (hO.reads rfl); clear hO
  go_wp2
  go_ret
  exact ⟨A2, c2, ds, rfl, H1.out, h2, b2⟩

theorem drawCabinetPack (A : Option Addr) (n c : Nat) (bs : List Int) (w : World) (hb : BytesIn w w.heap.size A n c bs) :
    Calls Try.prog 24 #[.slice A n c] w (DrawnC w) := by
  have HD := Lib.hid (drawCab A n c bs w hb); clear hb
  go_enter Try.func24, Try.ntmps24
  go_wp2_with fail
  refine HD.out.mono ?_
  rintro e w1 ⟨rfl, _, hC⟩
  have HC := Lib.hid hC; clear hC
  go_wp2_with fail
  refine HC.out.mono ?_
  rintro e w2 ⟨⟨A2, c2, ds, rfl, hO, h2, _⟩, b2⟩
  have H1 := Lib.hid (hO.reads rfl); clear hO
  go_wp2
  go_ret
  exact ⟨A2, c2, ds, rfl, H1.out, h2, b2⟩

theorem drawCabinetFile (A : Option Addr) (n c : Nat) (bs : List Int) (w : World) (hb : BytesIn w w.heap.size A n c bs) :
    Calls Try.prog 52 #[.slice A n c] w fun e w' => ∃ A c ds p, e = .returned (.tuple #[.slice A ds.length c, padVal p]) ∧ DrawersIn w' w'.heap.size A ds.length c ds ∧ cabSz ds ≤ 4096 ∧ p.good ∧ Below w.heap.size w w' := by
  have hb0 : BytesIn (w.alloc (.cells #[.int .i64 0, .string ByteArray.empty] 49)) (w.heap.size + 1) A n c bs :=
    ⟨hb.1, hb.2.1, hb.2.2.1, (hb.2.2.2.1.keep (fun q hq => World.cell?_alloc_lt _ _ _ hq)).more (by omega), hb.2.2.2.2⟩
  have HO := Lib.hid (l6Open A n c bs (w.heap.size + 1) _ (by simp) hb0)
  clear hb hb0
  go_enter Try.func52, Try.ntmps52
  go_wp2_with fail
  refine HO.out.mono ?_
  rintro e w1 ⟨rfl, hb1, hr1⟩
  have b1 : Below w.heap.size w w1 := below_next (by go_grown) hb1
  have K1 := (Blk.new w _ _).below hb1
  have hz1 : w.heap.size + 1 ≤ w1.heap.size := by have := hb1.size; simp at this; omega
  simp only [World.size_alloc] at hr1
  have HC := Lib.hid (l92Cabinet (w.heap.size + 1) (w.heap.size + 1) 0 w1 (by omega) hr1 hz1)
  clear hb1 hr1 HO
  go_wp2_with fail
  refine HC.out.mono ?_
  rintro e w2 ⟨A2, c2, ds, rfl, hO2, hs2, hg2, hr2⟩
  have K2 : Blk w2 w.heap.size 49 #[.int .i64 0, .string ByteArray.empty] := K1.only hg2 (by omega)
  have b2 := b1.grown hg2 b1.size (fun k hk => by injection hk with hk; omega)
  have hz2 := Nat.le_trans hz1 hg2.size
  have HP := Lib.hid (l92Pad (w.heap.size + 1) (w.heap.size + 1) 200 w2 (by omega) hr2 hz2)
  have HR2 := Lib.hid hr2; have HO2 := Lib.hid hO2
  clear hO2 hr2 hg2 K1 b1 HC
  go_wp2_with fail
  refine HP.out.mono ?_
  rintro e w3 ⟨d, s, rfl, hsm, hg3, hr3⟩
  have K3 : Blk w3 w.heap.size 49 #[.int .i64 0, .string ByteArray.empty] := K2.only hg3 (by omega)
  have b3 := b2.grown hg3 b2.size (fun k hk => by injection hk with hk; omega)
  have hO3 := HR2.out.cab HO2.out hg3
  obtain ⟨k0, k1, kf0, kf1⟩ := K3.two
  have HO5 := Lib.hid (((hO3.farCell (p := ⟨w.heap.size, 0, none⟩) (by simp; omega) (.int .i64 d)).farCell (p := ⟨w.heap.size, 1, none⟩) (by simp; omega) (.string s)).reads rfl)
  have HB5 := Lib.hid ((b3.setCell (p := ⟨w.heap.size, 0, none⟩) (by simp) (.int .i64 d)).setCell (p := ⟨w.heap.size, 1, none⟩) (by simp) (.string s))
  have HGo := Lib.hid (small_good hsm)
  clear hO3 K3 K2 b3 b2 hg3 hr3 hsm HP HR2 HO2
  go_wp2
  refine bodyPost_ret (v := .tuple #[.slice A2 ds.length c2, .agg #[.int .i64 d, .string s]]) (by simp [results, Try.results52, go_sem, k0, k1]) rfl ?_
  exact ⟨A2, c2, ds, ⟨d, s⟩, rfl, HO5.out, hs2, HGo.out, HB5.out⟩
end Go.Proofs.Ytfbfapobmhfenaa
