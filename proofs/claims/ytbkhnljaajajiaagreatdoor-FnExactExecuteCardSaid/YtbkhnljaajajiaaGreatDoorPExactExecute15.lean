/-
  Contracts and plain laws that the proof of the law ExactExecute leans on. Conditions: as each says.
-/
import Derived.Test.YtbkhnljaajajiaaGreatDoorPExactExecute00
import Derived.Test.YtbkhnljaajajiaaGreatDoorPExactExecute07
import Derived.Test.YtbkhnljaajajiaaGreatDoorPExactExecute08
set_option maxRecDepth 100000
set_option linter.unusedSimpArgs false
set_option linter.unusedVariables false
set_option linter.unnecessarySimpa false
namespace Go.Proofs.YtbkhnljaajajiaaGreatDoor
open Go.ChangeShapes Go.WideShapes Go.ChangeAt Go.RowKit
set_option maxHeartbeats 800000 in
theorem specWrittenOf (A : Option Addr) (n c : Nat) (xs : List Sg) (l : List UInt8) (w : World) (hl : l.length ≤ maxLen) (h : SgsIn w w.heap.size A n c xs) :
  Calls Tryz.prog 88 #[.slice A n c, .string (mkStr l)] w fun e w' => WrAns w' w.heap.size ((wordOut xs l).map fun o => (o, posOf l)) e ∧ Below w.heap.size w w' := by
 have hal : ∀ o, Below w.heap.size w (w.alloc o) := fun o => (Below.refl _ _).alloc (Nat.le_refl _) o; have HO := uH (fun o => specWordOutline A n c xs (mkStr l) (w.alloc o) (by rw [mkStr_size]; exact hl) (h.keep (hal o))); have HP := uH (fun W => specWordPosition (mkStr l) W (by rw [mkStr_size]; exact hl)); rw [mkStr_data] at HO HP; have HG := uH (fun ss (h : wordOut xs l = some ss) => outB_good (wordOut_ok h).2.2.2); generalize wordOut xs l = R at *; generalize posOf l = p at *; clear h; go_enter Tryz.func88, Tryz.ntmps88
 (go_wp2_with fail); refine (HO.out _).mono ?_; rintro e w1 ⟨hA, hb1⟩; have K1 := (Blk.new w _ _).below hb1; have b1 := below_next (hal _) hb1; rcases hA with ⟨hn, A1, c1, rfl, _⟩ | ⟨A1, c1, ss, hn, rfl, hO1⟩
 ·subst hn; obtain ⟨k0, k1, kf0, kf1⟩ := K1.two; clear HG HO HP hb1; go_wp2; refine bodyPost_ret (v := .tuple #[.agg #[.slice none 0 0, .int .i64 0], .bool false]) (by simp [results, Tryz.results88, go_sem, k0, k1]) rfl ?_; exact ⟨.inl ⟨rfl, rfl⟩, (b1.setCell (Nat.le_refl _) _).setCell (Nat.le_refl _) _⟩
 ·subst hn; have HG2 := uH (HG.out ss rfl); have HO1 : Hid (StrOwn w1 (w.heap.size + 1) (.slice A1 ss.length c1) ss) := uH (by simpa using hO1); obtain ⟨k0, k1, kf0, kf1⟩ := K1.two; generalize hM : ss.length = M at *; have HM := uH hM; clear hM; clear HG HO hb1 hO1; (go_wp2_with fail); refine (HP.out _).mono ?_; rintro e w2 ⟨rfl, rfl⟩; have HO2 := uH ((StrOwn.far HO1.out (p := ⟨w.heap.size, 0, none⟩) (by simp) (.slice A1 M c1)).far (p := ⟨w.heap.size, 1, none⟩) (by simp) (.int .i64 p)); have HO3 := uH (own_mono0 HO2.out (show w.heap.size ≤ w.heap.size + 1 by omega)); go_wp2; refine bodyPost_ret (v := .tuple #[.agg #[.slice A1 M c1, .int .i64 p], .bool true]) (by simp [results, Tryz.results88, go_sem, k0, k1]) rfl ?_; exact ⟨.inr ⟨A1, c1, ss, p, rfl, by rw [HM.out], by rw [HM.out]; exact HO3.out, HG2.out⟩, (b1.setCell (Nat.le_refl _) _).setCell (Nat.le_refl _) _⟩
end Go.Proofs.YtbkhnljaajajiaaGreatDoor
