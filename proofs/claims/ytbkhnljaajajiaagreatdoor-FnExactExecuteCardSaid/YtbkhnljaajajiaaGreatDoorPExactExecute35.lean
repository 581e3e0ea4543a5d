/-
  Contracts and plain laws that the proof of the law ExactExecute leans on. Conditions: as each says.
-/
import Derived.Test.YtbkhnljaajajiaaGreatDoorPExactExecute10
import Derived.Test.YtbkhnljaajajiaaGreatDoorPExactExecute16
import Derived.Test.YtbkhnljaajajiaaGreatDoorPExactExecute17
import Derived.Test.YtbkhnljaajajiaaGreatDoorPExactExecute28
import Derived.Test.YtbkhnljaajajiaaGreatDoorPExactExecute29
import Derived.Test.YtbkhnljaajajiaaGreatDoorPExactExecute32
import Derived.Test.YtbkhnljaajajiaaGreatDoorPExactExecute33
import Derived.Test.YtbkhnljaajajiaaGreatDoorPExactExecute34
import Derived.RegionTactic
import Derived.BigRegion
import Derived.StringKeys
import Derived.Lib.SplitLaws
import Derived.Defers
import Derived.Recover
set_option maxRecDepth 100000
set_option linter.unusedSimpArgs false
set_option linter.unusedVariables false
set_option linter.unnecessarySimpa false
namespace Go.Proofs.YtbkhnljaajajiaaGreatDoor
open Go.ChangeShapes Go.WideShapes Go.ChangeAt Go.RowKit
theorem FromAns.one {w' : World} {B : Nat} {o : Option (List Stroke)} {e : Ending} (h : FromAns w' B o e) : ∃ A n c t, e = .returned (.tuple #[.slice A n c, .bool t]) ∧ Hid ((t = false ∧ o = none) ∨ (t = true ∧ ∃ ss, o = some ss ∧ ss.length = n ∧ StrOwn w' B (.slice A n c) ss ∧ ∀ s ∈ ss, s.good)) := by
 rcases h with ⟨ho, A, c, rfl, _⟩ | ⟨A, c, ss, ho, rfl, hO, hg⟩
 ·exact ⟨A, 0, c, false, rfl, uH (.inl ⟨rfl, ho⟩)⟩
 ·exact ⟨A, ss.length, c, true, rfl, uH (.inr ⟨rfl, ss, ho, rfl, hO, hg⟩)⟩
theorem SysAns.one {w' : World} {B : Nat} {ys : List Sg} {e : Ending} (h : SysAns w' B ys e) : ∃ A n c t, e = .returned (.tuple #[.slice A n c, .bool t]) ∧ Hid ((t = false ∧ sysB ys = false) ∨ (t = true ∧ sysB ys = true ∧ ys.length = n ∧ SgOwn w' B (.slice A n c) ys)) := by
 rcases h with ⟨ho, A, c, rfl, _⟩ | ⟨ho, A, c, rfl, hO⟩
 ·exact ⟨A, 0, c, false, rfl, uH (.inl ⟨rfl, ho⟩)⟩
 ·exact ⟨A, ys.length, c, true, rfl, uH (.inr ⟨rfl, ho, rfl, hO⟩)⟩
set_option maxHeartbeats 1600000 in
theorem implRunSign (A1 A2 A3 A4 : Option Addr) (n1 c1 n2 c2 n3 c3 n4 c4 : Nat) (sys : List Sg) (xs : List Br) (sp : List Wd) (ds : List Drawer) (o : Nat) (A : Option Addr) (n c : Nat) (ws : List Wd) (w : World) (ok : (Hd.mk A1 n1 c1 A2 n2 c2 A3 n3 c3 A4 n4 c4 sys xs sp ds).st.ok) (K : Blk w o 76 #[.slice A1 n1 c1, .slice A2 n2 c2, .slice A3 n3 c3, .slice A4 n4 c4]) (HS : StIn w (Hd.mk A1 n1 c1 A2 n2 c2 A3 n3 c3 A4 n4 c4 sys xs sp ds)) (hWl : ∀ l ∈ ws, l.length ≤ 600) (hw : WdsIn w w.heap.size A n c ws) :
  Calls Tryz.prog 98 #[.pointer (some ⟨o, 0, none⟩), .slice A n c] w fun e w' => RunAns w w' o (Hd.mk A1 n1 c1 A2 n2 c2 A3 n3 c3 A4 n4 c4 sys xs sp ds) A n c ws (cSign :: ws) e := by
 by_cases h0 : n = 2
 ·subst h0; have HL := uH (line_sign (s := (Hd.mk A1 n1 c1 A2 n2 c2 A3 n3 c3 A4 n4 c4 sys xs sp ds).st) hw.1); obtain ⟨b, off, rfl, hbB, e0⟩ := hw.at_ (k := 0) (by omega); obtain ⟨_, _, ea, _, e1⟩ := hw.at_ (k := 1) (by omega); injection ea with ea; injection ea with ea1 ea2; subst ea1 ea2; have e0' : w.cell? ⟨b, off, none⟩ = some (.string (mkStr (wdAt ws 0))) := (by simpa using e0); have e1' : w.cell? ⟨b, off + 1, none⟩ = some (.string (mkStr (wdAt ws 1))) := (by simpa using e1); have ht : (wdAt ws 1).length ≤ 4096 := (by have := hWl _ (wdAt_mem (ws := ws) (k := 1) (by rw [hw.1]; omega)); omega); have HF := uH (implOutlineFrom (mkStr (wdAt ws 1)) w (by rw [mkStr_size]; omega)); rw [mkStr_data] at HF; have HG := uH HS.sg.2.2.2.2; have HA := uH (fun (st : Stroke) (hst : st.good) V (hV : Below w.heap.size w V) => implSystemAdd A1 n1 c1 sys (wdAt ws 0) st.dir st.size V ok.1 (fun x hx => by
   rcases List.mem_append.1 hx with h | h
   ·exact HG.out x h
   ·rw [List.mem_singleton] at h; rw [h]; exact hst) (HS.keep hV).sg)
  have HK := uH K; have HGx : Hid (∀ (st : Stroke), st.good → ∀ x ∈ sys ++ [(⟨wdAt ws 0, ⟨st.dir, st.size⟩⟩ : Sg)], x.st.good) := uH (fun st hst x hx => by
   rcases List.mem_append.1 hx with h | h
   ·exact HG.out x h
   ·rw [List.mem_singleton] at h; rw [h]; exact hst)
  have HSg : Hid (signO sys (wdAt ws 0) (wdAt ws 1) = match fromS (wdAt ws 1) with
   | some [s] => if sysB (sys ++ [⟨wdAt ws 0, s⟩]) = true then some (sys ++ [⟨wdAt ws 0, s⟩]) else none
   | _ => none) := uH rfl
  have HL2 : Hid (lineS (Hd.mk A1 n1 c1 A2 n2 c2 A3 n3 c3 A4 n4 c4 sys xs sp ds).st (cSign :: ws) = up (Hd.mk A1 n1 c1 A2 n2 c2 A3 n3 c3 A4 n4 c4 sys xs sp ds).st (signO sys (wdAt ws 0) (wdAt ws 1)) fun x => { (Hd.mk A1 n1 c1 A2 n2 c2 A3 n3 c3 A4 n4 c4 sys xs sp ds).st with sys := x }) := HL; clear e0 e1 ok HS hw hWl ht K HL HG; generalize wdAt ws 0 = u0 at *; generalize wdAt ws 1 = u1 at *; obtain ⟨k0, k1, k2, k3, f0, f1, f2, f3⟩ := officeCells HK.out; go_enter Tryz.func98, Tryz.ntmps98
  (go_wp2_with fail); refine (demandYes _).mono ?_; rintro e w1 ⟨rfl, rfl⟩; (go_wp2_with fail); refine HF.out.mono ?_; rintro e w1 ⟨hA, b1⟩; obtain ⟨A8, n8, c8, t8, rfl, HA8⟩ := hA.one; have m0 := kcell b1 k0; have m1 := kcell b1 e0'; clear HF hA; rcases HA8.out with ⟨rfl, ho⟩ | ⟨rfl, ss, ho, hn8, hO8, hg8⟩
  ·have HB : Hid (lineS (Hd.mk A1 n1 c1 A2 n2 c2 A3 n3 c3 A4 n4 c4 sys xs sp ds).st (cSign :: ws) = ((Hd.mk A1 n1 c1 A2 n2 c2 A3 n3 c3 A4 n4 c4 sys xs sp ds).st, sayNo)) := uH (by rw [HL2.out, HSg.out, ho]; rfl); clear ho HA8 HL2 HSg; go_wp2; go_ret; exact RunAns.said HK.out b1 HB.out
  by_cases hs1 : n8 = 1
  ·subst hs1; obtain ⟨st, rfl⟩ : ∃ st, ss = [st] := List.length_eq_one_iff.1 hn8; obtain ⟨g, off', rfl, hgB, d0, d1, _⟩ := (hO8.reads hn8 hg8).at_ (k := 0) (by omega); have d0' : w1.cell? ⟨g, off', none⟩ = some (.int .i64 st.dir) := (by simpa [strokeAt] using d0); have d1' : w1.cell? ⟨g, off' + 1, none⟩ = some (.int .i64 st.size) := (by simpa [strokeAt] using d1); have hst := hg8 st (by simp); have HAd := uH (fun V (hV : Below w1.heap.size w1 V) => HA.out st hst V (below_next b1 hV)); have HGy := uH (HGx.out st hst); have HSy : Hid (signO sys u0 u1 = if sysB (sys ++ [⟨u0, ⟨st.dir, st.size⟩⟩]) = true then some (sys ++ [⟨u0, ⟨st.dir, st.size⟩⟩]) else none) := uH (by rw [HSg.out, ho]); clear ho HA8 HSg HA HGx d0 d1 hO8 hg8 hst hn8; (go_wp2_with fail); go_region_held3 (fun w' => w'.cell? ⟨o, 0, none⟩ = some (.slice A1 n1 c1) ∧ w'.cell? ⟨b, off, none⟩ = some (.string (mkStr u0)) ∧ w'.cell? ⟨g, off', none⟩ = some (.int .i64 st.dir) ∧ w'.cell? ⟨g, off' + 1, none⟩ = some (.int .i64 st.size)) (first | exact ⟨by assumption, by assumption, by assumption, by assumption⟩ | go_keep) (first
    | (go_at_call 164; refine (HAd.out _ (Below.refl _ _).drew).mono ?_; rintro e w2 ⟨hA2, hb2⟩; obtain ⟨A9, n9, c9, t9, rfl, HA9⟩ := hA2.one; have x0 := kcell hb2 (show World.cell? (World.drew _) _ = _ from m0); have x1 := kcell hb2 (show World.cell? (World.drew _) _ = _ from m1); have x2 := kcell hb2 (show World.cell? (World.drew _) _ = _ from d0'); have x3 := kcell hb2 (show World.cell? (World.drew _) _ = _ from d1')))
   have bd : Below w1.heap.size w1 w2 := ((Below.refl _ _).drew).trans hb2; have b2 := below_next b1 bd; have K2 := HK.out.below b2; have HO9 : Hid (∀ ys, SgOwn w2 (World.drew w1).heap.size (.slice A9 n9 c9) ys → SgOwn w2 w.heap.size (.slice A9 n9 c9) ys) := uH (fun ys h => ownG_mono h b1.size); obtain ⟨r0, r1, r2, r3, g0, g1, g2, g3⟩ := officeCells K2; clear HAd hb2 bd; rcases HA9.out with ⟨rfl, ho⟩ | ⟨rfl, ho, hn9, hO9⟩
   ·have HB : Hid (lineS (Hd.mk A1 n1 c1 A2 n2 c2 A3 n3 c3 A4 n4 c4 sys xs sp ds).st (cSign :: ws) = ((Hd.mk A1 n1 c1 A2 n2 c2 A3 n3 c3 A4 n4 c4 sys xs sp ds).st, sayNo)) := uH (by rw [HL2.out, HSy.out, ho]; rfl); clear ho HA9 HL2 HSy; go_wp2; go_ret; exact RunAns.said HK.out b2 HB.out
   ·have HB : Hid (lineS (Hd.mk A1 n1 c1 A2 n2 c2 A3 n3 c3 A4 n4 c4 sys xs sp ds).st (cSign :: ws) = ({ (Hd.mk A1 n1 c1 A2 n2 c2 A3 n3 c3 A4 n4 c4 sys xs sp ds).st with sys := sys ++ [⟨u0, ⟨st.dir, st.size⟩⟩] }, sayOk)) := uH (by rw [HL2.out, HSy.out, ho]; rfl); have HO := uH (HO9.out _ hO9); have HN := uH hn9; clear ho HA9 HL2 HSy hO9 HO9 hn9; go_wp2; go_ret; exact RunAns.sys HK.out b2 HO.out HN.out HGy.out HB.out
  ·have z1 : ¬ (n8 : Int) = 1 := (by omega); have z2 : ((n8 : Int) != 1) = true := (by simp; omega); have HB : Hid (lineS (Hd.mk A1 n1 c1 A2 n2 c2 A3 n3 c3 A4 n4 c4 sys xs sp ds).st (cSign :: ws) = ((Hd.mk A1 n1 c1 A2 n2 c2 A3 n3 c3 A4 n4 c4 sys xs sp ds).st, sayNo)) := uH (by
    rw [HL2.out, HSg.out, ho]; match ss, hn8 with
    | [], _ => rfl
    | [_], h => exact absurd h.symm hs1
    | _ :: _ :: _, _ => rfl)
   clear ho HA8 HL2 HSg hO8 hg8 hn8 hs1; go_wp2; go_ret; exact RunAns.said HK.out b1 HB.out
 ·have HB := uH (bad_sign (s := (Hd.mk A1 n1 c1 A2 n2 c2 A3 n3 c3 A4 n4 c4 sys xs sp ds).st) (ws := ws) (by rw [hw.1]; exact h0)); have z1 : ¬ (n : Int) = 2 := (by omega); have z2 : ((n : Int) == 2) = false := beq_eq_false_iff_ne.2 z1; have HK := uH K; clear ok HS hw K h0; go_enter Tryz.func98, Tryz.ntmps98
  (go_wp2_with fail); refine (demandNo _).mono ?_; rintro e w1 ⟨rfl, rfl⟩; exact ⟨rfl, RunAns.bad HK.out HB.out⟩
set_option maxHeartbeats 1600000 in
theorem implRunBrief (A1 A2 A3 A4 : Option Addr) (n1 c1 n2 c2 n3 c3 n4 c4 : Nat) (sys : List Sg) (xs : List Br) (sp : List Wd) (ds : List Drawer) (o : Nat) (A : Option Addr) (n c : Nat) (ws : List Wd) (w : World) (ok : (Hd.mk A1 n1 c1 A2 n2 c2 A3 n3 c3 A4 n4 c4 sys xs sp ds).st.ok) (K : Blk w o 76 #[.slice A1 n1 c1, .slice A2 n2 c2, .slice A3 n3 c3, .slice A4 n4 c4]) (HS : StIn w (Hd.mk A1 n1 c1 A2 n2 c2 A3 n3 c3 A4 n4 c4 sys xs sp ds)) (hWl : ∀ l ∈ ws, l.length ≤ 600) (hw : WdsIn w w.heap.size A n c ws) (h500 : n ≤ 600) :
  Calls Tryz.prog 99 #[.pointer (some ⟨o, 0, none⟩), .slice A n c] w fun e w' => RunAns w w' o (Hd.mk A1 n1 c1 A2 n2 c2 A3 n3 c3 A4 n4 c4 sys xs sp ds) A n c ws (cBrief :: ws) e := by
 by_cases h0 : 2 ≤ n
 ·have HL := uH (line_brief (s := (Hd.mk A1 n1 c1 A2 n2 c2 A3 n3 c3 A4 n4 c4 sys xs sp ds).st) (ws := ws) (by rw [hw.1]; exact h0)); obtain ⟨b, off, rfl, hbB, e0⟩ := hw.at_ (k := 0) (by omega); have e0' : w.cell? ⟨b, off, none⟩ = some (.string (mkStr (wdAt ws 0))) := (by simpa using e0); have hX : OkBs (xs ++ [(⟨wdAt ws 0, fromB (some ⟨b, off, none⟩) 1 c 1, n - 1, c - 1, ws.drop 1⟩ : Br)]) := fun x hx => by
   rcases List.mem_append.1 hx with h | h
   ·exact (stSz ok).ob x h
   ·rw [List.mem_singleton] at h; subst h; refine ⟨by have := hWl _ (wdAt_mem (ws := ws) (k := 0) (by rw [hw.1]; omega)); show (wdAt ws 0).length ≤ maxLen; unfold maxLen; omega, fun l hl => ?_⟩; have := hWl l (List.mem_of_mem_drop hl); unfold maxLen; omega
  have hn2 : n2 ≤ 500 := (by have := (stSz ok).n2; have := HS.br.1; simp only at *; omega); have HA := uH (fun V (hV : Below w.heap.size w V) => implBriefsAdd A2 n2 c2 xs ⟨wdAt ws 0, fromB (some ⟨b, off, none⟩) 1 c 1, n - 1, c - 1, ws.drop 1⟩ V hn2 hX (by show n - 1 ≤ 1000; omega) (by show 1 ≤ n - 1; omega) (HS.keep hV).br ((hw.keep hV).fromS (by omega))); have hfr : ∀ V, (Instr.slice 27 (.slice (some ⟨b, off, none⟩) n c) (some (.int .i64 1)) none none).run Tryz.prog V = .ok (.slice (fromB (some ⟨b, off, none⟩) 1 c 1) (n - 1) (c - 1)) V := fun V => run_fromS elemW sizeW _ n c 1 (by omega) V; have HK := uH K; obtain ⟨k0, k1, k2, k3, f0, f1, f2, f3⟩ := officeCells K; generalize fromB (some (⟨b, off, none⟩ : Addr)) 1 c 1 = AR at *; have HAy : Hid (∀ V, Below w.heap.size w V → Calls Tryz.prog 165 #[.slice A2 n2 c2, .agg #[.string (mkStr (wdAt ws 0)), .slice AR (n - 1) (c - 1)]] V fun e w' => AddAns w' V.heap.size (addO (xs.map Br.dat) ⟨wdAt ws 0, ws.drop 1⟩) e ∧ Below V.heap.size V w') := uH (fun V hV => HA.out V hV); have i2 : (0 : Int) < (n : Int) := (by omega); have i4 : 0 < n := (by omega); have i3 : (1 : Int) ≤ (n : Int) := (by omega); have i1 : (2 : Int) ≤ (n : Int) := (by omega); have HL2 : Hid (lineS (Hd.mk A1 n1 c1 A2 n2 c2 A3 n3 c3 A4 n4 c4 sys xs sp ds).st (cBrief :: ws) = up (Hd.mk A1 n1 c1 A2 n2 c2 A3 n3 c3 A4 n4 c4 sys xs sp ds).st (addO (xs.map Br.dat) ⟨wdAt ws 0, ws.drop 1⟩) fun x => { (Hd.mk A1 n1 c1 A2 n2 c2 A3 n3 c3 A4 n4 c4 sys xs sp ds).st with brs := x }) := HL; clear e0 ok HS hw hWl K hX HA HL hn2; generalize wdAt ws 0 = u0 at *; go_enter Tryz.func99, Tryz.ntmps99
  (go_wp2_with fail); refine (demandYes _).mono ?_; rintro e w1 ⟨rfl, rfl⟩; (go_wp2_with fail); go_region_held3 (fun w' => w'.cell? ⟨o, 1, none⟩ = some (.slice A2 n2 c2) ∧ w'.cell? ⟨b, off, none⟩ = some (.string (mkStr u0))) (first | exact ⟨by assumption, by assumption⟩ | go_keep) (first
   | (go_at_call 165; refine (HAy.out _ (Below.refl _ _).drew).mono ?_; rintro e w2 ⟨hA2, hb2⟩; obtain ⟨A9, n9, c9, t9, rfl, HA9⟩ := hA2.one; have x0 := kcell hb2 (show World.cell? (World.drew _) _ = _ from k1); have x1 := kcell hb2 (show World.cell? (World.drew _) _ = _ from e0')))
  have b2 : Below w.heap.size w w2 := ((Below.refl _ _).drew).trans hb2; have K2 := HK.out.below b2; obtain ⟨r0, r1, r2, r3, g0, g1, g2, g3⟩ := officeCells K2; clear HAy hb2; rcases HA9.out with ⟨rfl, ho⟩ | ⟨rfl, ys, ho, hn9, hO9, hN9⟩
  ·have HB : Hid (lineS (Hd.mk A1 n1 c1 A2 n2 c2 A3 n3 c3 A4 n4 c4 sys xs sp ds).st (cBrief :: ws) = ((Hd.mk A1 n1 c1 A2 n2 c2 A3 n3 c3 A4 n4 c4 sys xs sp ds).st, sayNo)) := uH (by rw [HL2.out, ho]; rfl); clear ho HA9 HL2; go_wp2; go_ret; exact RunAns.said HK.out b2 HB.out
  ·have HB : Hid (lineS (Hd.mk A1 n1 c1 A2 n2 c2 A3 n3 c3 A4 n4 c4 sys xs sp ds).st (cBrief :: ws) = ({ (Hd.mk A1 n1 c1 A2 n2 c2 A3 n3 c3 A4 n4 c4 sys xs sp ds).st with brs := ys.map Br.dat }, sayOk)) := uH (by rw [HL2.out, ho]; rfl); have HO : Hid (BrOwn w2 w.heap.size (.slice A9 n9 c9) ys) := uH hO9; have HN := uH hn9; have HNw : Hid (BrNew w.heap.size ys) := uH hN9; clear ho HA9 HL2 hO9 hn9 hN9; go_wp2; go_ret; exact RunAns.brs HK.out b2 HO.out HNw.out HN.out HB.out
 ·have HB := uH (bad_brief (s := (Hd.mk A1 n1 c1 A2 n2 c2 A3 n3 c3 A4 n4 c4 sys xs sp ds).st) (ws := ws) (by rw [hw.1]; exact h0)); have z1 : ¬ (2 : Int) ≤ (n : Int) := (by omega); have z2 : decide ((2 : Int) ≤ (n : Int)) = false := decide_eq_false z1; have HK := uH K; clear ok HS hw K h0; go_enter Tryz.func99, Tryz.ntmps99
  (go_wp2_with fail); refine (demandNo _).mono ?_; rintro e w1 ⟨rfl, rfl⟩; exact ⟨rfl, RunAns.bad HK.out HB.out⟩
set_option maxHeartbeats 1600000 in
theorem implRunFile (A1 A2 A3 A4 : Option Addr) (n1 c1 n2 c2 n3 c3 n4 c4 : Nat) (sys : List Sg) (xs : List Br) (sp : List Wd) (ds : List Drawer) (o : Nat) (A : Option Addr) (n c : Nat) (ws : List Wd) (w : World) (ok : (Hd.mk A1 n1 c1 A2 n2 c2 A3 n3 c3 A4 n4 c4 sys xs sp ds).st.ok) (K : Blk w o 76 #[.slice A1 n1 c1, .slice A2 n2 c2, .slice A3 n3 c3, .slice A4 n4 c4]) (HS : StIn w (Hd.mk A1 n1 c1 A2 n2 c2 A3 n3 c3 A4 n4 c4 sys xs sp ds)) (hWl : ∀ l ∈ ws, l.length ≤ 600) (hw : WdsIn w w.heap.size A n c ws) :
  Calls Tryz.prog 105 #[.pointer (some ⟨o, 0, none⟩), .slice A n c] w fun e w' => RunAns w w' o (Hd.mk A1 n1 c1 A2 n2 c2 A3 n3 c3 A4 n4 c4 sys xs sp ds) A n c ws (cFile :: ws) e := by
 by_cases h0 : n = 2
 ·subst h0; have HL := uH (line_file (s := (Hd.mk A1 n1 c1 A2 n2 c2 A3 n3 c3 A4 n4 c4 sys xs sp ds).st) hw.1); obtain ⟨b, off, rfl, hbB, e0⟩ := hw.at_ (k := 0) (by omega); obtain ⟨_, _, ea, _, e1⟩ := hw.at_ (k := 1) (by omega); injection ea with ea; injection ea with ea1 ea2; subst ea1 ea2; have e0' : w.cell? ⟨b, off, none⟩ = some (.string (mkStr (wdAt ws 0))) := (by simpa using e0); have e1' : w.cell? ⟨b, off + 1, none⟩ = some (.string (mkStr (wdAt ws 1))) := (by simpa using e1); have ht0 : (wdAt ws 0).length ≤ 600 := hWl _ (wdAt_mem (ws := ws) (k := 0) (by rw [hw.1]; omega)); have ht1 : (wdAt ws 1).length ≤ 600 := hWl _ (wdAt_mem (ws := ws) (k := 1) (by rw [hw.1]; omega)); have hnb := numOf_bd (wdAt ws 0); have HNum : Hid (∀ V, Calls Tryz.prog 167 #[.string (mkStr (wdAt ws 0))] V fun e w' => e = .returned (.int .i64 (numOf (wdAt ws 0))) ∧ V = w') := uH (fun V => by
   have := implNumberOf (mkStr (wdAt ws 0)) V (by rw [mkStr_size]; unfold maxLen; omega); rw [mkStr_data] at this; exact this)
  have HA : Hid (∀ V, Below w.heap.size w V → Calls Tryz.prog 166 #[.slice A4 n4 c4, .agg #[.int .i64 (numOf (wdAt ws 0)), .string (mkStr (wdAt ws 1))]] V fun e w' => FileAns w' V.heap.size (fileO (ds.map (·.ps)) ⟨numOf (wdAt ws 0), mkStr (wdAt ws 1)⟩) e ∧ Below V.heap.size V w') := uH (fun V hV => implCabinetFile A4 n4 c4 ds ⟨numOf (wdAt ws 0), mkStr (wdAt ws 1)⟩ V (by have := (stSz ok).sz; simp only at this; omega) ⟨num_wf hnb, by show (mkStr (wdAt ws 1)).size ≤ maxLen; rw [mkStr_size]; unfold maxLen; omega⟩ (HS.keep hV).dr); have HK := uH K; obtain ⟨k0, k1, k2, k3, f0, f1, f2, f3⟩ := officeCells K; have HL2 : Hid (lineS (Hd.mk A1 n1 c1 A2 n2 c2 A3 n3 c3 A4 n4 c4 sys xs sp ds).st (cFile :: ws) = up (Hd.mk A1 n1 c1 A2 n2 c2 A3 n3 c3 A4 n4 c4 sys xs sp ds).st (fileO (ds.map (·.ps)) ⟨numOf (wdAt ws 0), mkStr (wdAt ws 1)⟩) fun x => { (Hd.mk A1 n1 c1 A2 n2 c2 A3 n3 c3 A4 n4 c4 sys xs sp ds).st with cab := x }) := HL; clear e0 e1 ok HS hw hWl K HL ht0 ht1 hnb; generalize numOf (wdAt ws 0) = q at *; generalize wdAt ws 0 = u0 at *; generalize wdAt ws 1 = u1 at *; go_enter Tryz.func105, Tryz.ntmps105
  (go_wp2_with fail); refine (demandYes _).mono ?_; rintro e w1 ⟨rfl, rfl⟩; (go_wp2_with fail); go_region_held3 (fun w' => w'.cell? ⟨o, 3, none⟩ = some (.slice A4 n4 c4) ∧ w'.cell? ⟨b, off, none⟩ = some (.string (mkStr u0)) ∧ w'.cell? ⟨b, off + 1, none⟩ = some (.string (mkStr u1))) (first | exact ⟨by assumption, by assumption, by assumption⟩ | go_keep) (first
   | (go_at_call 167; refine (HNum.out _).mono ?_; rintro e w0 ⟨rfl, rfl⟩)
   | (go_at_call 166; refine (HA.out _ (Below.refl _ _).drew).mono ?_; rintro e w2 ⟨hA2, hb2⟩; obtain ⟨A9, n9, c9, t9, rfl, HA9⟩ := hA2.one; have x0 := kcell hb2 (show World.cell? (World.drew _) _ = _ from k3); have x1 := kcell hb2 (show World.cell? (World.drew _) _ = _ from e0'); have x2 := kcell hb2 (show World.cell? (World.drew _) _ = _ from e1')))
  have b2 : Below w.heap.size w w2 := ((Below.refl _ _).drew).trans hb2; have K2 := HK.out.below b2; obtain ⟨r0, r1, r2, r3, g0, g1, g2, g3⟩ := officeCells K2; clear HA hb2 HNum; rcases HA9.out with ⟨rfl, ho⟩ | ⟨rfl, ys, ho, hn9, hO9⟩
  ·have HB : Hid (lineS (Hd.mk A1 n1 c1 A2 n2 c2 A3 n3 c3 A4 n4 c4 sys xs sp ds).st (cFile :: ws) = ((Hd.mk A1 n1 c1 A2 n2 c2 A3 n3 c3 A4 n4 c4 sys xs sp ds).st, sayNo)) := uH (by rw [HL2.out, ho]; rfl); clear ho HA9 HL2; go_wp2; go_ret; exact RunAns.said HK.out b2 HB.out
  ·have HB : Hid (lineS (Hd.mk A1 n1 c1 A2 n2 c2 A3 n3 c3 A4 n4 c4 sys xs sp ds).st (cFile :: ws) = ({ (Hd.mk A1 n1 c1 A2 n2 c2 A3 n3 c3 A4 n4 c4 sys xs sp ds).st with cab := ys.map (·.ps) }, sayOk)) := uH (by rw [HL2.out, ho]; rfl); have HO : Hid (CabOwn w2 w.heap.size (.slice A9 n9 c9) ys) := uH hO9; have HN := uH hn9; clear ho HA9 HL2 hO9 hn9; go_wp2; go_ret; exact RunAns.cab HK.out b2 HO.out HN.out HB.out
 ·have HB := uH (bad_file (s := (Hd.mk A1 n1 c1 A2 n2 c2 A3 n3 c3 A4 n4 c4 sys xs sp ds).st) (ws := ws) (by rw [hw.1]; exact h0)); have z1 : ¬ (n : Int) = 2 := (by omega); have z2 : ((n : Int) == 2) = false := beq_eq_false_iff_ne.2 z1; have HK := uH K; clear ok HS hw K h0; go_enter Tryz.func105, Tryz.ntmps105
  (go_wp2_with fail); refine (demandNo _).mono ?_; rintro e w1 ⟨rfl, rfl⟩; exact ⟨rfl, RunAns.bad HK.out HB.out⟩
set_option maxHeartbeats 1600000 in
theorem implRunClear (A1 A2 A3 A4 : Option Addr) (n1 c1 n2 c2 n3 c3 n4 c4 : Nat) (sys : List Sg) (xs : List Br) (sp : List Wd) (ds : List Drawer) (o : Nat) (A : Option Addr) (n c : Nat) (ws : List Wd) (w : World) (ok : (Hd.mk A1 n1 c1 A2 n2 c2 A3 n3 c3 A4 n4 c4 sys xs sp ds).st.ok) (K : Blk w o 76 #[.slice A1 n1 c1, .slice A2 n2 c2, .slice A3 n3 c3, .slice A4 n4 c4]) (HS : StIn w (Hd.mk A1 n1 c1 A2 n2 c2 A3 n3 c3 A4 n4 c4 sys xs sp ds)) (hWl : ∀ l ∈ ws, l.length ≤ 600) (hw : WdsIn w w.heap.size A n c ws) :
  Calls Tryz.prog 106 #[.pointer (some ⟨o, 0, none⟩), .slice A n c] w fun e w' => RunAns w w' o (Hd.mk A1 n1 c1 A2 n2 c2 A3 n3 c3 A4 n4 c4 sys xs sp ds) A n c ws (cClear :: ws) e := by
 by_cases h0 : n = 1
 ·subst h0; have HL := uH (line_clear (s := (Hd.mk A1 n1 c1 A2 n2 c2 A3 n3 c3 A4 n4 c4 sys xs sp ds).st) hw.1); obtain ⟨b, off, rfl, hbB, e0⟩ := hw.at_ (k := 0) (by omega); have e0' : w.cell? ⟨b, off, none⟩ = some (.string (mkStr (wdAt ws 0))) := (by simpa using e0); have ht0 : (wdAt ws 0).length ≤ 600 := hWl _ (wdAt_mem (ws := ws) (k := 0) (by rw [hw.1]; omega)); have HNum : Hid (∀ V, Calls Tryz.prog 167 #[.string (mkStr (wdAt ws 0))] V fun e w' => e = .returned (.int .i64 (numOf (wdAt ws 0))) ∧ V = w') := uH (fun V => by
   have := implNumberOf (mkStr (wdAt ws 0)) V (by rw [mkStr_size]; unfold maxLen; omega); rw [mkStr_data] at this; exact this)
  have HA : Hid (Calls Tryz.prog 168 #[.slice A4 n4 c4, .int .i64 (numOf (wdAt ws 0))] w fun e w' => FileAns w' w.heap.size (thinO (fromDay (numOf (wdAt ws 0))) (ds.map (·.ps))) e ∧ Below w.heap.size w w') := uH (implCabinetClear A4 n4 c4 ds (numOf (wdAt ws 0)) w (by have := (stSz ok).sz; simp only at this; omega) HS.dr); have HK := uH K; obtain ⟨k0, k1, k2, k3, f0, f1, f2, f3⟩ := officeCells K; have HL2 : Hid (lineS (Hd.mk A1 n1 c1 A2 n2 c2 A3 n3 c3 A4 n4 c4 sys xs sp ds).st (cClear :: ws) = up (Hd.mk A1 n1 c1 A2 n2 c2 A3 n3 c3 A4 n4 c4 sys xs sp ds).st (clearO (ds.map (·.ps)) (numOf (wdAt ws 0))) fun x => { (Hd.mk A1 n1 c1 A2 n2 c2 A3 n3 c3 A4 n4 c4 sys xs sp ds).st with cab := x }) := HL; clear e0 ok HS hw hWl K HL ht0; generalize numOf (wdAt ws 0) = q at *; generalize wdAt ws 0 = u0 at *; go_enter Tryz.func106, Tryz.ntmps106
  (go_wp2_with fail); refine (demandYes _).mono ?_; rintro e w1 ⟨rfl, rfl⟩; (go_wp2_with fail); refine (HNum.out _).mono ?_; rintro e w1 ⟨rfl, rfl⟩; by_cases hq : q ≤ 9999
  ·have i1 : ¬ q > 9999 := (by omega); have i2 : decide (q > 9999) = false := decide_eq_false i1; have i3 : ¬ 9999 < q := (by omega); have i4 : decide (9999 < q) = false := decide_eq_false i3; have HCl : Hid (clearO (ds.map (·.ps)) q = thinO (fromDay q) (ds.map (·.ps))) := uH (by unfold clearO; rw [if_pos hq]); clear hq; (go_wp2_with fail); refine HA.out.mono ?_; rintro e w2 ⟨hA2, b2⟩; obtain ⟨A9, n9, c9, t9, rfl, HA9⟩ := hA2.one; have K2 := HK.out.below b2; obtain ⟨r0, r1, r2, r3, g0, g1, g2, g3⟩ := officeCells K2; clear HA HNum hA2; rcases HA9.out with ⟨rfl, ho⟩ | ⟨rfl, ys, ho, hn9, hO9⟩
   ·have HB : Hid (lineS (Hd.mk A1 n1 c1 A2 n2 c2 A3 n3 c3 A4 n4 c4 sys xs sp ds).st (cClear :: ws) = ((Hd.mk A1 n1 c1 A2 n2 c2 A3 n3 c3 A4 n4 c4 sys xs sp ds).st, sayNo)) := uH (by rw [HL2.out, HCl.out, ho]; rfl); clear ho HA9 HL2 HCl; go_wp2; go_ret; exact RunAns.said HK.out b2 HB.out
   ·have HB : Hid (lineS (Hd.mk A1 n1 c1 A2 n2 c2 A3 n3 c3 A4 n4 c4 sys xs sp ds).st (cClear :: ws) = ({ (Hd.mk A1 n1 c1 A2 n2 c2 A3 n3 c3 A4 n4 c4 sys xs sp ds).st with cab := ys.map (·.ps) }, sayOk)) := uH (by rw [HL2.out, HCl.out, ho]; rfl); have HO : Hid (CabOwn w2 w.heap.size (.slice A9 n9 c9) ys) := uH hO9; have HN := uH hn9; clear ho HA9 HL2 hO9 hn9 HCl; go_wp2; go_ret; exact RunAns.cab HK.out b2 HO.out HN.out HB.out
  ·have i1 : q > 9999 := (by omega); have i2 : decide (q > 9999) = true := decide_eq_true i1; have HB : Hid (lineS (Hd.mk A1 n1 c1 A2 n2 c2 A3 n3 c3 A4 n4 c4 sys xs sp ds).st (cClear :: ws) = ((Hd.mk A1 n1 c1 A2 n2 c2 A3 n3 c3 A4 n4 c4 sys xs sp ds).st, sayNo)) := uH (by rw [HL2.out]; unfold clearO; rw [if_neg hq]; rfl); clear hq HL2 HA HNum; go_wp2; go_ret; exact RunAns.said HK.out (Below.refl _ _) HB.out
 ·have HB := uH (bad_clear (s := (Hd.mk A1 n1 c1 A2 n2 c2 A3 n3 c3 A4 n4 c4 sys xs sp ds).st) (ws := ws) (by rw [hw.1]; exact h0)); have z1 : ¬ (n : Int) = 1 := (by omega); have z2 : ((n : Int) == 1) = false := beq_eq_false_iff_ne.2 z1; have HK := uH K; clear ok HS hw K h0; go_enter Tryz.func106, Tryz.ntmps106
  (go_wp2_with fail); refine (demandNo _).mono ?_; rintro e w1 ⟨rfl, rfl⟩; exact ⟨rfl, RunAns.bad HK.out HB.out⟩
end Go.Proofs.YtbkhnljaajajiaaGreatDoor
namespace Go.Proofs.YtbkhnljaajajiaaGreatDoor
open Go.ChangeShapes Go.WideShapes Go.ChangeAt Go.RowKit Go.Maps
def cmdV (l : Wd) : Value := .string (mkStr l)
def funV (f : Nat) : Value := .func (.func f) #[] #[]
def cmds (l : List (Wd × Nat)) : List (Value × Value) := l.map fun x => (cmdV x.1, funV x.2)
def tabL : List (Wd × Nat) := [(cSign, 98), (cBrief, 99), (cSpeech, 100), (cWrite, 101), (cCopy, 102), (cLetters, 103), (cProof, 104), (cFile, 105), (cClear, 106), (cCabinet, 107)]
theorem lawStr : Keyed Tryz.prog 9 := string_keyed Tryz.underlying9
theorem cmdV_inj {a b : Wd} (h : cmdV a = cmdV b) : a = b := by
 unfold cmdV at h; injection h with h; have := congrArg (fun s : ByteArray => s.data.toList) h; simpa [mkStr_data] using this
theorem keyCmd {l : Wd} (h : l.length ≤ maxLen) : ∃ li, keyOf Tryz.prog 9 (cmdV l) = some li := ⟨_, WideMaps.keyOf_string_mk Tryz.underlying9 (by rw [mkStr_size]; exact h)⟩
theorem keysCmd {l : List (Wd × Nat)} (h : ∀ y ∈ l, y.1.length ≤ maxLen) : ∀ x ∈ cmds l, ∃ li, keyOf Tryz.prog 9 x.1 = some li := by
 intro x hx; obtain ⟨y, hy, rfl⟩ := List.mem_map.1 hx; exact keyCmd (h y hy)
theorem tabKeys : ∀ y ∈ tabL, y.1.length ≤ maxLen := fun y hy => by
 have : ∀ y ∈ tabL, y.1.length ≤ 20 := (by decide); have := this y hy; unfold maxLen; omega
theorem zeroCmd (w : World) : (zeroValue 157).run Tryz.prog w = .ok .nilFunc w := by kernel_rfl
theorem put_cmd {V : World} {T : Nat} {l : List (Wd × Nat)} (h : MapHas V T (cmds l)) (u : Wd) (f : Nat) (hu : u.length ≤ maxLen) (hl : ∀ y ∈ l, y.1.length ≤ maxLen) (hno : ∀ y ∈ l, y.1 ≠ u) :
  ∃ w', (Instr.mapUpdate 77 (.map (some T)) (.string (mkStr u)) (.func (.func f) #[] #[])).run Tryz.prog V = .ok () w' ∧ MapHas w' T (cmds (l ++ [(u, f)])) ∧ V.grownBy w' (some T) := by
 obtain ⟨li, hli⟩ := keyCmd hu; obtain ⟨w', h1, h2, h3⟩ := MapHas.put_new (t := 77) (v := funV f) lawStr Tryz.underlying77 h (keysCmd hl) hli (fun x hx e => by
  obtain ⟨y, hy, rfl⟩ := List.mem_map.1 hx; exact hno y hy (cmdV_inj e))
 refine ⟨w', h1, ?_, h3⟩; unfold cmds at h2 ⊢; rw [List.map_append]; exact h2
theorem lookup_mem {u : Wd} {f : Nat} : ∀ {l : List (Wd × Nat)}, l.lookup u = some f → (u, f) ∈ l
 | [], h => by cases h
 | (a, b) :: r, h => by
  rw [List.lookup_cons] at h; by_cases e : u = a
  ·subst e; simp at h; subst h; simp
  ·have : (u == a) = false := beq_eq_false_iff_ne.2 e; rw [this] at h; exact List.mem_cons_of_mem _ (lookup_mem h)
theorem tab_one : ∀ y ∈ tabL, tabL.lookup y.1 = some y.2 := by decide
theorem look_cmd {V : World} {T : Nat} {u : Wd} {f : Nat} (h : MapHas V T (cmds tabL)) (hu : u.length ≤ maxLen) (hf : tabL.lookup u = some f) :
  (Instr.lookup 77 (.map (some T)) (.string (mkStr u)) true).run Tryz.prog V = .ok (.tuple #[.func (.func f) #[] #[], .bool true]) V := by
 obtain ⟨li, hli⟩ := keyCmd hu; exact MapHas.look_yes (t := 77) (v := funV f) lawStr Tryz.underlying77 h (keysCmd tabKeys) hli ⟨(cmdV u, funV f), List.mem_map.2 ⟨(u, f), lookup_mem hf, rfl⟩, rfl⟩ (fun x hx e => by
  obtain ⟨y, hy, rfl⟩ := List.mem_map.1 hx; have h1 := cmdV_inj e; have h2 := tab_one y hy; rw [h1, hf] at h2; injection h2 with h2
  show funV y.2 = funV f
  rw [h2])
theorem look_none {V : World} {T : Nat} {u : Wd} (h : MapHas V T (cmds tabL)) (hu : u.length ≤ maxLen) (hf : tabL.lookup u = none) :
  (Instr.lookup 77 (.map (some T)) (.string (mkStr u)) true).run Tryz.prog V = .ok (.tuple #[.nilFunc, .bool false]) V := by
 obtain ⟨li, hli⟩ := keyCmd hu; exact MapHas.look_no (t := 77) lawStr Tryz.underlying77 zeroCmd h (keysCmd tabKeys) hli (fun x hx e => by
  obtain ⟨y, hy, rfl⟩ := List.mem_map.1 hx; have h1 := cmdV_inj e; have h2 := tab_one y hy; rw [h1, hf] at h2; cases h2)
set_option maxHeartbeats 1600000 in
theorem commandTable (w : World) : Calls Tryz.prog 46 #[] w fun e w' => e = .returned (.map (some w.heap.size)) ∧ MapHas w' w.heap.size (cmds tabL) ∧ Below w.heap.size w w' := by
 have hmk : ∀ V : World, (Instr.makeMap 77 none).run Tryz.prog V = .ok (.map (some V.heap.size)) (V.alloc (.map #[] 0)) := (fun V => by kernel_rfl); have h0 : MapHas (w.alloc (.map #[] 0)) w.heap.size (cmds []) := MapHas.made w; have d : ∀ l : Wd, l.length ≤ 20 → l.length ≤ maxLen := (fun l h => by unfold maxLen; omega); have ds : ∀ l : List (Wd × Nat), (∀ y ∈ l, y.1.length ≤ 20) → ∀ y ∈ l, y.1.length ≤ maxLen := fun l h y hy => d _ (h y hy); obtain ⟨w1, r1, m1, g1⟩ := put_cmd h0 cSign 98 (d _ (by decide)) (ds _ (by decide)) (by decide); obtain ⟨w2, r2, m2, g2⟩ := put_cmd m1 cBrief 99 (d _ (by decide)) (ds _ (by decide)) (by decide); obtain ⟨w3, r3, m3, g3⟩ := put_cmd m2 cSpeech 100 (d _ (by decide)) (ds _ (by decide)) (by decide); obtain ⟨w4, r4, m4, g4⟩ := put_cmd m3 cWrite 101 (d _ (by decide)) (ds _ (by decide)) (by decide); obtain ⟨w5, r5, m5, g5⟩ := put_cmd m4 cCopy 102 (d _ (by decide)) (ds _ (by decide)) (by decide); obtain ⟨w6, r6, m6, g6⟩ := put_cmd m5 cLetters 103 (d _ (by decide)) (ds _ (by decide)) (by decide); obtain ⟨w7, r7, m7, g7⟩ := put_cmd m6 cProof 104 (d _ (by decide)) (ds _ (by decide)) (by decide); obtain ⟨w8, r8, m8, g8⟩ := put_cmd m7 cFile 105 (d _ (by decide)) (ds _ (by decide)) (by decide); obtain ⟨w9, r9, m9, g9⟩ := put_cmd m8 cClear 106 (d _ (by decide)) (ds _ (by decide)) (by decide); obtain ⟨w10, r10, m10, g10⟩ := put_cmd m9 cCabinet 107 (d _ (by decide)) (ds _ (by decide)) (by decide); have HM : Hid (MapHas w10 w.heap.size (cmds tabL)) := uH m10; have hg := only_next (only_next (only_next (only_next (only_next (only_next (only_next (only_next (only_next g1 g2) g3) g4) g5) g6) g7) g8) g9) g10; have HB : Hid (Below w.heap.size w w10) := uH (((Below.refl w.heap.size w).alloc (Nat.le_refl _) _).grown hg (by simp) (fun q hq => by injection hq with hq; omega)); have e1 : mkStr cSign = { data := #[115, 105, 103, 110] } := rfl; have e2 : mkStr cBrief = { data := #[98, 114, 105, 101, 102] } := rfl; have e3 : mkStr cSpeech = { data := #[115, 112, 101, 101, 99, 104] } := rfl; have e4 : mkStr cWrite = { data := #[119, 114, 105, 116, 101] } := rfl; have e5 : mkStr cCopy = { data := #[99, 111, 112, 121] } := rfl; have e6 : mkStr cLetters = { data := #[108, 101, 116, 116, 101, 114, 115] } := rfl; have e7 : mkStr cProof = { data := #[112, 114, 111, 111, 102] } := rfl; have e8 : mkStr cFile = { data := #[102, 105, 108, 101] } := rfl; have e9 : mkStr cClear = { data := #[99, 108, 101, 97, 114] } := rfl; have e10 : mkStr cCabinet = { data := #[99, 97, 98, 105, 110, 101, 116] } := rfl; rw [e1] at r1; rw [e2] at r2; rw [e3] at r3; rw [e4] at r4; rw [e5] at r5; rw [e6] at r6; rw [e7] at r7; rw [e8] at r8; rw [e9] at r9; rw [e10] at r10; clear h0 m1 m2 m3 m4 m5 m6 m7 m8 m9 m10 g1 g2 g3 g4 g5 g6 g7 g8 g9 g10 hg d ds e1 e2 e3 e4 e5 e6 e7 e8 e9 e10; go_enter Tryz.func46, Tryz.ntmps46
 go_wp2; go_ret; exact ⟨rfl, HM.out, HB.out⟩
end Go.Proofs.YtbkhnljaajajiaaGreatDoor
namespace Go.Proofs.YtbkhnljaajajiaaGreatDoor
open Go.ChangeShapes Go.WideShapes Go.ChangeAt Go.RowKit
theorem splitK_cut (c : UInt8) : ∀ l : List UInt8, ∃ (f : List UInt8) (r : List (List UInt8)), Lib.splitK [c] 0 (l.count c) l = f :: r ∧ ∀ cur, cutQ c cur l = (cur ++ f) :: r
 | [] => ⟨[], [], rfl, fun cur => by simp [cutQ]⟩
 | x :: l => by
  obtain ⟨f, r, h1, h2⟩ := splitK_cut c l; by_cases hx : x = c
  ·subst hx; refine ⟨[], Lib.splitK [x] 0 (l.count x) l, ?_, fun cur => ?_⟩
   ·have hi : Lib.index (x :: l) [x] = 0 := (by rw [Lib.index_one]; simp [Lib.indexByte]); rw [List.count_cons_self, Lib.splitK, hi]; simp
   ·rw [cutQ, if_pos rfl, h2 [], h1, List.nil_append, List.append_nil]
  ·have hc : (x :: l).count c = l.count c := (by rw [List.count_cons]; simp [hx]); rw [hc]; refine ⟨x :: f, r, ?_, fun cur => by rw [cutQ, if_neg hx, h2, List.append_assoc]; rfl⟩; cases hk : l.count c with
   | zero =>
    rw [hk, Lib.splitK] at h1; injection h1 with h1 h3; rw [Lib.splitK, h1, h3]
   | succ k =>
    rw [hk] at h1; have hm : c ∈ l := List.count_pos_iff.1 (by omega); have hb : (x == c) = false := beq_eq_false_iff_ne.2 hx; have hn : Lib.indexByte l c ≠ -1 := fun e => by
     obtain ⟨i, hi, he⟩ := List.mem_iff_getElem.1 hm; exact Lib.indexByte_none e i (by rw [List.getElem?_eq_getElem hi, he])
    have hge := Lib.indexByte_ge l c; obtain ⟨i, hi⟩ : ∃ i : Nat, Lib.indexByte l c = i := ⟨(Lib.indexByte l c).toNat, by omega⟩; have hj : Lib.index (x :: l) [c] = ((i + 1 : Nat) : Int) := by
     rw [Lib.index_one]; simp [Lib.indexByte, hx, hi]
     try omega
    have hi2 : Lib.index l [c] = (i : Int) := (by rw [Lib.index_one, hi]); rw [Lib.splitK, hi2] at h1; rw [Lib.splitK, hj]; have e1 : ¬ ((i : Int) == -1) = true := (fun e => by have := beq_iff_eq.1 e; omega); have e2 : ¬ (((i + 1 : Nat) : Int) == -1) = true := (fun e => by have := beq_iff_eq.1 e; omega); rw [if_neg e1] at h1; rw [if_neg e2]; simp only [Int.toNat_natCast, Nat.add_zero, List.length_cons, List.length_nil] at h1 ⊢; injection h1 with h1 h3; rw [← h1, ← h3]; simp only [List.take_succ_cons, List.drop_succ_cons]
theorem splitB_cut (c : UInt8) (s : ByteArray) : (Lib.splitB ⟨#[c]⟩ 0 (Lib.countB s ⟨#[c]⟩) s).map (·.data.toList) = cutB c s.data.toList := by
 have e : Lib.countB s ⟨#[c]⟩ = s.data.toList.count c := Lib.count_one c s.data.toList; rw [Lib.splitB_data, e]; obtain ⟨f, r, h1, h2⟩ := splitK_cut c s.data.toList; have h3 := h2 []; unfold cutB; rw [h3, List.nil_append]; exact h1
theorem splitB_vals (c : UInt8) (s : ByteArray) : (Lib.splitB ⟨#[c]⟩ 0 (Lib.countB s ⟨#[c]⟩) s).map Value.string = (cutB c s.data.toList).map strP := by
 rw [← splitB_cut, List.map_map]; refine List.map_congr_left fun x _ => ?_; simp [strP, mkStr]
set_option maxHeartbeats 400000 in
theorem implSplit (c : UInt8) (s : ByteArray) (w : World) (hs : s.size ≤ 4096) :
  Calls Tryz.prog 47 #[.string s, .string ⟨#[c]⟩] w fun e w' => e = .returned (.slice (some ⟨w.heap.size, 0, none⟩) (cutB c s.data.toList).length (cutB c s.data.toList).length) ∧ w'.ownsRow w.heap.size 9 1 (.slice (some ⟨w.heap.size, 0, none⟩) (cutB c s.data.toList).length (cutB c s.data.toList).length) (cutB c s.data.toList).length ((cutB c s.data.toList).map strP) ∧ Below w.heap.size w w' := by
 have h1 : 1 ≤ (⟨#[c]⟩ : ByteArray).size := Nat.le_refl 1; have hl : (cutB c s.data.toList).length = Lib.countB s ⟨#[c]⟩ + 1 := by
  rw [← splitB_cut, List.length_map, Lib.splitB_all ⟨#[c]⟩ h1 0 _ s rfl]
 have hle := Lib.countB_le ⟨#[c]⟩ h1 s.size s (Nat.le_refl _); have hg := Any.strings_genSplit_core Tryz.lays221 (by kernel_rfl) s ⟨#[c]⟩ 0 (-1) (Lib.countB s ⟨#[c]⟩ + 1) w (by omega) h1 (by omega)
  (fun x cc hx => (Any.strings_Index_one { Tryz.lays221 with } x c _).mono fun e w' h => ⟨by
   rw [h.1]
   show _ = Ending.returned (Value.int .i64 (Lib.index x.data.toList [c]))
   rw [Lib.index_one], h.2⟩)
  ((Any.strings_Count_one { Tryz.lays221 with } s c w).mono fun e w' h => ⟨by
   rw [h.1]
   show _ = Ending.returned (Value.int .i64 ((Lib.count s.data.toList [c] : Nat) : Int))
   rw [Lib.count_one]; rfl, h.2⟩) (by decide) (by decide) (by rw [if_pos (by decide)]; omega)
 rw [Nat.add_sub_cancel] at hg; have hlen := Lib.splitB_all ⟨#[c]⟩ h1 0 _ s rfl; have hcells : Lib.cellsOf (Lib.splitB ⟨#[c]⟩ 0 (Lib.countB s ⟨#[c]⟩) s) (Lib.countB s ⟨#[c]⟩ + 1) = ((cutB c s.data.toList).map strP).toArray := by
  rw [← hlen, Lib.cellsOf_full, splitB_vals]
 rw [hlen, hcells, ← hl] at hg; have hL : (cutB c s.data.toList).length ≤ 4097 := (by omega); have HG := uH hg; clear hg hcells hlen hle hl; generalize cutB c s.data.toList = L at *; go_enter Tryz.func47, Tryz.ntmps47
 go_wp2_with (go_at_call 108; refine HG.out.mono ?_; rintro e w' ⟨rfl, hw⟩; rw [hw])
 go_returns; refine ⟨rfl, ?_, (Below.refl _ _).alloc (Nat.le_refl _) _⟩; have hmx : L.length ≤ maxLen := (by unfold maxLen; omega); refine ⟨by simp, .inr ⟨w.heap.size, L.length, (L.map strP).toArray, rfl, Nat.le_refl _, ?_, Nat.le_refl _, hmx, by simp, by rw [Nat.mul_one]; exact List.take_of_length_le (by simp)⟩⟩; exact Blk.new w 9 (L.map strP).toArray
theorem enterF {f : Nat} {fn : Func} (hf : Tryz.prog.funcs[f]? = some fn) (hn : (fn.name == "runtime.NumGoroutine") = false) (hb : fn.body.isNone = false) (args : Array Value) (w : World) : (callFunc f args).run Tryz.prog w = .ok (.enter f args) w := by
 have h1 : fn.name ≠ "runtime.NumGoroutine" := (by simpa using hn); have h3 : ¬ fn.body = none := (by intro h; simp [h] at hb); simp [callFunc, hf, h1, h3, program, Sem.run]
theorem cmdOf (u : Wd) (h : Hd) (o : Nat) (A : Option Addr) (n c : Nat) (ws : List Wd) (w : World) (ok : h.st.ok) (K : Blk w o 76 (offV h)) (HS : StIn w h) (hWl : ∀ l ∈ ws, l.length ≤ 600) (hw : WdsIn w w.heap.size A n c ws) (h600 : n ≤ 600) (hT : TabP w) :
  (∃ f, tabL.lookup u = some f ∧ (∀ (args : Array Value) (V : World), (callFunc f args).run Tryz.prog V = .ok (.enter f args) V) ∧ Calls Tryz.prog f #[.pointer (some ⟨o, 0, none⟩), .slice A n c] w fun e w' => RunAns w w' o h A n c ws (u :: ws) e) ∨ (tabL.lookup u = none ∧ lineS h.st (u :: ws) = (h.st, sayWhat)) := by
 have hm : ∀ l ∈ ws, l.length ≤ maxLen := (fun l hl => by have := hWl l hl; unfold maxLen; omega); obtain ⟨A1, n1, c1, A2, n2, c2, A3, n3, c3, A4, n4, c4, sys, xs, sp, ds⟩ := h; by_cases g0 : u = cSign
 ·subst g0; exact .inl ⟨_, rfl, enterF Tryz.func98 (by kernel_rfl) (by kernel_rfl), implRunSign A1 A2 A3 A4 n1 c1 n2 c2 n3 c3 n4 c4 sys xs sp ds o A n c ws w ok K HS hWl hw⟩
 by_cases g1 : u = cBrief
 ·subst g1; exact .inl ⟨_, rfl, enterF Tryz.func99 (by kernel_rfl) (by kernel_rfl), implRunBrief A1 A2 A3 A4 n1 c1 n2 c2 n3 c3 n4 c4 sys xs sp ds o A n c ws w ok K HS hWl hw h600⟩
 by_cases g2 : u = cSpeech
 ·subst g2; exact .inl ⟨_, rfl, enterF Tryz.func100 (by kernel_rfl) (by kernel_rfl), implRunSpeech A1 A2 A3 A4 n1 c1 n2 c2 n3 c3 n4 c4 sys xs sp ds o A n c ws w ok K HS hm hw⟩
 by_cases g3 : u = cWrite
 ·subst g3; exact .inl ⟨_, rfl, enterF Tryz.func101 (by kernel_rfl) (by kernel_rfl), implRunWrite A1 A2 A3 A4 n1 c1 n2 c2 n3 c3 n4 c4 sys xs sp ds o A n c ws w ok K HS hw.1⟩
 by_cases g4 : u = cCopy
 ·subst g4; exact .inl ⟨_, rfl, enterF Tryz.func102 (by kernel_rfl) (by kernel_rfl), implRunCopy A1 A2 A3 A4 n1 c1 n2 c2 n3 c3 n4 c4 sys xs sp ds o A n c ws w ok K HS hw.1⟩
 by_cases g5 : u = cLetters
 ·subst g5; exact .inl ⟨_, rfl, enterF Tryz.func103 (by kernel_rfl) (by kernel_rfl), implRunLetters A1 A2 A3 A4 n1 c1 n2 c2 n3 c3 n4 c4 sys xs sp ds o A n c ws w ok K HS hw.1 hT⟩
 by_cases g6 : u = cProof
 ·subst g6; exact .inl ⟨_, rfl, enterF Tryz.func104 (by kernel_rfl) (by kernel_rfl), implRunProof A1 A2 A3 A4 n1 c1 n2 c2 n3 c3 n4 c4 sys xs sp ds o A n c ws w ok K HS hm hw⟩
 by_cases g7 : u = cFile
 ·subst g7; exact .inl ⟨_, rfl, enterF Tryz.func105 (by kernel_rfl) (by kernel_rfl), implRunFile A1 A2 A3 A4 n1 c1 n2 c2 n3 c3 n4 c4 sys xs sp ds o A n c ws w ok K HS hWl hw⟩
 by_cases g8 : u = cClear
 ·subst g8; exact .inl ⟨_, rfl, enterF Tryz.func106 (by kernel_rfl) (by kernel_rfl), implRunClear A1 A2 A3 A4 n1 c1 n2 c2 n3 c3 n4 c4 sys xs sp ds o A n c ws w ok K HS hWl hw⟩
 by_cases g9 : u = cCabinet
 ·subst g9; exact .inl ⟨_, rfl, enterF Tryz.func107 (by kernel_rfl) (by kernel_rfl), implRunCabinet A1 A2 A3 A4 n1 c1 n2 c2 n3 c3 n4 c4 sys xs sp ds o A n c ws w ok K HS hw.1 hT⟩
 ·refine .inr ⟨?_, line_bad (ne_cmd g0) (ne_cmd g1) g2 (ne_cmd g7) (ne_cmd g8) (ne_cmd g3) (ne_cmd g4) (ne_cmd g5) g6 (ne_cmd g9)⟩; have b : ∀ x : Wd, u ≠ x → (u == x) = false := fun x h => beq_eq_false_iff_ne.2 h; unfold tabL; simp only [List.lookup_cons, List.lookup_nil, b _ g0, b _ g1, b _ g2, b _ g3, b _ g4, b _ g5, b _ g6, b _ g7, b _ g8, b _ g9]
set_option maxHeartbeats 1600000 in
theorem catchMal (r : Nat) (x : Value) (w : World) (K : Blk w r 9 #[x]) :
  CallsD Tryz.prog 110 #[.pointer (some ⟨r, 0, none⟩)] (.panicking [{ v := malV, recovered := false }]) w fun e u' w' =>
   e = .returned (.tuple #[]) ∧ u' = .panicking [{ v := malV, recovered := true }] ∧ w' = ((w.setCell ⟨r, 0, none⟩ (.string { data := #[110, 111, 10] })).alloc (.cells #[] 155)).setCell ⟨r, 0, none⟩ (.string { data := #[119, 104, 97, 116, 10] }) := by
 have K2 := (K.set 0 (.string { data := #[110, 111, 10] })).alloc (.cells #[] 155); have hc := K.cell 0; have hz := K.free 0; have hc2 : ((w.setCell ⟨r, 0, none⟩ (.string { data := #[110, 111, 10] })).alloc (.cells #[] 155)).cell? ⟨r, 0, none⟩ = some (.string { data := #[110, 111, 10] }) := K2.cell 0; have hz2 := K2.free 0; have hc1 : w.cell? ⟨r, 0, none⟩ = some x := hc; clear K2 hc K; refine callsD_of_wpS Tryz.func110 rfl fun c₀ cs hu => ?_; apply wpS_seq; apply wpS_region; simp [wpOpsS, go_sem, recoverD, hu, Tryz.ntmps110, Exit.thenS]; refine wpS_of_wp ?_; unfold malV; have hta : ∀ V : World, (Instr.typeAssert (.iface 155 (.agg #[])) 20 155 true).run Tryz.prog V = .ok (.tuple #[.agg #[], .bool true]) V := (fun V => by kernel_rfl); (go_wp2_with fail); simp [bodyPostS, results, Tryz.results110]
theorem catchIdle (p : Addr) (w : World) :
  CallsD Tryz.prog 110 #[.pointer (some p)] .returning w fun e u' w' => e = .returned (.tuple #[]) ∧ u' = .returning ∧ w' = w := by
 refine callsD_of_wpS Tryz.func110 rfl fun c₀ cs hu => ?_; apply wpS_seq; apply wpS_region; simp [wpOpsS, go_sem, recoverD, hu, Tryz.ntmps110, Exit.thenS]; refine wpS_of_wp ?_; go_wp2; cases c₀
 simp_all [bodyPostS, results, Tryz.results110]
def LineI (w w' : World) (o : Nat) (h h' : Hd) : Prop :=
 Blk w' o 76 (offV h') ∧ Off [o] w w' ∧ ∀ S : List Nat, o ∈ S → (∀ b ∈ S, b < w.heap.size) → StIn (blanks S w) h → StIn (blanks S w') h'
theorem wds_split {L : List Wd} (h : 1 ≤ L.length) : wdAt L 0 :: L.drop 1 = L := by
 cases L with
 | nil => simp at h
 | cons x r => rfl
theorem lineI_set {w w1 w2 w3 : World} {o : Nat} {h h' : Hd} {AR : Option Addr} {n c : Nat} {ws : List Wd} (bw : Below w.heap.size w w1) (hr1 : w.heap.size < w1.heap.size) (K3 : Blk w3 o 76 (offV h')) (ho2 : Off [o] w1 w2)
  (hst : StepS w1 w2 o h h' AR n c ws) (HW : ∀ S' : List Nat, (∀ b ∈ S', b < w.heap.size + 1) → WdsIn (blanks S' w1) (blanks S' w1).heap.size AR n c ws)
  (h3 : ∀ S : List Nat, Off S w w2 → Off S w w3) (h4 : ∀ S : List Nat, w.heap.size ∈ S → StIn (blanks S w2) h' → StIn (blanks S w3) h') : LineI w w3 o h h' := by
 refine ⟨K3, h3 _ ((Off.of bw).trans ho2), fun S hS hlt H => ?_⟩; have H1 : StIn (blanks (w.heap.size :: S) w1) h := StIn.more H (Off.of bw) (fun b hb hl => by
  rcases List.mem_cons.1 hb with rfl | hb
  ·omega
  ·exact hb) (fun b hb => List.mem_cons_of_mem _ hb)
 have hlt' : ∀ b ∈ w.heap.size :: S, b < w.heap.size + 1 := fun b hb => by
  rcases List.mem_cons.1 hb with rfl | hb
  ·omega
  ·have := hlt b hb; omega
 have H2 := hst (w.heap.size :: S) (List.mem_cons_of_mem _ hS) (fun b hb => by have := hlt' b hb; omega) H1 (HW _ hlt'); exact (h4 _ List.mem_cons_self H2).fewer (fun b hb => List.mem_cons_of_mem _ hb)
set_option maxHeartbeats 3200000 in
theorem runLine (h : Hd) (o T : Nat) (s : ByteArray) (w : World) (hs : s.size ≤ 500) (ok : h.st.ok) (K : Blk w o 76 (offV h)) (HS : StIn w h) (hT : MapHas w T (cmds tabL)) (hP : TabP w) :
  Calls Tryz.prog 49 #[.pointer (some ⟨o, 0, none⟩), .string s, .map (some T)] w fun e w' => ∃ h' : Hd, e = .returned (.string (mkStr (lineS h.st (cutB 32 s.data.toList)).2)) ∧ h'.st = (lineS h.st (cutB 32 s.data.toList)).1 ∧ LineI w w' o h h' := by
 have hmf : ∀ (fn : Fn) (first cap : Array Value) (w : World), (Instr.makeFunc fn first cap).run Tryz.prog w = .ok (.func fn first cap) w := fun _ _ _ _ => rfl; have b0 : Below w.heap.size w (w.alloc (.cells #[.string { data := #[] }] 9)) := (Below.refl _ _).alloc (Nat.le_refl _) _; have KR := Blk.new w 9 #[.string { data := #[] }]; have hz : (w.alloc (.cells #[.string { data := #[] }] 9)).heap.size = w.heap.size + 1 := (by simp); have HSp := uH (implSplit 32 s (w.alloc (.cells #[.string { data := #[] }] 9)) (by omega)); have hN1 := cutB_pos 32 s.data.toList; have hN2 := cutB_len 32 s.data.toList; have hNb := cutB_bd 32 s.data.toList; have esz : s.data.toList.length = s.size := (by simp); rw [esz] at hN2 hNb; have HK := uH K; have HSt := uH HS; have HT := uH hT; have HP := uH hP; clear K HS hT hP; generalize cutB 32 s.data.toList = L at *; obtain ⟨W, hW⟩ : ∃ W, W = w.alloc (.cells #[.string { data := #[] }] 9) := ⟨_, rfl⟩; rw [← hW] at b0 KR hz HSp; rw [hz] at HSp
 go_enter_defers Tryz.func49, Tryz.ntmps49
 (go_wp2_with fail); rw [← hW]; refine HSp.out.mono ?_; rintro e w1 ⟨rfl, hO, b1⟩; have bw := b0.trans (b1.mono (by omega)); have KR1 := KR.below (w' := w1) (by rw [hz]; exact b1); have hWd : WdsIn w1 w1.heap.size (some ⟨w.heap.size + 1, 0, none⟩) L.length L.length L := WdOwn.reads hO rfl; obtain ⟨_, _, ea, _, e0⟩ := hWd.at_ (k := 0) (by omega); injection ea with ea; injection ea with ea1 ea2; subst ea1 ea2; have e0' : w1.cell? ⟨w.heap.size + 1, 0, none⟩ = some (.string (mkStr (wdAt L 0))) := (by simpa using e0); have hfr : ∀ V, (Instr.slice 27 (.slice (some ⟨w.heap.size + 1, 0, none⟩) L.length L.length) (some (.int .i64 1)) none none).run Tryz.prog V = .ok (.slice (fromB (some ⟨w.heap.size + 1, 0, none⟩) 1 L.length 1) (L.length - 1) (L.length - 1)) V := fun V => run_fromS elemW sizeW _ L.length L.length 1 hN1 V; have hu : (wdAt L 0).length ≤ maxLen := (by have := hNb _ (wdAt_mem (ws := L) (k := 0) (by omega)); unfold maxLen; omega); have HF := uH (hWd.fromS hN1); have HC := uH (cmdOf (wdAt L 0) h o _ _ _ _ w1 ok (HK.out.below bw) (HSt.out.keep bw) (fun l hl => by have := hNb l (List.mem_of_mem_drop hl); omega) HF.out (by omega) (HP.out.keep bw)); rw [wds_split hN1] at HC; have HOw := uH hO; have HTw := uH (HT.out.keep bw); clear e0 hO HSp hNb; have HWS : Hid (∀ S' : List Nat, (∀ b ∈ S', b < w.heap.size + 1) → WdsIn (blanks S' w1) (blanks S' w1).heap.size (fromB (some ⟨w.heap.size + 1, 0, none⟩) 1 L.length 1) (L.length - 1) (L.length - 1) (L.drop 1)) := uH (fun S' hS' => WdsIn.fromS (WdOwn.reads (ownG_blanks HOw.out hS') rfl) hN1); have hoW := HK.out.lt; have hz1 : w.heap.size + 1 ≤ w1.heap.size := (by have := b1.size; omega); generalize fromB (some (⟨w.heap.size + 1, 0, none⟩ : Addr)) 1 L.length 1 = AR at *; generalize wdAt L 0 = u at *; have i1 : (0 : Int) < (L.length : Int) := (by omega); have i2 : (1 : Int) ≤ (L.length : Int) := (by omega); rcases HC.out with ⟨f, hf, hcf, hcall⟩ | ⟨hf, hl⟩
 ·have hlk := look_cmd HTw.out hu hf; have HCall := uH hcall; clear HC hf hcall HT HTw hu; (go_wp2_with fail); refine (demandYes _).mono ?_; rintro e w' ⟨rfl, rfl⟩; (go_wp2_with fail); refine HCall.out.mono ?_; rintro e w2 ⟨h', K2, ho2, hst2, hend⟩; have KR2 := KR1.off ho2 (by simp; omega); have hro : o ≠ w.heap.size := (by omega); have hLI := uH (fun w3 K3 => lineI_set (o := o) (w3 := w3) (h' := h') bw (by omega) K3 ho2 hst2 HWS.out); clear hlk hcf HCall hst2 ho2; rcases hend with ⟨t, rfl, hl⟩ | ⟨rfl, hl⟩
  ·have r0 := KR2.cell 0; have rf := KR2.free 0; have KR3 := KR2.set 0 (.string (mkStr t)); have r3 : (w2.setCell ⟨w.heap.size, 0, none⟩ (.string (mkStr t))).cell? ⟨w.heap.size, 0, none⟩ = some (.string (mkStr t)) := (by simpa using KR3.cell 0); have HL := uH hl; clear hl; go_wp2; refine leaves_cons (f := 110) (args := #[.pointer (some ⟨w.heap.size, 0, none⟩)]) (by simp) (by simp [go_sem]) ?_; refine (catchIdle ⟨w.heap.size, 0, none⟩ _).mono ?_; rintro e u' w'' ⟨rfl, rfl, rfl⟩; simp only [Leaves, settle]; refine ⟨.string (mkStr t), by simp [results, Tryz.results49, go_sem, r3], h', by rw [HL.out], by rw [HL.out], ?_⟩; exact hLI.out _ (K2.far hro _) (fun S h => h.setNew (Nat.le_refl _) _) (fun S hS H => by rw [blanks_setCell hS]; exact H)
  ·have KR3 := (((KR2.set 0 (.string { data := #[110, 111, 10] })).alloc (.cells #[] 155))).set 0 (.string { data := #[119, 104, 97, 116, 10] }); have r3 : (((w2.setCell ⟨w.heap.size, 0, none⟩ (.string { data := #[110, 111, 10] })).alloc (.cells #[] 155)).setCell ⟨w.heap.size, 0, none⟩ (.string { data := #[119, 104, 97, 116, 10] })).cell? ⟨w.heap.size, 0, none⟩ = some (.string (mkStr sayWhat)) := by
    have := KR3.cell 0; rw [show mkStr sayWhat = { data := #[119, 104, 97, 116, 10] } from rfl]; simpa using this
   have HL := uH hl; clear hl; refine leaves_cons (f := 110) (args := #[.pointer (some ⟨w.heap.size, 0, none⟩)]) (by simp) (by simp [go_sem]) ?_; refine (catchMal w.heap.size _ _ KR2).mono ?_; rintro e u' w'' ⟨rfl, rfl, rfl⟩; simp only [Leaves, settle, List.dropWhile]; refine ⟨.string (mkStr sayWhat), by simp [results, Tryz.results49, go_sem, r3], h', by rw [HL.out], by rw [HL.out], ?_⟩; exact hLI.out _ (((K2.far hro _).alloc _).far hro _) (fun S h => ((h.setNew (Nat.le_refl _) _).allocNew _).setNew (Nat.le_refl _) _) (fun S hS H => by
    rw [blanks_setCell hS]; refine StIn.off (w := w2.setCell ⟨w.heap.size, 0, none⟩ (.string { data := #[110, 111, 10] })) ?_ (Off.allocNew (Off.refl _ _) _); rw [blanks_setCell hS]; exact H)
 ·have hlk := look_none HTw.out hu hf; have HL := uH hl; clear HC hf hl HT HTw hu; (go_wp2_with fail); refine (demandNo _).mono ?_; rintro e w' ⟨rfl, rfl⟩; have KR3 := (((KR1.set 0 (.string { data := #[110, 111, 10] })).alloc (.cells #[] 155))).set 0 (.string { data := #[119, 104, 97, 116, 10] }); have r3 : (((w1.setCell ⟨w.heap.size, 0, none⟩ (.string { data := #[110, 111, 10] })).alloc (.cells #[] 155)).setCell ⟨w.heap.size, 0, none⟩ (.string { data := #[119, 104, 97, 116, 10] })).cell? ⟨w.heap.size, 0, none⟩ = some (.string (mkStr sayWhat)) := by
   have := KR3.cell 0; rw [show mkStr sayWhat = { data := #[119, 104, 97, 116, 10] } from rfl]; simpa using this
  have hro : o ≠ w.heap.size := (by omega); have hLI := uH (fun w3 K3 => lineI_set (o := o) (w2 := w1) (w3 := w3) (h' := h) bw (by omega) K3 (Off.refl _ _) (fun S hS hlt H _ => H) HWS.out); refine leaves_cons (f := 110) (args := #[.pointer (some ⟨w.heap.size, 0, none⟩)]) (by simp) (by simp [go_sem]) ?_; refine (catchMal w.heap.size _ _ KR1).mono ?_; rintro e u' w'' ⟨rfl, rfl, rfl⟩; simp only [Leaves, settle, List.dropWhile]; refine ⟨.string (mkStr sayWhat), by simp [results, Tryz.results49, go_sem, r3], h, by rw [HL.out], by rw [HL.out], ?_⟩; exact hLI.out _ ((((HK.out.below bw).far hro _).alloc _).far hro _) (fun S h => ((h.setNew (Nat.le_refl _) _).allocNew _).setNew (Nat.le_refl _) _) (fun S hS H => by
   rw [blanks_setCell hS]; refine StIn.off (w := w1.setCell ⟨w.heap.size, 0, none⟩ (.string { data := #[110, 111, 10] })) ?_ (Off.allocNew (Off.refl _ _) _); rw [blanks_setCell hS]; exact H)
end Go.Proofs.YtbkhnljaajajiaaGreatDoor
