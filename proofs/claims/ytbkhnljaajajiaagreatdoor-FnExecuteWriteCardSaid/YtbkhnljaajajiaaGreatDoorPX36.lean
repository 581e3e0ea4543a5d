/-
  Contracts and plain laws that the proofs lean on. Conditions: as each says.
-/
import Derived.Test.YtbkhnljaajajiaaGreatDoorPX32
set_option maxRecDepth 100000
set_option linter.unusedSimpArgs false
set_option linter.unusedVariables false
set_option linter.unnecessarySimpa false
namespace Go.Proofs.YtbkhnljaajajiaaGreatDoor
open Go.ChangeShapes Go.WideShapes Go.ChangeAt Go.RowKit
theorem lawDigit (n:Int) (w:World) (h0:0≤n) (h9:n≤9):Calls Tryz.prog 23 #[.int .i64 n] w fun e w'=>e = .returned (.string (mkStr [UInt8.ofNat (48+n).toNat]))∧Below w.heap.size w w':=by
 have hu:=u8_digit h0 h9;have hC:=convNew w [UInt8.ofNat (48+n).toNat] #[.int .u8 (48+n)] 1 rfl (fun j hj=>by
  have hj2:j < 1:=hj;obtain rfl:j=0:=(by omega);simp only [List.getElem_cons_zero,hu];rfl)
 clear hu;generalize mkStr [UInt8.ofNat (48+n).toNat]=t at *;go_enter Tryz.func23,Tryz.ntmps23
 go_wp2;go_returns;exact ⟨rfl,by go_grown⟩
set_option maxHeartbeats 1600000 in
theorem lawDigits : ∀ (n:Nat) (w:World),n≤9223372036854775807→Calls Tryz.prog 23 #[.int .i64 n] w fun e w'=>e = .returned (.string (mkStr (Lib.decDigits n)))∧Below w.heap.size w w':=by
 intro n;induction n using Nat.strongRecOn with
 | _ n ih =>
  intro w hn;by_cases h9:n < 10
  ·rw [Lib.decDigits_one h9];refine (lawDigit n w (by omega) (by omega)).mono ?_;rintro e w' ⟨rfl,hb⟩;refine ⟨?_,hb⟩;rw [show (48+(n:Int)).toNat=48+n by omega]
  ·have IH:=uH (fun W=>ih (n / 10) (by omega) W (by omega));rw [dec_step h9];have hl:(Lib.decDigits (n / 10)).length≤20:=dec_len (by omega);have hd9:n % 10≤9:=(by omega);have hu:((UInt8.ofNat (48+n % 10)).toNat:Int)=48+((n % 10:Nat):Int):=(by rw [UInt8.toNat_ofNat'];omega);have hq:((n:Int) / 10)=((n / 10:Nat):Int):=(by omega);have hq2:IntKind.i64.wrap ((n / 10:Nat):Int)=((n / 10:Nat):Int):=IntWalk.i64_in _ (by omega);have ht:(n:Int).tmod 10=((n % 10:Nat):Int):=(by rw [Int.tmod_eq_emod_of_nonneg (by omega)];omega);have hw1:IntKind.i64.wrap (48+((n % 10:Nat):Int))=48+((n % 10:Nat):Int):=IntWalk.i64_in _ (by omega);have hw2:IntKind.u8.wrap (48+((n % 10:Nat):Int))=48+((n % 10:Nat):Int):=IntWalk.u8_in _ (by omega);have hadd : ∀ W',(Op.stringOp .add (mkStr (Lib.decDigits (n / 10))) (mkStr [UInt8.ofNat (48+n % 10)])).run Tryz.prog W' = .ok (.string (mkStr (Lib.decDigits (n / 10)++[UInt8.ofNat (48+n % 10)]))) W':=fun W'=>run_add _ _ (by simp;omega) W';have hcv : ∀ (W:World) (b:Nat),W.cell? ⟨b,0,none⟩=some (.int .u8 (48+((n % 10:Nat):Int)))→(convert 22 9 (.slice (some ⟨b,0,none⟩) 1 1)).run Tryz.prog W = .ok (.string (mkStr [UInt8.ofNat (48+n % 10)])) W:=fun W b hc=>convAt W _ b 1 rfl (fun j hj=>by
    have:j=0:=(by simp at hj;omega);subst this;rw [hc,← hu];rfl)
   have hc1 : ∀ W:World,(convert 22 9 (.slice (some ⟨W.heap.size,0,none⟩) 1 1)).run Tryz.prog (W.alloc (.cells #[.int .u8 (48+((n % 10:Nat):Int))] 5)) = .ok (.string (mkStr [UInt8.ofNat (48+n % 10)])) (W.alloc (.cells #[.int .u8 (48+((n % 10:Nat):Int))] 5)):=fun W=>hcv _ _ (newcell W _ _ 0 _ rfl);have hn0:(w.alloc (.cells #[.int .u8 (48+((n % 10:Nat):Int))] 5)).drew.cell? ⟨w.heap.size,0,none⟩=some (.int .u8 (48+((n % 10:Nat):Int))):=newcell w _ _ 0 _ rfl;have hc0:=hcv _ _ hn0;have h10:(10:Int)≤(n:Int):=(by omega);have HCv:=uH hcv;clear ih hu hl hcv h9;generalize mkStr (Lib.decDigits (n / 10))=ta at *;generalize mkStr [UInt8.ofNat (48+n % 10)]=tb at *;generalize mkStr (Lib.decDigits (n / 10)++[UInt8.ofNat (48+n % 10)])=tc at *;generalize n / 10=m at *;generalize n % 10=d at *;go_enter Tryz.func23,Tryz.ntmps23
   (go_wp2_with fail);go_region_with ((go_at_call 23;refine (IH.out _).mono ?_;rintro e w1 ⟨rfl,hb1⟩;(first | (have hc2:=HCv.out w1 w.heap.size (kcell hb1 hn0)) | skip);have bw:Below w.heap.size w w1:=(by first | exact below_next ((Below.refl w.heap.size w).drew) hb1 | exact below_next (((Below.refl _ w).alloc (Nat.le_refl _) _).drew) hb1);clear hb1))
   all_goals (
    go_wp2;go_returns;exact ⟨rfl,by first | exact bw | exact bw.alloc bw.size _⟩)
def endN (m1 m2:Nat):Wd:=[119,111,114,100,115,32]++Lib.decDigits m1++[32,112,97,100,115,32]++Lib.decDigits m2++[10]
theorem endLine (m1 m2:Nat) (w:World) (h1:m1≤1000000) (h2:m2≤1000000):Calls Tryz.prog 25 #[.int .i64 (m1:Int),.int .i64 (m2:Int)] w fun e w'=>e = .returned (.string (mkStr (endN m1 m2)))∧Below w.heap.size w w':=by
 have HD1:=uH (fun V=>lawDigits m1 V (by omega));have HD2:=uH (fun V=>lawDigits m2 V (by omega));have hd1:=decN_len m1 h1;have hd2:=decN_len m2 h2;obtain ⟨x1,x2,x3,x4,a1,a2,a3,a4,e4⟩ : ∃ x1 x2 x3 x4:ByteArray,(∀ W',(Op.stringOp .add { data:=#[119,111,114,100,115,32] } (mkStr (Lib.decDigits m1))).run Tryz.prog W' = .ok (.string x1) W')∧(∀ W',(Op.stringOp .add x1 { data:=#[32,112,97,100,115,32] }).run Tryz.prog W' = .ok (.string x2) W') ∧
   (∀ W',(Op.stringOp .add x2 (mkStr (Lib.decDigits m2))).run Tryz.prog W' = .ok (.string x3) W')∧(∀ W',(Op.stringOp .add x3 { data:=#[10] }).run Tryz.prog W' = .ok (.string x4) W')∧mkStr (endN m1 m2)=x4 :=
  ⟨_,_,_,_,fun W'=>run_add [119,111,114,100,115,32] _ (by simp only [List.length_cons,List.length_nil];omega) W',fun W'=>run_add _ [32,112,97,100,115,32] (by simp only [List.length_append,List.length_cons,List.length_nil];omega) W',fun W'=>run_add _ _ (by simp only [List.length_append,List.length_cons,List.length_nil];omega) W',fun W'=>run_add _ [10] (by simp only [List.length_append,List.length_cons,List.length_nil];omega) W',rfl⟩
 have HE:=uH e4;clear e4 hd1 hd2 h1 h2;generalize mkStr (Lib.decDigits m1)=y1 at *;generalize mkStr (Lib.decDigits m2)=y2 at *;go_enter Tryz.func25,Tryz.ntmps25
 (go_wp2_with fail);refine (HD1.out w).mono ?_;rintro e w1 ⟨rfl,b1⟩;(go_wp2_with fail);refine (HD2.out w1).mono ?_;rintro e w2 ⟨rfl,hb2⟩;have b2:=below_next b1 hb2;go_wp2;go_ret;exact ⟨by rw [HE.out];rfl,b2⟩
end Go.Proofs.YtbkhnljaajajiaaGreatDoor
