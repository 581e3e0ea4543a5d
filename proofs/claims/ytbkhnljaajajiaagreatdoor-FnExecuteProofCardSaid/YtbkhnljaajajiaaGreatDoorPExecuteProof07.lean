/-
  Contracts and plain laws that the proofs lean on. Conditions: as each says.
-/
import Derived.Test.YtbkhnljaajajiaaGreatDoorPExecuteProof02
import Derived.Test.YtbkhnljaajajiaaGreatDoorPX17
set_option maxRecDepth 100000
set_option linter.unusedSimpArgs false
set_option linter.unusedVariables false
set_option linter.unnecessarySimpa false
namespace Go.Proofs.YtbkhnljaajajiaaGreatDoor
open Go.ChangeShapes Go.WideShapes Go.ChangeAt Go.RowKit
set_option maxHeartbeats 800000 in
theorem sameTexts (A:Option Addr) (n c:Nat) (A':Option Addr) (n' c':Nat) (ss ss':List Wd) (w:World) (h:WdsIn w w.heap.size A n c ss) (h':WdsIn w w.heap.size A' n' c' ss') :
  Calls Tryz.prog 19 #[.slice A n c,.slice A' n' c'] w fun e w'=>e = .returned (.bool (decide (ss=ss')))∧Below w.heap.size w w':=by
 have hm:=h.2.2.1;have hnc:=h.2.1;have hm':=h'.2.2.1;have hnc':=h'.2.1;unfold maxLen at hm hm';have HL:=uH h.1;have HL':=uH h'.1;have H:=uH h;have H':=uH h';clear h h';by_cases hn:n=n'
 ·subst hn;have e0:((n:Int) != (n:Int))=false:=(by simp);go_enter Tryz.func19,Tryz.ntmps19
  go_wp2;go_loopw [5] (fun i wr=>∃ k:Nat,k≤n∧i = .int .i64 k∧Hid (ss.take k=ss'.take k)∧Below w.heap.size w wr) (fun i _=>n - (intOf i).toNat)
  case atStart=>exact ⟨0,Nat.zero_le _,rfl,uH (by simp),Below.refl _ _⟩
  case round =>
   obtain ⟨k,hk,rfl,HK,hb⟩:=hrel;by_cases hlt:k < n
   ·obtain ⟨b,off,rfl,hbB,c0⟩:=(H.out.keep hb).at_ hlt;obtain ⟨b',off',rfl,hbB',a0⟩:=(H'.out.keep hb).at_ hlt;have hl1:k < ss.length:=(by rw [HL.out];exact hlt);have hl2:k < ss'.length:=(by rw [HL'.out];exact hlt);have HY:Hid (wdAt ss k=wdAt ss' k→ss.take (k+1)=ss'.take (k+1)):=uH (fun h=>takeWd_eq hl1 hl2 HK.out h);have HNo:Hid (wdAt ss k≠wdAt ss' k→decide (ss=ss')=false):=uH (fun h=>decide_eq_false (fun e=>h (by rw [e])));have i1:(0:Int)≤(k:Int):=(by omega);have i2:(k:Int) < (n:Int):=(by omega);have r0:=qcell c0;have q0:=qcell a0;have hq1:=beq_str (mkStr (wdAt ss' k)) (wdAt ss k) (wdAt ss' k) rfl;clear hl1 hl2;by_cases hes:wdAt ss k=wdAt ss' k
    ·have HF:=uH (HY.out hes);rw [decide_eq_true hes] at hq1;have hq2:((mkStr (wdAt ss k)).toList != (mkStr (wdAt ss' k)).toList)=false:=(by simp [bne,hq1]);clear hes;generalize mkStr (wdAt ss k)=sA at *;generalize mkStr (wdAt ss' k)=sB at *;(go_wp2_with fail);refine region_qb (by kernel_rfl) (by kernel_rfl) ?_;repeat (first | go_big_quiet_step (fail) | quiet_step (fail))
     refine wpQuiet_nil ?_;intro w5 hb5;have b5:=below_next hb hb5;clear hb5;go_wp2;go_roundw
     case rel=>exact ⟨k+1,by omega,by go_num,HF,b5⟩
     case measure=>simp [intOf];omega
    ·have HF:=uH (HNo.out hes);rw [decide_eq_false hes] at hq1;have hq2:((mkStr (wdAt ss k)).toList != (mkStr (wdAt ss' k)).toList)=true:=(by simp [bne,hq1]);clear hes;generalize mkStr (wdAt ss k)=sA at *;generalize mkStr (wdAt ss' k)=sB at *;(go_wp2_with fail);refine region_qb (by kernel_rfl) (by kernel_rfl) ?_;repeat (first | go_big_quiet_step (fail) | quiet_step (fail))
     refine wpQuiet_nil ?_;intro w5 hb5;have b5:=below_next hb hb5;clear hb5;go_wp2;go_ret;exact ⟨ret_bool (by rw [HF.out]),b5⟩
   ·obtain rfl:k=n:=(by omega);have HF:Hid (decide (ss=ss')=true):=uH (decide_eq_true (by
     have:=HK.out
     rwa [List.take_of_length_le (by rw [HL.out];exact Nat.le_refl _),List.take_of_length_le (by rw [HL'.out];exact Nat.le_refl _)] at this))
    go_wp2;go_ret;exact ⟨ret_bool (by rw [HF.out]),hb⟩
 ·have e0:((n:Int) != (n':Int))=true:=(by simp;omega);have HF:Hid (decide (ss=ss')=false):=uH (decide_eq_false (fun e=>hn (by rw [← HL.out,← HL'.out,e])));clear hn;go_enter Tryz.func19,Tryz.ntmps19
  go_wp2;go_ret;exact ⟨ret_bool (by rw [HF.out]),Below.refl _ _⟩
theorem takeMk_eq {a b:List Mr} {k:Nat} (ha:k < a.length) (hb:k < b.length) (h:(a.map Mr.dat).take k=(b.map Mr.dat).take k) (h2:(mrAt a k).dat=(mrAt b k).dat):(a.map Mr.dat).take (k+1)=(b.map Mr.dat).take (k+1):=by
 rw [List.take_add_one,List.take_add_one,h,mkAt_some (by rw [List.length_map];exact ha),mkAt_some (by rw [List.length_map];exact hb),mrAt_dat ha,mrAt_dat hb,h2]
set_option maxHeartbeats 1600000 in
theorem sameMarks (A:Option Addr) (n c:Nat) (A':Option Addr) (c':Nat) (xs ys:List Mr) (w:World) (h:MrsIn w w.heap.size A n c xs) (h':MrsIn w w.heap.size A' n c' ys) :
  Calls Tryz.prog 29 #[.slice A n c,.slice A' n c'] w fun e w'=>e = .returned (.bool (decide (xs.map Mr.dat=ys.map Mr.dat)))∧Below w.heap.size w w':=by
 have hm:=h.2.2.1;have hnc:=h.2.1;unfold maxLen at hm;have HL:=uH h.1;have HL':=uH h'.1;have H:=uH h;have H':=uH h';clear h h';have e0:((n:Int) != (n:Int))=false:=(by simp);go_enter Tryz.func29,Tryz.ntmps29
 go_wp2;go_loopw [5] (fun i wr=>∃ k:Nat,k≤n∧i = .int .i64 k∧Hid ((xs.map Mr.dat).take k=(ys.map Mr.dat).take k)∧Below w.heap.size w wr) (fun i _=>n - (intOf i).toNat)
 case atStart=>exact ⟨0,Nat.zero_le _,rfl,uH (by simp),Below.refl _ _⟩
 case round =>
  obtain ⟨k,hk,rfl,HK,hb⟩:=hrel;have i1:(0:Int)≤(k:Int):=(by omega);by_cases hlt:k < n
  ·have i2:(k:Int) < (n:Int):=(by omega);obtain ⟨b,off,rfl,hbB,c0,c1,c2,hx⟩:=(H.out.keep hb).at_ hlt;obtain ⟨b',off',rfl,hbB',d0,d1,d2,hy⟩:=(H'.out.keep hb).at_ hlt;have hl1:k < xs.length:=(by rw [HL.out];exact hlt);have hl2:k < ys.length:=(by rw [HL'.out];exact hlt);have HY:Hid ((mrAt xs k).dat=(mrAt ys k).dat→(xs.map Mr.dat).take (k+1)=(ys.map Mr.dat).take (k+1)):=uH (fun h=>takeMk_eq hl1 hl2 HK.out h);have HNo:Hid ((mrAt xs k).dat≠(mrAt ys k).dat→decide (xs.map Mr.dat=ys.map Mr.dat)=false):=uH (fun h=>decide_eq_false (fun e=>h (by rw [← mrAt_dat hl1,← mrAt_dat hl2,e])));have HS:Hid (∀ W,Below wr.heap.size wr W→Calls Tryz.prog 19 #[.slice (mrAt xs k).A (mrAt xs k).n (mrAt xs k).c,.slice (mrAt ys k).A (mrAt ys k).n (mrAt ys k).c] W fun e w'=>e = .returned (.bool (decide ((mrAt xs k).put=(mrAt ys k).put)))∧Below W.heap.size W w'):=uH (fun W hW=>sameTexts _ _ _ _ _ _ _ _ W (WdsIn.keep hx hW) (WdsIn.keep hy hW));have q0:=qcell c0;have q1:=qcell c1;have q2:=qcell c2;have r0:=qcell d0;have r1:=qcell d1;have r2:=qcell d2;clear hl1 hl2 hx hy HK;have HD:Hid ((mrAt xs k).dat=(mrAt ys k).dat ↔ (mrAt xs k).at_=(mrAt ys k).at_∧(mrAt xs k).cut=(mrAt ys k).cut∧(mrAt xs k).put=(mrAt ys k).put):=uH mr_eq;generalize mrAt xs k=x at *;generalize mrAt ys k=y at *
   go_upto_region 6 with fail
   go_cut [54] (fun c54 wx=>Below wr.heap.size wr wx∧Value.bool (!decide (x.dat=y.dat))=c54)
   case first =>
    clear HY HNo;by_cases h1:x.at_=y.at_
    ·have e1:((x.at_:Int) != (y.at_:Int))=false:=(by rw [h1];simp);by_cases h2:x.cut=y.cut
     ·have e2:((x.cut:Int) != (y.cut:Int))=false:=(by rw [h2];simp);have HF:Hid ((!decide (x.dat=y.dat)) = !decide (x.put=y.put)):=uH (congrArg (!·) (decide_eq_decide.2 ⟨fun h=>(HD.out.1 h).2.2,fun h=>HD.out.2 ⟨h1,h2,h⟩⟩));clear h1 h2;generalize decide (x.put=y.put)=q at *;refine region_qb (by kernel_rfl) (by kernel_rfl) ?_;repeat (first | go_big_quiet_step ((go_at_call 19;exact quietB (HS.out _ (below_regrown _ _ _)))) | quiet_step ((go_at_call 19;exact quietB (HS.out _ (below_regrown _ _ _)))))
      refine wpQuiet_nil ?_;intro w7 hb7;go_wp2
      go_meet
      exact ⟨hb7,congrArg Value.bool HF.out⟩
     ·have e2:((x.cut:Int) != (y.cut:Int))=true:=(by simp;omega);have HF:Hid ((!decide (x.dat=y.dat))=true):=uH (by rw [decide_eq_false (fun h=>h2 (HD.out.1 h).2.1)];rfl);clear h1 h2;refine region_qb (by kernel_rfl) (by kernel_rfl) ?_;repeat (first | go_big_quiet_step (fail) | quiet_step (fail))
      refine wpQuiet_nil ?_;intro w7 hb7;go_wp2
      go_meet
      exact ⟨hb7,congrArg Value.bool HF.out⟩
    ·have e1:((x.at_:Int) != (y.at_:Int))=true:=(by simp;omega);have HF:Hid ((!decide (x.dat=y.dat))=true):=uH (by rw [decide_eq_false (fun h=>h1 (HD.out.1 h).1)];rfl);clear h1;refine region_qb (by kernel_rfl) (by kernel_rfl) ?_;repeat (first | go_big_quiet_step (fail) | quiet_step (fail))
     refine wpQuiet_nil ?_;intro w7 hb7;go_wp2
     go_meet
     exact ⟨hb7,congrArg Value.bool HF.out⟩
   case rest =>
    obtain ⟨hb5,rfl⟩:=hcut;have b5:=below_next hb hb5;by_cases he:x.dat=y.dat
    ·rw [decide_eq_true he];have HF:=uH (HY.out he);clear HY HNo he;go_wp2;go_roundw
     case rel=>exact ⟨k+1,by omega,by go_num,HF,b5⟩
     case measure=>simp [intOf];omega
    ·rw [decide_eq_false he];have HF:=uH (HNo.out he);clear HY HNo he;go_wp2;go_ret;exact ⟨ret_bool HF.out.symm,b5⟩
  ·obtain rfl:k=n:=(by omega);have HF:Hid (decide (xs.map Mr.dat=ys.map Mr.dat)=true):=uH (decide_eq_true (by
    have:=HK.out
    rwa [List.take_of_length_le (by rw [List.length_map,HL.out];exact Nat.le_refl _),List.take_of_length_le (by rw [List.length_map,HL'.out];exact Nat.le_refl _)] at this))
   go_wp2;go_ret;exact ⟨ret_bool HF.out.symm,hb⟩
end Go.Proofs.YtbkhnljaajajiaaGreatDoor
