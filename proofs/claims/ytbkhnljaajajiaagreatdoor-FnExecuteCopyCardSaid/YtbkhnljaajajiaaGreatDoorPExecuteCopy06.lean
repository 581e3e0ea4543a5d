/-
  Contracts and plain laws that the proofs lean on. Conditions: as each says.
-/
import Derived.Test.YtbkhnljaajajiaaGreatDoorPX17
set_option maxRecDepth 100000
set_option linter.unusedSimpArgs false
set_option linter.unusedVariables false
set_option linter.unnecessarySimpa false
namespace Go.Proofs.YtbkhnljaajajiaaGreatDoor
open Go.ChangeShapes Go.WideShapes Go.ChangeAt Go.RowKit
set_option maxHeartbeats 800000 in
theorem sameTexts (A:Option Addr) (n c:Nat) (A':Option Addr) (n' c':Nat) (ss ss':List Wd) (w:World) (h:WdsIn w w.heap.size A n c ss) (h':WdsIn w w.heap.size A' n' c' ss') :
  Calls Tryz.prog 19 #[.slice A n c,.slice A' n' c'] w fun e w'=>e = .returned (.bool (decide (ss=ss')))∧Below w.heap.size w w':=by
 have hm:=h.2.2.1;have hnc:=h.2.1;have hm':=h'.2.2.1;have hnc':=h'.2.1;unfold maxLen at hm hm';have HL:=uH h.1;have HL':=uH h'.1;have H:=uH h;have H':=uH h';clear h h';by_cases hn:n=n'
 ·subst hn;have e0:((n:Int) != (n:Int))=false:=(by simp);go_enter Tryz.func19,Tryz.ntmps19
  go_wp2;go_loopw [5] (fun i wr=>∃ k:Nat,k≤n∧i = .int .i64 k∧Hid (ss.take k=ss'.take k)∧Below w.heap.size w wr) (fun i _=>n - (intOf i).toNat)
  case atStart=>exact ⟨0,Nat.zero_le _,rfl,uH (by simp),Below.refl _ _⟩
  case round =>
   obtain ⟨k,hk,rfl,HK,hb⟩:=hrel;by_cases hlt:k < n
   ·obtain ⟨b,off,rfl,hbB,c0⟩:=(H.out.keep hb).at_ hlt;obtain ⟨b',off',rfl,hbB',a0⟩:=(H'.out.keep hb).at_ hlt;have hl1:k < ss.length:=(by rw [HL.out];exact hlt);have hl2:k < ss'.length:=(by rw [HL'.out];exact hlt);have HY:Hid (wdAt ss k=wdAt ss' k→ss.take (k+1)=ss'.take (k+1)):=uH (fun h=>takeWd_eq hl1 hl2 HK.out h);have HNo:Hid (wdAt ss k≠wdAt ss' k→decide (ss=ss')=false):=uH (fun h=>decide_eq_false (fun e=>h (by rw [e])));have i1:(0:Int)≤(k:Int):=(by omega);have i2:(k:Int) < (n:Int):=(by omega);have r0:=qcell c0;have q0:=qcell a0;have hq1:=beq_str (mkStr (wdAt ss' k)) (wdAt ss k) (wdAt ss' k) rfl;clear hl1 hl2;by_cases hes:wdAt ss k=wdAt ss' k
    ·have HF:=uH (HY.out hes);rw [decide_eq_true hes] at hq1;have hq2:((mkStr (wdAt ss k)).toList != (mkStr (wdAt ss' k)).toList)=false:=(by simp [bne,hq1]);clear hes;generalize mkStr (wdAt ss k)=sA at *;generalize mkStr (wdAt ss' k)=sB at *;(go_wp2_with fail);refine region_qb (by kernel_rfl) (by kernel_rfl) ?_;repeat (first | go_big_quiet_step (fail) | quiet_step (fail))
     refine wpQuiet_nil ?_;intro w5 hb5;have b5:=below_next hb hb5;clear hb5;go_wp2;go_roundw
     case rel=>exact ⟨k+1,by omega,by go_num,HF,b5⟩
     case measure=>simp [intOf];omega
    ·have HF:=uH (HNo.out hes);rw [decide_eq_false hes] at hq1;have hq2:((mkStr (wdAt ss k)).toList != (mkStr (wdAt ss' k)).toList)=true:=(by simp [bne,hq1]);clear hes;generalize mkStr (wdAt ss k)=sA at *;generalize mkStr (wdAt ss' k)=sB at *;(go_wp2_with fail);refine region_qb (by kernel_rfl) (by kernel_rfl) ?_;repeat (first | go_big_quiet_step (fail) | quiet_step (fail))
     refine wpQuiet_nil ?_;intro w5 hb5;have b5:=below_next hb hb5;clear hb5;go_wp2;go_ret;exact ⟨ret_bool (by rw [HF.out]),b5⟩
   ·obtain rfl:k=n:=(by omega);have HF:Hid (decide (ss=ss')=true):=uH (decide_eq_true (by
     have:=HK.out
     rwa [List.take_of_length_le (by rw [HL.out];exact Nat.le_refl _),List.take_of_length_le (by rw [HL'.out];exact Nat.le_refl _)] at this))
    go_wp2;go_ret;exact ⟨ret_bool (by rw [HF.out]),hb⟩
 ·have e0:((n:Int) != (n':Int))=true:=(by simp;omega);have HF:Hid (decide (ss=ss')=false):=uH (decide_eq_false (fun e=>hn (by rw [← HL.out,← HL'.out,e])));clear hn;go_enter Tryz.func19,Tryz.ntmps19
  go_wp2;go_ret;exact ⟨ret_bool (by rw [HF.out]),Below.refl _ _⟩
end Go.Proofs.YtbkhnljaajajiaaGreatDoor
