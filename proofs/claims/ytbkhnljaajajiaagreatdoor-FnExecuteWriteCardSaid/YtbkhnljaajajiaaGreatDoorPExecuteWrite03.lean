/-
  Contracts and plain laws that the proofs lean on. Conditions: as each says.
-/
import Derived.Test.YtbkhnljaajajiaaGreatDoorPExecuteWrite02
set_option maxRecDepth 100000
set_option linter.unusedSimpArgs false
set_option linter.unusedVariables false
set_option linter.unnecessarySimpa false
namespace Go.Proofs.YtbkhnljaajajiaaGreatDoor
def dicB (ws:List (List UInt8)):Bool:=decide (ws.length≤20∧∀ i,i < ws.length→dicGood ws i)
theorem dicB_iff {ws:List (List UInt8)}:dicB ws=true ↔ ws.length≤20∧∀ i,i < ws.length→dicGood ws i:=by unfold dicB;rw [decide_eq_true_iff]
theorem dicB_no {ws:List (List UInt8)} {i:Nat} (hi:i < ws.length) (h : ¬ dicGood ws i):dicB ws=false:=by
 rw [Bool.eq_false_iff];intro h2;exact h ((dicB_iff.1 h2).2 i hi)
theorem dicB_all {ws:List (List UInt8)} (h : ∀ i,i < ws.length→dicGood ws i):dicB ws=decide (ws.length≤20):=by
 unfold dicB;congr 1;exact propext ⟨fun h=>h.1,fun h2=>⟨h2,h⟩⟩
def idxK (xs:List Sg) (ws:List (List UInt8)) (k:Nat):List Nat:=(List.range k).filter fun i=>(wordOut xs (wdAt ws i)).isSome
theorem idxK_succ (xs:List Sg) (ws:List (List UInt8)) (k:Nat):idxK xs ws (k+1)=idxK xs ws k++if (wordOut xs (wdAt ws k)).isSome=true then [k] else []:=by
 unfold idxK;rw [List.range_succ,List.filter_append];congr 1;simp [List.filter_cons]
theorem idxK_lt {xs:List Sg} {ws:List (List UInt8)} {k i:Nat} (h:i∈idxK xs ws k):i < k:=by unfold idxK at h;rw [List.mem_filter,List.mem_range] at h;exact h.1
theorem idxK_len (xs:List Sg) (ws:List (List UInt8)) (k:Nat):(idxK xs ws k).length≤k:=by unfold idxK;exact Nat.le_trans (List.length_filter_le _ _) (by simp)
def idxOf (xs:List Sg) (ws:List (List UInt8)):List Nat:=if sysB xs=true∧dicB ws=true then idxK xs ws ws.length else []
end Go.Proofs.YtbkhnljaajajiaaGreatDoor
namespace Go.Proofs.YtbkhnljaajajiaaGreatDoor
open Go.ChangeShapes Go.WideShapes Go.ChangeAt Go.RowKit





end Go.Proofs.YtbkhnljaajajiaaGreatDoor
namespace Go.Proofs.YtbkhnljaajajiaaGreatDoor
open Go.ChangeShapes Go.WideShapes Go.ChangeAt Go.RowKit
attribute [local go_sem ↓] appZ_eq
end Go.Proofs.YtbkhnljaajajiaaGreatDoor
namespace Go.Proofs.YtbkhnljaajajiaaGreatDoor
open Go.ChangeShapes Go.WideShapes Go.ChangeAt Go.RowKit

def dicK (ws:List (List UInt8)) (k:Nat):Prop:=∀ i,i < k→dicGood ws i
theorem dicK_succ {ws:List (List UInt8)} {k:Nat} (h:dicK ws k) (h2:dicGood ws k):dicK ws (k+1):=fun i hi=>by
 rcases Nat.lt_succ_iff_lt_or_eq.1 hi with h3 | rfl
 ·exact h i h3
 ·exact h2
def dicJ (ws:List (List UInt8)) (k j:Nat):Prop:=∀ i,i < j→wdAt ws i≠wdAt ws k
theorem dicJ_succ {ws:List (List UInt8)} {k j:Nat} (h:dicJ ws k j) (h2:wdAt ws j≠wdAt ws k):dicJ ws k (j+1):=fun i hi=>by
 rcases Nat.lt_succ_iff_lt_or_eq.1 hi with h3 | rfl
 ·exact h i h3
 ·exact h2
set_option maxHeartbeats 800000 in
theorem specDictionaryValid (A:Option Addr) (n c:Nat) (ws:List (List UInt8)) (w:World) (hW : ∀ l∈ws,l.length≤maxLen) (h:WdsIn w w.heap.size A n c ws) :
  Calls Tryz.prog 199 #[.slice A n c] w fun e w'=>e = .returned (.bool (dicB ws))∧Below w.heap.size w w':=by
 have hm:=h.2.2.1;have hnc:=h.2.1;unfold maxLen at hm;have HL:=uH h.1;have H:=uH h;have HS:=uH hW;have HN:Hid (∀ k,k < n→¬ dicGood ws k→dicB ws=false):=uH (fun k hk hn=>dicB_no (by rw [HL.out];exact hk) hn);have HY:Hid (dicK ws n→dicB ws=decide ((n:Int)≤20)):=uH (fun h=>by
  rw [dicB_all (fun i hi=>h i (by rw [HL.out] at hi;exact hi)),HL.out];exact decide_eq_decide.2 (by omega))
 clear h hW;go_enter Tryz.func199,Tryz.ntmps199
 go_wp2;go_loopw [3] (fun i wr=>∃ k:Nat,k≤n∧i = .int .i64 k∧Hid (dicK ws k)∧Below w.heap.size w wr) (fun i _=>n - (intOf i).toNat)
 case atStart=>exact ⟨0,Nat.zero_le _,rfl,uH (fun i hi=>by omega),Below.refl _ _⟩
 case round =>
  obtain ⟨k,hk,rfl,HK,hb⟩:=hrel;obtain ⟨wo,rfl⟩ : ∃ wo:World,wo=wr:=⟨_,rfl⟩;by_cases hlt:k < n
  ·obtain ⟨b,off,rfl,hbB,c0⟩:=(H.out.keep hb).at_ hlt;have HNk:=uH (HN.out k hlt);have hz:=hb.size;have HWv:Hid (∀ W,Calls Tryz.prog 135 #[.string (mkStr (wdAt ws k))] W fun e w'=>e = .returned (.bool (wordB (wdAt ws k)))∧W=w'):=uH (fun W=>by
    have:=specWordValid (mkStr (wdAt ws k)) W (by rw [mkStr_size];exact HS.out _ (wdAt_mem (by rw [HL.out];exact hlt)));rw [mkStr_data] at this;exact this)
   obtain ⟨l,hl⟩ : ∃ l,l=wdAt ws k:=⟨_,rfl⟩;rw [← hl] at c0 HWv;have HX:=uH hl;clear hl;have i1:(0:Int)≤(k:Int):=(by omega);have i2:(k:Int) < (n:Int):=(by omega);cases hw:wordB l with
   | false =>
    have HF:=uH (HNk.out (fun h2=>by have:=h2.1;rw [← HX.out,hw] at this;cases this));(go_wp2_with fail);refine (HWv.out _).mono ?_;rintro e w1 ⟨rfl,rfl⟩;rw [hw];go_wp2;go_ret;exact ⟨ret_bool (by rw [HF.out]),hb⟩
   | true =>
    have HWk:Hid (wordB (wdAt ws k)=true):=uH (by rw [← HX.out];exact hw);(go_wp2_with fail);refine (HWv.out _).mono ?_;rintro e w1 ⟨rfl,rfl⟩;rw [hw];go_wp2;go_loopw [4] (fun i wr2=>∃ j:Nat,j≤k∧i = .int .i64 j∧Hid (dicJ ws k j)∧Below wo.heap.size wo wr2) (fun i _=>k - (intOf i).toNat)
    case atStart=>exact ⟨0,Nat.zero_le _,rfl,uH (fun i hi=>by omega),Below.refl _ _⟩
    case round =>
     obtain ⟨j,hj,rfl,HJ,hb4⟩:=hrel;by_cases hlj:j < k
     ·obtain ⟨b',off',eA,hbB',a0⟩:=(H.out.keep (below_next hb hb4)).at_ (k:=j) (by omega);injection eA with eA;injection eA with eA1 eA2;subst eA1 eA2;have m0:=kcell hb4 c0;have j1:(0:Int)≤(j:Int):=(by omega);have j2:(j:Int) < (n:Int):=(by omega);have r0:=qcell a0;have q0:=qcell m0;have HFj:Hid (wdAt ws j=l→dicB ws=false):=uH (fun h=>HN.out k hlt (fun h2=>h2.2 j hlj (by rw [h,HX.out])));have HJ2:Hid (wdAt ws j≠l→dicJ ws k (j+1)):=uH (fun h1=>dicJ_succ HJ.out (by rw [← HX.out];exact h1));generalize wdAt ws j=lj at *;have hq:=beq_str (mkStr l) lj l rfl;by_cases hel:lj=l
      ·rw [decide_eq_true hel] at hq;have HF:=uH (HFj.out hel);have hel:=uH hel;(go_wp2_with fail);refine region_qb (by kernel_rfl) (by kernel_rfl) ?_;repeat (first | go_big_quiet_step (fail) | quiet_step (fail))
       refine wpQuiet_nil ?_;intro w5 hb5;have b6:=below_next (below_next hb hb4) hb5;go_wp2;go_ret;exact ⟨ret_bool (by rw [HF.out]),b6⟩
      ·rw [decide_eq_false hel] at hq;have HJ3:=uH (HJ2.out hel);have hel:=uH hel;(go_wp2_with fail);refine region_qb (by kernel_rfl) (by kernel_rfl) ?_;repeat (first | go_big_quiet_step (fail) | quiet_step (fail))
       refine wpQuiet_nil ?_;intro w5 hb5;have b5:=below_next hb4 hb5;clear hb5 hb4;go_wp2;go_roundw
       case rel=>exact ⟨j+1,by omega,by go_num,HJ3,b5⟩
       case measure=>simp [intOf];omega
     ·obtain rfl:j=k:=(by omega);have b5:=below_next hb hb4;go_wp2;go_roundw
      case rel=>exact ⟨j+1,by omega,by go_num,uH (dicK_succ HK.out ⟨HWk.out,HJ.out⟩),b5⟩
      case measure=>simp [intOf];omega
  ·obtain rfl:k=n:=(by omega);have HF:=uH (HY.out HK.out);go_wp2;go_ret;exact ⟨ret_bool (by rw [HF.out]),hb⟩
set_option maxHeartbeats 400000 in
theorem l2Both (A:Option Addr) (n c:Nat) (xs:List Sg) (A':Option Addr) (n' c':Nat) (ws:List (List UInt8)) (w:World) (hW : ∀ l∈ws,l.length≤maxLen) (h:SgsIn w w.heap.size A n c xs) (h':WdsIn w w.heap.size A' n' c' ws) :
  Calls Tryz.prog 149 #[.slice A n c,.slice A' n' c'] w fun e w'=>e = .returned (.bool (sysB xs && dicB ws))∧Below w.heap.size w w':=by
 have HV:=uH (specSystemValid A n c xs w h);have HD:=uH (fun W (hb:Below w.heap.size w W)=>specDictionaryValid A' n' c' ws W hW (h'.keep hb));clear h h';cases hs:sysB xs with
 | false =>
  rw [hs] at HV;clear hs;go_enter Tryz.func149,Tryz.ntmps149
  (go_wp2_with fail);refine HV.out.mono ?_;rintro e w1 ⟨rfl,hb1⟩;go_wp2;go_ret;exact ⟨rfl,hb1⟩
 | true =>
  rw [hs] at HV;clear hs;go_enter Tryz.func149,Tryz.ntmps149
  (go_wp2_with fail);refine HV.out.mono ?_;rintro e w1 ⟨rfl,hb1⟩;have HB1:=uH hb1;(go_wp2_with fail);refine (HD.out _ HB1.out).mono ?_;rintro e w2 ⟨rfl,hb2⟩;have b2:=below_next hb1 hb2;go_wp2;go_ret;exact ⟨rfl,b2⟩
end Go.Proofs.YtbkhnljaajajiaaGreatDoor
