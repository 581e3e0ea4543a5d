/-
  Contracts and plain laws that the proofs lean on. Conditions: as each says.
-/
import Derived.Test.YtbkhnljaajajiaaGreatDoorPX04
import Derived.Test.YtbkhnljaajajiaaGreatDoorPX10
import Derived.Deep.DeepCutAuto
import Derived.Deep.Cut
import Derived.Deep.CutRange
import Derived.Deep.RegionLaw
set_option maxRecDepth 100000
set_option linter.unusedSimpArgs false
set_option linter.unusedVariables false
set_option linter.unnecessarySimpa false
namespace Go.Proofs.YtbkhnljaajajiaaGreatDoor
open Go.ChangeShapes Go.WideShapes Go.ChangeAt Go.RowKit
theorem takeWd_eq {a b:List Wd} {k:Nat} (ha:k < a.length) (hb:k < b.length) (h:a.take k=b.take k) (h2:wdAt a k=wdAt b k):a.take (k+1)=b.take (k+1):=by
 rw [List.take_add_one,List.take_add_one,h,wdAt_some ha,wdAt_some hb,h2]
set_option maxHeartbeats 800000 in
theorem equalWds (A:Option Addr) (n c:Nat) (A':Option Addr) (n' c':Nat) (ss ss':List Wd) (w:World) (h:WdsIn w w.heap.size A n c ss) (h':WdsIn w w.heap.size A' n' c' ss') :
  Calls Tryz.prog 183 #[.slice A n c,.slice A' n' c'] w fun e w'=>e = .returned (.bool (decide (ss=ss')))∧Below w.heap.size w w':=by
 have hm:=h.2.2.1;have hnc:=h.2.1;have hm':=h'.2.2.1;have hnc':=h'.2.1;unfold maxLen at hm hm';have HL:=uH h.1;have HL':=uH h'.1;have H:=uH h;have H':=uH h';clear h h';by_cases hn:n=n'
 ·subst hn;have e0:((n:Int) != (n:Int))=false:=(by simp);go_enter Tryz.func183,Tryz.ntmps183
  go_wp2;go_loopw [13] (fun i wr=>∃ k:Nat,k≤n∧i = .int .i64 k∧Hid (ss.take k=ss'.take k)∧Below w.heap.size w wr) (fun i _=>n - (intOf i).toNat)
  case atStart=>exact ⟨0,Nat.zero_le _,rfl,uH (by simp),Below.refl _ _⟩
  case round =>
   obtain ⟨k,hk,rfl,HK,hb⟩:=hrel;by_cases hlt:k < n
   ·obtain ⟨b,off,rfl,hbB,c0⟩:=(H.out.keep hb).at_ hlt;obtain ⟨b',off',rfl,hbB',a0⟩:=(H'.out.keep hb).at_ hlt;have hl1:k < ss.length:=(by rw [HL.out];exact hlt);have hl2:k < ss'.length:=(by rw [HL'.out];exact hlt);have HY:Hid (wdAt ss k=wdAt ss' k→ss.take (k+1)=ss'.take (k+1)):=uH (fun h=>takeWd_eq hl1 hl2 HK.out h);have HNo:Hid (wdAt ss k≠wdAt ss' k→decide (ss=ss')=false):=uH (fun h=>decide_eq_false (fun e=>h (by rw [e])));have i1:(0:Int)≤(k:Int):=(by omega);have i2:(k:Int) < (n:Int):=(by omega);have r0:=qcell c0;have q0:=qcell a0;have hq1:=beq_str (mkStr (wdAt ss' k)) (wdAt ss k) (wdAt ss' k) rfl;clear hl1 hl2;by_cases hes:wdAt ss k=wdAt ss' k
    ·have HF:=uH (HY.out hes);rw [decide_eq_true hes] at hq1;have hq2:((mkStr (wdAt ss k)).toList != (mkStr (wdAt ss' k)).toList)=false:=(by simp [bne,hq1]);clear hes;generalize mkStr (wdAt ss k)=sA at *;generalize mkStr (wdAt ss' k)=sB at *;(go_wp2_with fail);refine region_qb (by kernel_rfl) (by kernel_rfl) ?_;repeat (first | go_big_quiet_step (fail) | quiet_step (fail))
     refine wpQuiet_nil ?_;intro w5 hb5;have b5:=below_next hb hb5;clear hb5;go_wp2;go_roundw
     case rel=>exact ⟨k+1,by omega,by go_num,HF,b5⟩
     case measure=>simp [intOf];omega
    ·have HF:=uH (HNo.out hes);rw [decide_eq_false hes] at hq1;have hq2:((mkStr (wdAt ss k)).toList != (mkStr (wdAt ss' k)).toList)=true:=(by simp [bne,hq1]);clear hes;generalize mkStr (wdAt ss k)=sA at *;generalize mkStr (wdAt ss' k)=sB at *;(go_wp2_with fail);refine region_qb (by kernel_rfl) (by kernel_rfl) ?_;repeat (first | go_big_quiet_step (fail) | quiet_step (fail))
     refine wpQuiet_nil ?_;intro w5 hb5;have b5:=below_next hb hb5;clear hb5;go_wp2;go_ret;exact ⟨ret_bool (by rw [HF.out]),b5⟩
   ·obtain rfl:k=n:=(by omega);have HF:Hid (decide (ss=ss')=true):=uH (decide_eq_true (by
     have:=HK.out
     rwa [List.take_of_length_le (by rw [HL.out];exact Nat.le_refl _),List.take_of_length_le (by rw [HL'.out];exact Nat.le_refl _)] at this))
    go_wp2;go_ret;exact ⟨ret_bool (by rw [HF.out]),hb⟩
 ·have e0:((n:Int) != (n':Int))=true:=(by simp;omega);have HF:Hid (decide (ss=ss')=false):=uH (decide_eq_false (fun e=>hn (by rw [← HL.out,← HL'.out,e])));clear hn;go_enter Tryz.func183,Tryz.ntmps183
  go_wp2;go_ret;exact ⟨ret_bool (by rw [HF.out]),Below.refl _ _⟩
set_option maxHeartbeats 800000 in
theorem l4Same (A:Option Addr) (n c:Nat) (A':Option Addr) (n' c':Nat) (ss ss':List Wd) (w:World) (h:WdsIn w w.heap.size A n c ss) (h':WdsIn w w.heap.size A' n' c' ss') :
  Calls Tryz.prog 124 #[.slice A n c,.slice A' n' c'] w fun e w'=>e = .returned (.bool (decide (ss=ss')))∧Below w.heap.size w w':=by
 have hm:=h.2.2.1;have hnc:=h.2.1;have hm':=h'.2.2.1;have hnc':=h'.2.1;unfold maxLen at hm hm';have HL:=uH h.1;have HL':=uH h'.1;have H:=uH h;have H':=uH h';clear h h';by_cases hn:n=n'
 ·subst hn;have e0:((n:Int) != (n:Int))=false:=(by simp);go_enter Tryz.func124,Tryz.ntmps124
  go_wp2;go_loopw [5] (fun i wr=>∃ k:Nat,k≤n∧i = .int .i64 k∧Hid (ss.take k=ss'.take k)∧Below w.heap.size w wr) (fun i _=>n - (intOf i).toNat)
  case atStart=>exact ⟨0,Nat.zero_le _,rfl,uH (by simp),Below.refl _ _⟩
  case round =>
   obtain ⟨k,hk,rfl,HK,hb⟩:=hrel;by_cases hlt:k < n
   ·obtain ⟨b,off,rfl,hbB,c0⟩:=(H.out.keep hb).at_ hlt;obtain ⟨b',off',rfl,hbB',a0⟩:=(H'.out.keep hb).at_ hlt;have hl1:k < ss.length:=(by rw [HL.out];exact hlt);have hl2:k < ss'.length:=(by rw [HL'.out];exact hlt);have HY:Hid (wdAt ss k=wdAt ss' k→ss.take (k+1)=ss'.take (k+1)):=uH (fun h=>takeWd_eq hl1 hl2 HK.out h);have HNo:Hid (wdAt ss k≠wdAt ss' k→decide (ss=ss')=false):=uH (fun h=>decide_eq_false (fun e=>h (by rw [e])));have i1:(0:Int)≤(k:Int):=(by omega);have i2:(k:Int) < (n:Int):=(by omega);have r0:=qcell c0;have q0:=qcell a0;have hq1:=beq_str (mkStr (wdAt ss' k)) (wdAt ss k) (wdAt ss' k) rfl;clear hl1 hl2;by_cases hes:wdAt ss k=wdAt ss' k
    ·have HF:=uH (HY.out hes);rw [decide_eq_true hes] at hq1;have hq2:((mkStr (wdAt ss k)).toList != (mkStr (wdAt ss' k)).toList)=false:=(by simp [bne,hq1]);clear hes;generalize mkStr (wdAt ss k)=sA at *;generalize mkStr (wdAt ss' k)=sB at *;(go_wp2_with fail);refine region_qb (by kernel_rfl) (by kernel_rfl) ?_;repeat (first | go_big_quiet_step (fail) | quiet_step (fail))
     refine wpQuiet_nil ?_;intro w5 hb5;have b5:=below_next hb hb5;clear hb5;go_wp2;go_roundw
     case rel=>exact ⟨k+1,by omega,by go_num,HF,b5⟩
     case measure=>simp [intOf];omega
    ·have HF:=uH (HNo.out hes);rw [decide_eq_false hes] at hq1;have hq2:((mkStr (wdAt ss k)).toList != (mkStr (wdAt ss' k)).toList)=true:=(by simp [bne,hq1]);clear hes;generalize mkStr (wdAt ss k)=sA at *;generalize mkStr (wdAt ss' k)=sB at *;(go_wp2_with fail);refine region_qb (by kernel_rfl) (by kernel_rfl) ?_;repeat (first | go_big_quiet_step (fail) | quiet_step (fail))
     refine wpQuiet_nil ?_;intro w5 hb5;have b5:=below_next hb hb5;clear hb5;go_wp2;go_ret;exact ⟨ret_bool (by rw [HF.out]),b5⟩
   ·obtain rfl:k=n:=(by omega);have HF:Hid (decide (ss=ss')=true):=uH (decide_eq_true (by
     have:=HK.out
     rwa [List.take_of_length_le (by rw [HL.out];exact Nat.le_refl _),List.take_of_length_le (by rw [HL'.out];exact Nat.le_refl _)] at this))
    go_wp2;go_ret;exact ⟨ret_bool (by rw [HF.out]),hb⟩
 ·have e0:((n:Int) != (n':Int))=true:=(by simp;omega);have HF:Hid (decide (ss=ss')=false):=uH (decide_eq_false (fun e=>hn (by rw [← HL.out,← HL'.out,e])));clear hn;go_enter Tryz.func124,Tryz.ntmps124
  go_wp2;go_ret;exact ⟨ret_bool (by rw [HF.out]),Below.refl _ _⟩
def SmM (x:Mr):Prop:=x.at_≤1000∧x.cut≤1000∧x.n≤1000
theorem boxM (x:Mr) (w:World):Below w.heap.size w (w.alloc (.cells #[.int .i64 (x.at_:Int),.int .i64 (x.cut:Int),.slice x.A x.n x.c] 116)):=(Below.refl _ _).alloc (Nat.le_refl _) _
theorem markEnd (x:Mr) (w:World) (hs:SmM x):Calls Tryz.prog 131 #[.agg #[.int .i64 (x.at_:Int),.int .i64 (x.cut:Int),.slice x.A x.n x.c]] w fun e w'=>e = .returned (.int .i64 ((x.at_:Int)+(x.cut:Int)))∧Below w.heap.size w w':=by
 have hb:=boxM x w;have h1:=hs.1;have h2:=hs.2.1;go_enter Tryz.func131,Tryz.ntmps131
 go_wp2;go_returns;exact ⟨rfl,hb⟩
def GapK (n:Nat) (ms:List Mk) (k:Nat):Prop:=∀ i,i < k→gapG n ms i
theorem GapK.succ {n k:Nat} {ms:List Mk} (h:GapK n ms k) (h2:gapG n ms k):GapK n ms (k+1):=fun i hi=>by
 rcases Nat.lt_or_ge i k with h3 | h3
 ·exact h i h3
 ·have e:i=k:=(by omega);rw [e];exact h2
theorem marks_no {ws:List Wd} {ms:List Mk} {k:Nat} (hk:k < ms.length) (h : ¬ gapG ws.length ms k):marksB ws ms=false:=by
 rw [Bool.eq_false_iff];intro e;exact h (gapB_iff.1 (marksB_iff.1 e).2.2.1 k hk)
theorem marks_end {ws:List Wd} {ms:List Mk} (h1:spB ws=true) (h2:ms.length≤20) (h:GapK ws.length ms ms.length):marksB ws ms=decide (lenI ws.length (ms.take ms.length)≤20):=by
 rw [List.take_length,Bool.eq_iff_iff,marksB_iff,decide_eq_true_iff];exact ⟨fun h=>h.2.2.2,fun h3=>⟨h1,h2,gapB_iff.2 (fun i hi=>h i hi),h3⟩⟩
theorem marks_sp {ws:List Wd} {ms:List Mk} (h:spB ws=false):marksB ws ms=false:=by
 rw [Bool.eq_false_iff];intro e;rw [(marksB_iff.1 e).1] at h;cases h
theorem marks_many {ws:List Wd} {ms:List Mk} (h:20 < ms.length):marksB ws ms=false:=by
 rw [Bool.eq_false_iff];intro e;have:=(marksB_iff.1 e).2.1;omega
theorem lenI_succ {n:Int} {ms:List Mk} {k:Nat} (hk:k < ms.length):lenI n (ms.take (k+1))=lenI n (ms.take k) - ((mkAt ms k).cut:Int)+((mkAt ms k).put.length:Int):=by
 unfold lenI;rw [List.take_succ_eq_append_getElem hk,List.foldl_append,mkAt_get hk];rfl
theorem lenI_bound {n:Int} {ms:List Mk} (hs : ∀ m∈ms,m.cut≤1000∧m.put.length≤1000) (k:Nat) (hk:k≤ms.length):n - 1000 * (k:Int)≤lenI n (ms.take k)∧lenI n (ms.take k)≤n+1000 * (k:Int):=by
 induction k with
 | zero=>simp [lenI]
 | succ k ih =>
  have h1:=ih (by omega);rw [lenI_succ (by omega)];have h2:=hs _ (mkAt_mem (ms:=ms) (i:=k) (by omega));omega
theorem gap_no1 {n k:Nat} {ms:List Mk} (h:mkB n (mkAt ms k)=false) : ¬ gapG n ms k:=fun h2=>by rw [h2.1] at h;cases h
theorem gap_no2 {n k:Nat} {ms:List Mk} (h0:0 < k) (h:(mkAt ms k).at_≤(mkAt ms (k - 1)).at_+(mkAt ms (k - 1)).cut) : ¬ gapG n ms k:=fun h2=>by have:=h2.2 h0;omega
def OkMs (xs:List Mr):Prop:=∀ x∈xs,SmM x∧∀ l∈x.put,l.length≤maxLen
theorem mkB_no1 {n:Nat} {x:Mr} (h : ¬ x.at_≤n):mkB n x.dat=false:=by
 rw [Bool.eq_false_iff];intro e;have:=(mkB_iff.1 e).1;simp only [Mr.dat] at this;omega
theorem mkB_no2 {n:Nat} {x:Mr} (h : ¬ x.cut≤n - x.at_) (h1:x.at_≤n):mkB n x.dat=false:=by
 rw [Bool.eq_false_iff];intro e;have:=(mkB_iff.1 e).1;simp only [Mr.dat] at this;omega
theorem mkB_no3 {n:Nat} {x:Mr} (h:spB x.put=false):mkB n x.dat=false:=by
 rw [Bool.eq_false_iff];intro e;have:=(mkB_iff.1 e).2.1;simp only [Mr.dat] at this;rw [h] at this;cases this
theorem mkB_no4 {n:Nat} {x:Mr} (h:x.cut=0) (h1:x.put.length=0):mkB n x.dat=false:=by
 rw [Bool.eq_false_iff];intro e;have:=(mkB_iff.1 e).2.2;simp only [Mr.dat] at this;omega
theorem mkB_yes {n:Nat} {x:Mr} (h1:x.at_≤n) (h2:x.cut≤n - x.at_) (h3:spB x.put=true) (h4 : ¬ (x.cut=0∧x.put.length=0)):mkB n x.dat=true :=
 mkB_iff.2 ⟨by simp only [Mr.dat];omega,h3,by simp only [Mr.dat];omega⟩
set_option maxHeartbeats 3200000 in
theorem implMarksValid (A:Option Addr) (n c:Nat) (ws:List Wd) (A':Option Addr) (n' c':Nat) (xs:List Mr) (w:World) (hW : ∀ l∈ws,l.length≤maxLen) (hX:OkMs xs) (h:WdsIn w w.heap.size A n c ws) (h':MrsIn w w.heap.size A' n' c' xs) :
  Calls Tryz.prog 72 #[.slice A n c,.slice A' n' c'] w fun e w'=>e = .returned (.bool (marksB ws (xs.map Mr.dat)))∧Below w.heap.size w w':=by
 have HS:=uH (implSpeechValid A n c ws w hW h);have HL:=uH h.1;have HL':=uH h'.1;have H':=uH h';have HX:=uH hX;clear h h' hW hX;cases hA:spB ws with
 | false =>
  have HR:Hid (marksB ws (xs.map Mr.dat)=false):=uH (marks_sp hA);rw [hA] at HS;clear hA;go_enter Tryz.func72,Tryz.ntmps72
  (go_wp2_with fail);refine HS.out.mono ?_;rintro e w1 ⟨rfl,rfl⟩;go_wp2;go_ret;exact ⟨ret_bool HR.out.symm,Below.refl _ _⟩
 | true =>
 have h20:n≤20:=(by have:=(spB_iff.1 hA).2;rw [HL.out] at this;exact this);by_cases hm:20 < n'
 ·have HR:Hid (marksB ws (xs.map Mr.dat)=false):=uH (marks_many (by rw [List.length_map,HL'.out];exact hm));rw [hA] at HS;clear hA;go_enter Tryz.func72,Tryz.ntmps72
  (go_wp2_with fail);refine HS.out.mono ?_;rintro e w1 ⟨rfl,rfl⟩;go_wp2;go_ret;exact ⟨ret_bool HR.out.symm,Below.refl _ _⟩
 ·have HE:Hid (∀ k,k < n'→¬ gapG n (xs.map Mr.dat) k→marksB ws (xs.map Mr.dat)=false):=uH (fun k hk h=>marks_no (k:=k) (by rw [List.length_map,HL'.out];exact hk) (by rw [HL.out];exact h));have HY:Hid (GapK n (xs.map Mr.dat) n'→marksB ws (xs.map Mr.dat)=decide (lenI n ((xs.map Mr.dat).take n')≤20)):=uH (fun h=>by
   have e1:(xs.map Mr.dat).length=n':=(by rw [List.length_map,HL'.out]);have:=marks_end (ms:=xs.map Mr.dat) hA (by rw [e1];omega) (by rw [HL.out,e1];exact h)
   rwa [e1,HL.out] at this)
  have HB:Hid (∀ k,k≤n'→(n:Int) - 1000 * (k:Int)≤lenI n ((xs.map Mr.dat).take k)∧lenI n ((xs.map Mr.dat).take k)≤(n:Int)+1000 * (k:Int)):=uH (fun k hk=>lenI_bound (fun m hm=>by
   obtain ⟨x,hx,rfl⟩:=List.mem_map.1 hm;have h1:=(HX.out x hx).1;have h2:=(H'.out.2.2.2.2 x hx).1;simp only [Mr.dat];exact ⟨h1.2.1,by rw [h2];exact h1.2.2⟩) k (by rw [List.length_map,HL'.out];exact hk))
  rw [hA] at HS;clear hA;have HL0:Hid (lenI n ((xs.map Mr.dat).take 0)=(n:Int)):=uH rfl;have HDat:Hid (∀ k,k < n'→mkAt (xs.map Mr.dat) k=(mrAt xs k).dat):=uH (fun k hk=>mrAt_dat (by rw [HL'.out];exact hk));have HLs:Hid (∀ k,k < n'→lenI n ((xs.map Mr.dat).take (k+1))=lenI n ((xs.map Mr.dat).take k) - ((mrAt xs k).cut:Int)+((mrAt xs k).n:Int)):=uH (fun k hk=>by
   rw [lenI_succ (by rw [List.length_map,HL'.out];exact hk),HDat.out k hk];simp only [Mr.dat];rw [(H'.out.2.2.2.2 _ (mrAt_mem (xs:=xs) (k:=k) (by rw [HL'.out];exact hk))).1])
  generalize marksB ws (xs.map Mr.dat)=T at *;go_enter Tryz.func72,Tryz.ntmps72
  (go_wp2_with fail);refine HS.out.mono ?_;rintro e w1 ⟨rfl,rfl⟩;go_wp2;go_loopw [5,20] (fun s5 s6 wr=>∃ k:Nat,k≤n'∧s5 = .int .i64 (lenI n ((xs.map Mr.dat).take k))∧s6 = .int .i64 k∧Hid (GapK n (xs.map Mr.dat) k)∧Below w.heap.size w wr) (fun _ i _=>n' - (intOf i).toNat)
  case atStart=>exact ⟨0,Nat.zero_le _,by rw [HL0.out],rfl,uH (fun i hi=>by omega),Below.refl _ _⟩
  case round =>
   obtain ⟨k,hk,rfl,rfl,HK,hb⟩:=hrel;by_cases hlt:k < n'
   ·have hx:=(H'.out.keep hb).at_ hlt;obtain ⟨b,off,rfl,hbB,c0,c1,c2,hxI⟩:=hx;have hxs:=(HX.out _ (mrAt_mem (xs:=xs) (k:=k) (by rw [HL'.out];exact hlt)));have hba:Below wr.heap.size wr (wr.alloc (.cells #[.int .i64 ((mrAt xs k).at_:Int),.int .i64 ((mrAt xs k).cut:Int),.slice (mrAt xs k).A (mrAt xs k).n (mrAt xs k).c] 116)):=boxM (mrAt xs k) wr;have HM:=uH (implSpeechValid (mrAt xs k).A (mrAt xs k).n (mrAt xs k).c (mrAt xs k).put _ hxs.2 (WdsIn.keep hxI hba));have HLp:Hid ((mrAt xs k).put.length=(mrAt xs k).n):=uH hxI.1;have HAl:=uH hba;clear hxs hba;have HD:=HDat.out k hlt;have HLk:=HLs.out k hlt;have HN:=HE.out k hlt;have hs:=(HX.out _ (mrAt_mem (xs:=xs) (k:=k) (by rw [HL'.out];exact hlt))).1;obtain ⟨b1,b2⟩:=HB.out k (by omega);have sx1:=hs.1;have sx2:=hs.2.1;have sx3:=hs.2.2;have HG:Hid ((0 < k→(mkAt (xs.map Mr.dat) (k - 1)).at_+(mkAt (xs.map Mr.dat) (k - 1)).cut < (mrAt xs k).at_)→mkB n (mrAt xs k).dat=true→GapK n (xs.map Mr.dat) (k+1)):=uH (fun h1 h2=>GapK.succ HK.out ⟨by rw [HD];exact h2,fun h0=>by rw [HD];exact h1 h0⟩);have hgo:Hid (lenI n ((xs.map Mr.dat).take (k+1))=lenI n ((xs.map Mr.dat).take k) - ((mrAt xs k).cut:Int)+((mrAt xs k).n:Int)):=uH HLk;have HNo1:Hid (mkB n (mrAt xs k).dat=false→T=false):=uH (fun h=>HN (gap_no1 (by rw [HD];exact h)));have HNo2:Hid (0 < k→(mrAt xs k).at_≤(mkAt (xs.map Mr.dat) (k - 1)).at_+(mkAt (xs.map Mr.dat) (k - 1)).cut→T=false):=uH (fun h0 h=>HN (gap_no2 h0 (by rw [HD];exact h)));clear HLk HN HD hs hxI;have i1:(0:Int)≤(k:Int):=(by omega);have i2:(k:Int) < (n':Int):=(by omega);have i3:(k:Int)≤20:=(by omega);have hbx:=uH (hb.trans (HAl.out.mono hb.size));by_cases h1:(mrAt xs k).at_≤n
    ·by_cases h2:(mrAt xs k).cut≤n - (mrAt xs k).at_
     ·have t1 : ¬ (n:Int) < ((mrAt xs k).at_:Int):=(by omega);have t2 : ¬ (n:Int) - ((mrAt xs k).at_:Int) < ((mrAt xs k).cut:Int):=(by omega);have t3 : ¬ n < (mrAt xs k).at_:=(by omega);by_cases h4:(mrAt xs k).cut=0∧(mrAt xs k).n=0
      ·have HF:=uH (HNo1.out (mkB_no4 h4.1 (by rw [HLp.out];exact h4.2)));clear HNo1 HNo2 HG hgo HM HLp;obtain ⟨z1,z2⟩:=h4;generalize mrAt xs k=x at *;obtain ⟨xa,xc,xA,xn,xcp,xp⟩:=x;simp only at z1 z2;subst z1 z2;dsimp only at *;go_wp2;go_ret;exact ⟨ret_bool HF.out.symm,hbx.out⟩
      ·have HGy:=uH (fun h3 h=>HG.out h (mkB_yes h1 h2 h3 (by rw [HLp.out];exact h4)));have HFn:=uH (fun h3=>HNo1.out (mkB_no3 h3));clear HNo1 HG HLp;have p0 : ∀ W,Below (wr.alloc (.cells #[.int .i64 ((mrAt xs k).at_:Int),.int .i64 ((mrAt xs k).cut:Int),.slice (mrAt xs k).A (mrAt xs k).n (mrAt xs k).c] 116)).heap.size (wr.alloc (.cells #[.int .i64 ((mrAt xs k).at_:Int),.int .i64 ((mrAt xs k).cut:Int),.slice (mrAt xs k).A (mrAt xs k).n (mrAt xs k).c] 116)) W→W.cell? ⟨wr.heap.size,0,none⟩=some (.int .i64 ((mrAt xs k).at_:Int))∧W.cell? ⟨wr.heap.size,1,none⟩=some (.int .i64 ((mrAt xs k).cut:Int))∧W.cell? ⟨wr.heap.size,2,none⟩=some (.slice (mrAt xs k).A (mrAt xs k).n (mrAt xs k).c):=fun W hW=>⟨kcell hW (newcell wr _ _ 0 _ rfl),kcell hW (newcell wr _ _ 1 _ rfl),kcell hW (newcell wr _ _ 2 _ rfl)⟩;have HP:=uH p0;clear p0
       go_upto_region 9 with fail
       go_cut [64] (fun s64 wx=>(wr.alloc (.cells #[.int .i64 ((mrAt xs k).at_:Int),.int .i64 ((mrAt xs k).cut:Int),.slice (mrAt xs k).A (mrAt xs k).n (mrAt xs k).c] 116))=wx∧Value.bool (!(spB (mrAt xs k).put))=s64)
       case first =>
        by_cases hc0:(mrAt xs k).cut=0
        ·have e1:(((mrAt xs k).cut:Int) == 0)=true:=(by rw [hc0];rfl);have e2:(((mrAt xs k).n:Int) == 0)=false:=beq_eq_false_iff_ne.2 (fun e=>h4 ⟨hc0,by omega⟩);clear hc0 h4 HP;(go_wp2_with fail);refine HM.out.mono ?_;rintro e w1 ⟨rfl,rfl⟩;go_wp2
         go_meet
         exact ⟨rfl,rfl⟩
        ·have e1:(((mrAt xs k).cut:Int) == 0)=false:=beq_eq_false_iff_ne.2 (fun e=>hc0 (by omega));clear hc0 h4 HP;(go_wp2_with fail);refine HM.out.mono ?_;rintro e w1 ⟨rfl,rfl⟩;go_wp2
         go_meet
         exact ⟨rfl,rfl⟩
       case rest =>
        obtain ⟨hwx,rfl⟩:=hcut;have HB0:Hid (Below wr.heap.size wr wc):=uH (by rw [← hwx];exact HAl.out);have HP1:Hid (∀ W,Below wc.heap.size wc W→W.cell? ⟨wr.heap.size,0,none⟩=some (.int .i64 ((mrAt xs k).at_:Int))∧W.cell? ⟨wr.heap.size,1,none⟩=some (.int .i64 ((mrAt xs k).cut:Int))∧W.cell? ⟨wr.heap.size,2,none⟩=some (.slice (mrAt xs k).A (mrAt xs k).n (mrAt xs k).c)):=uH (by rw [← hwx];exact HP.out);clear hwx HP HM h4;cases h3:spB (mrAt xs k).put with
        | false =>
         have HF:=uH (HFn.out h3);clear h3 HFn HGy HNo2 hgo;go_wp2;go_ret;exact ⟨ret_bool HF.out.symm,hb.trans (HB0.out.mono hb.size)⟩
        | true =>
         have HG2:=uH (HGy.out h3);clear h3 HFn HGy;obtain ⟨y0,y1,y2⟩:=HP1.out wc (Below.refl _ _);have r0:=qcell y0;have r1:=qcell y1;have r2:=qcell y2;by_cases h0:k=0
         ·have HG3:=uH (HG2.out (fun h=>by omega));have z0:decide (0 < k)=false:=decide_eq_false (by omega);clear HG2 HNo2 h0;(go_wp2_with fail);refine region_qb (by kernel_rfl) (by kernel_rfl) ?_;repeat (first | go_big_quiet_step (fail) | quiet_step (fail))
          refine wpQuiet_nil ?_;intro w5 hb5;obtain ⟨y0,y1,y2⟩:=HP1.out w5 hb5;go_wp2;go_roundw
          case rel=>exact ⟨k+1,by omega,by rw [hgo.out];exact congrArg (Value.int .i64) (by omega),by go_num,HG3,hb.trans ((below_next HB0.out hb5).mono hb.size)⟩
          case measure=>simp [intOf] <;> omega
         ·have h1:0 < k:=(by omega);obtain ⟨b',off',e',_,p0,p1,p2,_⟩:=(H'.out.keep (hb.trans (HB0.out.mono hb.size))).at_ (show k - 1 < n' by omega);obtain ⟨rfl,rfl⟩:b'=b∧off'=off:=(by injection e' with e';injection e' with e1 e2;exact ⟨e1.symm,e2.symm⟩);have HP:=HDat.out (k - 1) (by omega);have hsp:=(HX.out _ (mrAt_mem (xs:=xs) (k:=k - 1) (by rw [HL'.out];omega))).1;have sp1:=hsp.1;have sp2:=hsp.2.1;have HEn:=uH (fun W=>markEnd (mrAt xs (k - 1)) W hsp);rw [HP] at HG2 HNo2;have ek:(k:Int) - 1=((k - 1:Nat):Int):=(by omega);have ekw:IntKind.i64.wrap ((k:Int) - 1)=((k - 1:Nat):Int):=(by rw [ek];exact IntWalk.i64_in _ (by omega));have q0:=qcell p0;have q1:=qcell p1;have q2:=qcell p2;have z1:decide ((0:Int) < (k:Int))=true:=decide_eq_true (by omega);have j2:((k - 1:Nat):Int) < (n':Int):=(by omega);have j1:(0:Int)≤((k - 1:Nat):Int):=(by omega);clear HP hsp e' h0;by_cases h2:(mrAt xs (k - 1)).at_+(mrAt xs (k - 1)).cut < (mrAt xs k).at_
          ·have HG3:=uH (HG2.out (fun _=>h2));have z3:decide (((mrAt xs k).at_:Int)≤((mrAt xs (k - 1)).at_:Int)+((mrAt xs (k - 1)).cut:Int))=false:=decide_eq_false (by omega);clear HG2 HNo2;generalize mrAt xs (k - 1)=y at *;generalize k - 1=j at *;(go_wp2_with fail);refine region_qb (by kernel_rfl) (by kernel_rfl) ?_;repeat (first | go_big_quiet_step ((go_at_call 131;exact quietB (HEn.out _))) | quiet_step ((go_at_call 131;exact quietB (HEn.out _))))
           refine wpQuiet_nil ?_;intro w5 hb5;obtain ⟨y0,y1,y2⟩:=HP1.out w5 hb5;go_wp2;go_roundw
           case rel=>exact ⟨k+1,by omega,by rw [hgo.out];exact congrArg (Value.int .i64) (by omega),by go_num,HG3,hb.trans ((below_next HB0.out hb5).mono hb.size)⟩
           case measure=>simp [intOf] <;> omega
          ·have HF:=uH (HNo2.out h1 (by simp only [Mr.dat];omega));have z3:decide (((mrAt xs k).at_:Int)≤((mrAt xs (k - 1)).at_:Int)+((mrAt xs (k - 1)).cut:Int))=true:=decide_eq_true (by omega);clear HG2 HNo2 hgo h2;generalize mrAt xs (k - 1)=y at *;generalize k - 1=j at *;(go_wp2_with fail);refine region_qb (by kernel_rfl) (by kernel_rfl) ?_;repeat (first | go_big_quiet_step ((go_at_call 131;exact quietB (HEn.out _))) | quiet_step ((go_at_call 131;exact quietB (HEn.out _))))
           refine wpQuiet_nil ?_;intro w5 hb5;go_wp2;go_ret;exact ⟨ret_bool HF.out.symm,hb.trans ((below_next HB0.out hb5).mono hb.size)⟩
     ·have HF:=uH (HNo1.out (mkB_no2 h2 h1));have t1 : ¬ (n:Int) < ((mrAt xs k).at_:Int):=(by omega);have t2:(n:Int) - ((mrAt xs k).at_:Int) < ((mrAt xs k).cut:Int):=(by omega);clear HNo1 HNo2 HG hgo HM HLp;generalize mrAt xs k=x at *;go_wp2;go_ret;exact ⟨ret_bool HF.out.symm,hbx.out⟩
    ·have HF:=uH (HNo1.out (mkB_no1 h1));have t1:(n:Int) < ((mrAt xs k).at_:Int):=(by omega);clear HNo1 HNo2 HG hgo HM HLp;generalize mrAt xs k=x at *;go_wp2;go_ret;exact ⟨ret_bool HF.out.symm,hbx.out⟩
   ·obtain rfl:k=n':=(by omega);have HF:=uH (HY.out HK.out);obtain ⟨b1,b2⟩:=HB.out k (Nat.le_refl _);go_wp2;go_ret;exact ⟨ret_bool HF.out.symm,hb⟩
section
variable {P:Program} {md:Region.Mode} {ops:Array Oper} {Q:Exit→Act→World→Prop}
def unl (n:Nat) (listed:Array Bool):List Nat:=(List.range n).filter fun j=>!listed.getD j true
theorem unl_set {n i:Nat} {listed:Array Bool} (hi:listed.getD i true=false) (hn:i < n):(unl n (listed.setIfInBounds i true)).length < (unl n listed).length:=by
 have e:unl n (listed.setIfInBounds i true)=(unl n listed).filter fun j=>!decide (j=i):=by
  unfold unl;rw [List.filter_filter];congr 1
  funext j
  by_cases h:j=i
  ·subst h;have hlt:j < listed.size:=by
    rcases Nat.lt_or_ge j listed.size with h | h
    ·exact h
    ·rw [Array.getD_eq_getD_getElem?,Array.getElem?_eq_none h] at hi;cases hi
   simp [Array.getD_eq_getD_getElem?,Array.getElem?_setIfInBounds,hlt]
  ·simp [Array.getD_eq_getD_getElem?,Array.getElem?_setIfInBounds,h,Ne.symm h]
 rw [e,List.length_filter_lt_length_iff_exists];exact ⟨i,by unfold unl;rw [List.mem_filter];exact ⟨List.mem_range.2 hn,by rw [hi];rfl⟩,by simp⟩
theorem ready_done {listed:Array Bool} (hs:listed.size=ops.size) (hord : ∀ (i:Nat) o,ops[i]? = some o→∀ e∈o.after,e.on < i) (hr:Region.ready md ops listed=[]) : ∀ j,j < ops.size→listed.getD j false=true:=by
 intro j;induction j using Nat.strongRecOn with
 | ind j ih =>
  intro hj;have hnot:j ∉ Region.ready md ops listed:=(by rw [hr];simp);rw [mem_ready] at hnot;have h1:listed.getD j true≠false:=fun h=>hnot ⟨h,ops[j],Array.getElem?_eq_getElem hj,fun e he _=>ih e.on (hord j _ (Array.getElem?_eq_getElem hj) e he) (Nat.lt_trans (hord j _ (Array.getElem?_eq_getElem hj) e he) hj)⟩;have hj':j < listed.size:=(by omega);rw [Array.getD_eq_getD_getElem?,Array.getElem?_eq_getElem hj'] at h1 ⊢;simpa using h1
theorem wpAny_inv (I:(Nat→Prop)→Act→World→Prop) (hord : ∀ (i:Nat) o,ops[i]? = some o→∀ e∈o.after,e.on < i)
  (hdone : ∀ L a w,(∀ j,j < ops.size→L j)→I L a w→Q .normal a w)
  (hstep : ∀ (L:Nat→Prop) (i:Nat) o a w,ops[i]? = some o→¬ L i→(∀ e∈o.after,Region.binds md e=true→L e.on)→I L a w→wpOp P ops Q i (I fun j=>j=i∨L j) a w) :
  ∀ (fuel:Nat) (listed:Array Bool) (a:Act) (w:World),listed.size=ops.size→(unl ops.size listed).length≤fuel→I (fun j=>listed.getD j false=true) a w→wpAny P md ops Q fuel listed a w:=by
 have none : ∀ listed:Array Bool,(unl ops.size listed).length=0→Region.ready md ops listed=[]:=fun listed h=>by
  rw [List.eq_nil_iff_forall_not_mem];intro j hj;rw [mem_ready] at hj;obtain ⟨h1,o,ho,_⟩:=hj;have hlt:j < ops.size:=by
   rcases Nat.lt_or_ge j ops.size with h | h
   ·exact h
   ·rw [Array.getElem?_eq_none h] at ho;cases ho
  have hm:j∈unl ops.size listed:=(by unfold unl;rw [List.mem_filter];exact ⟨List.mem_range.2 hlt,by rw [h1];rfl⟩);rw [List.eq_nil_of_length_eq_zero h] at hm;cases hm
 intro fuel;induction fuel with
 | zero =>
  intro listed a w hs hf hI;have hr:=none listed (by omega);exact ⟨hr,hdone _ a w (ready_done hs hord hr) hI⟩
 | succ fuel ih =>
  intro listed a w hs hf hI;refine ⟨fun hr=>hdone _ a w (ready_done hs hord hr) hI,fun i hi=>?_⟩;rw [mem_ready] at hi;obtain ⟨h1,o,ho,ha⟩:=hi;have hlt:i < ops.size:=by
   rcases Nat.lt_or_ge i ops.size with h | h
   ·exact h
   ·rw [Array.getElem?_eq_none h] at ho;cases ho
  have hl:i < listed.size:=(by omega);have hni : ¬ listed.getD i false=true:=by
   rw [Array.getD_eq_getD_getElem?,Array.getElem?_eq_getElem hl] at h1 ⊢;simpa using h1
  refine wpOp_mono (fun a' w' hI'=>ih _ a' w' (by simpa using hs) (by have:=unl_set h1 hlt;omega) ?_) (hstep _ i o a w ho hni ha hI);have e:(fun j=>(listed.setIfInBounds i true).getD j false=true)=fun j=>j=i∨listed.getD j false=true:=by
   funext j
   by_cases h:j=i
   ·subst h;simp [Array.getD_eq_getD_getElem?,Array.getElem?_setIfInBounds,hl]
   ·simp [Array.getD_eq_getD_getElem?,Array.getElem?_setIfInBounds,h,Ne.symm h]
  rw [e];exact hI'
def waits (md:Region.Mode) (ops:Array Oper) (i:Nat):List Nat:=((ops[i]?).map fun o=>(o.after.toList.filter (Region.binds md)).map (·.on)).getD []
def ordered (ops:Array Oper):Bool:=(List.range ops.size).all fun i=>((ops[i]?).map fun o=>o.after.all fun e=>decide (e.on < i)).getD true
theorem wp_region_inv {id:Nat} {a:Act} {w:World} (hm:P.follows .mixedOrders=true) (I:(Nat→Prop)→Act→World→Prop) (hord:ordered ops=true)
  (hstart:I (fun _=>False) a w.drew)
  (hdone : ∀ L a w,(∀ j,j < ops.size→L j)→I L a w→Q .normal a w)
  (hstep : ∀ (L:Nat→Prop) (i:Nat) a w,i < ops.size→¬ L i→(∀ j,(waits .any ops i).contains j=true→L j)→I L a w→wpOp P ops Q i (I fun j=>j=i∨L j) a w) :
  (Code.region id ops true).wp P Q a w:=by
 refine wp_region_any hm ?_;have hord' : ∀ (i:Nat) o,ops[i]? = some o→∀ e∈o.after,e.on < i:=by
  intro i o ho e he;have hlt:i < ops.size:=by
   rcases Nat.lt_or_ge i ops.size with h | h
   ·exact h
   ·rw [Array.getElem?_eq_none h] at ho;cases ho
  unfold ordered at hord;have h1:=List.all_eq_true.1 hord i (List.mem_range.2 hlt);rw [ho] at h1;simp only [Option.map_some,Option.getD_some] at h1;obtain ⟨k,hk,rfl⟩:=Array.mem_iff_getElem.1 he;simpa using (Array.all_eq_true.1 h1) k hk
 refine wpAny_inv I hord' hdone (fun L i o a w ho hn ha hI=>?_) _ _ a _ (by simp) ?_ ?_
 ·have hlt:i < ops.size:=by
   rcases Nat.lt_or_ge i ops.size with h | h
   ·exact h
   ·rw [Array.getElem?_eq_none h] at ho;cases ho
  refine hstep L i a w hlt hn (fun j hj=>?_) hI;unfold waits at hj;rw [ho] at hj;simp only [Option.map_some,Option.getD_some,List.contains_iff_mem,List.mem_map,List.mem_filter] at hj;obtain ⟨e,⟨he,hb⟩,rfl⟩:=hj;exact ha e (by simpa using he) hb
 ·unfold unl;exact Nat.le_trans (List.length_filter_le _ _) (by simp)
 ·have e:(fun j=>(Array.replicate ops.size false).getD j false=true)=fun _=>False:=by
   funext j
   simp only [Array.getD_eq_getD_getElem?,Array.getElem?_replicate];split <;> simp
  rw [e];exact hstart
end
theorem or_l {k i:Nat} {L:Nat→Prop} {p:Prop} (hne:k≠i) (h:L k→p):(k=i∨L k)→p:=fun h'=>h (h'.resolve_left hne)
theorem strP_one (ws:List Wd) : ∀ v∈ws.map strP,v.oneCell'=true:=by
 intro v hv;obtain ⟨l,_,rfl⟩:=List.mem_map.1 hv;rfl
theorem cloneWd1 (A:Option Addr) (n c:Nat) (ws:List Wd) (w:World) (hn1:1≤n) (hn:n≤1048576) (h:WdsIn w w.heap.size A n c ws) :
  Calls Tryz.prog 210 #[.slice A n c] w fun e w'=>∃ g c',e = .returned (.slice (some ⟨g,0,none⟩) n c')∧w'.ownsRow w.heap.size 9 1 (.slice (some ⟨g,0,none⟩) n c') n (ws.map strP)∧w.heap.size≤g∧Below w.heap.size w w':=by
 have HL:=uH h.1;have HR:=uH h.2.2.2;obtain ⟨b,off,rfl,hb,_⟩:=h.2.2.2.2 hn1;obtain ⟨i0,hi,hz0,hz1,hz2⟩:=info_parts infoWd;clear h;have hE : ∀ W,(binOp .eql 27 (.slice (some ⟨b,off,none⟩) n c) (.slice none 0 0)).run Tryz.prog W = .ok (.bool false) W:=fun W=>Lib.run_eql_slice_nil (P:=Tryz.prog) W _ 9 (some ⟨b,off,none⟩) n c 0 0 Tryz.underlying27;go_enter Tryz.func210,Tryz.ntmps210
 go_wp2_with (at_builtin;refine wpList_append_any _ rfl (.tmp 5) (.tmp 6) _ rfl w.heap.size 9 i0 _ 1 16 Tryz.underlying27 hi hz0 hz1 hz2 rfl (by omega) (.slice (some ⟨w.heap.size,0,none⟩) 0 0) 0 [] rfl (World.ownsRow_made w _ 0 (Nat.le_refl _) (by simp) (by simp)) w.heap.size (some ⟨b,off,none⟩) n c (ws.map strP) rfl (HR.out.below ((Below.refl _ _).alloc (Nat.le_refl _) _)) (strP_one ws) (by unfold maxLen;omega) (by omega) (by simp) ?_;intro v1 w1 hown1 hg1 hat1)
 have b0:Below w.heap.size w (w.alloc (Obj.cells #[] 9)):=(Below.refl _ _).alloc (Nat.le_refl _) _;have hg1':(w.alloc (Obj.cells #[] 9)).grownBy w1 (some w.heap.size):=hg1;have b1:Below w.heap.size w w1:=b0.grown hg1' b0.size (fun q hq=>by injection hq with hq;omega);simp only [Nat.zero_add,List.nil_append] at hown1;go_wp2;go_ret;rcases hown1.2 with ⟨_,h⟩ | ⟨g,cap,cur,rfl,hg,_⟩
 ·omega
 ·exact ⟨g,cap,rfl,hown1,hg,b1⟩
theorem WdsIn.zero (w:World) (B:Nat) (A:Option Addr) (c:Nat) (hc:c≤maxLen):WdsIn w B A 0 c []:=⟨rfl,Nat.zero_le _,hc,⟨rfl,fun h=>absurd h (by omega)⟩⟩
def chV (a k:Nat) (A:Option Addr) (n c:Nat):Value :=
 if n=0 then .iface 179 (.agg #[.int .i64 (a:Int),.int .i64 (k:Int)])
 else if k=0 then .iface 181 (.agg #[.int .i64 (a:Int),.slice A n c])
 else .iface 183 (.agg #[.int .i64 (a:Int),.int .i64 (k:Int),.slice A n c])
theorem changeOf (a k:Nat) (A:Option Addr) (n c:Nat) (w:World) (hn:n≤maxLen) :
  Calls Tryz.prog 69 #[.agg #[.int .i64 (a:Int),.int .i64 (k:Int),.slice A n c]] w fun e w'=>e = .returned (chV a k A n c)∧Below w.heap.size w w':=by
 have hal:Below w.heap.size w (w.alloc (.cells #[.int .i64 (a:Int),.int .i64 (k:Int),.slice A n c] 116)):=(Below.refl _ _).alloc (Nat.le_refl _) _;unfold maxLen at hn;unfold chV;by_cases h0:n=0
 ·rw [if_pos h0];subst h0;go_enter Tryz.func69,Tryz.ntmps69
  go_wp2;go_returns;exact ⟨rfl,hal⟩
 ·rw [if_neg h0];by_cases h1:k=0
  ·rw [if_pos h1];subst h1;go_enter Tryz.func69,Tryz.ntmps69
   go_wp2;go_returns;exact ⟨rfl,hal⟩
  ·rw [if_neg h1];go_enter Tryz.func69,Tryz.ntmps69
   go_wp2;go_returns;exact ⟨rfl,hal⟩
def MkOf (w w':World) (a k n:Nat) (ws:List Wd) (e:Ending):Prop :=
 ∃ A' c',e = .returned (.agg #[.int .i64 (a:Int),.int .i64 (k:Int),.slice A' n c'])∧WdsIn w' w'.heap.size A' n c' ws∧(0 < n→∀ p,A'=some p→w.heap.size≤p.block∧p.block < w'.heap.size)∧Below w.heap.size w w'
theorem leavingMark (a k:Nat) (w:World):Calls Tryz.prog 285 #[.agg #[.int .i64 (a:Int),.int .i64 (k:Int)]] w fun e w'=>MkOf w w' a k 0 [] e:=by
 go_enter Tryz.func285,Tryz.ntmps285
 go_wp2;go_returns;exact ⟨_,_,rfl,WdsIn.zero _ _ _ _ (by unfold maxLen;omega),fun h=>absurd h (by omega),by go_grown⟩
theorem newKeep (w:World) (xs:Array Value) (t:TypeId) {W:World} (hb:Below (w.alloc (.cells xs t)).heap.size (w.alloc (.cells xs t)) W) (j:Nat) (v:Value) (hj:xs[j]? = some v) :
  W.cell? ⟨w.heap.size,j,none⟩=some v∧W.frozen? ⟨w.heap.size,j,none⟩=false:=by
 have h1:=newcell w xs t j v hj;have h2:(w.alloc (.cells xs t)).frozen? ⟨w.heap.size,j,none⟩=false:=World.frozen?_alloc_new w xs t j;exact ⟨kcell hb h1,kfree hb h1 h2⟩
theorem MkOf.set3 {w w0 w1:World} {a k n g1 c1:Nat} {ws:List Wd} (hO:w1.ownsRow w0.heap.size 9 1 (.slice (some ⟨g1,0,none⟩) n c1) n (ws.map strP)) (hg:w0.heap.size≤g1) (h0:w.heap.size+2≤w0.heap.size) (hb0:Below w.heap.size w w0) (hb1:Below w0.heap.size w0 w1) (hl:ws.length=n) :
  MkOf w (((w1.setCell ⟨w.heap.size+1,0,none⟩ (.int .i64 (a:Int))).setCell ⟨w.heap.size+1,1,none⟩ (.int .i64 (k:Int))).setCell ⟨w.heap.size+1,2,none⟩ (.slice (some ⟨g1,0,none⟩) n c1)) a k n ws (.returned (.agg #[.int .i64 (a:Int),.int .i64 (k:Int),.slice (some ⟨g1,0,none⟩) n c1])):=by
 obtain ⟨A2,c2,e,hc,hm⟩:=ownG_form hO;injection e with e1 e2 e3;subst e1 e3;have hI:WdsIn w1 w1.heap.size (some ⟨g1,0,none⟩) n c1 ws:=⟨hl,hc,hm,Row.of_own hO⟩;have hgt:=ownG_lt hO rfl;have s1:=only_set1 w1 (w.heap.size+1) 0 (.int .i64 (a:Int));have s2:=only_set1 (w1.setCell ⟨w.heap.size+1,0,none⟩ (.int .i64 (a:Int))) (w.heap.size+1) 1 (.int .i64 (k:Int));have s3:=only_set1 ((w1.setCell ⟨w.heap.size+1,0,none⟩ (.int .i64 (a:Int))).setCell ⟨w.heap.size+1,1,none⟩ (.int .i64 (k:Int))) (w.heap.size+1) 2 (.slice (some ⟨g1,0,none⟩) n c1);have hne:0 < n→∀ p:Addr,some (⟨g1,0,none⟩:Addr)=some p→some (w.heap.size+1)≠some p.block:=fun _ p hp e=>by
  injection hp with hp;injection e with e;rw [← hp] at e;simp at e;omega
 refine ⟨_,_,rfl,WdsIn.grown (WdsIn.grown (WdsIn.grown hI s1 hne) s2 hne) s3 hne,fun _ p hp=>?_,?_⟩
 ·injection hp with hp;rw [← hp];have:w1.heap.size=(((w1.setCell ⟨w.heap.size+1,0,none⟩ (.int .i64 (a:Int))).setCell ⟨w.heap.size+1,1,none⟩ (.int .i64 (k:Int))).setCell ⟨w.heap.size+1,2,none⟩ (.slice (some ⟨g1,0,none⟩) n c1)).heap.size:=(by simp);exact ⟨by show w.heap.size≤g1;omega,by rw [← this];exact hgt⟩
 ·have b1:Below w.heap.size w w1:=below_next hb0 hb1;have hz:=b1.size;have b2:=b1.grown s1 hz (fun q hq=>by injection hq with hq;omega);have b3:=b2.grown s2 b2.size (fun q hq=>by injection hq with hq;omega);exact b3.grown s3 b3.size (fun q hq=>by injection hq with hq;omega)
theorem set3_cells {w:World} {g:Nat} {u0 u1 u2 v0 v1 v2:Value} (h0:w.cell? ⟨g,0,none⟩=some v0) (h1:w.cell? ⟨g,1,none⟩=some v1) (h2:w.cell? ⟨g,2,none⟩=some v2) :
  (w.setCell ⟨g,0,none⟩ u0).cell? ⟨g,0,none⟩=some u0∧((w.setCell ⟨g,0,none⟩ u0).setCell ⟨g,1,none⟩ u1).cell? ⟨g,1,none⟩=some u1∧(((w.setCell ⟨g,0,none⟩ u0).setCell ⟨g,1,none⟩ u1).setCell ⟨g,2,none⟩ u2).cell? ⟨g,2,none⟩=some u2:=by
 have a0:(w.setCell ⟨g,0,none⟩ u0).cell? ⟨g,0,none⟩=some u0:=World.cell?_setCell_same _ _ _ h0;have a1:(w.setCell ⟨g,0,none⟩ u0).cell? ⟨g,1,none⟩=some v1:=(World.cell?_setCell_other _ _ _ _ (by simp)).trans h1;have a2:(w.setCell ⟨g,0,none⟩ u0).cell? ⟨g,2,none⟩=some v2:=(World.cell?_setCell_other _ _ _ _ (by simp)).trans h2;have b2:((w.setCell ⟨g,0,none⟩ u0).setCell ⟨g,1,none⟩ u1).cell? ⟨g,2,none⟩=some v2:=(World.cell?_setCell_other _ _ _ _ (by simp)).trans a2;exact ⟨a0,World.cell?_setCell_same _ _ _ a1,World.cell?_setCell_same _ _ _ b2⟩
theorem puttingMark (a:Nat) (A:Option Addr) (n c:Nat) (ws:List Wd) (w:World) (hn1:1≤n) (hn:n≤1048576) (h:WdsIn w w.heap.size A n c ws) :
  Calls Tryz.prog 286 #[.agg #[.int .i64 (a:Int),.slice A n c]] w fun e w'=>MkOf w w' a 0 n ws e:=by
 have HC:Hid (∀ W,Below w.heap.size w W→Calls Tryz.prog 210 #[.slice A n c] W fun e w'=>∃ g c',e = .returned (.slice (some ⟨g,0,none⟩) n c')∧w'.ownsRow W.heap.size 9 1 (.slice (some ⟨g,0,none⟩) n c') n (ws.map strP)∧W.heap.size≤g∧Below W.heap.size W w'):=uH (fun W hW=>cloneWd1 A n c ws W hn1 hn (h.keep hW));have HL:=uH h.1;have HK:Hid (∀ W,Below (w.heap.size+2) ((w.alloc (.cells #[.int .i64 (a:Int),.slice A n c] 181)).alloc (.cells #[.int .i64 0,.int .i64 0,.slice none 0 0] 116)).drew W →
  (W.cell? ⟨w.heap.size+1,0,none⟩=some (.int .i64 0)∧W.frozen? ⟨w.heap.size+1,0,none⟩=false)∧(W.cell? ⟨w.heap.size+1,1,none⟩=some (.int .i64 0)∧W.frozen? ⟨w.heap.size+1,1,none⟩=false)∧(W.cell? ⟨w.heap.size+1,2,none⟩=some (.slice none 0 0)∧W.frozen? ⟨w.heap.size+1,2,none⟩=false) ∧
  W.cell? ⟨w.heap.size,0,none⟩=some (.int .i64 (a:Int))∧W.cell? ⟨w.heap.size,1,none⟩=some (.slice A n c)):=uH (fun W hW=>by
   have h1:Below ((w.alloc (.cells #[.int .i64 (a:Int),.slice A n c] 181)).alloc (.cells #[.int .i64 0,.int .i64 0,.slice none 0 0] 116)).heap.size ((w.alloc (.cells #[.int .i64 (a:Int),.slice A n c] 181)).alloc (.cells #[.int .i64 0,.int .i64 0,.slice none 0 0] 116)) W:=by
    have:=((Below.refl (w.heap.size+2) _).drew).trans hW;simpa using this
   have h2:Below (w.alloc (.cells #[.int .i64 (a:Int),.slice A n c] 181)).heap.size (w.alloc (.cells #[.int .i64 (a:Int),.slice A n c] 181)) W:=((Below.refl _ _).alloc (Nat.le_refl _) _).trans (h1.mono (by simp));have k0:=newKeep (w.alloc _) _ _ h1 0 _ rfl;have k1:=newKeep (w.alloc _) _ _ h1 1 _ rfl;have k2:=newKeep (w.alloc _) _ _ h1 2 _ rfl;simp only [World.size_alloc] at k0 k1 k2;exact ⟨k0,k1,k2,(newKeep w _ _ h2 0 _ rfl).1,(newKeep w _ _ h2 1 _ rfl).1⟩)
 clear h;go_enter Tryz.func286,Tryz.ntmps286
 (go_wp2_with fail);obtain ⟨⟨x0,xf0⟩,⟨x1,xf1⟩,⟨x2,xf2⟩,y0,y1⟩:=HK.out _ (Below.refl _ _);go_region_law (go_simp;go_at_call 210;refine (HC.out _ (by go_grown)).mono ?_;rintro e w1 ⟨g1,c1,rfl,hO1,hg1,hb1⟩;have hq1:=hb1;simp only [World.size_drew,World.size_alloc] at hq1;obtain ⟨⟨v0,vf0⟩,⟨v1,vf1⟩,⟨v2,vf2⟩,u0,u1⟩:=HK.out _ hq1;dsimp only)
 all_goals
  have HM:=uH (MkOf.set3 (a:=a) (k:=0) hO1 hg1 (by simp only [World.size_drew,World.size_alloc];omega) ((((Below.refl _ _).alloc (Nat.le_refl _) _).alloc (by simp) _).drew) hb1 HL.out);rw [show ((0:Nat):Int)=0 from rfl] at HM;obtain ⟨q0,q1,q2⟩:=set3_cells (u0:=.int .i64 (a:Int)) (u1:=.int .i64 0) (u2:=.slice (some ⟨g1,0,none⟩) n c1) v0 v1 v2;clear HC HK HL hq1 x0 xf0 x1 xf1 x2 xf2 y0 y1 hO1 hg1 hb1;go_wp2;refine bodyPost_ret (v:=.agg #[.int .i64 (a:Int),.int .i64 0,.slice (some ⟨g1,0,none⟩) n c1]) ?_ ?_ HM.out
  ·simp [results,Tryz.results286,go_sem,q0,q1,q2]
  ·rfl
set_option maxHeartbeats 3200000 in
theorem replacingMark (a k:Nat) (A:Option Addr) (n c:Nat) (ws:List Wd) (w:World) (hn1:1≤n) (hn:n≤1048576) (h:WdsIn w w.heap.size A n c ws) :
  Calls Tryz.prog 287 #[.agg #[.int .i64 (a:Int),.int .i64 (k:Int),.slice A n c]] w fun e w'=>MkOf w w' a k n ws e:=by
 have HC:Hid (∀ W,Below w.heap.size w W→Calls Tryz.prog 210 #[.slice A n c] W fun e w'=>∃ g c',e = .returned (.slice (some ⟨g,0,none⟩) n c')∧w'.ownsRow W.heap.size 9 1 (.slice (some ⟨g,0,none⟩) n c') n (ws.map strP)∧W.heap.size≤g∧Below W.heap.size W w'):=uH (fun W hW=>cloneWd1 A n c ws W hn1 hn (h.keep hW));have HL:=uH h.1;have HK:Hid (∀ W,Below (w.heap.size+2) ((w.alloc (.cells #[.int .i64 (a:Int),.int .i64 (k:Int),.slice A n c] 183)).alloc (.cells #[.int .i64 0,.int .i64 0,.slice none 0 0] 116)).drew W →
  (W.cell? ⟨w.heap.size+1,0,none⟩=some (.int .i64 0)∧W.frozen? ⟨w.heap.size+1,0,none⟩=false)∧(W.cell? ⟨w.heap.size+1,1,none⟩=some (.int .i64 0)∧W.frozen? ⟨w.heap.size+1,1,none⟩=false)∧(W.cell? ⟨w.heap.size+1,2,none⟩=some (.slice none 0 0)∧W.frozen? ⟨w.heap.size+1,2,none⟩=false) ∧
  W.cell? ⟨w.heap.size,0,none⟩=some (.int .i64 (a:Int))∧W.cell? ⟨w.heap.size,1,none⟩=some (.int .i64 (k:Int))∧W.cell? ⟨w.heap.size,2,none⟩=some (.slice A n c)):=uH (fun W hW=>by
   have h1:Below ((w.alloc (.cells #[.int .i64 (a:Int),.int .i64 (k:Int),.slice A n c] 183)).alloc (.cells #[.int .i64 0,.int .i64 0,.slice none 0 0] 116)).heap.size ((w.alloc (.cells #[.int .i64 (a:Int),.int .i64 (k:Int),.slice A n c] 183)).alloc (.cells #[.int .i64 0,.int .i64 0,.slice none 0 0] 116)) W:=by
    have:=((Below.refl (w.heap.size+2) _).drew).trans hW;simpa using this
   have h2:Below (w.alloc (.cells #[.int .i64 (a:Int),.int .i64 (k:Int),.slice A n c] 183)).heap.size (w.alloc (.cells #[.int .i64 (a:Int),.int .i64 (k:Int),.slice A n c] 183)) W:=((Below.refl _ _).alloc (Nat.le_refl _) _).trans (h1.mono (by simp));have k0:=newKeep (w.alloc _) _ _ h1 0 _ rfl;have k1:=newKeep (w.alloc _) _ _ h1 1 _ rfl;have k2:=newKeep (w.alloc _) _ _ h1 2 _ rfl;simp only [World.size_alloc] at k0 k1 k2;exact ⟨k0,k1,k2,(newKeep w _ _ h2 0 _ rfl).1,(newKeep w _ _ h2 1 _ rfl).1,(newKeep w _ _ h2 2 _ rfl).1⟩)
 clear h;go_enter Tryz.func287,Tryz.ntmps287
 (go_wp2_with fail);obtain ⟨⟨x0,xf0⟩,⟨x1,xf1⟩,⟨x2,xf2⟩,y0,y1,y2⟩:=HK.out _ (Below.refl _ _);go_region_law (go_simp;go_at_call 210;refine (HC.out _ (by go_grown)).mono ?_;rintro e w1 ⟨g1,c1,rfl,hO1,hg1,hb1⟩;have hq1:=hb1;simp only [World.size_drew,World.size_alloc] at hq1;obtain ⟨⟨v0,vf0⟩,⟨v1,vf1⟩,⟨v2,vf2⟩,u0,u1,u2⟩:=HK.out _ hq1;dsimp only)
 all_goals
  have HM:=uH (MkOf.set3 (a:=a) (k:=k) hO1 hg1 (by simp only [World.size_drew,World.size_alloc];omega) ((((Below.refl _ _).alloc (Nat.le_refl _) _).alloc (by simp) _).drew) hb1 HL.out);obtain ⟨q0,q1,q2⟩:=set3_cells (u0:=.int .i64 (a:Int)) (u1:=.int .i64 (k:Int)) (u2:=.slice (some ⟨g1,0,none⟩) n c1) v0 v1 v2;clear HC HK HL hq1 x0 xf0 x1 xf1 x2 xf2 y0 y1 y2 hO1 hg1 hb1;go_wp2;refine bodyPost_ret (v:=.agg #[.int .i64 (a:Int),.int .i64 (k:Int),.slice (some ⟨g1,0,none⟩) n c1]) (by simp [results,Tryz.results287,go_sem,q0,q1,q2]) rfl HM.out
theorem run_lhS {P:Program} {t:TypeId} {sz:Nat} (ht:P.underlying t=some (.slice (P.elem t))) (hs : ∀ w,(sizeOf (P.elem t)).run P w = .ok sz w) (a:Option Addr) (n c k h:Nat) (hk:k≤h) (hh:h≤c) (w:World) :
  (Instr.slice t (.slice a n c) (some (.int .i64 (k:Int))) (some (.int .i64 (h:Int))) none).run P w = .ok (.slice (fromB a k c sz) (h - k) (c - k)) w:=by
 rw [run_slice_lh w t a n c ht .i64 .i64 (k:Int) (h:Int) (by omega) (by omega) (by omega),hs];simp [Result.andThen,sliced,fromB]
theorem WdsIn.sub {w:World} {B n c k h:Nat} {A:Option Addr} {ws:List Wd} (H:WdsIn w B A n c ws) (hk:k≤h) (hh:h≤n):WdsIn w B (fromB A k c 1) (h - k) (c - k) ((ws.drop k).take (h - k)) :=
 (H.fromS (by omega)).upto (by omega)
theorem keepB2 {W W':World} {B:Nat} {a:Addr} {u:Value} (hb:Below B W W') (hB:a.block < B) (h:W.cell? a=some u∧W.frozen? a=false):W'.cell? a=some u∧W'.frozen? a=false:=⟨(hb.cell hB).trans h.1,(hb.frozen hB).trans h.2⟩
theorem keepRow {W W':World} {row:Option Nat} {b j:Nat} {u:Value} (hg:W.grownBy W' row) (hr:row≠some b) (h:W.cell? ⟨b,j,none⟩=some u∧W.frozen? ⟨b,j,none⟩=false):W'.cell? ⟨b,j,none⟩=some u∧W'.frozen? ⟨b,j,none⟩=false:=by
 have hlt:b < W.heap.size:=World.block_lt_of_cell? _ _ h.1;have hk:=hg.block b hlt (fun e=>hr e.symm);exact ⟨by rw [← h.1];exact World.cell?_of_block hk,by rw [← h.2];unfold World.frozen?;rw [hk]⟩
def FinAns (w w':World) (B bm:Nat) (v:Value) (D:List Mr) (op:Prop) (d:Mk):Prop :=
 (¬ op∧Below w.heap.size w w')∨(op∧∃ w1 v1 x,x.dat=d∧(0 < x.n→∀ p,x.A=some p→w.heap.size≤p.block)∧w'=w1.setCell ⟨bm,0,none⟩ v1∧w.grownBy w1 v.ownBlock∧MrOwn w1 B v1 (D++[x])∧(v1.ownBlock=v.ownBlock∨∃ q,v1.ownBlock=some q∧w.heap.size≤q))
def FinRow (w w1:World) (B:Nat) (v v1:Value) (D:List Mr) (d:Mk):Prop :=
 ∃ x,x.dat=d∧(0 < x.n→∀ p,x.A=some p→w.heap.size≤p.block)∧w.grownBy w1 v.ownBlock∧MrOwn w1 B v1 (D++[x])∧(v1.ownBlock=v.ownBlock∨∃ q,v1.ownBlock=some q∧w.heap.size≤q)
theorem FinRow.mk {w W w5:World} {B fA k m c4:Nat} {A4:Option Addr} {ws:List Wd} {v v5:Value} {D:List Mr} (b4:Below w.heap.size w W) (hO:MrOwn w B v D) (hI:WdsIn W W.heap.size A4 m c4 ws)
  (hn:0 < m→∀ p,A4=some p→w.heap.size≤p.block∧p.block < W.heap.size)
  (ho:w5.ownsRow B 116 3 v5 (D.length+1) (D.flatMap mkC++[.int .i64 (fA:Int),.int .i64 (k:Int),.slice A4 m c4]))
  (hg:W.grownBy w5 v.ownBlock) (hat:v5.ownBlock=v.ownBlock∨v5.ownBlock=some W.heap.size):FinRow w w5 B v v5 D ⟨fA,k,ws⟩:=by
 have hg5:w.grownBy w5 v.ownBlock:=⟨hg.os.trans b4.os,hg.tape.trans b4.tape,hg.output.trans b4.output,Nat.le_trans b4.size hg.size,fun q hq hne=>(hg.block q (Nat.lt_of_lt_of_le hq b4.size) hne).trans (b4.block q hq)⟩;have hP:MrOwn w5 B v5 (D++[(⟨fA,k,A4,m,c4,ws⟩:Mr)]):=MrOwn.push (x:=⟨fA,k,A4,m,c4,ws⟩) (hO.keep b4) hI (fun hp p hpA=>⟨fun e=>by
  have h1:=(hn hp p hpA).1;have h2:=ownG_lt hO.1 e;omega,(hn hp p hpA).2⟩) ho hg hat
 have hv:v5.ownBlock=v.ownBlock∨∃ q,v5.ownBlock=some q∧w.heap.size≤q:=hat.elim .inl (fun h=>.inr ⟨_,h,b4.size⟩);have hx:0 < (⟨fA,k,A4,m,c4,ws⟩:Mr).n→∀ p,(⟨fA,k,A4,m,c4,ws⟩:Mr).A=some p→w.heap.size≤p.block:=fun hp p hpA=>(hn hp p hpA).1;exact ⟨⟨fA,k,A4,m,c4,ws⟩,rfl,hx,hg5,hP,hv⟩
def NewWd (w W:World) (m:Nat) (ws:List Wd) (A4:Option Addr) (c4:Nat):Prop:=WdsIn W W.heap.size A4 m c4 ws∧(0 < m→∀ p,A4=some p→w.heap.size≤p.block∧p.block < W.heap.size)
theorem NewWd.keep {w W W':World} {m c4:Nat} {ws:List Wd} {A4:Option Addr} (h:NewWd w W m ws A4 c4) (hb:Below W.heap.size W W'):NewWd w W' m ws A4 c4 :=
 ⟨h.1.keep hb,fun hp p hpA=>⟨(h.2 hp p hpA).1,Nat.lt_of_lt_of_le (h.2 hp p hpA).2 hb.size⟩⟩
structure FinMid (L:Nat→Prop) (w W0 W:World) (v:Value) (fA k m:Nat) (A2:Option Addr) (c2:Nat) (ws:List Wd) (v24 v25 v26 v27 v28:Value):Prop where
 b:Below W0.heap.size W0 W
 h0:L 0→v24=v
 h1:L 1→v25 = .agg #[.int .i64 (fA:Int),.int .i64 (k:Int),.slice A2 m c2]
 h2:L 2→v26=chV fA k A2 m c2
 h3:L 3→∃ A4 c4,v27 = .agg #[.int .i64 (fA:Int),.int .i64 (k:Int),.slice A4 m c4]∧NewWd w W m ws A4 c4
 h4:L 4→∃ q A4 c4,v28 = .slice (some ⟨q,0,none⟩) 1 1∧Row W W.heap.size (some ⟨q,0,none⟩) 1 3 [.int .i64 (fA:Int),.int .i64 (k:Int),.slice A4 m c4]∧NewWd w W m ws A4 c4
 c2:L 2→L 1
 c3:L 3→L 2
 c4:L 4→L 3
def FinInv (w W0:World) (B bm fA k m c2:Nat) (A2:Option Addr) (ws:List Wd) (v:Value) (D:List Mr) (op:Prop) (pre:Array Value) (L:Nat→Prop) (a:Act) (W:World):Prop :=
 ∃ v24 v25 v26 v27 v28 v29:Value,a=⟨pre++#[v24,v25,v26,v27,v28,v29],[]⟩ ∧
  ((¬ L 5∧¬ L 6∧FinMid L w W0 W v fA k m A2 c2 ws v24 v25 v26 v27 v28)∨((∀ j,j < 6→L j)∧¬ L 6∧FinRow w W B v v29 D ⟨fA,k,ws⟩∧W.cell? ⟨bm,0,none⟩=some v∧W.frozen? ⟨bm,0,none⟩=false)∨((∀ j,j < 7→L j)∧FinAns w W B bm v D op ⟨fA,k,ws⟩))
set_option maxHeartbeats 3200000 in
theorem finishC (bi bA bj bB bb bm i fA j fB B:Nat) (A:Option Addr) (n c:Nat) (b:List Wd) (v:Value) (D:List Mr) (w:World)
  (ci:w.cell? ⟨bi,0,none⟩=some (.int .i64 (i:Int))) (cA:w.cell? ⟨bA,0,none⟩=some (.int .i64 (fA:Int))) (cj:w.cell? ⟨bj,0,none⟩=some (.int .i64 (j:Int))) (cB:w.cell? ⟨bB,0,none⟩=some (.int .i64 (fB:Int)))
  (cb:w.cell? ⟨bb,0,none⟩=some (.slice A n c)) (cm:w.cell? ⟨bm,0,none⟩=some v∧w.frozen? ⟨bm,0,none⟩=false)
  (h:WdsIn w w.heap.size A n c b) (hO:MrOwn w B v D) (hne:v.ownBlock≠some bm) (hB:B≤w.heap.size) (h1:fA≤i) (h2:i≤20) (h3:fB≤j) (h4:j≤n) (h5:n≤20) (hD:D.length≤40) :
  Calls Tryz.prog 68 #[.pointer (some ⟨bi,0,none⟩),.pointer (some ⟨bA,0,none⟩),.pointer (some ⟨bj,0,none⟩),.pointer (some ⟨bB,0,none⟩),.pointer (some ⟨bb,0,none⟩),.pointer (some ⟨bm,0,none⟩)] w fun e w' =>
   e = .returned (.tuple #[])∧FinAns w w' B bm v D (fA < i∨fB < j) ⟨fA,i - fA,(b.drop fB).take (j - fB)⟩:=by
 obtain ⟨i0,hi,hz0,hz1,hz2⟩:=info_parts infoMk;have hnc:=h.2.1;have hbm:bm < w.heap.size:=World.block_lt_of_cell? _ _ cm.1;by_cases hop:fA < i∨fB < j
 ·have hlh:=fun W=>run_lhS (P:=Tryz.prog) elemW sizeW A n c fB j h3 (by omega) W;have HS:=uH (h.sub h3 h4);have HO:=uH hO;clear h hO;go_enter Tryz.func68,Tryz.ntmps68
  go_upto_region 0 with fail
  go_cut [14] (fun c14 wx=>w=wx∧Value.bool true=c14)
  case first =>
   by_cases e1:fA < i
   ·have e1':(fA:Int) < (i:Int):=(by omega);go_wp2
    go_meet
    exact ⟨rfl,rfl⟩
   ·have e1' : ¬ (fA:Int) < (i:Int):=(by omega);have e2':(fB:Int) < (j:Int):=(by omega);go_wp2
    go_meet
    exact ⟨rfl,rfl⟩
  case rest =>
   obtain ⟨rfl,rfl⟩:=hcut;have r1:(0:Int)≤(i:Int) - (fA:Int):=(by omega);have r2:(i:Int) - (fA:Int)≤20:=(by omega);have hk:(i:Int) - (fA:Int)=((i - fA:Nat):Int):=(by omega);have hm2:j - fB≤maxLen:=(by unfold maxLen;omega);have hm3:j - fB≤20:=(by omega);have hal:Below w.heap.size w (w.alloc (.cells #[.int .i64 0,.int .i64 0,.slice none 0 0] 116)):=(Below.refl _ _).alloc (Nat.le_refl _) _;have ai:=kcell hal ci;have aA:=kcell hal cA;have aj:=kcell hal cj;have aB:=kcell hal cB;have ab:=kcell hal cb
   go_upto_region 1 with fail
   go_cut [6] (fun s6 wx=>∃ W0:World,W0=wx∧s6 = .pointer (some ⟨w.heap.size,0,none⟩)∧Below w.heap.size w W0∧W0.cell? ⟨w.heap.size,0,none⟩=some (.int .i64 (fA:Int))∧W0.cell? ⟨w.heap.size,1,none⟩=some (.int .i64 ((i - fA:Nat):Int))∧W0.cell? ⟨w.heap.size,2,none⟩=some (.slice (fromB A fB c 1) (j - fB) (c - fB)))
   case first =>
    go_region
    all_goals
     go_wp2_with fail
     go_meet
     exact ⟨_,rfl,rfl,((Below.refl _ _).alloc (Nat.le_refl _) _).drew,newcell w _ _ 0 _ rfl,newcell w _ _ 1 _ rfl,newcell w _ _ 2 _ rfl⟩
   case rest =>
    obtain ⟨W0,rfl,rfl,hal2,x0,x1,x2⟩:=hcut;have HBx:=uH hal2;have HB2:=uH hal2.drew;have cm2:=keepB2 hal2.drew hbm cm
    replace x0:W0.drew.cell? ⟨w.heap.size,0,none⟩=some (.int .i64 (fA:Int)):=x0
    replace x1:W0.drew.cell? ⟨w.heap.size,1,none⟩=some (.int .i64 ((i - fA:Nat):Int)):=x1
    replace x2:W0.drew.cell? ⟨w.heap.size,2,none⟩=some (.slice (fromB A fB c 1) (j - fB) (c - fB)):=x2
    clear hk r1 r2;have Hfin:Hid (∀ W,FinAns w W B bm v D (fA < i∨fB < j) ⟨fA,i - fA,(b.drop fB).take (j - fB)⟩→FinAns w W B bm v D (fA < i∨fB < j) ⟨fA,i - fA,(b.drop fB).take (j - fB)⟩):=uH (fun _ h=>h);obtain ⟨k,hk⟩ : ∃ k,k=i - fA:=⟨_,rfl⟩;obtain ⟨m,hm⟩ : ∃ m,m=j - fB:=⟨_,rfl⟩;obtain ⟨ws,hws⟩ : ∃ ws,ws=(b.drop fB).take (j - fB):=⟨_,rfl⟩;obtain ⟨c2,hc2⟩ : ∃ c2,c2=c - fB:=⟨_,rfl⟩;obtain ⟨A2,hA2⟩ : ∃ A2,A2=fromB A fB c 1:=⟨_,rfl⟩;have HF0:Hid (∀ W,FinAns w W B bm v D (fA < i∨fB < j) ⟨fA,k,ws⟩→FinAns w W B bm v D (fA < i∨fB < j) ⟨fA,i - fA,(b.drop fB).take (j - fB)⟩):=uH (fun _ h=>by rw [hk,hws] at h;exact h);rw [← hk] at x1;rw [← hm,← hc2,← hA2] at x2 HS;rw [← hm] at hm2 hm3;rw [hm,← hws,← hm] at HS;clear Hfin hk hm hws hc2 hA2;have HCh:Hid (∀ W,Calls Tryz.prog 69 #[.agg #[.int .i64 (fA:Int),.int .i64 (k:Int),.slice A2 m c2]] W fun e w'=>e = .returned (chV fA k A2 m c2)∧Below W.heap.size W w'):=uH (fun W=>changeOf fA k A2 m c2 W hm2);have HMl:Hid (∀ W,m=0→Calls Tryz.prog 285 #[.agg #[.int .i64 (fA:Int),.int .i64 (k:Int)]] W fun e w'=>MkOf W w' fA k m ws e):=uH (fun W e=>by subst e;rw [List.length_eq_zero_iff.1 HS.out.1];exact leavingMark fA k W);have HMp:Hid (∀ W,Below w.heap.size w W→1≤m→Calls Tryz.prog 286 #[.agg #[.int .i64 (fA:Int),.slice A2 m c2]] W fun e w'=>MkOf W w' fA 0 m ws e):=uH (fun W hW e=>puttingMark fA A2 m c2 ws W e (by omega) (HS.out.keep hW));have HMr:Hid (∀ W,Below w.heap.size w W→1≤m→Calls Tryz.prog 287 #[.agg #[.int .i64 (fA:Int),.int .i64 (k:Int),.slice A2 m c2]] W fun e w'=>MkOf W w' fA k m ws e):=uH (fun W hW e=>replacingMark fA k A2 m c2 ws W e (by omega) (HS.out.keep hW));clear hlh HS ai aA aj aB ab hal hal2 ci cA cj cB cb HBx;(go_wp2_with fail);have hcb:bm < W0.drew.heap.size:=Nat.lt_of_lt_of_le hbm HB2.out.size;refine wp_region_inv (by kernel_rfl) (FinInv w W0.drew B bm fA k m c2 A2 ws v D (fA < i∨fB < j) #[.pointer (some ⟨bi,0,none⟩),.pointer (some ⟨bA,0,none⟩),.pointer (some ⟨bj,0,none⟩),.pointer (some ⟨bB,0,none⟩),.pointer (some ⟨bb,0,none⟩),.pointer (some ⟨bm,0,none⟩),.pointer (some ⟨w.heap.size,0,none⟩),u7,u8,u9,u10,u11,u12,u13,u14,u15,u16,u17,u18,u19,u20,u21,u22,u23]) (by kernel_rfl) ?_ ?_ ?_
    ·exact ⟨u24,u25,u26,u27,u28,u29,rfl,.inl ⟨id,id,⟨Below.refl _ _,nofun,nofun,nofun,nofun,nofun,nofun,nofun,nofun⟩⟩⟩
    ·rintro L a W hall ⟨v24,v25,v26,v27,v28,v29,rfl,hI⟩;rcases hI with ⟨hn,_⟩ | ⟨_,hn,_⟩ | ⟨_,hF⟩
     ·exact absurd (hall 5 (by decide)) hn
     ·exact absurd (hall 6 (by decide)) hn
     ·have HF:=uH hF;clear hF HCh HMl HMp HMr HO HB2 cm2 x0 x1 x2 hall cm;go_wp2;go_returns;exact ⟨rfl,HF0.out _ HF.out⟩
    ·rintro L i7 a W hi7 hn ha ⟨v24,v25,v26,v27,v28,v29,rfl,hI⟩;have hi':i7 < 7:=hi7;rcases hI with ⟨h5n,h6n,hM⟩ | ⟨hall,h6n,hF,kc,kf⟩ | ⟨hall,_⟩
     ·have hc:i7=0∨i7=1∨i7=2∨i7=3∨i7=4∨i7=5∨i7=6:=(by omega);have k0:=kcell hM.b x0;have k1:=kcell hM.b x1;have k2:=kcell hM.b x2;have km:=keepB2 hM.b hcb cm2;have km1:=km.1;have hbW:=HB2.out.trans (hM.b.mono HB2.out.size);clear hi7 hi';rcases hc with rfl | rfl | rfl | rfl | rfl | rfl | rfl
      ·refine wpOp_step rfl (fun K hK=>?_);go_simp;refine hK _ _ ?_;exact ⟨_,_,_,_,_,_,rfl,.inl ⟨fun h=>h5n (h.resolve_left (by decide)),fun h=>h6n (h.resolve_left (by decide)),⟨hM.b,fun _=>rfl,or_l (by decide) hM.h1,or_l (by decide) hM.h2,or_l (by decide) hM.h3,or_l (by decide) hM.h4,or_l (by decide) fun h=>.inr (hM.c2 h),or_l (by decide) fun h=>.inr (hM.c3 h),or_l (by decide) fun h=>.inr (hM.c4 h)⟩⟩⟩
      ·refine wpOp_step rfl (fun K hK=>?_);go_simp;refine hK _ _ ?_;exact ⟨_,_,_,_,_,_,rfl,.inl ⟨fun h=>h5n (h.resolve_left (by decide)),fun h=>h6n (h.resolve_left (by decide)),⟨hM.b,or_l (by decide) hM.h0,fun _=>rfl,or_l (by decide) hM.h2,or_l (by decide) hM.h3,or_l (by decide) hM.h4,or_l (by decide) fun h=>.inr (hM.c2 h),or_l (by decide) fun h=>.inr (hM.c3 h),or_l (by decide) fun h=>.inr (hM.c4 h)⟩⟩⟩
      ·have l1:=ha 1 (by kernel_rfl);obtain rfl:=hM.h1 l1;refine wpOp_step rfl (fun K hK=>?_);go_simp;refine (HCh.out _).mono ?_;rintro e W3 ⟨rfl,hb3⟩;refine hK _ _ ?_;exact ⟨_,_,_,_,_,_,rfl,.inl ⟨fun h=>h5n (h.resolve_left (by decide)),fun h=>h6n (h.resolve_left (by decide)),⟨below_next hM.b hb3,or_l (by decide) hM.h0,or_l (by decide) hM.h1,fun _=>rfl,or_l (by decide) fun h=>absurd (hM.c3 h) hn,or_l (by decide) fun h=>absurd (hM.c3 (hM.c4 h)) hn,fun _=>.inr l1,or_l (by decide) fun h=>.inr (hM.c3 h),or_l (by decide) fun h=>.inr (hM.c4 h)⟩⟩⟩
      ·have l2:=ha 2 (by kernel_rfl);have hv26:=hM.h2 l2;by_cases hm0:m=0
       ·have hch:chV fA k A2 m c2 = .iface 179 (.agg #[.int .i64 (fA:Int),.int .i64 (k:Int)]):=if_pos hm0;rw [hch] at hv26;subst hv26;clear x0 x1 x2 cm cm2 km km1 k0 k1 k2;have hv26:=uH hch.symm;clear hch;refine wpOp_step rfl (fun K hK=>?_);go_simp
        go_invoke
        go_simp
        go_at_call 285
        refine (HMl.out _ hm0).mono ?_;rintro e W4 ⟨A4,c4,rfl,hI4,hn4,hb4⟩;refine hK _ _ ?_;have hN:NewWd w W4 m ws A4 c4:=⟨hI4,fun hp p hpA=>⟨Nat.le_trans hbW.size (hn4 hp p hpA).1,(hn4 hp p hpA).2⟩⟩;exact ⟨_,_,_,_,_,_,rfl,.inl ⟨fun h=>h5n (h.resolve_left (by decide)),fun h=>h6n (h.resolve_left (by decide)),⟨below_next hM.b hb4,or_l (by decide) hM.h0,or_l (by decide) hM.h1,or_l (by decide) (fun _=>hv26.out),fun _=>⟨A4,c4,rfl,hN⟩,or_l (by decide) fun h=>absurd (hM.c4 h) hn,or_l (by decide) fun h=>.inr (hM.c2 h),fun _=>.inr l2,or_l (by decide) fun h=>.inr (hM.c4 h)⟩⟩⟩
       ·by_cases hk0:k=0
        ·have hch:chV fA k A2 m c2 = .iface 181 (.agg #[.int .i64 (fA:Int),.slice A2 m c2]):=(by unfold chV;rw [if_neg hm0,if_pos hk0]);rw [hch] at hv26;subst hv26;clear x0 x1 x2 cm cm2 km km1 k0 k1 k2;have hv26:=uH hch.symm;clear hch;have hq:=HMp.out W hbW (by omega);rw [← hk0] at hq;refine wpOp_step rfl (fun K hK=>?_);go_simp
         go_invoke
         go_simp
         go_at_call 286
         refine (hq).mono ?_;rintro e W4 ⟨A4,c4,rfl,hI4,hn4,hb4⟩;refine hK _ _ ?_;have hN:NewWd w W4 m ws A4 c4:=⟨hI4,fun hp p hpA=>⟨Nat.le_trans hbW.size (hn4 hp p hpA).1,(hn4 hp p hpA).2⟩⟩;exact ⟨_,_,_,_,_,_,rfl,.inl ⟨fun h=>h5n (h.resolve_left (by decide)),fun h=>h6n (h.resolve_left (by decide)),⟨below_next hM.b hb4,or_l (by decide) hM.h0,or_l (by decide) hM.h1,or_l (by decide) (fun _=>hv26.out),fun _=>⟨A4,c4,rfl,hN⟩,or_l (by decide) fun h=>absurd (hM.c4 h) hn,or_l (by decide) fun h=>.inr (hM.c2 h),fun _=>.inr l2,or_l (by decide) fun h=>.inr (hM.c4 h)⟩⟩⟩
        ·have hch:chV fA k A2 m c2 = .iface 183 (.agg #[.int .i64 (fA:Int),.int .i64 (k:Int),.slice A2 m c2]):=(by unfold chV;rw [if_neg hm0,if_neg hk0]);rw [hch] at hv26;subst hv26;clear x0 x1 x2 cm cm2 km km1 k0 k1 k2;have hv26:=uH hch.symm;clear hch;refine wpOp_step rfl (fun K hK=>?_);go_simp
         go_invoke
         go_simp
         go_at_call 287
         refine (HMr.out W hbW (by omega)).mono ?_;rintro e W4 ⟨A4,c4,rfl,hI4,hn4,hb4⟩;refine hK _ _ ?_;have hN:NewWd w W4 m ws A4 c4:=⟨hI4,fun hp p hpA=>⟨Nat.le_trans hbW.size (hn4 hp p hpA).1,(hn4 hp p hpA).2⟩⟩;exact ⟨_,_,_,_,_,_,rfl,.inl ⟨fun h=>h5n (h.resolve_left (by decide)),fun h=>h6n (h.resolve_left (by decide)),⟨below_next hM.b hb4,or_l (by decide) hM.h0,or_l (by decide) hM.h1,or_l (by decide) (fun _=>hv26.out),fun _=>⟨A4,c4,rfl,hN⟩,or_l (by decide) fun h=>absurd (hM.c4 h) hn,or_l (by decide) fun h=>.inr (hM.c2 h),fun _=>.inr l2,or_l (by decide) fun h=>.inr (hM.c4 h)⟩⟩⟩
      ·have l3:=ha 3 (by kernel_rfl);obtain ⟨A4,c4,rfl,hN⟩:=hM.h3 l3;refine wpOp_step rfl (fun K hK=>?_);go_simp;refine hK _ _ ?_;have hb4:Below W.heap.size W (W.alloc (.cells #[.int .i64 (fA:Int),.int .i64 (k:Int),.slice A4 m c4] 116)):=(Below.refl _ _).alloc (Nat.le_refl _) _;have hr4:=(rowNewMk W (.int .i64 (fA:Int)) (.int .i64 (k:Int)) (.slice A4 m c4) 116).more (show W.heap.size+1≤(W.alloc (.cells #[.int .i64 (fA:Int),.int .i64 (k:Int),.slice A4 m c4] 116)).heap.size by simp);exact ⟨_,_,_,_,_,_,rfl,.inl ⟨fun h=>h5n (h.resolve_left (by decide)),fun h=>h6n (h.resolve_left (by decide)),⟨below_next hM.b hb4,or_l (by decide) hM.h0,or_l (by decide) hM.h1,or_l (by decide) hM.h2,or_l (by decide) (fun _=>⟨A4,c4,rfl,hN.keep hb4⟩),fun _=>⟨_,A4,c4,rfl,hr4,hN.keep hb4⟩,or_l (by decide) fun h=>.inr (hM.c2 h),or_l (by decide) fun h=>.inr (hM.c3 h),fun _=>.inr l3⟩⟩⟩
      ·have l4:=ha 4 (by kernel_rfl);have l0:=ha 0 (by kernel_rfl);obtain ⟨q,A4,c4,rfl,hr4,hN⟩:=hM.h4 l4;obtain rfl:=hM.h0 l0;refine wpOp_step rfl (fun K hK=>?_);refine step_append_any _ rfl (.tmp 24) (.tmp 28) 41 rfl B 116 i0 _ 3 40 Tryz.underlying41 hi hz0 hz1 hz2 rfl (by omega) v24 D.length (D.flatMap mkC) rfl (HO.out.keep hbW).1 W.heap.size (some ⟨q,0,none⟩) 1 1 [.int .i64 (fA:Int),.int .i64 (k:Int),.slice A4 m c4] rfl hr4 (by simp [Value.oneCell']) (by unfold maxLen;omega) (by omega) (Nat.le_trans hB hbW.size) ?_;intro v5 w5 hown5 hg5 hat5;refine hK _ _ ?_;have hF:=FinRow.mk hbW HO.out hN.1 hN.2 hown5 hg5 hat5;have km5:=keepRow hg5 hne km;refine ⟨_,_,_,_,_,_,rfl,.inr (.inl ⟨fun j hj=>?_,fun h=>h6n (h.resolve_left (by decide)),hF,km5⟩)⟩;have hj':j=0∨j=1∨j=2∨j=3∨j=4∨j=5:=(by omega);rcases hj' with rfl | rfl | rfl | rfl | rfl | rfl
       ·exact .inr l0
       ·exact .inr (hM.c2 (hM.c3 (hM.c4 l4)))
       ·exact .inr (hM.c3 (hM.c4 l4))
       ·exact .inr (hM.c4 l4)
       ·exact .inr l4
       ·exact .inl rfl
      ·exact absurd (ha 5 (by kernel_rfl)) h5n
     ·have hi6:i7=6:=by
       rcases Nat.lt_or_ge i7 6 with h | h
       ·exact absurd (hall i7 h) hn
       ·omega
      subst hi6;clear hi7 hi';obtain ⟨x,hd,hx,hg,hO5,hv5⟩:=hF;obtain ⟨A6,c6,rfl,hc6,hm6⟩:=ownG_form hO5.1;have eL:(D++[x]).length=D.length+1:=(by simp);rw [eL] at hO5 hv5;clear eL;refine wpOp_step rfl (fun K hK=>?_);go_simp;refine hK _ _ ?_;refine ⟨_,_,_,_,_,_,rfl,.inr (.inr ⟨fun j hj=>?_,.inr ⟨hop,W,_,x,hd,hx,rfl,hg,hO5,hv5⟩⟩)⟩;rcases Nat.lt_or_ge j 6 with h | h
      ·exact .inr (hall j h)
      ·exact .inl (by omega)
     ·exact absurd (hall i7 hi') hn
 ·have e1 : ¬ (fA:Int) < (i:Int):=(by omega);have e2 : ¬ (fB:Int) < (j:Int):=(by omega);clear h hO;go_enter Tryz.func68,Tryz.ntmps68
  go_wp2;go_returns;exact ⟨rfl,.inl ⟨by first | exact hop | exact id,by go_grown⟩⟩
end Go.Proofs.YtbkhnljaajajiaaGreatDoor
