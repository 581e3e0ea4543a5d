/-
  Contracts and plain laws that the proofs lean on. Conditions: as each says.
-/
import Derived.Test.YtbkhnljaajajiaaGreatDoorPX13
import Derived.Shelf.Abstract
set_option maxRecDepth 100000
set_option linter.unusedSimpArgs false
set_option linter.unusedVariables false
set_option linter.unnecessarySimpa false
namespace Go.Proofs.YtbkhnljaajajiaaGreatDoor
open Go.ChangeShapes Go.WideShapes Go.ChangeAt Go.RowKit
theorem l6In_yes (n b:Nat) (w:World) (h:n≤b):Calls Tryz.prog 134 #[.int .i64 (n:Int),.int .i64 0,.int .i64 (b:Int)] w fun e w'=>e = .returned (.bool true)∧w=w' :=
 (l6In_any _ _ _ _).mono fun e w' ⟨he,hw⟩=>⟨by rw [he];exact ret_bool (decide_eq_true (by omega)),hw⟩
theorem l6In_no (n b:Nat) (w:World) (h : ¬ n≤b):Calls Tryz.prog 134 #[.int .i64 (n:Int),.int .i64 0,.int .i64 (b:Int)] w fun e w'=>e = .returned (.bool false)∧w=w' :=
 (l6In_any _ _ _ _).mono fun e w' ⟨he,hw⟩=>⟨by rw [he];exact ret_bool (decide_eq_false (by omega)),hw⟩
set_option maxHeartbeats 800000 in
theorem specL7Mark (n:Nat) (x:Mr) (w:World) (hn:n≤20) (hs:SmM x) (hW : ∀ l∈x.put,l.length≤maxLen) (hx:MrIn w w.heap.size x) :
  Calls Tryz.prog 227 #[.int .i64 (n:Int),.agg #[.int .i64 (x.at_:Int),.int .i64 (x.cut:Int),.slice x.A x.n x.c]] w fun e w'=>e = .returned (.bool (mkB n x.dat))∧Below w.heap.size w w':=by
 have hb:=boxM x w;have HS:=uH (specSpeechValid x.A x.n x.c x.put _ hW (WdsIn.keep hx hb));have HL:Hid (x.put.length=x.n):=uH hx.1;have s1:=hs.1;have s2:=hs.2.1;have s3:=hs.2.2;clear hx hW hs;by_cases h1:x.at_≤n
 ·have HI1:=uH (fun W=>l6In_yes x.at_ n W h1);have k1:(x.at_:Int)≤(n:Int):=(by omega);have es:(n:Int) - (x.at_:Int)=((n - x.at_:Nat):Int):=(by omega);have Hes:=uH es;by_cases h2:x.cut≤n - x.at_
  ·have HI2:=uH (fun W=>l6In_yes x.cut (n - x.at_) W h2);rw [← es] at HI2;cases h3:spB x.put with
   | false =>
    have HR:Hid (mkB n x.dat=false):=uH (mkB_no3 h3);rw [h3] at HS;clear h3 es;go_enter Tryz.func227,Tryz.ntmps227
    (go_wp2_with fail);refine (HI1.out _).mono ?_;rintro e w1 ⟨rfl,rfl⟩;(go_wp2_with fail);refine (HI2.out _).mono ?_;rintro e w1 ⟨rfl,rfl⟩;(go_wp2_with fail);refine HS.out.mono ?_;rintro e w1 ⟨rfl,rfl⟩;go_wp2;go_returns;exact ⟨ret_bool HR.out.symm,hb⟩
   | true =>
    rw [h3] at HS;by_cases h4:x.cut=0∧x.put.length=0
    ·have HR:Hid (mkB n x.dat=false):=uH (mkB_no4 h4.1 h4.2);have e4 : ¬ (0:Int) < (x.cut:Int)+(x.n:Int):=(by have:=HL.out;omega);clear h3 h4 es;go_enter Tryz.func227,Tryz.ntmps227
     (go_wp2_with fail);refine (HI1.out _).mono ?_;rintro e w1 ⟨rfl,rfl⟩;(go_wp2_with fail);refine (HI2.out _).mono ?_;rintro e w1 ⟨rfl,rfl⟩;(go_wp2_with fail);refine HS.out.mono ?_;rintro e w1 ⟨rfl,rfl⟩;go_wp2;go_returns;exact ⟨ret_bool (by rw [HR.out];exact decide_eq_false (by omega)),hb⟩
    ·have HR:Hid (mkB n x.dat=true):=uH (mkB_yes h1 h2 h3 h4);have e4:(0:Int) < (x.cut:Int)+(x.n:Int):=(by have:=HL.out;omega);clear h3 h4 es;go_enter Tryz.func227,Tryz.ntmps227
     (go_wp2_with fail);refine (HI1.out _).mono ?_;rintro e w1 ⟨rfl,rfl⟩;(go_wp2_with fail);refine (HI2.out _).mono ?_;rintro e w1 ⟨rfl,rfl⟩;(go_wp2_with fail);refine HS.out.mono ?_;rintro e w1 ⟨rfl,rfl⟩;go_wp2;go_returns;exact ⟨ret_bool HR.out.symm,hb⟩
  ·have HI2:=uH (fun W=>l6In_no x.cut (n - x.at_) W h2);rw [← es] at HI2;have HR:Hid (mkB n x.dat=false):=uH (mkB_no2 h2 h1);clear es h2 HS;go_enter Tryz.func227,Tryz.ntmps227
   (go_wp2_with fail);refine (HI1.out _).mono ?_;rintro e w1 ⟨rfl,rfl⟩;(go_wp2_with fail);refine (HI2.out _).mono ?_;rintro e w1 ⟨rfl,rfl⟩;go_wp2;go_returns;exact ⟨ret_bool HR.out.symm,hb⟩
 ·have HI1:=uH (fun W=>l6In_no x.at_ n W h1);have HR:Hid (mkB n x.dat=false):=uH (mkB_no1 h1);clear h1 HS;go_enter Tryz.func227,Tryz.ntmps227
  (go_wp2_with fail);refine (HI1.out _).mono ?_;rintro e w1 ⟨rfl,rfl⟩;go_wp2;go_returns;exact ⟨ret_bool HR.out.symm,hb⟩
set_option maxHeartbeats 1600000 in
theorem specMarksValid (A:Option Addr) (n c:Nat) (ws:List Wd) (A':Option Addr) (n' c':Nat) (xs:List Mr) (w:World) (hW : ∀ l∈ws,l.length≤maxLen) (hX:OkMs xs) (h:WdsIn w w.heap.size A n c ws) (h':MrsIn w w.heap.size A' n' c' xs) :
  Calls Tryz.prog 188 #[.slice A n c,.slice A' n' c'] w fun e w'=>e = .returned (.bool (marksB ws (xs.map Mr.dat)))∧Below w.heap.size w w':=by
 have HS:=uH (specSpeechValid A n c ws w hW h);have HL:=uH h.1;have HL':=uH h'.1;have H':=uH h';have HX:=uH hX;clear h h' hW hX;cases hA:spB ws with
 | false =>
  have HR:Hid (marksB ws (xs.map Mr.dat)=false):=uH (marks_sp hA);rw [hA] at HS;clear hA;go_enter Tryz.func188,Tryz.ntmps188
  (go_wp2_with fail);refine HS.out.mono ?_;rintro e w1 ⟨rfl,rfl⟩;go_wp2;go_ret;exact ⟨ret_bool HR.out.symm,Below.refl _ _⟩
 | true =>
 have h20:n≤20:=(by have:=(spB_iff.1 hA).2;rw [HL.out] at this;exact this);by_cases hm:20 < n'
 ·have HR:Hid (marksB ws (xs.map Mr.dat)=false):=uH (marks_many (by rw [List.length_map,HL'.out];exact hm));rw [hA] at HS;clear hA;go_enter Tryz.func188,Tryz.ntmps188
  (go_wp2_with fail);refine HS.out.mono ?_;rintro e w1 ⟨rfl,rfl⟩;go_wp2;go_ret;exact ⟨ret_bool HR.out.symm,Below.refl _ _⟩
 ·have HE:Hid (∀ k,k < n'→¬ gapG n (xs.map Mr.dat) k→marksB ws (xs.map Mr.dat)=false):=uH (fun k hk h=>marks_no (k:=k) (by rw [List.length_map,HL'.out];exact hk) (by rw [HL.out];exact h));have HY:Hid (GapK n (xs.map Mr.dat) n'→marksB ws (xs.map Mr.dat)=decide (lenI n ((xs.map Mr.dat).take n')≤20)):=uH (fun h=>by
   have e1:(xs.map Mr.dat).length=n':=(by rw [List.length_map,HL'.out]);have:=marks_end (ms:=xs.map Mr.dat) hA (by rw [e1];omega) (by rw [HL.out,e1];exact h)
   rwa [e1,HL.out] at this)
  have HB:Hid (∀ k,k≤n'→(n:Int) - 1000 * (k:Int)≤lenI n ((xs.map Mr.dat).take k)∧lenI n ((xs.map Mr.dat).take k)≤(n:Int)+1000 * (k:Int)):=uH (fun k hk=>lenI_bound (fun m hm=>by
   obtain ⟨x,hx,rfl⟩:=List.mem_map.1 hm;have h1:=(HX.out x hx).1;have h2:=(H'.out.2.2.2.2 x hx).1;simp only [Mr.dat];exact ⟨h1.2.1,by rw [h2];exact h1.2.2⟩) k (by rw [List.length_map,HL'.out];exact hk))
  rw [hA] at HS;clear hA;have HL0:Hid (lenI n ((xs.map Mr.dat).take 0)=(n:Int)):=uH rfl;have HDat:Hid (∀ k,k < n'→mkAt (xs.map Mr.dat) k=(mrAt xs k).dat):=uH (fun k hk=>mrAt_dat (by rw [HL'.out];exact hk));have HLs:Hid (∀ k,k < n'→lenI n ((xs.map Mr.dat).take (k+1))=lenI n ((xs.map Mr.dat).take k) - ((mrAt xs k).cut:Int)+((mrAt xs k).n:Int)):=uH (fun k hk=>by
   rw [lenI_succ (by rw [List.length_map,HL'.out];exact hk),HDat.out k hk];simp only [Mr.dat];rw [(H'.out.2.2.2.2 _ (mrAt_mem (xs:=xs) (k:=k) (by rw [HL'.out];exact hk))).1])
  generalize marksB ws (xs.map Mr.dat)=T at *;go_enter Tryz.func188,Tryz.ntmps188
  (go_wp2_with fail);refine HS.out.mono ?_;rintro e w1 ⟨rfl,rfl⟩;go_wp2;go_loopw [5,6] (fun s5 s6 wr=>∃ k:Nat,k≤n'∧s5 = .int .i64 (lenI n ((xs.map Mr.dat).take k))∧s6 = .int .i64 k∧Hid (GapK n (xs.map Mr.dat) k)∧Below w.heap.size w wr) (fun _ i _=>n' - (intOf i).toNat)
  case atStart=>exact ⟨0,Nat.zero_le _,by rw [HL0.out],rfl,uH (fun i hi=>by omega),Below.refl _ _⟩
  case round =>
   obtain ⟨k,hk,rfl,rfl,HK,hb⟩:=hrel;by_cases hlt:k < n'
   ·have hx:=(H'.out.keep hb).at_ hlt;obtain ⟨b,off,rfl,hbB,c0,c1,c2,hxI⟩:=hx;have HM:Hid (∀ W,Below wr.heap.size wr W→Calls Tryz.prog 227 #[.int .i64 (n:Int),.agg #[.int .i64 ((mrAt xs k).at_:Int),.int .i64 ((mrAt xs k).cut:Int),.slice (mrAt xs k).A (mrAt xs k).n (mrAt xs k).c]] W fun e w'=>e = .returned (.bool (mkB n (mrAt xs k).dat))∧Below W.heap.size W w'):=uH (fun W hW=>specL7Mark n (mrAt xs k) W h20 (HX.out _ (mrAt_mem (by rw [HL'.out];exact hlt))).1 (HX.out _ (mrAt_mem (by rw [HL'.out];exact hlt))).2 (MrIn.keep hxI hW));have HD:=HDat.out k hlt;have HLk:=HLs.out k hlt;have HN:=HE.out k hlt;have hs:=(HX.out _ (mrAt_mem (xs:=xs) (k:=k) (by rw [HL'.out];exact hlt))).1;obtain ⟨b1,b2⟩:=HB.out k (by omega);have sx1:=hs.1;have sx2:=hs.2.1;have sx3:=hs.2.2;have HG:Hid ((0 < k→(mkAt (xs.map Mr.dat) (k - 1)).at_+(mkAt (xs.map Mr.dat) (k - 1)).cut < (mrAt xs k).at_)→mkB n (mrAt xs k).dat=true→GapK n (xs.map Mr.dat) (k+1)):=uH (fun h1 h2=>GapK.succ HK.out ⟨by rw [HD];exact h2,fun h0=>by rw [HD];exact h1 h0⟩);have hgo:Hid (lenI n ((xs.map Mr.dat).take (k+1))=lenI n ((xs.map Mr.dat).take k) - ((mrAt xs k).cut:Int)+((mrAt xs k).n:Int)):=uH HLk;have HNo1:Hid (mkB n (mrAt xs k).dat=false→T=false):=uH (fun h=>HN (gap_no1 (by rw [HD];exact h)));have HNo2:Hid (0 < k→(mrAt xs k).at_≤(mkAt (xs.map Mr.dat) (k - 1)).at_+(mkAt (xs.map Mr.dat) (k - 1)).cut→T=false):=uH (fun h0 h=>HN (gap_no2 h0 (by rw [HD];exact h)));clear HLk HN HD hs hxI;have d0:=qcell c0;have d1:=qcell c1;have d2:=qcell c2;have i1:(0:Int)≤(k:Int):=(by omega);have i2:(k:Int) < (n':Int):=(by omega);have i3:(k:Int)≤20:=(by omega);cases hv:mkB n (mrAt xs k).dat with
    | false =>
     have HF:=uH (HNo1.out hv);rw [hv] at HM;clear hv HNo1 HNo2 HG hgo;generalize mrAt xs k=x at *;(go_wp2_with fail);refine region_qb (by kernel_rfl) (by kernel_rfl) ?_;repeat (first | go_big_quiet_step ((go_at_call 227;exact quietB (HM.out _ (below_regrown _ _ _)))) | quiet_step ((go_at_call 227;exact quietB (HM.out _ (below_regrown _ _ _)))))
     refine wpQuiet_nil ?_;intro w5 hb5;go_wp2;go_ret;exact ⟨ret_bool HF.out.symm,hb.trans (hb5.mono hb.size)⟩
    | true =>
     rw [hv] at HM;have HG2:=uH (fun h=>HG.out h hv);clear hv HNo1 HG;by_cases h0:k=0
     ·have HG3:=uH (HG2.out (fun h=>by omega));have z0:decide (0 < k)=false:=decide_eq_false (by omega);clear HG2 HNo2 h0;generalize mrAt xs k=x at *;(go_wp2_with fail);refine region_qb (by kernel_rfl) (by kernel_rfl) ?_;repeat (first | go_big_quiet_step ((go_at_call 227;exact quietB (HM.out _ (below_regrown _ _ _)))) | quiet_step ((go_at_call 227;exact quietB (HM.out _ (below_regrown _ _ _)))))
      refine wpQuiet_nil ?_;intro w5 hb5;clear HM;have f1:=qcell (kcell hb5 c1);have f2:=qcell (kcell hb5 c2);(go_wp2_with fail);refine region_qb (by kernel_rfl) (by kernel_rfl) ?_;repeat (first | go_big_quiet_step (fail) | quiet_step (fail))
      refine wpQuiet_nil ?_;intro w6 hb6;go_wp2;go_roundw
      case rel=>exact ⟨k+1,by omega,by rw [hgo.out],by go_num,HG3,hb.trans ((below_next hb5 hb6).mono hb.size)⟩
      case measure=>simp [intOf] <;> omega
     ·have h1:0 < k:=(by omega);obtain ⟨b',off',e',_,p0,p1,p2,_⟩:=(H'.out.keep hb).at_ (show k - 1 < n' by omega);obtain ⟨rfl,rfl⟩:b'=b∧off'=off:=(by injection e' with e';injection e' with e1 e2;exact ⟨e1.symm,e2.symm⟩);have HP:=HDat.out (k - 1) (by omega);have hsp:=(HX.out _ (mrAt_mem (xs:=xs) (k:=k - 1) (by rw [HL'.out];omega))).1;have sp1:=hsp.1;have sp2:=hsp.2.1;rw [HP] at HG2 HNo2;have ek:(k:Int) - 1=((k - 1:Nat):Int):=(by omega);have ekw:IntKind.i64.wrap ((k:Int) - 1)=((k - 1:Nat):Int):=(by rw [ek];exact IntWalk.i64_in _ (by omega));have q0:=qcell p0;have q1:=qcell p1;have z1:decide ((0:Int) < (k:Int))=true:=decide_eq_true (by omega);have j2:((k - 1:Nat):Int) < (n':Int):=(by omega);have j1:(0:Int)≤((k - 1:Nat):Int):=(by omega);clear HP hsp e' h0;by_cases h2:(mrAt xs (k - 1)).at_+(mrAt xs (k - 1)).cut < (mrAt xs k).at_
      ·have HG3:=uH (HG2.out (fun _=>h2));have z3:decide (((mrAt xs k).at_:Int)≤((mrAt xs (k - 1)).at_:Int)+((mrAt xs (k - 1)).cut:Int))=false:=decide_eq_false (by omega);clear HG2 HNo2;generalize mrAt xs k=x at *;generalize mrAt xs (k - 1)=y at *;generalize k - 1=j at *;(go_wp2_with fail);refine region_qb (by kernel_rfl) (by kernel_rfl) ?_;repeat (first | go_big_quiet_step ((go_at_call 227;exact quietB (HM.out _ (below_regrown _ _ _)))) | quiet_step ((go_at_call 227;exact quietB (HM.out _ (below_regrown _ _ _)))))
       refine wpQuiet_nil ?_;intro w5 hb5;clear HM;have f1:=qcell (kcell hb5 c1);have f2:=qcell (kcell hb5 c2);(go_wp2_with fail);refine region_qb (by kernel_rfl) (by kernel_rfl) ?_;repeat (first | go_big_quiet_step (fail) | quiet_step (fail))
       refine wpQuiet_nil ?_;intro w6 hb6;go_wp2;go_roundw
       case rel=>exact ⟨k+1,by omega,by rw [hgo.out],by go_num,HG3,hb.trans ((below_next hb5 hb6).mono hb.size)⟩
       case measure=>simp [intOf] <;> omega
      ·have HF:=uH (HNo2.out h1 (by simp only [Mr.dat];omega));have z3:decide (((mrAt xs k).at_:Int)≤((mrAt xs (k - 1)).at_:Int)+((mrAt xs (k - 1)).cut:Int))=true:=decide_eq_true (by omega);clear HG2 HNo2 hgo h2;generalize mrAt xs k=x at *;generalize mrAt xs (k - 1)=y at *;generalize k - 1=j at *;(go_wp2_with fail);refine region_qb (by kernel_rfl) (by kernel_rfl) ?_;repeat (first | go_big_quiet_step ((go_at_call 227;exact quietB (HM.out _ (below_regrown _ _ _)))) | quiet_step ((go_at_call 227;exact quietB (HM.out _ (below_regrown _ _ _)))))
       refine wpQuiet_nil ?_;intro w5 hb5;go_wp2;go_ret;exact ⟨ret_bool HF.out.symm,hb.trans (hb5.mono hb.size)⟩
   ·obtain rfl:k=n':=(by omega);have HF:=uH (HY.out HK.out);obtain ⟨b1,b2⟩:=HB.out k (Nat.le_refl _);go_wp2;go_ret;exact ⟨ret_bool HF.out.symm,hb⟩
theorem cap_step (s:ByteArray) (k:Nat) (h:k < s.size) (ha:(s.data.toList.take k).all capB=true) (h1:65≤(s[k].toNat:Int)) (h2:(s[k].toNat:Int)≤90) :
  (s.data.toList.take (k+1)).all capB=true:=by
 rw [take_snoc s k h,List.all_append,ha];simp [capB];omega
theorem cap_bad (s:ByteArray) (k:Nat) (h:k < s.size) (h1:(s[k].toNat:Int) < 65∨90 < (s[k].toNat:Int)):markB s.data.toList=false:=by
 have hm:s[k]∈s.data.toList:=by
  have:s[k]=s.data.toList[k]'(by simpa using h):=rfl;rw [this];exact List.getElem_mem _
 have hb:capB s[k]=false:=(by simp [capB];omega);have:s.data.toList.all capB=false:=by
  rw [List.all_eq_false];exact ⟨_,hm,by simp [hb]⟩
 simp [markB,this]
theorem cap_done (s:ByteArray) (k:Nat) (hk : ¬ k < s.size) (ha:(s.data.toList.take k).all capB=true):markB s.data.toList=decide ((1:Int)≤s.size∧(s.size:Int)≤3):=by
 have e:s.data.toList.take k=s.data.toList:=List.take_of_length_le (by simp;omega);have l:s.data.toList.length=s.size:=(by simp);rw [e] at ha;unfold markB;rw [ha,l];rw [Bool.eq_iff_iff];simp;omega
theorem l4Mark (s:ByteArray) (w:World) (hs:s.size≤maxLen):Calls Tryz.prog 185 #[.string s] w fun e w'=>e = .returned (.bool (markB s.data.toList))∧w=w':=by
 unfold maxLen at hs;go_enter Tryz.func185,Tryz.ntmps185
 go_wp2
 go_loop [3] (fun i=>∃ k:Nat,k≤s.size∧i = .int .i64 k∧Hid ((s.data.toList.take k).all capB=true)) (fun i=>s.size - (intOf i).toNat)
 case atStart=>exact ⟨0,Nat.zero_le _,rfl,uH rfl⟩
 case round =>
  obtain ⟨k,hk,rfl,hall⟩:=hrel;by_cases hlt:k < s.size
  ·go_wp2
   ·go_ret;exact ⟨ret_bool (by rw [cap_bad s k hlt (by omega)]),rfl⟩
   ·go_round
    case rel=>exact ⟨k+1,by omega,by go_num,uH (cap_step s k hlt hall.out (by omega) (by omega))⟩
    case measure=>simp [intOf];omega
   ·go_ret;exact ⟨ret_bool (by rw [cap_bad s k hlt (by omega)]),rfl⟩
  ·go_wp2_with (go_at_call 134;refine (l6In_any _ _ _ _).mono ?_;rintro e w' ⟨rfl,rfl⟩)
   go_ret;exact ⟨ret_bool (by rw [cap_done s k hlt hall.out];simp),rfl⟩
def OkBs (xs:List Br):Prop:=∀ x∈xs,SmB x
theorem l4Words13 (A:Option Addr) (n c:Nat) (ws:List Wd) (w:World) (hW : ∀ l∈ws,l.length≤maxLen) (h:WdsIn w w.heap.size A n c ws) :
  Calls Tryz.prog 130 #[.slice A n c,.int .i64 1,.int .i64 3] w fun e w'=>e = .returned (.bool (bwB ws))∧w=w' :=
 (l4Words A n c ws 1 3 w hW h).mono fun e w' ⟨he,hw⟩=>⟨by rw [he];unfold bwB;refine ret_bool ?_;congr 1;exact decide_eq_decide.2 ⟨fun h=>by omega,fun h=>by omega⟩,hw⟩
set_option maxHeartbeats 1600000 in
theorem specBriefsValid (A:Option Addr) (n c:Nat) (xs:List Br) (w:World) (hX:OkBs xs) (h:BrsIn w w.heap.size A n c xs) :
  Calls Tryz.prog 123 #[.slice A n c] w fun e w'=>e = .returned (.bool (brsB (xs.map Br.dat)))∧Below w.heap.size w w':=by
 have hm:=h.2.2.1;have hnc:=h.2.1;unfold maxLen at hm;have HL:=uH h.1;have H:=uH h;have HX:=uH hX;have HDat:Hid (∀ k,k < n→bfAt (xs.map Br.dat) k=(brAt xs k).dat):=uH (fun k hk=>brAt_dat (by rw [HL.out];exact hk));have HN:Hid (∀ k,k < n→¬ brGood (xs.map Br.dat) k→brsB (xs.map Br.dat)=false):=uH (fun k hk hn=>brsB_no (by rw [List.length_map,HL.out];exact hk) hn);have HY:Hid (brK (xs.map Br.dat) n→brsB (xs.map Br.dat)=decide ((n:Int)≤8)):=uH (fun h=>by
  rw [brsB_all (fun i hi=>h i (by rw [List.length_map,HL.out] at hi;exact hi)),List.length_map,HL.out];exact decide_eq_decide.2 (by omega))
 clear h hX;generalize brsB (xs.map Br.dat)=T at *;go_enter Tryz.func123,Tryz.ntmps123
 go_wp2;go_loopw [3] (fun i wr=>∃ k:Nat,k≤n∧i = .int .i64 k∧Hid (brK (xs.map Br.dat) k)∧Below w.heap.size w wr) (fun i _=>n - (intOf i).toNat)
 case atStart=>exact ⟨0,Nat.zero_le _,rfl,uH (fun i hi=>by omega),Below.refl _ _⟩
 case round =>
  obtain ⟨k,hk,rfl,HK,hb⟩:=hrel;by_cases hlt:k < n
  ·have hkl:k < xs.length:=(by rw [HL.out];exact hlt);have Hw:=uH (H.out.keep hb);obtain ⟨b,off,rfl,hbB,c0,c1,hI⟩:=Hw.out.at_ hlt;have hsm:=HX.out _ (brAt_mem hkl);have HM:Hid (∀ W,Calls Tryz.prog 185 #[.string (mkStr (brAt xs k).mark)] W fun e w'=>e = .returned (.bool (markB (brAt xs k).mark))∧W=w'):=uH (fun W=>by
    have:=l4Mark (mkStr (brAt xs k).mark) W (by rw [mkStr_size];exact hsm.1)
    rwa [mkStr_data] at this)
   have HWo:=uH (l4Words13 (brAt xs k).A (brAt xs k).n (brAt xs k).c (brAt xs k).words wr hsm.2 hI);have HO:Hid (bfB (brAt xs k).dat=false→T=false):=uH (fun h=>HN.out k hlt (fun h2=>by have:=h2.1;rw [HDat.out k hlt,h] at this;cases this));have HOk:Hid (bfB (brAt xs k).dat=true→brJ (xs.map Br.dat) k k→brK (xs.map Br.dat) (k+1)):=uH (fun h h2=>brK_succ HK.out ⟨by rw [HDat.out k hlt];exact h,h2⟩);have HJn:Hid (∀ j,j < k→((brAt xs j).mark=(brAt xs k).mark∨(brAt xs j).words=(brAt xs k).words)→T=false):=uH (fun j hj h=>HN.out k hlt (fun h2=>by
    have:=h2.2 j hj;rw [HDat.out k hlt,HDat.out j (by omega)] at this;exact h.elim this.1 this.2))
   have HJs:Hid (∀ j,j < k→brJ (xs.map Br.dat) k j→(brAt xs j).mark≠(brAt xs k).mark→(brAt xs j).words≠(brAt xs k).words→brJ (xs.map Br.dat) k (j+1)):=uH (fun j hj h h1 h2=>brJ_succ h (by
    rw [HDat.out k hlt,HDat.out j (by omega)];exact ⟨h1,h2⟩))
   have HIk:=uH hI;have i1:(0:Int)≤(k:Int):=(by omega);have i2:(k:Int) < (n:Int):=(by omega);clear hkl hsm hI;cases hm1:markB (brAt xs k).mark with
   | false =>
    have HF:=uH (HO.out (by unfold bfB Br.dat;rw [hm1];rfl));rw [hm1] at HM;clear hm1 HWo HO HOk HJn HJs HIk;generalize brAt xs k=x at *;(go_wp2_with fail);refine (HM.out _).mono ?_;rintro e w1 ⟨rfl,rfl⟩;go_wp2;go_ret;exact ⟨ret_bool HF.out.symm,hb⟩
   | true =>
    rw [hm1] at HM;cases hm2:bwB (brAt xs k).words with
    | false =>
     have HF:=uH (HO.out (by unfold bfB Br.dat;rw [hm2,Bool.and_false]));rw [hm2] at HWo;clear hm1 hm2 HO HOk HJn HJs HIk;generalize brAt xs k=x at *;(go_wp2_with fail);refine (HM.out _).mono ?_;rintro e w1 ⟨rfl,rfl⟩;(go_wp2_with fail);refine HWo.out.mono ?_;rintro e w1 ⟨rfl,rfl⟩;go_wp2;go_ret;exact ⟨ret_bool HF.out.symm,hb⟩
    | true =>
     rw [hm2] at HWo;have HOk2:=uH (HOk.out (by unfold bfB Br.dat;rw [hm1,hm2];rfl));clear hm1 hm2 HO HOk;clear HIk;(go_wp2_with fail);refine (HM.out _).mono ?_;rintro e w1 ⟨rfl,rfl⟩;(go_wp2_with fail);refine HWo.out.mono ?_;rintro e w1 ⟨rfl,rfl⟩;clear c0 c1 HM HWo Hw;go_wp2;go_loopw [4] (fun i wr2=>∃ j:Nat,j≤k∧i = .int .i64 j∧Hid (brJ (xs.map Br.dat) k j)∧Below w.heap.size w wr2) (fun i _=>k - (intOf i).toNat)
     case atStart=>exact ⟨0,Nat.zero_le _,rfl,uH (fun i hi=>by omega),hb⟩
     case round =>
      obtain ⟨j,hj,rfl,HJ,hb4⟩:=hrel;by_cases hlj:j < k
      ·have Hw:=uH (H.out.keep hb4);have hk':=Hw.out.at_ hlt;obtain ⟨b',off',eA,hbB',a0,a1,hIj⟩:=Hw.out.at_ (k:=j) (by omega);obtain ⟨b2,off2,eA2,hbB2,d0,d1,hIk⟩:=hk';injection eA with eA;injection eA with eA1 eA2';subst eA1 eA2';injection eA2 with eA2;injection eA2 with eA3 eA4;subst eA3 eA4;have j1:(0:Int)≤(j:Int):=(by omega);have j2:(j:Int) < (n:Int):=(by omega);have HNj:=uH (HJn.out j hlj);have HSj:=uH (HJs.out j hlj HJ.out);have HE:Hid (∀ W,Below wr.heap.size wr W→Calls Tryz.prog 124 #[.slice (brAt xs j).A (brAt xs j).n (brAt xs j).c,.slice (brAt xs k).A (brAt xs k).n (brAt xs k).c] W fun e w'=>e = .returned (.bool (decide ((brAt xs j).words=(brAt xs k).words)))∧Below W.heap.size W w'):=uH (fun W hW=>l4Same _ _ _ _ _ _ _ _ W (BrIn.keep hIj hW) (BrIn.keep hIk hW));have r0:=qcell a0;have r1:=qcell a1;have q0:=qcell d0;have q1:=qcell d1;have hq:=beq_str (mkStr (brAt xs k).mark) (brAt xs j).mark (brAt xs k).mark rfl;clear hIj hIk HJ Hw;by_cases hel:(brAt xs j).mark=(brAt xs k).mark
       ·rw [decide_eq_true hel] at hq;have HF:=uH (HNj.out (.inl hel));clear hel HNj HSj HE;generalize brAt xs j=y at *;generalize brAt xs k=x at *;(go_wp2_with fail);refine region_qb (by kernel_rfl) (by kernel_rfl) ?_;repeat (first | go_big_quiet_step (fail) | quiet_step (fail))
        refine wpQuiet_nil ?_;intro w5 hb5;have b5:=below_next hb4 hb5;go_wp2;go_ret;exact ⟨ret_bool HF.out.symm,b5⟩
       ·rw [decide_eq_false hel] at hq;have HSj2:=uH (HSj.out hel);by_cases hes:(brAt xs j).words=(brAt xs k).words
        ·have HF:=uH (HNj.out (.inr hes));rw [decide_eq_true hes] at HE;clear hel hes HNj HSj HSj2;generalize brAt xs j=y at *;generalize brAt xs k=x at *;(go_wp2_with fail);refine region_qb (by kernel_rfl) (by kernel_rfl) ?_;repeat (first | go_big_quiet_step ((go_at_call 124;exact quietB (HE.out _ (below_regrown _ _ _)))) | quiet_step ((go_at_call 124;exact quietB (HE.out _ (below_regrown _ _ _)))))
         refine wpQuiet_nil ?_;intro w5 hb5;have b5:=below_next hb4 hb5;go_wp2;go_ret;exact ⟨ret_bool HF.out.symm,b5⟩
        ·have HF:=uH (HSj2.out hes);rw [decide_eq_false hes] at HE;clear hel hes HNj HSj HSj2;generalize brAt xs j=y at *;generalize brAt xs k=x at *;(go_wp2_with fail);refine region_qb (by kernel_rfl) (by kernel_rfl) ?_;repeat (first | go_big_quiet_step ((go_at_call 124;exact quietB (HE.out _ (below_regrown _ _ _)))) | quiet_step ((go_at_call 124;exact quietB (HE.out _ (below_regrown _ _ _)))))
         refine wpQuiet_nil ?_;intro w5 hb5;have b5:=below_next hb4 hb5;clear hb5 hb4 r0 r1 q0 q1 a0 a1 d0 d1;go_wp2;go_roundw
         case rel=>exact ⟨j+1,by omega,by go_num,HF,b5⟩
         case measure=>simp [intOf];omega
      ·obtain rfl:j=k:=(by omega);have HF:=uH (HOk2.out HJ.out);go_wp2;go_roundw
       case rel=>exact ⟨j+1,by omega,by go_num,HF,hb4⟩
       case measure=>simp [intOf];omega
  ·obtain rfl:k=n:=(by omega);have HF:=uH (HY.out HK.out);go_wp2;go_ret;exact ⟨ret_bool HF.out.symm,hb⟩
end Go.Proofs.YtbkhnljaajajiaaGreatDoor
namespace Go.Proofs.YtbkhnljaajajiaaGreatDoor
open Go.ChangeShapes Go.WideShapes Go.ChangeAt Go.RowKit Go.Shelf
def brV (x:Br):Value:=.agg #[.string (mkStr x.mark),.slice x.A x.n x.c]
def PredBr (g:Nat) (cb:Array Value) (p:Br→Bool) (ys:List Br) (w:World):Prop :=
 ∀ (W:World) (x:Br),Below w.heap.size w W→x∈ys→BrIn W W.heap.size x→Calls Tryz.prog g (#[brV x]++cb) W fun e w'=>e = .returned (.bool (p x))∧Below W.heap.size W w'
def FirstBr (p:Br→Bool) (ys:List Br) (r:Int):Prop :=
 (r = -1∧∀ j,j < ys.length→p (brAt ys j)=false)∨∃ k:Nat,r=k∧k < ys.length∧p (brAt ys k)=true
theorem FirstBr.any {p:Br→Bool} {ys:List Br} {r:Int} (h:FirstBr p ys r):decide (0≤r)=ys.any p:=by
 rcases h with ⟨rfl,h⟩ | ⟨k,rfl,hk,h⟩
 ·rw [decide_eq_false (by omega)]
  symm
  rw [List.any_eq_false];intro x hx;obtain ⟨i,hi,rfl⟩:=List.getElem_of_mem hx;have h1:=h i hi;have h2:=brAt_some hi;rw [List.getElem?_eq_getElem hi] at h2;injection h2 with h2;rw [h2,h1];simp
 ·rw [decide_eq_true (by omega)]
  symm
  exact List.any_eq_true.2 ⟨_,brAt_mem hk,h⟩
theorem idxFuncBr (g:Nat) (cb:Array Value) (p:Br→Bool) (eg : ∀ args w,(callFunc g args).run Tryz.prog w = .ok (.enter g args) w) (A:Option Addr) (n c:Nat) (ys:List Br) (w:World) (hp:PredBr g cb p ys w) (h:BrsIn w w.heap.size A n c ys) :
  Calls Tryz.prog 226 #[.slice A n c,.func (.func g) #[] cb] w fun e w'=>∃ r,e = .returned (.int .i64 r)∧FirstBr p ys r∧Below w.heap.size w w':=by
 have hm:=h.2.2.1;have hnc:=h.2.1;unfold maxLen at hm;have HL:=uH h.1;have H:=uH h;clear h;have HP:=uH hp;clear hp;go_enter Tryz.func226,Tryz.ntmps226
 go_wp2;go_loopw [5,8] (fun _ i wr=>∃ (k:Nat),k≤n∧i = .int .i64 k∧Hid (∀ j,j < k→p (brAt ys j)=false)∧Below w.heap.size w wr) (fun _ i _=>n - (intOf i).toNat)
 case atStart=>exact ⟨0,Nat.zero_le _,rfl,uH (fun j hj=>absurd hj (by omega)),Below.refl _ _⟩
 case round =>
  obtain ⟨k,hk,rfl,hF,hb⟩:=hrel;by_cases hlt:k < n
  ·obtain ⟨b,off,eA,hbB,c0,c1,hI⟩:=(H.out.keep hb).at_ hlt;have hcall:=HP.out wr (brAt ys k) hb (brAt_mem (by rw [HL.out];exact hlt)) hI;subst eA;unfold brV at hcall;clear hI;cases hq:p (brAt ys k) with
   | true =>
    rw [hq] at hcall;have HA:Hid (FirstBr p ys k):=uH (.inr ⟨k,rfl,by rw [HL.out];exact hlt,hq⟩);have HC:=uH hcall;clear hcall hq;generalize brAt ys k=x at *;go_wp2_with (go_at_fn g;refine HC.out.mono ?_;rintro e w1 ⟨rfl,hb1⟩)
    have b1:=hb.trans (hb1.mono hb.size);go_ret;exact ⟨_,rfl,HA.out,b1⟩
   | false =>
    rw [hq] at hcall;have HF:Hid (∀ j,j < k+1→p (brAt ys j)=false):=uH (fun j hj=>by
     by_cases hjk:j < k
     ·exact hF.out j hjk
     ·obtain rfl:j=k:=(by omega);exact hq)
    have HC:=uH hcall;clear hcall hq;generalize brAt ys k=x at *;go_wp2_with (go_at_fn g;refine HC.out.mono ?_;rintro e w1 ⟨rfl,hb1⟩)
    have b1:=hb.trans (hb1.mono hb.size);go_roundw
    case rel=>exact ⟨k+1,by omega,by go_num,HF,b1⟩
    case measure=>simp [intOf];omega
  ·obtain rfl:k=n:=(by omega);have HA:Hid (FirstBr p ys (-1)):=uH (.inl ⟨rfl,by rw [HL.out];exact hF.out⟩);go_wp2;go_ret;exact ⟨_,rfl,HA.out,hb⟩
theorem containsBr (g:Nat) (cb:Array Value) (p:Br→Bool) (eg : ∀ args w,(callFunc g args).run Tryz.prog w = .ok (.enter g args) w) (A:Option Addr) (n c:Nat) (ys:List Br) (w:World) (hp:PredBr g cb p ys w) (h:BrsIn w w.heap.size A n c ys) :
  Calls Tryz.prog 181 #[.slice A n c,.func (.func g) #[] cb] w fun e w'=>e = .returned (.bool (ys.any p))∧Below w.heap.size w w':=by
 have HI:=uH (idxFuncBr g cb p eg A n c ys w hp h);clear hp h;go_enter Tryz.func181,Tryz.ntmps181
 (go_wp2_with fail);refine HI.out.mono ?_;rintro e w1 ⟨r,rfl,hr,hb1⟩;have HF:=uH hr.any;go_wp2;go_ret;exact ⟨ret_bool HF.out,hb1⟩
def sameB (y x:Br):Bool:=decide (x.mark=y.mark) || decide (x.words=y.words)
theorem takenBr (y:Br) (ys:List Br) (w:World) (b:Nat) (hk:Blk w b 34 #[.string (mkStr y.mark),.slice y.A y.n y.c]) (hy:BrIn w w.heap.size y) :
  PredBr 182 #[.pointer (some ⟨b,0,none⟩)] (sameB y) ys w:=by
 intro W x hb _ hx;have HK:Hid (Blk (W.alloc (.cells #[.string (mkStr x.mark),.slice x.A x.n x.c] 34)) b 34 #[.string (mkStr y.mark),.slice y.A y.n y.c]):=uH ((hk.below hb).alloc _);have b0:Below W.heap.size W (W.alloc (.cells #[.string (mkStr x.mark),.slice x.A x.n x.c] 34)):=(Below.refl _ _).alloc (Nat.le_refl _) _;have HE:=uH (equalWds x.A x.n x.c y.A y.n y.c x.words y.words _ (BrIn.keep hx b0) (BrIn.keep (BrIn.keep hy hb) b0));have k0:=HK.out.cell 0;have k1:=HK.out.cell 1;have hq:=beq_str (mkStr y.mark) x.mark y.mark rfl;clear hk hy hx;unfold brV sameB
 show Calls Tryz.prog 182 #[.agg #[.string (mkStr x.mark),.slice x.A x.n x.c],.pointer (some ⟨b,0,none⟩)] W _
 by_cases h1:x.mark=y.mark
 ·rw [decide_eq_true h1] at hq ⊢;clear h1 HE;go_enter Tryz.func182,Tryz.ntmps182
  go_wp2;go_ret;exact ⟨rfl,b0⟩
 ·rw [decide_eq_false h1] at hq ⊢;clear h1;go_enter Tryz.func182,Tryz.ntmps182
  (go_wp2_with fail);refine HE.out.mono ?_;rintro e w1 ⟨rfl,hb1⟩;have b1:=below_next b0 hb1;clear hb1 HE;go_wp2;go_ret;exact ⟨by simp,b1⟩
theorem bf_bad {x:Br} (h : ¬ ((1≤x.mark.length∧x.mark.length≤3)∧1≤x.words.length∧x.words.length≤3)):bfB x.dat=false:=by
 rw [Bool.eq_false_iff];intro e;obtain ⟨h1,h2⟩:=bfB_iff.1 e;exact h ⟨markB_len h1,bwB_len h2⟩
theorem bw_sp {ws:List Wd} (h:1≤ws.length∧ws.length≤3):bwB ws=spB ws:=by
 unfold bwB spB;rw [decide_eq_true h,decide_eq_true (by omega)]
set_option maxHeartbeats 1600000 in
theorem implBriefValid (x:Br) (w:World) (hs:SmB x) (hx:BrIn w w.heap.size x) :
  Calls Tryz.prog 184 #[brV x] w fun e w'=>e = .returned (.bool (bfB x.dat))∧Below w.heap.size w w':=by
 have b0:Below w.heap.size w (w.alloc (.cells #[.string (mkStr x.mark),.slice x.A x.n x.c] 34)):=(Below.refl _ _).alloc (Nat.le_refl _) _;have k0:=newcell w #[.string (mkStr x.mark),.slice x.A x.n x.c] 34 0 _ rfl;have k1:=newcell w #[.string (mkStr x.mark),.slice x.A x.n x.c] 34 1 _ rfl;have HSp:=uH (implSpeechValid x.A x.n x.c x.words _ hs.2 (BrIn.keep hx b0));have HSz:Hid ((mkStr x.mark).size=x.mark.length):=uH (mkStr_size _);have HXl:Hid (x.words.length=x.n):=uH hx.1;have hml:=hs.1;unfold maxLen at hml;have hsz:(mkStr x.mark).size≤9223372036854775807:=(by rw [HSz.out];exact hml);unfold brV;by_cases hg:(1≤x.mark.length∧x.mark.length≤3)∧1≤x.n∧x.n≤3
 ·obtain ⟨⟨g1,g2⟩,g3,g4⟩:=hg;have m1:1≤(mkStr x.mark).size:=(by rw [HSz.out];exact g1);have m2:(mkStr x.mark).size≤3:=(by rw [HSz.out];exact g2);have HD:Hid (bfB x.dat=(markB (mkStr x.mark).data.toList && spB x.words)):=uH (by
   rw [mkStr_data];unfold bfB;rw [show bwB x.dat.words=spB x.words from bw_sp (by show 1≤x.words.length∧x.words.length≤3;rw [HXl.out];exact ⟨g3,g4⟩)];rfl)
  rw [HD.out];clear HD hs hx hml;generalize mkStr x.mark=s at *;go_enter Tryz.func184,Tryz.ntmps184
  go_wp2
  go_loop [29] (fun i=>∃ k:Nat,k≤s.size∧i = .int .i64 k∧Hid ((s.data.toList.take k).all capB=true)) (fun i=>s.size - (intOf i).toNat)
  case atStart=>exact ⟨0,Nat.zero_le _,rfl,uH rfl⟩
  case round =>
   obtain ⟨k,hk,rfl,hall⟩:=hrel;by_cases hlt:k < s.size
   ·go_wp2
    ·go_ret;exact ⟨ret_bool (by rw [cap_bad s k hlt (by omega)];rfl),b0⟩
    ·go_round
     case rel=>exact ⟨k+1,by omega,by go_num,uH (cap_step s k hlt hall.out (by omega) (by omega))⟩
     case measure=>simp [intOf];omega
    ·go_ret;exact ⟨ret_bool (by rw [cap_bad s k hlt (by omega)];rfl),b0⟩
   ·have HM:Hid (markB s.data.toList=true):=uH (by rw [cap_done s k hlt hall.out];simp;omega);(go_wp2_with fail);refine HSp.out.mono ?_;rintro e w1 ⟨rfl,rfl⟩;go_wp2;go_ret;exact ⟨ret_bool (by rw [HM.out];rfl),b0⟩
 ·have HF:Hid (bfB x.dat=false):=uH (bf_bad (by rw [HXl.out];exact hg));have hn1:x.n≤9223372036854775807:=(by have:=hx.2.1;have:=hx.2.2.1;unfold maxLen at this;omega);rw [HF.out];clear hs hx HSp;by_cases a1:x.mark.length < 1
  ·have m1:(mkStr x.mark).size < 1:=(by rw [HSz.out];exact a1);go_enter Tryz.func184,Tryz.ntmps184
   go_wp2;go_ret;exact ⟨rfl,b0⟩
  by_cases a2:3 < x.mark.length
  ·have m1:3 < (mkStr x.mark).size:=(by rw [HSz.out];exact a2);go_enter Tryz.func184,Tryz.ntmps184
   go_wp2;go_ret;exact ⟨rfl,b0⟩
  have m1:1≤(mkStr x.mark).size:=(by rw [HSz.out];omega);have m2:(mkStr x.mark).size≤3:=(by rw [HSz.out];omega);by_cases a3:x.n < 1
  ·go_enter Tryz.func184,Tryz.ntmps184
   go_wp2;go_ret;exact ⟨rfl,b0⟩
  ·have a4:3 < x.n:=(by omega);go_enter Tryz.func184,Tryz.ntmps184
   go_wp2;go_ret;exact ⟨rfl,b0⟩
theorem BrsIn.upto {w:World} {B n c k:Nat} {A:Option Addr} {xs:List Br} (h:BrsIn w B A n c xs) (hk:k≤n):BrsIn w B A k c (xs.take k) :=
 ⟨by rw [List.length_take,h.1];omega,Nat.le_trans hk h.2.1,h.2.2.1,by have:=h.2.2.2.1.take hk;rw [flat_take brC_len] at this;exact this,fun x hx=>h.2.2.2.2 x (List.mem_of_mem_take hx)⟩
theorem taken_no {xs:List Br} {k:Nat} (hk:k < xs.length) (h:(xs.take k).any (sameB (brAt xs k))=false):brJ (xs.map Br.dat) k k:=fun i hi=>by
 rw [List.any_eq_false] at h;have h1:brAt xs i∈xs.take k:=by
  have h2:=brAt_some (xs:=xs) (k:=i) (by omega);have h3:(xs.take k)[i]? = some (brAt xs i):=(by rw [List.getElem?_take_of_lt hi];exact h2);exact List.mem_of_getElem? h3
 have h4:=h _ h1;rw [brAt_dat hk,brAt_dat (by omega)];unfold sameB at h4;simp only [Bool.or_eq_true,decide_eq_true_eq,not_or] at h4;exact h4
theorem taken_yes {xs:List Br} {k:Nat} (hk:k < xs.length) (h:(xs.take k).any (sameB (brAt xs k))=true) : ¬ brGood (xs.map Br.dat) k:=fun hg=>by
 obtain ⟨x,hx,h1⟩:=List.any_eq_true.1 h;obtain ⟨i,hi,rfl⟩:=List.getElem_of_mem hx;rw [List.length_take] at hi;have h2:=hg.2 i (by omega);rw [brAt_dat hk,brAt_dat (by omega)] at h2;have h3:(xs.take k)[i]=brAt xs i:=by
  have h4:=brAt_some (xs:=xs) (k:=i) (by omega);rw [List.getElem?_eq_getElem (by omega)] at h4;injection h4 with h4;rw [List.getElem_take,h4]
 rw [h3] at h1;unfold sameB at h1;simp only [Bool.or_eq_true,decide_eq_true_eq] at h1;exact h1.elim h2.1 h2.2
set_option maxHeartbeats 1600000 in
theorem implBriefsValid (A:Option Addr) (n c:Nat) (xs:List Br) (w:World) (hX:OkBs xs) (h:BrsIn w w.heap.size A n c xs) :
  Calls Tryz.prog 122 #[.slice A n c] w fun e w'=>e = .returned (.bool (brsB (xs.map Br.dat)))∧Below w.heap.size w w':=by
 have hm:=h.2.2.1;have hnc:=h.2.1;unfold maxLen at hm;have HL:=uH h.1;have H:=uH h;have HX:=uH hX;by_cases h8:8 < n
 ·have HF:Hid (brsB (xs.map Br.dat)=false):=uH (brsB_long (by rw [List.length_map,HL.out];exact h8));clear h hX;go_enter Tryz.func122,Tryz.ntmps122
  go_wp2;go_ret;exact ⟨ret_bool HF.out.symm,Below.refl _ _⟩
 have HN:Hid (∀ k,k < n→¬ brGood (xs.map Br.dat) k→brsB (xs.map Br.dat)=false):=uH (fun k hk hn=>brsB_no (by rw [List.length_map,HL.out];exact hk) hn);have HY:Hid (brK (xs.map Br.dat) n→brsB (xs.map Br.dat)=true):=uH (fun h=>brsB_iff.2 ⟨by rw [List.length_map,HL.out];omega,fun i hi=>h i (by rw [List.length_map,HL.out] at hi;exact hi)⟩);have hmf : ∀ (fn:Fn) (first cap:Array Value) (w:World),(Instr.makeFunc fn first cap).run Tryz.prog w = .ok (.func fn first cap) w:=fun _ _ _ _=>rfl;clear h hX;generalize brsB (xs.map Br.dat)=T at *;go_enter Tryz.func122,Tryz.ntmps122
 go_wp2;go_loopw [11] (fun i wr=>∃ k:Nat,k≤n∧i = .int .i64 k∧Hid (brK (xs.map Br.dat) k)∧Below w.heap.size w wr) (fun i _=>n - (intOf i).toNat)
 case atStart=>exact ⟨0,Nat.zero_le _,rfl,uH (fun i hi=>by omega),Below.refl _ _⟩
 case round =>
  obtain ⟨k,hk,rfl,HK,hb⟩:=hrel;by_cases hlt:k < n
  ·have hkl:k < xs.length:=(by rw [HL.out];exact hlt);have Hw:=uH (H.out.keep hb);obtain ⟨b,off,rfl,hbB,c0,c1,hI⟩:=Hw.out.at_ hlt;have i1:(0:Int)≤(k:Int):=(by omega);have i2:(k:Int) < (n:Int):=(by omega);have b0:Below wr.heap.size wr (wr.alloc (.cells #[.string (mkStr (brAt xs k).mark),.slice (brAt xs k).A (brAt xs k).n (brAt xs k).c] 34)):=(Below.refl _ _).alloc (Nat.le_refl _) _;have HBk:Hid (Blk (wr.alloc (.cells #[.string (mkStr (brAt xs k).mark),.slice (brAt xs k).A (brAt xs k).n (brAt xs k).c] 34)) wr.heap.size 34 #[.string (mkStr (brAt xs k).mark),.slice (brAt xs k).A (brAt xs k).n (brAt xs k).c]):=uH (Blk.new _ _ _);have hIb:=BrIn.keep hI b0;have HCt:=uH (containsBr 182 _ _ (fun _ _=>rfl) (some ⟨b,off,none⟩) k c (xs.take k) _ (takenBr (brAt xs k) (xs.take k) _ wr.heap.size HBk.out hIb) ((Hw.out.keep b0).upto hk));have HBv:=uH (fun W (hW:Below wr.heap.size wr W)=>implBriefValid (brAt xs k) W (HX.out _ (brAt_mem hkl)) (BrIn.keep hI hW));have HN1:Hid ((xs.take k).any (sameB (brAt xs k))=true→T=false):=uH (fun h=>HN.out k hlt (taken_yes hkl h));have HN2:Hid (bfB (brAt xs k).dat=false→T=false):=uH (fun h=>HN.out k hlt (fun hg=>by have:=hg.1;rw [brAt_dat hkl,h] at this;cases this));have HN3:Hid ((xs.take k).any (sameB (brAt xs k))=false→bfB (brAt xs k).dat=true→brK (xs.map Br.dat) (k+1)):=uH (fun h1 h2=>brK_succ HK.out ⟨by rw [brAt_dat hkl];exact h2,taken_no hkl h1⟩);unfold brV at HBv;clear hI hIb Hw hkl;generalize brAt xs k=x at *;cases h1:(xs.take k).any (sameB x) with
   | true =>
    have HF:=uH (HN1.out h1);rw [h1] at HCt;clear h1 HN1 HN2 HN3 HBv HBk;(go_wp2_with fail);refine HCt.out.mono ?_;rintro e w1 ⟨rfl,hb1⟩;have b2:=below_next (below_next hb b0) hb1;clear hb1 HCt;go_wp2;go_ret;exact ⟨ret_bool HF.out.symm,b2⟩
   | false =>
    rw [h1] at HCt;have HN4:=uH (HN3.out h1);clear h1 HN1 HN3;(go_wp2_with fail);refine HCt.out.mono ?_;rintro e w1 ⟨rfl,hb1⟩;have k0:=(HBk.out.below hb1).cell 0;have k1:=(HBk.out.below hb1).cell 1;have HBv1:=uH (HBv.out w1 (below_next b0 hb1));have b2:=below_next (below_next hb b0) hb1;clear hb1 HCt HBv HBk b0;cases h2:bfB x.dat with
    | false =>
     have HF:=uH (HN2.out h2);rw [h2] at HBv1;clear h2 HN2 HN4;(go_wp2_with fail);refine HBv1.out.mono ?_;rintro e w2 ⟨rfl,hb2⟩;have b3:=below_next b2 hb2;clear hb2 HBv1;go_wp2;go_ret;exact ⟨ret_bool HF.out.symm,b3⟩
    | true =>
     have HF:=uH (HN4.out h2);rw [h2] at HBv1;clear h2 HN2 HN4;(go_wp2_with fail);refine HBv1.out.mono ?_;rintro e w2 ⟨rfl,hb2⟩;have b3:=below_next b2 hb2;clear hb2 HBv1 c0 c1 k0 k1;go_wp2;go_roundw
     case rel=>exact ⟨k+1,by omega,by go_num,HF,b3⟩
     case measure=>simp [intOf] <;> omega
  ·obtain rfl:k=n:=(by omega);have HF:=uH (HY.out HK.out);go_wp2;go_ret;exact ⟨ret_bool HF.out.symm,hb⟩
end Go.Proofs.YtbkhnljaajajiaaGreatDoor
