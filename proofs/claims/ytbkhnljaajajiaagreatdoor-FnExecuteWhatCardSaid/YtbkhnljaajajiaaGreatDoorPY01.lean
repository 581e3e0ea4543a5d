/-
  Contracts and plain laws that the proofs lean on. Conditions: as each says.
-/
import Derived.Test.YtbkhnljaajajiaaGreatDoorPX28
import Derived.Test.YtbkhnljaajajiaaGreatDoorPY00
set_option maxRecDepth 100000
set_option linter.unusedSimpArgs false
set_option linter.unusedVariables false
set_option linter.unnecessarySimpa false
namespace Go.Proofs.YtbkhnljaajajiaaGreatDoor
open Go.ChangeShapes Go.WideShapes Go.ChangeAt Go.RowKit
theorem only_below {a w w':World} {g:Nat} (h:a.grownBy w (some g)) (hb:Below w.heap.size w w'):a.grownBy w' (some g) :=
 ⟨hb.os.trans h.os,hb.tape.trans h.tape,hb.output.trans h.output,Nat.le_trans h.size hb.size,fun i hi hne=>(hb.block i (Nat.lt_of_lt_of_le hi h.size)).trans (h.block i hi hne)⟩
set_option maxHeartbeats 1600000 in
theorem l6DecNat : ∀ (n:Nat) (w:World),n≤9223372036854775807→Calls Tryz.prog 55 #[.int .i64 n] w fun e w'=>e = .returned (.string (mkStr (Lib.decDigits n)))∧Below w.heap.size w w':=by
 intro n;induction n using Nat.strongRecOn with
 | _ n ih =>
  intro w hn;by_cases h9:n < 10
  ·rw [Lib.decDigits_one h9];refine (l6DecDigit n w (by omega) (by omega)).mono ?_;rintro e w' ⟨rfl,hb⟩;refine ⟨?_,hb⟩;rw [show (48+(n:Int)).toNat=48+n by omega]
  ·have IH:=uH (fun W=>ih (n / 10) (by omega) W (by omega));rw [dec_step h9];have hl:(Lib.decDigits (n / 10)).length≤20:=dec_len (by omega);have hd9:n % 10≤9:=(by omega);have hu:((UInt8.ofNat (48+n % 10)).toNat:Int)=48+((n % 10:Nat):Int):=(by rw [UInt8.toNat_ofNat'];omega);have hq:((n:Int) / 10)=((n / 10:Nat):Int):=(by omega);have hq2:IntKind.i64.wrap ((n / 10:Nat):Int)=((n / 10:Nat):Int):=IntWalk.i64_in _ (by omega);have ht:(n:Int).tmod 10=((n % 10:Nat):Int):=(by rw [Int.tmod_eq_emod_of_nonneg (by omega)];omega);have hw1:IntKind.i64.wrap (48+((n % 10:Nat):Int))=48+((n % 10:Nat):Int):=IntWalk.i64_in _ (by omega);have hw2:IntKind.u8.wrap (48+((n % 10:Nat):Int))=48+((n % 10:Nat):Int):=IntWalk.u8_in _ (by omega);have hadd : ∀ W',(Op.stringOp .add (mkStr (Lib.decDigits (n / 10))) (mkStr [UInt8.ofNat (48+n % 10)])).run Tryz.prog W' = .ok (.string (mkStr (Lib.decDigits (n / 10)++[UInt8.ofNat (48+n % 10)]))) W':=fun W'=>run_add _ _ (by simp;omega) W';have hcv : ∀ (W:World) (b:Nat),W.cell? ⟨b,0,none⟩=some (.int .u8 (48+((n % 10:Nat):Int)))→(convert 22 9 (.slice (some ⟨b,0,none⟩) 1 1)).run Tryz.prog W = .ok (.string (mkStr [UInt8.ofNat (48+n % 10)])) W:=fun W b hc=>convAt W _ b 1 rfl (fun j hj=>by
    have:j=0:=(by simp at hj;omega);subst this;rw [hc,← hu];rfl)
   have hc1 : ∀ W:World,(convert 22 9 (.slice (some ⟨W.heap.size,0,none⟩) 1 1)).run Tryz.prog (W.alloc (.cells #[.int .u8 (48+((n % 10:Nat):Int))] 5)) = .ok (.string (mkStr [UInt8.ofNat (48+n % 10)])) (W.alloc (.cells #[.int .u8 (48+((n % 10:Nat):Int))] 5)):=fun W=>hcv _ _ (newcell W _ _ 0 _ rfl);have hn0:(w.alloc (.cells #[.int .u8 (48+((n % 10:Nat):Int))] 5)).drew.cell? ⟨w.heap.size,0,none⟩=some (.int .u8 (48+((n % 10:Nat):Int))):=newcell w _ _ 0 _ rfl;have hc0:=hcv _ _ hn0;have h10:(10:Int)≤(n:Int):=(by omega);have HCv:=uH hcv;clear ih hu hl hcv h9;generalize mkStr (Lib.decDigits (n / 10))=ta at *;generalize mkStr [UInt8.ofNat (48+n % 10)]=tb at *;generalize mkStr (Lib.decDigits (n / 10)++[UInt8.ofNat (48+n % 10)])=tc at *;generalize n / 10=m at *;generalize n % 10=d at *;go_enter Tryz.func55,Tryz.ntmps55
   (go_wp2_with fail);go_region_with ((go_at_call 55;refine (IH.out _).mono ?_;rintro e w1 ⟨rfl,hb1⟩;(first | (have hc2:=HCv.out w1 w.heap.size (kcell hb1 hn0)) | skip);have bw:Below w.heap.size w w1:=(by first | exact below_next ((Below.refl w.heap.size w).drew) hb1 | exact below_next (((Below.refl _ w).alloc (Nat.le_refl _) _).drew) hb1);clear hb1))
   all_goals (
    go_wp2;go_returns;exact ⟨rfl,by first | exact bw | exact bw.alloc bw.size _⟩)
theorem specNumber (s:ByteArray) (w:World) (hs:s.size≤maxLen):Calls Tryz.prog 116 #[.string s] w fun e w'=>e = .returned (.int .i64 (numOf s.data.toList))∧w=w':=by
 unfold maxLen at hs;have HSz:Hid (s.data.toList.length=s.size):=uH (by simp);by_cases hg:1≤s.size∧s.size≤4
 ·obtain ⟨g1,g2⟩:=hg;have HI:Hid (Calls Tryz.prog 134 #[.int .i64 (s.size:Int),.int .i64 1,.int .i64 4] w fun e w'=>e = .returned (.bool true)∧w=w'):=uH ((l6In_any _ _ _ _).mono fun e w' ⟨he,hw⟩=>⟨by rw [he];exact ret_bool (decide_eq_true (by omega)),hw⟩);go_enter Tryz.func116,Tryz.ntmps116
  (go_wp2_with fail);refine HI.out.mono ?_;rintro e w1 ⟨rfl,rfl⟩;go_wp2
  go_loop [3,4] (fun n i=>∃ k:Nat,k≤s.size∧i = .int .i64 k∧n = .int .i64 ((numV (s.data.toList.take k):Nat):Int)∧Hid ((s.data.toList.take k).all isDig=true)) (fun _ i=>s.size - (intOf i).toNat)
  case atStart=>exact ⟨0,Nat.zero_le _,rfl,rfl,uH rfl⟩
  case round =>
   obtain ⟨k,hk,rfl,rfl,hall⟩:=hrel;have hbd:=dig_bd s k hk g2 hall.out;by_cases hlt:k < s.size
   ·by_cases h1:(s[k].toNat:Int) < 48
    ·go_wp2;go_ret;exact ⟨ret_int (by rw [dig_bad s k hlt (.inl h1)]),rfl⟩
    by_cases h2:57 < (s[k].toNat:Int)
    ·go_wp2;go_ret;exact ⟨ret_int (by rw [dig_bad s k hlt (.inr h2)]),rfl⟩
    have hst:=dig_step s k hlt hall.out (by omega) (by omega);have HA:=uH hst.1;have HV:=uH hst.2;clear hst hall;generalize numV (s.data.toList.take k)=q at *;have h3:48≤(s[k].toNat:Int):=(by omega);have h4:(s[k].toNat:Int)≤57:=(by omega);have hw1:IntKind.u8.wrap ((s[k].toNat:Int) - 48)=(s[k].toNat:Int) - 48:=by
     show ((s[k].toNat:Int) - 48) % 256=_
     omega
    go_wp2
    go_round
    case rel=>exact ⟨k+1,by omega,by go_num,by rw [HV.out],HA⟩
    case measure=>simp [intOf] <;> omega
   ·have HF:Hid (numOf s.data.toList=((numV (s.data.toList.take k):Nat):Int)):=uH (dig_done s k hlt ⟨g1,g2⟩ hall.out);generalize numV (s.data.toList.take k)=q at *;go_wp2;go_ret;exact ⟨ret_int HF.out.symm,rfl⟩
 ·have HF:Hid (numOf s.data.toList=99999):=uH (numOf_small (by rw [HSz.out];exact hg));have HI:Hid (Calls Tryz.prog 134 #[.int .i64 (s.size:Int),.int .i64 1,.int .i64 4] w fun e w'=>e = .returned (.bool false)∧w=w'):=uH ((l6In_any _ _ _ _).mono fun e w' ⟨he,hw⟩=>⟨by rw [he];exact ret_bool (decide_eq_false (by omega)),hw⟩);go_enter Tryz.func116,Tryz.ntmps116
  (go_wp2_with fail);refine HI.out.mono ?_;rintro e w1 ⟨rfl,rfl⟩;go_wp2;go_ret;exact ⟨ret_int HF.out.symm,rfl⟩


theorem specCabinetCount (A:Option Addr) (n c:Nat) (ds:List Drawer) (w:World) (hsz:cabSz ds≤1048576) (h:DrawersIn w w.heap.size A n c ds) :
  Calls Tryz.prog 56 #[.slice A n c] w fun e w'=>e = .returned (.int .i64 (cntI (ds.map (·.ps))))∧Below w.heap.size w w':=by
 have H:=uH h;clear h;have CV:=uH (specCabinetValid A n c ds w hsz H.out);by_cases hv:cabB (ds.map (·.ps))=true
 ·rw [hv] at CV;have HN:=uH (cntI_yes hv);clear hv;go_enter Tryz.func56,Tryz.ntmps56
  (go_wp2_with fail);refine CV.out.mono ?_;rintro e w1 ⟨rfl,b1⟩;(go_wp2_with fail);refine (l8Pads A n c ds w1 hsz (H.out.keep b1)).mono ?_;rintro e w2 ⟨A',c',rfl,_,hb2⟩;have b2:=below_next b1 hb2;go_wp2;go_ret;exact ⟨ret_i (by rw [HN.out,allPads_flat]),b2⟩
 ·have hv':cabB (ds.map (·.ps))=false:=(by simpa using hv);rw [hv'] at CV;have HN:=uH (cntI_no hv');clear hv hv';go_enter Tryz.func56,Tryz.ntmps56
  (go_wp2_with fail);refine CV.out.mono ?_;rintro e w1 ⟨rfl,b1⟩;go_wp2;go_ret;exact ⟨ret_i HN.out.symm,b1⟩







theorem specCopyLeast (A:Option Addr) (n c:Nat) (xs:List Br) (A':Option Addr) (n' c':Nat) (ws:List Wd) (w:World) (hX:OkBs xs) (hW : ∀ l∈ws,l.length≤maxLen) (h:BrsIn w w.heap.size A n c xs) (h':WdsIn w w.heap.size A' n' c' ws) :
  Calls Tryz.prog 178 #[.slice A n c,.slice A' n' c'] w fun e w'=>e = .returned (.int .i64 (leastI (xs.map Br.dat) ws))∧Below w.heap.size w w':=by
 have HB:=uH (l4Both A n c xs A' n' c' ws w hX hW h h');cases hv:(brsB (xs.map Br.dat) && spB ws) with
 | false =>
  have HR:Hid (leastI (xs.map Br.dat) ws = -1):=uH (by unfold leastI;rw [hv];rfl);rw [hv] at HB;clear hv h h' hX hW;go_enter Tryz.func178,Tryz.ntmps178
  (go_wp2_with fail);refine HB.out.mono ?_;rintro e w1 ⟨rfl,hb⟩;go_wp2;go_ret;exact ⟨ret_int HR.out.symm,hb⟩
 | true =>
  have HR:Hid (leastI (xs.map Br.dat) ws=(costOf (xs.map Br.dat) ws:Int)):=uH (by unfold leastI;rw [hv];rfl);rw [hv] at HB;rw [Bool.and_eq_true] at hv;have HC:=uH (fun W (hb:Below w.heap.size w W)=>l4Costs A n c xs A' n' c' ws W hv.1 hv.2 (h.keep hb) (h'.keep hb));clear hv h h' hX hW;go_enter Tryz.func178,Tryz.ntmps178
  (go_wp2_with fail);refine HB.out.mono ?_;rintro e w1 ⟨rfl,hb⟩;have HC1:=uH (HC.out w1 hb);clear HC HB;(go_wp2_with fail);refine HC1.out.mono ?_;rintro e w2 ⟨rfl,hc,hb2⟩;have c0:=hc.cell (j:=0) (Nat.zero_le _);rw [List.drop_zero] at c0;have b2:=below_next hb hb2;clear hc hb2 HC1 hb;go_wp2;go_ret;exact ⟨ret_int HR.out.symm,b2⟩
theorem okMs_nil:OkMs []:=fun x hx=>by cases hx
end Go.Proofs.YtbkhnljaajajiaaGreatDoor
namespace Go.Proofs.YtbkhnljaajajiaaGreatDoor
open Go.ChangeShapes Go.WideShapes Go.ChangeAt Go.RowKit Go.Shelf
set_option maxHeartbeats 1600000 in
theorem specCabinetClear (A:Option Addr) (n c:Nat) (ds:List Drawer) (x:Int) (w:World) (hsz:cabSz ds≤1048576) (h:DrawersIn w w.heap.size A n c ds) :
  Calls Tryz.prog 117 #[.slice A n c,.int .i64 x] w fun e w'=>FileAns w' w.heap.size (thinO (fromDay x) (ds.map (·.ps))) e∧Below w.heap.size w w':=by
 have hm:=h.2.2.1;have hnc:=h.2.1;have HL:Hid (ds.length=n):=uH h.1;unfold maxLen at hm;have H:=uH h;clear h;have HV:Hid (∀ W,Below w.heap.size w W→Calls Tryz.prog 119 #[.slice A n c] W fun e w'=>e = .returned (.bool (cabB (ds.map (·.ps))))∧Below W.heap.size W w'):=uH (fun W hW=>specCabinetValid A n c ds W hsz ((H.out.below hW).more hW.size));obtain ⟨i0,hi,hz0,hz1,hz2⟩:=info_parts infoPad;obtain ⟨i1,hj,hy0,hy1,hy2⟩:=info_parts infoSl;have hal:Below w.heap.size w (w.alloc (.cells #[] 46)):=(Below.refl _ _).alloc (Nat.le_refl _) _;cases hv:cabB (ds.map (·.ps)) with
 | false =>
  have HN:=uH (thinO_no (p:=fromDay x) hv);rw [hv] at HV;clear hv;have HC0:=uH (CabOwn.made w);go_enter Tryz.func117,Tryz.ntmps117
  go_wp2;go_loopw [6,7] (fun v i wr=>i = .int .i64 0∧v = .slice (some ⟨w.heap.size,0,none⟩) 0 0∧Hid (CabOwn wr w.heap.size (.slice (some ⟨w.heap.size,0,none⟩) 0 0) [])∧Below w.heap.size w wr) (fun _ _ _=>0)
  case atStart=>exact ⟨rfl,rfl,HC0,hal⟩
  case round =>
   obtain ⟨rfl,rfl,hO,hb⟩:=hrel;have tail : ∀ w1,CabOwn w1 w.heap.size (.slice (some ⟨w.heap.size,0,none⟩) 0 0) []→Below w.heap.size w w1→Calls Tryz.prog 145 #[.slice (some ⟨w.heap.size,0,none⟩) 0 0] w1 fun e w'=>(∃ A c,e = .returned (.slice A 0 c)∧CabOwn w' w.heap.size (.slice A 0 c) [])∧Below w.heap.size w w':=fun w1 hO1 hb1 =>
    (l8Copy _ 0 0 [] w1 (by omega) (by simp) (hO1.reads rfl)).mono fun e w' ⟨ha,hb'⟩=>⟨by
     obtain ⟨A,c,he,hc⟩:=CabAns.nil (by simpa using ha);exact ⟨A,c,he,hc.mono hb1.size⟩,hb1.trans (hb'.mono hb1.size)⟩
   have HT:=uH tail;clear tail;by_cases hlt:0 < n
   ·have hV:=uH (HV.out _ hb);(go_wp2_with fail);refine hV.out.mono ?_;rintro e w1 ⟨rfl,hb1⟩;have b1:=hb.trans (hb1.mono hb.size);have HO1:=uH (hO.out.keep hb1);clear hb1;(go_wp2_with fail);refine (HT.out w1 HO1.out b1).mono ?_;rintro e w2 ⟨⟨A2,c2,rfl,hO2⟩,b2⟩;have HO2:=uH hO2;have hV2:=uH (HV.out _ b2);clear hO2;(go_wp2_with fail);refine hV2.out.mono ?_;rintro e w3 ⟨rfl,hb3⟩;have b3:=b2.trans (hb3.mono b2.size);have HO3:=uH (HO2.out.keep hb3);go_wp2;go_returns;exact ⟨.no HN.out rfl HO3.out,b3⟩
   ·obtain rfl:n=0:=(by omega);(go_wp2_with fail);refine (HT.out wr hO.out hb).mono ?_;rintro e w2 ⟨⟨A2,c2,rfl,hO2⟩,b2⟩;have HO2:=uH hO2;have hV2:=uH (HV.out _ b2);clear hO2;(go_wp2_with fail);refine hV2.out.mono ?_;rintro e w3 ⟨rfl,hb3⟩;have b3:=b2.trans (hb3.mono b2.size);have HO3:=uH (HO2.out.keep hb3);go_wp2;go_returns;exact ⟨.no HN.out rfl HO3.out,b3⟩
 | true =>
  have HN:=uH (thinO_yes (p:=fromDay x) hv);have HC:=uH (cabB_iff.1 hv);rw [hv] at HV;clear hv;have hn6:n≤6:=(by have:=HC.out.1;rw [List.length_map,HL.out] at this;exact this);have HC0:=uH (CabOwn.made w);go_enter Tryz.func117,Tryz.ntmps117
  go_wp2;go_loopw [6,7] (fun v i wr=>∃ (k:Nat) (ds':List Drawer),k≤n∧i = .int .i64 k∧ds'.length=k∧Hid (CabOwn wr w.heap.size v ds')∧Hid (ds'.map (·.ps)=((ds.take k).map (·.ps)).map (·.filter (fromDay x)))∧Below w.heap.size w wr) (fun _ i _=>n - (intOf i).toNat)
  case atStart=>exact ⟨0,[],Nat.zero_le _,rfl,rfl,HC0,uH (by simp),hal⟩
  case round =>
   obtain ⟨k,ds',hk,rfl,hdl,hO,hM,hb⟩:=hrel;have HDL:=uH hdl;have hz:=hb.size;by_cases hlt:k < n
   ·have hV:=uH (HV.out _ hb);(go_wp2_with fail);refine hV.out.mono ?_;rintro e w1 ⟨rfl,hb1⟩;have b1:=hb.trans (hb1.mono hb.size);have HO1:=uH (hO.out.keep hb1);have hkl:k < ds.length:=(by rw [HL.out];exact hlt);obtain ⟨b,off,eA,hbB,c0w,hP⟩:=H.out.at_ hlt;have hlo:=(HC.out.2.1 _ (List.mem_map_of_mem (drAt_mem hkl))).2;rw [hP.1] at hlo;have HT:Hid (((ds.take (k+1)).map (·.ps)).map (·.filter (fromDay x))=((ds.take k).map (·.ps)).map (·.filter (fromDay x))++[(drAt ds k).ps.filter (fromDay x)]):=uH (by rw [take_step (drAt_some hkl)];simp);have HPS:=uH hP.1;have HGd:=uH hP.2.2.2.2;have HP:=uH hP;have hcm2:=hP.2.2.1;have hnc2:=hP.2.1;unfold maxLen at hcm2;have c01:(w1.alloc (.cells #[] 53)).cell? ⟨b,off+k,none⟩=some (.slice (drAt ds k).A (drAt ds k).n (drAt ds k).c):=Lib.cell?_alloc_some _ ((b1.cell (p:=⟨b,off+k,none⟩) hbB).trans c0w);subst eA;clear hb1 hV hP hkl hO hb hz hdl;generalize drAt ds k=d at *;have hzw:=b1.size;have hdl':ds'.length≤n:=(by have:=HDL.out;omega);go_wp2;go_loopw [8,9] (fun v i wr=>∃ j:Nat,j≤d.n∧i = .int .i64 j∧Hid (PadsOwn wr w1.heap.size v ((d.ps.take j).filter (fromDay x)))∧Below w1.heap.size w1 wr) (fun _ i _=>d.n - (intOf i).toNat)
    case atStart=>exact ⟨0,Nat.zero_le _,rfl,uH (by simpa using (show PadsOwn _ _ _ [] from World.ownsRow_made w1 #[] 0 (Nat.le_refl _) (by simp) (by simp))),(Below.refl _ _).alloc (Nat.le_refl _) _⟩
    case round =>
     obtain ⟨j,hjn,rfl,hPo,hbr⟩:=hrel;have br:Below w.heap.size w wr:=b1.trans (hbr.mono hzw);have hzr:=hbr.size;have c0r:wr.cell? ⟨b,off+k,none⟩=some (.slice d.A d.n d.c):=(br.cell (p:=⟨b,off+k,none⟩) hbB).trans c0w;by_cases hlj:j < d.n
     ·obtain ⟨b2,off2,eA2,hbB2,x0,x1,hg⟩:=(HP.out.below br).at_ hlj;have hjl:j < d.ps.length:=(by rw [HPS.out];exact hlj);rw [eA2] at c0r;have hln:((d.ps.take j).filter (fromDay x)).length≤4:=Nat.le_trans (List.length_filter_le _ _) (by rw [List.length_take];omega);cases he:fromDay x (padAt d.ps j) with
      | true =>
       have HS:Hid ((d.ps.take (j+1)).filter (fromDay x)=(d.ps.take j).filter (fromDay x)++[padAt d.ps j]):=uH (by rw [take_step (padAt_some hjl),List.filter_append];simp [he]);have hge:x≤(padAt d.ps j).day:=of_decide_eq_true he;clear he hjl eA2 hg;generalize padAt d.ps j=q at *;generalize (d.ps.take j).filter (fromDay x)=D at *;go_wp2_with (at_builtin;refine wpList_append_any _ rfl (.tmp 41) (.tmp 49) _ rfl w1.heap.size 53 i0 _ 2 24 Tryz.underlying46 hi hz0 hz1 hz2 rfl (by omega) _ D.length (D.flatMap padC) rfl (hPo.out.alloc _) (wr.heap.size+1) (some ⟨wr.heap.size,0,none⟩) 1 1 [.int .i64 q.day,.string q.case] rfl (rowNewPad _ _ _ _) (by simp [Value.oneCell']) (by unfold maxLen;omega) (by omega) (by simp;omega) ?_;intro v2 w2 hown2 hg2 hat2)
       have HP2:Hid (PadsOwn w2 w1.heap.size v2 ((d.ps.take (j+1)).filter (fromDay x))):=uH (by rw [HS.out];unfold PadsOwn;rw [List.length_append,List.flatMap_append];exact hown2);have b2':=(hbr.alloc hzr (.cells #[.int .i64 q.day,.string q.case] 53)).grown hg2 (by simp;omega) (fun z hz=>own_base hPo.out hz);clear hown2 hg2 hat2;go_wp2;go_roundw
       case rel=>exact ⟨j+1,by omega,by go_num,HP2,b2'⟩
       case measure=>simp [intOf];omega
      | false =>
       have HP2:Hid (PadsOwn wr w1.heap.size _ ((d.ps.take (j+1)).filter (fromDay x))):=uH (by rw [take_step (padAt_some hjl),List.filter_append];simpa [he] using hPo.out);have hge:(padAt d.ps j).day < x:=(by have:=of_decide_eq_false he;omega);clear he hjl eA2 hg;generalize padAt d.ps j=q at *;go_wp2;go_roundw
       case rel=>exact ⟨j+1,by omega,by go_num,HP2,hbr⟩
       case measure=>simp [intOf];omega
     ·obtain rfl:j=d.n:=(by omega);have hfull:d.ps.take d.n=d.ps:=List.take_of_length_le (by rw [HPS.out];exact Nat.le_refl _);rw [hfull] at hPo;obtain ⟨Av,cv,ev,hcv,hmv⟩:=own_form hPo.out;subst ev;have HOr:=uH (HO1.out.keep hbr);have HPo:=uH hPo.out;clear hfull hPo;generalize hD:d.ps.filter (fromDay x)=D at *;have HD:=uH hD;clear hD;go_wp2_with (at_builtin;refine wpList_append_any _ rfl (.tmp 51) (.tmp 53) _ rfl w.heap.size 46 i1 _ 1 24 Tryz.underlying48 hj hy0 hy1 hy2 rfl (by omega) _ ds'.length (ds'.flatMap drawerC) rfl (HOr.out.1.alloc _) (wr.heap.size+1) (some ⟨wr.heap.size,0,none⟩) 1 1 [.slice Av D.length cv] rfl cabRow1 (by simp [Value.oneCell']) (by unfold maxLen;omega) (by omega) (by simp;omega) ?_;intro v3 w3 hown3 hg3 hat3)
      have hpush:=newPush hzw HO1.out hbr (by have h:=HPo.out;unfold PadsOwn at h;exact h) rfl (fun p hp=>by
       have hp2:p∈d.ps.filter (fromDay x):=(by rw [HD.out];exact hp);exact HGd.out p (List.mem_filter.1 hp2).1) hg3 hown3
      have HC3:=uH hpush.1;have b3:=b1.trans hpush.2;have HM3:Hid ((ds'++[(⟨Av,D.length,cv,D⟩:Drawer)]).map (·.ps)=((ds.take (k+1)).map (·.ps)).map (·.filter (fromDay x))):=uH (by rw [HT.out,← hM.out,List.map_append];rfl);clear hpush hown3 hg3 hat3;go_wp2;go_roundw
      case rel=>exact ⟨k+1,_,by omega,by go_num,by rw [List.length_append,HDL.out];rfl,HC3,HM3,b3⟩
      case measure=>simp [intOf];omega
   ·obtain rfl:k=n:=(by omega);clear hdl;have hdl':ds'.length≤k:=(by have:=HDL.out;omega);have hkn:ds.take k=ds:=List.take_of_length_le (by have:=HL.out;omega);rw [hkn] at hM;obtain ⟨Av,cv,ev,hcv,hmv⟩:=hO.out.form;subst ev;have hdn : ∀ d∈ds',d.n≤1048576:=fun d hd=>by
     have h1:=(hO.out.2.1 d hd).1;have h2:d.ps∈((ds.map (·.ps)).map (·.filter (fromDay x))):=(by rw [← hM.out];exact List.mem_map_of_mem hd);obtain ⟨c1,hc1,e1⟩:=List.mem_map.1 h2;have h3:=(HC.out.2.1 c1 hc1).2;have h4:d.ps.length≤c1.length:=(by rw [← e1];exact List.length_filter_le _ _);omega
    have HCp:=uH (l8Copy Av ds'.length cv ds' wr (by omega) hdn (hO.out.reads rfl));have HM:=uH hM.out;clear hkn hM hdn;(go_wp2_with fail);refine HCp.out.mono ?_;rintro e w2 ⟨⟨A2,c2,d2,rfl,hO2,hM2⟩,hb2⟩;have b2:=hb.trans (hb2.mono hz);have HO2:=uH (hO2.mono hz);have hV2:=uH (HV.out _ b2);have HF:Hid (thinO (fromDay x) (ds.map (·.ps))=some (d2.map (·.ps))):=uH (by rw [HN.out,hM2,HM.out];rfl);clear hO2 hM2;(go_wp2_with fail);refine hV2.out.mono ?_;rintro e w3 ⟨rfl,hb3⟩;have b3:=b2.trans (hb3.mono b2.size);have HO3:=uH (HO2.out.keep hb3);go_wp2;go_returns;exact ⟨.yes HF.out rfl HO3.out,b3⟩
end Go.Proofs.YtbkhnljaajajiaaGreatDoor
