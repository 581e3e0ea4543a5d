/-
  Contracts and plain laws that the proofs lean on. Conditions: as each says.
-/
import Derived.Test.YtbkhnljaajajiaaGreatDoorPX09
import Derived.Test.YtbkhnljaajajiaaGreatDoorPX14
import Derived.Test.YtbkhnljaajajiaaGreatDoorPX16
set_option maxRecDepth 100000
set_option linter.unusedSimpArgs false
set_option linter.unusedVariables false
set_option linter.unnecessarySimpa false
namespace Go.Proofs.YtbkhnljaajajiaaGreatDoor
open Go.ChangeShapes Go.WideShapes Go.ChangeAt Go.RowKit
theorem join_len1 {n:Nat} {L:List (List UInt8)} {s:UInt8} (h : ∀ l∈L,l.length≤n):(Lib.join L [s]).length≤(n+1) * L.length:=by
 cases L with
 | nil=>simp [Lib.join_nil]
 | cons x r =>
  rw [Lib.join_cons,List.length_append];have h1:=h x (by simp);have h2:(Lib.joinTail [s] r).length≤(n+1) * r.length:=by
   unfold Lib.joinTail;have h0 : ∀ l∈r,l.length≤n:=fun l hl=>h l (by simp [hl]);clear h;induction r with
   | nil=>simp
   | cons y r ih =>
    have h3:=h0 y (by simp);have h4:=ih (fun l hl=>h0 l (by simp [hl]));simp only [List.map_cons,List.flatten_cons,List.length_append,List.length_cons,List.length_nil] at h4 ⊢;rw [Nat.mul_add];omega
  rw [List.length_cons,Nat.mul_add];omega
theorem joinWds (A:Option Addr) (n c:Nat) (ws:List Wd) (s:UInt8) (w:World) (hn:n≤1000000) (hl : ∀ l∈ws,l.length≤1000000) (h:WdsIn w w.heap.size A n c ws) :
  Calls Tryz.prog 73 #[.slice A n c,.string { data:=#[s] }] w fun e w'=>e = .returned (.string (mkStr (Lib.join ws [s])))∧Below w.heap.size w w':=by
 by_cases h0:n=0
 ·have hps:ws=[]:=List.length_eq_zero_iff.1 (by rw [h.1];exact h0);subst hps h0;exact (Tryz.strings_Join_none A c _ w).mono fun e w' ⟨he,hw⟩=>⟨by rw [he,Lib.join_nil];rfl,by rw [hw];exact Below.refl _ _⟩
 ·obtain ⟨b,off,eA,hbB,_⟩:=h.at_ (k:=0) (by omega);subst eA;have hS:(ws.map mkStr).length=n:=(by rw [List.length_map];exact h.1);have hmap:(ws.map mkStr).map (·.data.toList)=ws:=by
   rw [List.map_map]
   conv=>rhs;rw [← List.map_id ws]
   exact List.map_congr_left (fun l _=>mkStr_data l)
  have hJ:=Tryz.strings_Join b off c (ws.map mkStr) { data:=#[s] } w (fun j x hx=>by
   rw [List.getElem?_map] at hx;cases hd:ws[j]? with
   | none=>rw [hd] at hx;cases hx
   | some d =>
    rw [hd] at hx;injection hx with hx;subst hx;have hj:j < n:=by
     rw [← h.1];exact (List.getElem?_eq_some_iff.1 hd).1
    obtain ⟨b',off',e1,_,hc⟩:=h.at_ hj;injection e1 with e1;injection e1 with e1 e2;subst e1 e2;rw [hc];have h6:=wdAt_some (ws:=ws) (k:=j) (by rw [h.1];exact hj);rw [hd] at h6;injection h6 with h6;rw [h6]) hbB (by rw [hS];omega) (by rw [hS];exact h.2.1) (by
   rw [hmap];have h7:=join_len1 (s:=s) hl;rw [h.1] at h7;have h8:(1000000+1) * n≤(1000000+1) * 1000000:=Nat.mul_le_mul_left _ hn
   show (Lib.join ws [s]).length≤_
   omega)
  rw [hS,hmap] at hJ;exact hJ
def mkTx (m:Mk):Wd:=Lib.decDigits m.at_++[45]++Lib.decDigits m.cut++[43]++Lib.join m.put [44]
def marksTxt (ms:List Mk):Wd:=Lib.join (ms.map mkTx) [32]
def marksText (ws:List Wd) (ms:List Mk):Wd:=if marksB ws ms=true then marksTxt ms else []
theorem marksText_yes {ws:List Wd} {ms:List Mk} (h:marksB ws ms=true):marksText ws ms=marksTxt ms:=if_pos h
theorem marksText_no {ws:List Wd} {ms:List Mk} (h:marksB ws ms=false):marksText ws ms=[]:=by unfold marksText;rw [h];rfl
theorem itoaSmall (i:Nat) (w:World) (h:i < 100):Calls Tryz.prog 50 #[.int .i64 (i:Int)] w fun e w'=>e = .returned (.string (mkStr (Lib.decDigits i)))∧Below w.heap.size w w' :=
 (Tryz.strconv_Itoa_small i h w).mono fun e w' ⟨he,hw⟩=>⟨he,by rw [hw];exact Below.refl _ _⟩
theorem mark_bd {base:List Wd} {ms:List Mk} (h:marksB base ms=true):ms.length≤20∧∀ x∈ms,x.at_≤20∧x.cut≤20∧x.put.length≤20∧∀ l∈x.put,l.length≤12:=by
 obtain ⟨h0,h1,h2,_⟩:=marksB_iff.1 h;refine ⟨h1,fun x hx=>?_⟩;have h3:=mkB_iff.1 ((gapB_ord h2).1 x hx);have h4:=spB_iff.1 h3.2.1;have h5:=(spB_iff.1 h0).2;refine ⟨by omega,by omega,h4.2,fun l hl=>?_⟩;have:=h4.1 l hl;unfold wordB at this;simp only [Bool.and_eq_true,decide_eq_true_eq] at this;exact this.2.2
theorem decN_len (i:Nat) (h:i≤1000000):(Lib.decDigits i).length≤20:=by
 rw [Lib.decDigits_length];exact Lib.nDigits_le20 _ (by omega)
theorem mkTx_len {m:Mk} (h1:m.at_≤20) (h2:m.cut≤20) (h3:m.put.length≤20) (h4 : ∀ l∈m.put,l.length≤12):(mkTx m).length≤400:=by
 have a1:=decN_len m.at_ (by omega);have a2:=decN_len m.cut (by omega);have a3:=join_len1 (s:=44) h4;have a4:(12+1) * m.put.length≤(12+1) * 20:=Nat.mul_le_mul_left _ h3;unfold mkTx;simp only [List.length_append,List.length_cons,List.length_nil];omega
set_option maxHeartbeats 3200000 in
theorem implMarksText (A:Option Addr) (n c:Nat) (ws:List Wd) (A':Option Addr) (n' c':Nat) (xs:List Mr) (w:World) (hW : ∀ l∈ws,l.length≤maxLen) (hX:OkMs xs) (h:WdsIn w w.heap.size A n c ws) (h':MrsIn w w.heap.size A' n' c' xs) :
  Calls Tryz.prog 30 #[.slice A n c,.slice A' n' c'] w fun e w'=>e = .returned (.string (mkStr (marksText ws (xs.map Mr.dat))))∧Below w.heap.size w w':=by
 have HV:=uH (implMarksValid A n c ws A' n' c' xs w hW hX h h');cases hv:marksB ws (xs.map Mr.dat) with
 | false =>
  have HR:Hid (marksText ws (xs.map Mr.dat)=[]):=uH (marksText_no hv);rw [hv] at HV;clear hv h h' hX hW;go_enter Tryz.func30,Tryz.ntmps30
  (go_wp2_with fail);refine HV.out.mono ?_;rintro e w1 ⟨rfl,hb⟩;go_wp2;go_ret;exact ⟨by rw [HR.out];rfl,hb⟩
 | true =>
  have HR:Hid (marksText ws (xs.map Mr.dat)=Lib.join (xs.map fun x=>mkTx x.dat) [32]):=uH (by rw [marksText_yes hv];unfold marksTxt;rw [List.map_map];rfl);obtain ⟨hbd1,hbd2⟩:=mark_bd hv;rw [List.length_map,h'.1] at hbd1;have HBd:Hid (∀ x∈xs,x.at_≤20∧x.cut≤20∧x.put.length≤20∧∀ l∈x.put,l.length≤12):=uH (fun x hx=>hbd2 x.dat (List.mem_map.2 ⟨x,hx,rfl⟩));have HL:=uH h'.1;have H:=uH h';obtain ⟨j0,hj,hy0,hy1,hy2⟩:=info_parts infoWd;rw [hv] at HV;clear hv h h' hX hW hbd2;go_enter Tryz.func30,Tryz.ntmps30
  (go_wp2_with fail);refine HV.out.mono ?_;rintro e w1 ⟨rfl,hb1⟩;have ba:=hb1.alloc hb1.size (.cells #[] 9);have HO0:Hid (WdOwn (w1.alloc (.cells #[] 9)) w.heap.size (.slice (some ⟨w1.heap.size,0,none⟩) 0 0) []):=uH (World.ownsRow_made w1 #[] 0 hb1.size (by simp) (by simp));clear HV hb1;go_wp2;go_loopw [5,16] (fun s5 s16 wr=>∃ (k:Nat) (v:Value),k≤n'∧s5=v∧s16 = .int .i64 k∧Hid (wr.ownsRow w.heap.size 9 1 v k (((xs.take k).map fun x=>mkTx x.dat).map strP))∧Below w.heap.size w wr) (fun _ s16 _=>n' - (intOf s16).toNat)
  case atStart=>exact ⟨0,_,Nat.zero_le _,rfl,rfl,HO0,ba⟩
  case round =>
   obtain ⟨k,v,hk,rfl,rfl,HO,hb⟩:=hrel;have hzw:=hb.size;have i1:(0:Int)≤(k:Int):=(by omega);by_cases hlt:k < n'
   ·have i2:(k:Int) < (n':Int):=(by omega);have hkl:k < xs.length:=(by rw [HL.out];exact hlt);obtain ⟨b,off,rfl,hbB,c0,c1,c2,hI⟩:=(H.out.keep hb).at_ hlt;obtain ⟨g1,g2,g3,g4⟩:=HBd.out _ (mrAt_mem hkl);have HSt:Hid (((xs.take (k+1)).map fun x=>mkTx x.dat).map strP=((xs.take k).map fun x=>mkTx x.dat).map strP++[.string (mkStr (mkTx (mrAt xs k).dat))]):=uH (by
     have h2:=mrAt_some hkl;rw [List.getElem?_eq_getElem hkl] at h2;injection h2 with h2;rw [List.take_succ_eq_append_getElem hkl,List.map_append,List.map_append,h2];rfl)
    have hpl:=hI.1;have htl:=mkTx_len (m:=(mrAt xs k).dat) g1 g2 g3 g4;clear hkl;generalize mrAt xs k=x at *;have ba:Below wr.heap.size wr (wr.alloc (.cells #[.int .i64 (x.at_:Int),.int .i64 (x.cut:Int),.slice x.A x.n x.c] 116)):=(Below.refl _ _).alloc (Nat.le_refl _) _;have K:=Blk.new wr 116 #[.int .i64 (x.at_:Int),.int .i64 (x.cut:Int),.slice x.A x.n x.c];have k0:=K.cell 0;have k1:=K.cell 1;have k2:=K.cell 2;have HK:=uH K;have HIa:=uH (fun W=>itoaSmall x.at_ W (by omega));have HIc:=uH (fun W=>itoaSmall x.cut W (by omega));have HJ:Hid (∀ W,Below wr.heap.size wr W→Calls Tryz.prog 73 #[.slice x.A x.n x.c,.string { data:=#[44] }] W fun e w'=>e = .returned (.string (mkStr (Lib.join x.put [44])))∧Below W.heap.size W w'):=uH (fun W hW=>joinWds x.A x.n x.c x.put 44 W (by omega) (fun l hl=>by have:=g4 l hl;omega) (MrIn.keep hI hW));have d1:=decN_len x.at_ (by omega);have d2:=decN_len x.cut (by omega);have d3:=join_len1 (s:=44) g4;have d4:(12+1) * x.put.length≤(12+1) * 20:=Nat.mul_le_mul_left _ g3;have hadd1 : ∀ W',(Op.stringOp .add (mkStr (Lib.decDigits x.at_)) { data:=#[45] }).run Tryz.prog W' = .ok (.string (mkStr (Lib.decDigits x.at_++[45]))) W':=fun W'=>run_add _ [45] (by simp;omega) W';have hadd2 : ∀ W',(Op.stringOp .add (mkStr (Lib.decDigits x.at_++[45])) (mkStr (Lib.decDigits x.cut))).run Tryz.prog W' = .ok (.string (mkStr (Lib.decDigits x.at_++[45]++Lib.decDigits x.cut))) W':=fun W'=>run_add _ _ (by simp;omega) W';have hadd3 : ∀ W',(Op.stringOp .add (mkStr (Lib.decDigits x.at_++[45]++Lib.decDigits x.cut)) { data:=#[43] }).run Tryz.prog W' = .ok (.string (mkStr (Lib.decDigits x.at_++[45]++Lib.decDigits x.cut++[43]))) W':=fun W'=>run_add _ [43] (by simp;omega) W';have hadd4 : ∀ W',(Op.stringOp .add (mkStr (Lib.decDigits x.at_++[45]++Lib.decDigits x.cut++[43])) (mkStr (Lib.join x.put [44]))).run Tryz.prog W' = .ok (.string (mkStr (mkTx x.dat))) W':=fun W'=>run_add _ _ (by simp;omega) W';have HVl:Hid (∀ q,u5.ownBlock=some q→q < wr.heap.size∧w.heap.size≤q):=uH (fun q hq=>⟨ownG_lt HO.out hq,ownG_base HO.out hq⟩);clear hI g1 g2 g3 g4 d1 d2 d3 d4 hpl htl K;generalize mkStr (Lib.decDigits x.at_++[45]++Lib.decDigits x.cut++[43])=t4 at *;generalize mkStr (Lib.decDigits x.at_++[45]++Lib.decDigits x.cut)=t3 at *;generalize mkStr (Lib.decDigits x.at_++[45])=t2 at *;generalize mkStr (Lib.decDigits x.at_)=t0 at *;generalize mkStr (Lib.decDigits x.cut)=t1 at *;generalize mkStr (Lib.join x.put [44])=t5 at *;generalize mkStr (mkTx x.dat)=t6 at *;(go_wp2_with fail);go_region_held3 (fun w'=>w'.cell? ⟨wr.heap.size,0,none⟩=some (.int .i64 (x.at_:Int))∧w'.cell? ⟨wr.heap.size,1,none⟩=some (.int .i64 (x.cut:Int))) (first | exact ⟨by assumption,by assumption⟩ | go_keep)
     (first
      | (go_at_call_of 50 (Value.int .i64 (x.at_:Int));refine (HIa.out _).mono ?_;rintro e w3 ⟨rfl,hb3⟩;have p0:=kcell hb3 (show World.cell? (World.drew _) _=_ from k0);have p1:=kcell hb3 (show World.cell? (World.drew _) _=_ from k1))
      | (go_at_call_of 50 (Value.int .i64 (x.cut:Int));refine (HIc.out _).mono ?_;rintro e w4 ⟨rfl,hb4⟩;have q0:=kcell hb4 p0;have q1:=kcell hb4 p1))
    have hb34:=below_next (below_next ((Below.refl _ _).drew) hb3) hb4;have b4:=below_next (below_next hb ba) hb34;have K4:=(HK.out.below hb34).cell 2;have HO4:Hid (w4.ownsRow w.heap.size 9 1 u5 k (((xs.take k).map fun x=>mkTx x.dat).map strP)):=uH (ownG_keep (ownG_keep HO.out ba) hb34);have HJ4:=uH (HJ.out w4 (below_next ba hb34));clear hb34 hb3 hb4 p0 p1 q0 q1 HK HO hb ba HIa HIc HJ;(go_wp2_with fail);refine HJ4.out.mono ?_;rintro e w5 ⟨rfl,hb5⟩;have b5:=below_next b4 hb5;have hz5:=b5.size;have HO5:=uH (ownG_keep HO4.out hb5);clear hb5 HJ4 HO4 b4 K4;go_wp2_with (at_builtin;refine wpList_append_any _ rfl (.tmp 28) (.tmp 35) _ rfl w.heap.size 9 j0 _ 1 16 Tryz.underlying27 hj hy0 hy1 hy2 rfl (by omega) _ k (((xs.take k).map fun x=>mkTx x.dat).map strP) rfl (ownG_keep HO5.out ((Below.refl _ _).alloc (Nat.le_refl _) _)) (w5.heap.size+1) (some ⟨w5.heap.size,0,none⟩) 1 1 [.string t6] (by simp [Act.eval,Act.put]) (rowNew1 _ _ _) (by simp [Value.oneCell']) (by unfold maxLen;omega) (by omega) (by simp;omega) ?_;intro v6 w6 hown6 hg6 hat6)
    have HO6:Hid (w6.ownsRow w.heap.size 9 1 v6 (k+1) (((xs.take (k+1)).map fun x=>mkTx x.dat).map strP)):=uH (by rw [HSt.out];exact hown6);have b6:Below w.heap.size w w6:=(b5.alloc hz5 _).grown hg6 (by simp;omega) (fun q hq=>ownG_base HO5.out hq);clear hown6 hg6 hat6 HO5 HSt hadd1 hadd2 hadd3 hadd4 c0 c1 c2 k0 k1 k2;go_wp2;go_roundw
    case rel=>exact ⟨k+1,v6,by omega,rfl,by go_num,HO6,b6⟩
    case measure=>simp [intOf] <;> omega
   ·obtain rfl:k=n':=(by omega);rw [List.take_of_length_le (by rw [HL.out];exact Nat.le_refl _)] at HO;obtain ⟨A4,c4,rfl,_,_⟩:=ownG_form HO.out;have HJ:=uH (joinWds A4 k c4 (xs.map fun x=>mkTx x.dat) 32 wr (by omega) (fun l hl=>by
     obtain ⟨x,hx,rfl⟩:=List.mem_map.1 hl;obtain ⟨g1,g2,g3,g4⟩:=HBd.out x hx;have:=mkTx_len (m:=x.dat) g1 g2 g3 g4;omega) (WdOwn.reads (by unfold WdOwn;rw [List.length_map,HL.out];exact HO.out) (by rw [List.length_map];exact HL.out)))
    clear HO;(go_wp2_with fail);refine HJ.out.mono ?_;rintro e w3 ⟨rfl,hb3⟩;have b3:=below_next hb hb3;go_wp2;go_ret;exact ⟨by rw [HR.out];rfl,b3⟩
theorem SmOwn.reads {w:World} {B N:Nat} {v:Value} (h:SmOwn w B N v) : ∃ A c ss,ss.length=N∧v = .slice A N c∧StrokesIn w w.heap.size A N c ss:=by
 obtain ⟨ss,hl,hO,hS⟩:=h;obtain ⟨A,c,rfl,_,_⟩:=ownG_form hO;subst hl;exact ⟨A,c,ss,rfl,rfl,hO.reads rfl fun s hs=>(hS s hs).good⟩
end Go.Proofs.YtbkhnljaajajiaaGreatDoor
