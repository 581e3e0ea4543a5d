/-
  Contracts and plain laws that the proofs lean on. Conditions: as each says.
-/
import Derived.Test.YtbkhnljaajajiaaGreatDoorPX15
import Derived.Test.YtbkhnljaajajiaaGreatDoorPX20
import Derived.Test.YtbkhnljaajajiaaGreatDoorPX23
set_option maxRecDepth 100000
set_option linter.unusedSimpArgs false
set_option linter.unusedVariables false
set_option linter.unnecessarySimpa false
namespace Go.Proofs.YtbkhnljaajajiaaGreatDoor
open Go.ChangeShapes Go.WideShapes Go.ChangeAt Go.RowKit Go.Maps
def wof (xs:List Sg) (l:List UInt8):Option Dat:=(wordOut xs l).map fun o=>(o,posOf l)
def allW (xs:List Sg):List (List UInt8)→Option (List Dat)
 | []=>some []
 | l::r=>(wof xs l).bind fun d=>(allW xs r).map (d::·)
def lineOf (xs:List Sg) (ws:List (List UInt8)):Option (List Dat):=if sysB xs=true∧ws.length≤20 then allW xs ws else none
theorem allW_snoc (xs:List Sg) (a:List (List UInt8)) (l:List UInt8):allW xs (a++[l])=(allW xs a).bind fun L=>(wof xs l).map fun d=>L++[d]:=by
 induction a with
 | nil=>simp only [List.nil_append,allW];cases wof xs l <;> rfl
 | cons x r ih =>
  simp only [List.cons_append,allW,ih];cases wof xs x <;> cases allW xs r <;> cases wof xs l <;> rfl
theorem allW_no {xs:List Sg} {a:List (List UInt8)} {l:List UInt8} (h:l∈a) (hn:wof xs l=none):allW xs a=none:=by
 induction a with
 | nil=>cases h
 | cons x r ih =>
  rcases List.mem_cons.1 h with rfl | h
  ·simp [allW,hn]
  ·simp only [allW,ih h];cases wof xs x <;> rfl
theorem allW_step {xs:List Sg} {ws:List (List UInt8)} {k:Nat} {L:List Dat} {d:Dat} (hk:k < ws.length) (h:allW xs (ws.take k)=some L) (hd:wof xs (wdAt ws k)=some d):allW xs (ws.take (k+1))=some (L++[d]):=by
 rw [List.take_add_one,wdAt_some hk]
 show allW xs (ws.take k++[wdAt ws k])=_
 rw [allW_snoc,h,hd];rfl
theorem lineOf_no {xs:List Sg} {ws:List (List UInt8)} {l:List UInt8} (h:l∈ws) (hn:wof xs l=none):lineOf xs ws=none:=by
 unfold lineOf;split
 ·exact allW_no h hn
 ·rfl
set_option maxHeartbeats 1600000 in
theorem implLineOf (A:Option Addr) (n c:Nat) (xs:List Sg) (A':Option Addr) (n' c':Nat) (ws:List (List UInt8)) (w:World) (hW : ∀ l∈ws,l.length≤maxLen) (h:SgsIn w w.heap.size A n c xs) (h':WdsIn w w.heap.size A' n' c' ws) :
  Calls Tryz.prog 37 #[.slice A n c,.slice A' n' c'] w fun e w'=>LinAns w' (lineOf xs ws) e∧Below w.heap.size w w':=by
 obtain ⟨i0,hi,hz0,hz1,hz2⟩:=info_parts infoWr;have hm:=h'.2.2.1;have hnc:=h'.2.1;unfold maxLen at hm;have HL:=uH h'.1;have HV:=uH (implSystemValid A n c xs w h);have HWo:=uH (fun W (hb:Below w.heap.size w W) (l:List UInt8) (hl:l.length≤maxLen)=>implWrittenOf A n c xs l W hl (h.keep hb));have HW:=uH hW;have H':=uH h';have HZ:=uH (fun (W:World) (AA:Option Addr)=>WrsIn.zero W W.heap.size AA);clear h h' hW;cases hs:sysB xs with
 | false =>
  have HR:Hid (lineOf xs ws=none):=uH (if_neg (fun h=>by rw [hs] at h;cases h.1));rw [hs] at HV;clear hs;go_enter Tryz.func37,Tryz.ntmps37
  (go_wp2_with fail);refine HV.out.mono ?_;rintro e w1 ⟨rfl,b1⟩;go_wp2;go_returns;exact ⟨.inl ⟨HR.out,_,_,rfl,HZ.out _ _⟩,b1⟩
 | true =>
  rw [hs] at HV;by_cases h20:20 < n'
  ·have HR:Hid (lineOf xs ws=none):=uH (if_neg (fun h=>by have:=h.2;rw [HL.out] at this;omega));clear hs;go_enter Tryz.func37,Tryz.ntmps37
   (go_wp2_with fail);refine HV.out.mono ?_;rintro e w1 ⟨rfl,b1⟩;go_wp2;go_returns;exact ⟨.inl ⟨HR.out,_,_,rfl,HZ.out _ _⟩,b1⟩
  ·have HR:Hid (lineOf xs ws=allW xs ws):=uH (if_pos ⟨hs,by rw [HL.out];omega⟩);have HNo:=uH (fun l (h:l∈ws) hn=>lineOf_no (xs:=xs) h hn);clear hs;go_enter Tryz.func37,Tryz.ntmps37
   (go_wp2_with fail);refine HV.out.mono ?_;rintro e w1 ⟨rfl,b1⟩;have z1:=b1.size;have HO0:Hid (WrOwn (w1.alloc (.cells #[] 140)) w1.heap.size (.slice (some ⟨w1.heap.size,0,none⟩) 0 0) []):=uH (LnOwn.made w1).1;go_wp2;go_loopw [6,22] (fun v0 i wr=>∃ (k:Nat) (v:Value) (L:List Wr),k≤n'∧i = .int .i64 k∧v=v0∧Hid (L.length=k)∧Hid (allW xs (ws.take k)=some (L.map Wr.dat))∧Hid (WrOwn wr w1.heap.size v L)∧Below w1.heap.size w1 wr) (fun _ i _=>n' - (intOf i).toNat)
   case atStart=>exact ⟨0,_,[],Nat.zero_le _,rfl,rfl,uH rfl,uH rfl,HO0,(Below.refl _ _).alloc (Nat.le_refl _) _⟩
   case round =>
    obtain ⟨k,v,L,hk,rfl,rfl,HLk,HA,HO,hb⟩:=hrel;have hz:=hb.size;have hL20:L.length≤20:=(by have:=HLk.out;omega);by_cases hlt:k < n'
    ·have i1:(0:Int)≤(k:Int):=(by omega);have i2:(k:Int) < (n':Int):=(by omega);have hkl:k < ws.length:=(by rw [HL.out];exact hlt);obtain ⟨b2,off,rfl,hbB2,c0⟩:=(H'.out.keep (below_next b1 hb)).at_ hlt;have HOk:=uH (HWo.out wr (below_next b1 hb) (wdAt ws k) (HW.out _ (wdAt_mem hkl)));have HSt:=uH (fun d (hd:wof xs (wdAt ws k)=some d)=>allW_step hkl HA.out hd);have HNk:=uH (fun hn=>HNo.out (wdAt ws k) (wdAt_mem hkl) hn);have hwd:((wordOut xs (wdAt ws k)).map fun o=>(o,posOf (wdAt ws k)))=wof xs (wdAt ws k):=rfl;have hpo:=posOf_bd (wdAt ws k);have HPo:=uH (fun o q (h:wof xs (wdAt ws k)=some (o,q))=>(by obtain ⟨o',_,h⟩:=Option.map_eq_some_iff.1 h;injection h with _ h;omega : -1≤q∧q≤2));rw [hwd] at HOk;have HVb:Hid (∀ q,v.ownBlock=some q→q < wr.heap.size):=uH (fun q hq=>ownG_lt HO.out.1 hq);clear hwd hkl hpo;generalize wof xs (wdAt ws k)=wo at *;generalize wdAt ws k=l at *;(go_wp2_with fail);refine HOk.out.mono ?_;rintro e w3 ⟨hA3,hb3⟩;have b3:=below_next hb hb3;have z3:=b3.size;have z3':=hb3.size;have HO3:=uH (HO.out.keep hb3);rcases hA3 with ⟨hn,rfl⟩ | ⟨A3,c3,ss,p,hn,rfl,hS3,hg3⟩
     ·subst hn;have HRn:=uH (HNk.out rfl);have b4:=(below_next b1 b3).alloc (by have:=(below_next b1 b3).size;omega) (.cells #[.slice none 0 0,.int .i64 0] 140);clear HNk HSt;go_wp2;go_returns;exact ⟨.inl ⟨HRn.out,_,_,rfl,HZ.out _ _⟩,b4⟩
     ·subst hn;have hp:=HPo.out ss p rfl;have HA2:=uH (HSt.out _ rfl);have HWr:Hid (WrIn w3 w3.heap.size ⟨A3,ss.length,c3,ss,p⟩):=uH ⟨hS3.reads rfl hg3,show (Lit.int .i64 p).wf=true from WalkArith.wf_i64 (by omega)⟩;have HBl:Hid (∀ a,A3=some a→v.ownBlock≠some a.block∧a.block < w3.heap.size):=uH (by
       rintro a rfl;have h1:=ownG_base hS3 (k:=a.block) rfl;have h2:=ownG_lt hS3 (b:=a.block) rfl;exact ⟨fun e=>by have:=HVb.out _ e;omega,h2⟩)
      generalize hM:ss.length=M at *;have HM:=uH hM;have K3:=Blk.new w3 140 #[.slice A3 M c3,.int .i64 p];obtain ⟨k0,k1,_,_⟩:=K3.two;have hal2:Below w3.heap.size w3 ((w3.alloc (.cells #[.slice A3 M c3,.int .i64 p] 140)).alloc (.cells #[.slice A3 M c3,.int .i64 p] 140)):=((Below.refl _ _).alloc (Nat.le_refl _) _).alloc (by simp) _;have hsa:=hal2.size;have HOa:Hid (((w3.alloc (.cells #[.slice A3 M c3,.int .i64 p] 140)).alloc (.cells #[.slice A3 M c3,.int .i64 p] 140)).ownsRow w1.heap.size 140 2 v L.length (L.flatMap wrC)):=uH (ownG_keep HO3.out.1 hal2);have HRow:Hid (Row ((w3.alloc (.cells #[.slice A3 M c3,.int .i64 p] 140)).alloc (.cells #[.slice A3 M c3,.int .i64 p] 140)) (w3.heap.size+2) (some ⟨w3.heap.size+1,0,none⟩) 1 2 [.slice A3 M c3,.int .i64 p]):=uH (by have h:=rowNewSt (w3.alloc (.cells #[.slice A3 M c3,.int .i64 p] 140)) (.slice A3 M c3) (.int .i64 p) 140;simp only [World.size_alloc] at h;exact h);clear hM hb3 HO HOk hS3 hg3 HSt HNk HPo;go_wp2_with (at_builtin;refine wpList_append_any _ rfl (.tmp 34) (.tmp 36) _ rfl w1.heap.size 140 i0 _ 2 32 Tryz.underlying58 hi hz0 hz1 hz2 rfl (by omega) v L.length (L.flatMap wrC) rfl HOa.out (w3.heap.size+2) (some ⟨w3.heap.size+1,0,none⟩) 1 1 [.slice A3 M c3,.int .i64 p] rfl HRow.out (by simp [Value.oneCell']) (by unfold maxLen;omega) (by omega) (by simp;omega) ?_;intro v4 w4 hown4 hg4 hat4)
      have HO4:Hid (WrOwn w4 w1.heap.size v4 (L++[⟨A3,M,c3,ss,p⟩])):=uH (WrOwn.push (HO3.out.keep hal2) (HWr.out.keep hal2) (fun a ha=>⟨(HBl.out a ha).1,Nat.lt_of_lt_of_le (HBl.out a ha).2 hsa⟩) hown4 hg4 hat4);have HA4:Hid (allW xs (ws.take (k+1))=some ((L++[(⟨A3,M,c3,ss,p⟩:Wr)]).map Wr.dat)):=uH (by rw [HA2.out,List.map_append];rfl);have HL4:Hid ((L++[(⟨A3,M,c3,ss,p⟩:Wr)]).length=k+1):=uH (by rw [List.length_append,HLk.out];rfl);have b4:=((b3.alloc z3 (.cells #[.slice A3 M c3,.int .i64 p] 140)).alloc (by simp;omega) (.cells #[.slice A3 M c3,.int .i64 p] 140)).grown hg4 (by simp;omega) (fun q hq=>ownG_base HO3.out.1 hq);clear hown4 hg4 hat4 HOa HRow;go_wp2;go_roundw
      case rel=>exact ⟨k+1,_,_,by omega,by go_num,rfl,HL4,HA4,HO4,b4⟩
      case measure=>simp [intOf];omega
    ·obtain rfl:k=n':=(by omega);obtain ⟨A6,c6,rfl,hc6,hm6⟩:=ownG_form HO.out.1;have HR6:=uH (HO.out.reads rfl);have HA6:Hid (lineOf xs ws=some (L.map Wr.dat)):=uH (by
      have h1:=HA.out;rw [List.take_of_length_le (by rw [HL.out];exact Nat.le_refl _)] at h1;rw [HR.out,h1])
     have b6:=below_next b1 hb;clear HA;go_wp2;go_returns;exact ⟨.inr ⟨A6,c6,L,HA6.out,rfl,HR6.out⟩,b6⟩
set_option maxHeartbeats 1600000 in
theorem specLineOf (A:Option Addr) (n c:Nat) (xs:List Sg) (A':Option Addr) (n' c':Nat) (ws:List (List UInt8)) (w:World) (hW : ∀ l∈ws,l.length≤maxLen) (h20:n'≤20) (h:SgsIn w w.heap.size A n c xs) (h':WdsIn w w.heap.size A' n' c' ws) :
  Calls Tryz.prog 38 #[.slice A n c,.slice A' n' c'] w fun e w'=>LinAns w' (lineOf xs ws) e∧Below w.heap.size w w':=by
 obtain ⟨i0,hi,hz0,hz1,hz2⟩:=info_parts infoWr;have hm:=h'.2.2.1;have hnc:=h'.2.1;unfold maxLen at hm;have HL:=uH h'.1;have HV:=uH (fun W (hb:Below w.heap.size w W)=>specSystemValid A n c xs W (h.keep hb));have HWo:=uH (fun W (hb:Below w.heap.size w W) (l:List UInt8) (hl:l.length≤maxLen)=>specWrittenOf A n c xs l W hl (h.keep hb));have HW:=uH hW;have H':=uH h';have HZ:=uH (fun (W:World) (AA:Option Addr)=>WrsIn.zero W W.heap.size AA);have HNo:=uH (fun l (h:l∈ws) hn=>lineOf_no (xs:=xs) h hn);have HNs:Hid (sysB xs=false→lineOf xs ws=none):=uH (fun hs=>if_neg (fun h=>by rw [hs] at h;cases h.1));have HYs:Hid (sysB xs=true→lineOf xs ws=allW xs ws):=uH (fun hs=>if_pos ⟨hs,by rw [HL.out];exact h20⟩);have HO0:Hid (WrOwn (w.alloc (.cells #[] 140)) w.heap.size (.slice (some ⟨w.heap.size,0,none⟩) 0 0) []):=uH (LnOwn.made w).1;clear h h' hW;go_enter Tryz.func38,Tryz.ntmps38
 go_wp2;go_loopw [6,7] (fun v0 i wr=>∃ (k:Nat) (v:Value) (L:List Wr),k≤n'∧i = .int .i64 k∧v=v0∧Hid (L.length=k)∧Hid (allW xs (ws.take k)=some (L.map Wr.dat))∧Hid (WrOwn wr w.heap.size v L)∧Below w.heap.size w wr) (fun _ i _=>n' - (intOf i).toNat)
 case atStart=>exact ⟨0,_,[],Nat.zero_le _,rfl,rfl,uH rfl,uH rfl,HO0,(Below.refl _ _).alloc (Nat.le_refl _) _⟩
 case round =>
  obtain ⟨k,v,L,hk,rfl,rfl,HLk,HA,HO,hb⟩:=hrel;have hz:=hb.size;have hL20:L.length≤20:=(by have:=HLk.out;omega);by_cases hlt:k < n'
  ·have i1:(0:Int)≤(k:Int):=(by omega);have i2:(k:Int) < (n':Int):=(by omega);have hkl:k < ws.length:=(by rw [HL.out];exact hlt);obtain ⟨b2,off,rfl,hbB2,c0⟩:=(H'.out.keep hb).at_ hlt;have HOk:=uH (HWo.out wr hb (wdAt ws k) (HW.out _ (wdAt_mem hkl)));have HSt:=uH (fun d (hd:wof xs (wdAt ws k)=some d)=>allW_step hkl HA.out hd);have HNk:=uH (fun hn=>HNo.out (wdAt ws k) (wdAt_mem hkl) hn);have hwd:((wordOut xs (wdAt ws k)).map fun o=>(o,posOf (wdAt ws k)))=wof xs (wdAt ws k):=rfl;have hpo:=posOf_bd (wdAt ws k);have HPo:=uH (fun o q (h:wof xs (wdAt ws k)=some (o,q))=>(by obtain ⟨o',_,h⟩:=Option.map_eq_some_iff.1 h;injection h with _ h;omega : -1≤q∧q≤2));rw [hwd] at HOk;have HVb:Hid (∀ q,v.ownBlock=some q→q < wr.heap.size):=uH (fun q hq=>ownG_lt HO.out.1 hq);clear hwd hkl hpo;generalize wof xs (wdAt ws k)=wo at *;generalize wdAt ws k=l at *;(go_wp2_with fail);refine HOk.out.mono ?_;rintro e w3 ⟨hA3,hb3⟩;have b3:=below_next hb hb3;have z3:=b3.size;have z3':=hb3.size;have HO3:=uH (HO.out.keep hb3);rcases hA3 with ⟨hn,rfl⟩ | ⟨A3,c3,ss,p,hn,rfl,hS3,hg3⟩
   ·subst hn;have HRn:=uH (HNk.out rfl);have b4:=b3.alloc (by have:=b3.size;omega) (.cells #[.slice none 0 0,.int .i64 0] 140);clear HNk HSt;go_wp2;go_returns;exact ⟨.inl ⟨HRn.out,_,_,rfl,HZ.out _ _⟩,b4.alloc b4.size _⟩
   ·subst hn;have hp:=HPo.out ss p rfl;have HA2:=uH (HSt.out _ rfl);have HWr:Hid (WrIn w3 w3.heap.size ⟨A3,ss.length,c3,ss,p⟩):=uH ⟨hS3.reads rfl hg3,show (Lit.int .i64 p).wf=true from WalkArith.wf_i64 (by omega)⟩;have HBl:Hid (∀ a,A3=some a→v.ownBlock≠some a.block∧a.block < w3.heap.size):=uH (by
     rintro a rfl;have h1:=ownG_base hS3 (k:=a.block) rfl;have h2:=ownG_lt hS3 (b:=a.block) rfl;exact ⟨fun e=>by have:=HVb.out _ e;omega,h2⟩)
    generalize hM:ss.length=M at *;have HM:=uH hM;have K3:=Blk.new w3 140 #[.slice A3 M c3,.int .i64 p];obtain ⟨k0,k1,_,_⟩:=K3.two;have hal2:Below w3.heap.size w3 ((w3.alloc (.cells #[.slice A3 M c3,.int .i64 p] 140)).alloc (.cells #[.slice A3 M c3,.int .i64 p] 140)):=((Below.refl _ _).alloc (Nat.le_refl _) _).alloc (by simp) _;have hsa:=hal2.size;have HOa:Hid (((w3.alloc (.cells #[.slice A3 M c3,.int .i64 p] 140)).alloc (.cells #[.slice A3 M c3,.int .i64 p] 140)).ownsRow w.heap.size 140 2 v L.length (L.flatMap wrC)):=uH (ownG_keep HO3.out.1 hal2);have HRow:Hid (Row ((w3.alloc (.cells #[.slice A3 M c3,.int .i64 p] 140)).alloc (.cells #[.slice A3 M c3,.int .i64 p] 140)) (w3.heap.size+2) (some ⟨w3.heap.size+1,0,none⟩) 1 2 [.slice A3 M c3,.int .i64 p]):=uH (by have h:=rowNewSt (w3.alloc (.cells #[.slice A3 M c3,.int .i64 p] 140)) (.slice A3 M c3) (.int .i64 p) 140;simp only [World.size_alloc] at h;exact h);clear hM hb3 HO HOk hS3 hg3 HSt HNk HPo;go_wp2_with (at_builtin;refine wpList_append_any _ rfl (.tmp 34) (.tmp 36) _ rfl w.heap.size 140 i0 _ 2 32 Tryz.underlying58 hi hz0 hz1 hz2 rfl (by omega) v L.length (L.flatMap wrC) rfl HOa.out (w3.heap.size+2) (some ⟨w3.heap.size+1,0,none⟩) 1 1 [.slice A3 M c3,.int .i64 p] rfl HRow.out (by simp [Value.oneCell']) (by unfold maxLen;omega) (by omega) (by simp;omega) ?_;intro v4 w4 hown4 hg4 hat4)
    have HO4:Hid (WrOwn w4 w.heap.size v4 (L++[⟨A3,M,c3,ss,p⟩])):=uH (WrOwn.push (HO3.out.keep hal2) (HWr.out.keep hal2) (fun a ha=>⟨(HBl.out a ha).1,Nat.lt_of_lt_of_le (HBl.out a ha).2 hsa⟩) hown4 hg4 hat4);have HA4:Hid (allW xs (ws.take (k+1))=some ((L++[(⟨A3,M,c3,ss,p⟩:Wr)]).map Wr.dat)):=uH (by rw [HA2.out,List.map_append];rfl);have HL4:Hid ((L++[(⟨A3,M,c3,ss,p⟩:Wr)]).length=k+1):=uH (by rw [List.length_append,HLk.out];rfl);have b4:=((b3.alloc z3 (.cells #[.slice A3 M c3,.int .i64 p] 140)).alloc (by simp;omega) (.cells #[.slice A3 M c3,.int .i64 p] 140)).grown hg4 (by simp;omega) (fun q hq=>ownG_base HO3.out.1 hq);clear hown4 hg4 hat4 HOa HRow;go_wp2;go_roundw
    case rel=>exact ⟨k+1,_,_,by omega,by go_num,rfl,HL4,HA4,HO4,b4⟩
    case measure=>simp [intOf];omega
  ·obtain rfl:k=n':=(by omega);obtain ⟨A6,c6,rfl,hc6,hm6⟩:=ownG_form HO.out.1;have HR6:=uH (HO.out.reads rfl);have HVk:=uH (HV.out wr hb);have HA6:Hid (sysB xs=true→lineOf xs ws=some (L.map Wr.dat)):=uH (fun hs=>by
    have h1:=HA.out;rw [List.take_of_length_le (by rw [HL.out];exact Nat.le_refl _)] at h1;rw [HYs.out hs,h1])
   clear HA;cases hs:sysB xs with
   | false =>
    rw [hs] at HVk;have HRn:=uH (HNs.out hs);clear hs;(go_wp2_with fail);refine HVk.out.mono ?_;rintro e w5 ⟨rfl,hb5⟩;have b5:=below_next hb hb5;go_wp2;go_returns;exact ⟨.inl ⟨HRn.out,_,_,rfl,HZ.out _ _⟩,b5.alloc b5.size _⟩
   | true =>
    rw [hs] at HVk;have HRn:=uH (HA6.out hs);clear hs;(go_wp2_with fail);refine HVk.out.mono ?_;rintro e w5 ⟨rfl,hb5⟩;have b5:=below_next hb hb5;have HR7:=uH (HR6.out.keep hb5);go_wp2;go_returns;exact ⟨.inr ⟨A6,c6,L,HRn.out,rfl,HR7.out⟩,b5⟩
end Go.Proofs.YtbkhnljaajajiaaGreatDoor
namespace Go.Proofs.YtbkhnljaajajiaaGreatDoor
open Go.ChangeShapes Go.WideShapes Go.ChangeAt Go.RowKit
structure St where
 sys:List Sg
 brs:List Bf
 sp:List Wd
 cab:List (List Pad)
def St.ok (s:St):Prop:=sysB s.sys=true∧brsB s.brs=true∧spB s.sp=true∧cabOK s.cab
def cSign:Wd:=[115,105,103,110]
def cBrief:Wd:=[98,114,105,101,102]
def cSpeech:Wd:=[115,112,101,101,99,104]
def cWrite:Wd:=[119,114,105,116,101]
def cCopy:Wd:=[99,111,112,121]
def cLetters:Wd:=[108,101,116,116,101,114,115]
def cProof:Wd:=[112,114,111,111,102]
def cFile:Wd:=[102,105,108,101]
def cClear:Wd:=[99,108,101,97,114]
def cCabinet:Wd:=[99,97,98,105,110,101,116]
def sayOk:Wd:=[111,107,10]
def sayNo:Wd:=[110,111,10]
def sayWhat:Wd:=[119,104,97,116,10]
noncomputable def ask (s:St) (ws:List Wd):Wd :=
 if wdAt ws 0=cWrite∧ws.length=1 then saidO ((lineOf s.sys s.sp).map lineText)
 else if wdAt ws 0=cCopy∧ws.length=1 then saidO ((bestO s.brs s.sp).map fun t=>Lib.join t [32])
 else if wdAt ws 0=cLetters∧ws.length=1 then Lib.decDigits (costOf s.brs s.sp)++[10]
 else if wdAt ws 0=cProof then saidO ((makeO s.sp (ws.drop 1)).map (marksText s.sp))
 else if wdAt ws 0=cCabinet∧ws.length=1 then cabText s.cab
 else sayWhat
noncomputable def clearO (css:List (List Pad)) (d:Int):Option (List (List Pad)):=if d≤9999 then thinO (fromDay d) css else none
def up {α:Type} (s:St) (o:Option α) (f:α→St):St × Wd:=match o with
 | none=>(s,sayNo)
 | some x=>(f x,sayOk)
noncomputable def lineS (s:St) (ws:List Wd):St × Wd :=
 if wdAt ws 0=cSign∧ws.length=3 then up s (signO s.sys (wdAt ws 1) (wdAt ws 2)) fun x=>{ s with sys:=x }
 else if wdAt ws 0=cBrief∧3≤ws.length then up s (addO s.brs ⟨wdAt ws 1,ws.drop 2⟩) fun x=>{ s with brs:=x }
 else if wdAt ws 0=cSpeech then up s (if spB (ws.drop 1)=true then some (ws.drop 1) else none) fun x=>{ s with sp:=x }
 else if wdAt ws 0=cFile∧ws.length=3 then up s (fileO s.cab ⟨numOf (wdAt ws 1),mkStr (wdAt ws 2)⟩) fun x=>{ s with cab:=x }
 else if wdAt ws 0=cClear∧ws.length=2 then up s (clearO s.cab (numOf (wdAt ws 1))) fun x=>{ s with cab:=x }
 else (s,ask s ws)
noncomputable def runS (s:St):List Wd→St × Wd
 | []=>(s,[])
 | l::r=>((runS (lineS s (cutB 32 l)).1 r).1,(lineS s (cutB 32 l)).2++(runS (lineS s (cutB 32 l)).1 r).2)
def endS (s:St):Wd:=[119,111,114,100,115,32]++Lib.decDigits s.sp.length++[32,112,97,100,115,32]++Lib.decDigits s.cab.flatten.length++[10]
def sayLong:Wd:=[116,111,111,32,108,111,110,103,10]
def st0:St:=⟨[],[],[],[]⟩
noncomputable def exec (l:Wd):Wd :=
 if l.length > 500 then sayLong else (runS st0 ((cutB 10 l).dropLast)).2++endS (runS st0 ((cutB 10 l).dropLast)).1
theorem signO_ok {xs ys:List Sg} {l t:Wd} (h:signO xs l t=some ys):sysB ys=true:=by
 unfold signO at h;split at h
 ·split at h
  ·rename_i h2;injection h with h;rw [← h];exact h2
  ·cases h
 ·cases h
theorem addO_ok {bs cs:List Bf} {b:Bf} (h:addO bs b=some cs):brsB cs=true:=by
 unfold addO at h;split at h
 ·rename_i h2;injection h with h;rw [← h];exact h2
 ·cases h
theorem fileO_cab {css cs:List (List Pad)} {p:Pad} (h:fileO css p=some cs):cabOK cs:=by
 by_cases hc:cabOK css∧okP p=true∧findO css p=none
 ·rw [fileO_yes hc.1 hc.2.1 hc.2.2] at h;exact fileS_ok hc.1 hc.2.1 hc.2.2 h
 ·rw [fileO_no hc] at h;cases h
theorem clearO_ok {css cs:List (List Pad)} {d:Int} (h:clearO css d=some cs):cabOK cs:=by
 unfold clearO at h;split at h
 ·cases hc:cabB css with
  | false=>rw [thinO_no hc] at h;cases h
  | true=>rw [thinO_yes hc] at h;injection h with h;rw [← h];exact thinned_ok (cabB_iff.1 hc)
 ·cases h
theorem st0_ok:st0.ok:=⟨by decide,by decide,by decide,cab_nil⟩
theorem lineS_ok {s:St} (ws:List Wd) (h:s.ok):(lineS s ws).1.ok:=by
 obtain ⟨h1,h2,h3,h4⟩:=h;unfold lineS;split
 ·cases e:signO s.sys (wdAt ws 1) (wdAt ws 2) with
  | none=>exact ⟨h1,h2,h3,h4⟩
  | some x=>exact ⟨signO_ok e,h2,h3,h4⟩
 split
 ·cases e:addO s.brs ⟨wdAt ws 1,ws.drop 2⟩ with
  | none=>exact ⟨h1,h2,h3,h4⟩
  | some x=>exact ⟨h1,addO_ok e,h3,h4⟩
 split
 ·by_cases e:spB (ws.drop 1)=true
  ·rw [if_pos e];exact ⟨h1,h2,e,h4⟩
  ·rw [if_neg e];exact ⟨h1,h2,h3,h4⟩
 split
 ·cases e:fileO s.cab ⟨numOf (wdAt ws 1),mkStr (wdAt ws 2)⟩ with
  | none=>exact ⟨h1,h2,h3,h4⟩
  | some x=>exact ⟨h1,h2,h3,fileO_cab e⟩
 split
 ·cases e:clearO s.cab (numOf (wdAt ws 1)) with
  | none=>exact ⟨h1,h2,h3,h4⟩
  | some x=>exact ⟨h1,h2,h3,clearO_ok e⟩
 ·exact ⟨h1,h2,h3,h4⟩
structure Hd where
 A1:Option Addr
 n1:Nat
 c1:Nat
 A2:Option Addr
 n2:Nat
 c2:Nat
 A3:Option Addr
 n3:Nat
 c3:Nat
 A4:Option Addr
 n4:Nat
 c4:Nat
 sys:List Sg
 xs:List Br
 sp:List Wd
 ds:List Drawer
def Hd.st (h:Hd):St:=⟨h.sys,h.xs.map Br.dat,h.sp,h.ds.map (·.ps)⟩
structure StIn (w:World) (h:Hd):Prop where
 sg:SgsIn w w.heap.size h.A1 h.n1 h.c1 h.sys
 br:BrsIn w w.heap.size h.A2 h.n2 h.c2 h.xs
 wd:WdsIn w w.heap.size h.A3 h.n3 h.c3 h.sp
 dr:DrawersIn w w.heap.size h.A4 h.n4 h.c4 h.ds
theorem StIn.keep {w w':World} {h:Hd} (H:StIn w h) (hb:Below w.heap.size w w'):StIn w' h:=⟨H.sg.keep hb,H.br.keep hb,H.wd.keep hb,H.dr.keep hb⟩
theorem word12 {l:Wd} (h:wordB l=true):l.length≤12:=(wordB_iff.1 h).1.2
theorem okBs_ok {xs:List Br} (h:brsB (xs.map Br.dat)=true):OkBs xs:=fun x hx=>by
 have h1:=bfB_iff.1 (brsB_mem h x.dat (List.mem_map_of_mem hx));have h2:=markB_len h1.1;have hm:(13:Nat)≤maxLen:=(by unfold maxLen;omega);have e1:x.dat.mark=x.mark:=rfl;rw [e1] at h2;exact ⟨by omega,fun l hl=>by have:=word12 (bwB_all h1.2 l hl);omega⟩
theorem padsSz_le {k:Nat} : ∀ ps:List Pad,(∀ p∈ps,p.case.size≤k)→padsSz ps≤(k+1) * ps.length
 | [],_=>by simp [padsSz]
 | p::r,h=>by
  have h1:=h p (by simp);have h2:=padsSz_le r (fun q hq=>h q (by simp [hq]));rw [padsSz,List.length_cons,Nat.mul_add];omega
theorem cabSz_le {k:Nat} : ∀ ds:List Drawer,(∀ d∈ds,padsSz d.ps≤k)→cabSz ds≤(k+1) * ds.length
 | [],_=>by simp [cabSz]
 | d::r,h=>by
  have h1:=h d (by simp);have h2:=cabSz_le r (fun q hq=>h q (by simp [hq]));rw [cabSz,List.length_cons,Nat.mul_add];omega
theorem cab_case {css:List (List Pad)} (h:cabOK css) {ps:List Pad} (hp:ps∈css) {p:Pad} (hm:p∈ps):p.case.size≤12:=by
 have hf:p∈css.flatten:=List.mem_flatten.2 ⟨ps,hp,hm⟩;obtain ⟨i,hi,he⟩:=List.mem_iff_getElem.1 hf;have h1:=(h.2.2 i hi).1;have e:padAt css.flatten i=p:=(by rw [← he];unfold padAt;rw [List.getD_eq_getElem?_getD,List.getElem?_eq_getElem hi];rfl);rw [e] at h1;unfold okP padB at h1;rw [Bool.and_eq_true] at h1;have:=word12 h1.2;simpa using this
theorem cabSz_ok {ds:List Drawer} (h:cabOK (ds.map (·.ps))):cabSz ds≤1000:=by
 have h1:=cabSz_le (k:=52) ds (fun d hd=>by
  have hm:d.ps∈ds.map (·.ps):=List.mem_map_of_mem hd;have h2:=padsSz_le (k:=12) d.ps (fun p hp=>cab_case h hm hp);have h3:=h.2.1 _ hm;have:=h3.2;omega)
 have h2:=h.1;rw [List.length_map] at h2;have:=Nat.mul_le_mul_left 53 h2;omega
structure StSz (h:Hd):Prop where
 n1:h.sys.length≤21
 n2:h.xs.length≤8
 ob:OkBs h.xs
 m2 : ∀ x∈h.xs,x.words.length≤3
 n3:h.sp.length≤20
 w3 : ∀ l∈h.sp,l.length≤12
 sz:cabSz h.ds≤1000
theorem stSz {h:Hd} (ok:h.st.ok):StSz h:=by
 obtain ⟨h1,h2,h3,h4⟩:=ok;have e2:=(brsB_iff.1 h2).1;rw [show h.st.brs=h.xs.map Br.dat from rfl,List.length_map] at e2;exact ⟨(sysB_iff.1 h1).1,e2,okBs_ok h2,fun x hx=>(bwB_len (bfB_iff.1 (brsB_mem h2 x.dat (List.mem_map_of_mem hx))).2).2,(spB_iff.1 h3).2,fun l hl=>word12 ((spB_iff.1 h3).1 l hl),cabSz_ok h4⟩
theorem cost_le {h:Hd} (ok:h.st.ok):costOf h.st.brs h.st.sp≤240:=by
 have h1:=costOf_le (valid_one ok.2.1) h.st.sp (stSz ok).w3;have:=(stSz ok).n3;have e:h.st.sp=h.sp:=rfl;rw [e] at h1 ⊢;omega
theorem least_ok {h:Hd} (ok:h.st.ok):leastI h.st.brs h.st.sp=(costOf h.st.brs h.st.sp:Int):=by
 unfold leastI;rw [if_pos];rw [ok.2.1,ok.2.2.1];rfl
end Go.Proofs.YtbkhnljaajajiaaGreatDoor
