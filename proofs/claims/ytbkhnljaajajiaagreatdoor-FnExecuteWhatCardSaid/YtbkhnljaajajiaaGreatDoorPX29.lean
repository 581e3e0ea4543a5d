/-
  Contracts and plain laws that the proofs lean on. Conditions: as each says.
-/
import Derived.Test.YtbkhnljaajajiaaGreatDoorPX23
set_option maxRecDepth 100000
set_option linter.unusedSimpArgs false
set_option linter.unusedVariables false
set_option linter.unnecessarySimpa false
namespace Go.Proofs.YtbkhnljaajajiaaGreatDoor
open Go.ChangeShapes Go.WideShapes Go.ChangeAt Go.RowKit
def deskV (A:Option Addr) (n c:Nat) (A':Option Addr) (n' c':Nat):Value:=.agg #[.slice A n c,.slice A' n' c']
theorem implDeskOf (A:Option Addr) (n c:Nat) (xs:List Br) (A':Option Addr) (n' c':Nat) (ws:List Wd) (w:World) (hX:OkBs xs) (hW : ∀ l∈ws,l.length≤maxLen) (h:BrsIn w w.heap.size A n c xs) (h':WdsIn w w.heap.size A' n' c' ws) :
  Calls Tryz.prog 58 #[.slice A n c,.slice A' n' c'] w fun e w'=>e = .returned (.tuple #[if (brsB (xs.map Br.dat) && spB ws)=true then deskV A n c A' n' c' else deskV none 0 0 none 0 0,.bool (brsB (xs.map Br.dat) && spB ws)])∧Below w.heap.size w w':=by
 have ba:Below w.heap.size w (w.alloc (.cells #[.slice none 0 0,.slice none 0 0] 97)):=(Below.refl _ _).alloc (Nat.le_refl _) _;have HB:=uH (implBriefsValid A n c xs _ hX (h.keep ba));have HS:=uH (fun W (hb:Below w.heap.size w W)=>implSpeechValid A' n' c' ws W hW (h'.keep hb));have K:Hid (Blk (w.alloc (.cells #[.slice none 0 0,.slice none 0 0] 97)) w.heap.size 97 #[.slice none 0 0,.slice none 0 0]):=uH (Blk.new _ _ _);have hsz:w.heap.size < (w.alloc (.cells #[.slice none 0 0,.slice none 0 0] 97)).heap.size:=(by simp);clear h h' hX hW;unfold deskV;cases h1:brsB (xs.map Br.dat) with
 | false =>
  rw [h1] at HB;rw [Bool.false_and,if_neg (by simp)];clear h1 HS;go_enter Tryz.func58,Tryz.ntmps58
  (go_wp2_with fail);refine HB.out.mono ?_;rintro e w1 ⟨rfl,hb⟩;have K1:=K.out.below hb;have m0:=K1.cell 0;have m1:=K1.cell 1;have f0:=K1.free 0;have f1:=K1.free 1;have b1:=(below_next ba hb).setCell (p:=⟨w.heap.size,0,none⟩) (Nat.le_refl _) (.slice none 0 0);have b2:=b1.setCell (p:=⟨w.heap.size,1,none⟩) (Nat.le_refl _) (.slice none 0 0);have K2:=(K1.set 0 (.slice none 0 0)).set 1 (.slice none 0 0);have q0:=K2.cell 0;have q1:=K2.cell 1;have B2:=uH b2;clear HB hb b1 b2 K1 K2 K;go_wp2;refine bodyPost_ret (v:=.tuple #[.agg #[.slice none 0 0,.slice none 0 0],.bool false]) (by simp [results,Tryz.results58,go_sem,q0,q1]) rfl ?_;exact ⟨rfl,B2.out⟩
 | true =>
  rw [h1] at HB;clear h1;cases h2:spB ws with
  | false =>
   rw [h2] at HS;rw [Bool.and_false,if_neg (by simp)];clear h2;go_enter Tryz.func58,Tryz.ntmps58
   (go_wp2_with fail);refine HB.out.mono ?_;rintro e w1 ⟨rfl,hb⟩;have HS1:=uH (HS.out w1 (below_next ba hb));(go_wp2_with fail);refine HS1.out.mono ?_;rintro e w2 ⟨rfl,rfl⟩;have K1:=K.out.below hb;have m0:=K1.cell 0;have m1:=K1.cell 1;have f0:=K1.free 0;have f1:=K1.free 1;have b1:=(below_next ba hb).setCell (p:=⟨w.heap.size,0,none⟩) (Nat.le_refl _) (.slice none 0 0);have b2:=b1.setCell (p:=⟨w.heap.size,1,none⟩) (Nat.le_refl _) (.slice none 0 0);have K2:=(K1.set 0 (.slice none 0 0)).set 1 (.slice none 0 0);have q0:=K2.cell 0;have q1:=K2.cell 1;have B2:=uH b2;clear HB hb b1 b2 K1 K2 K HS HS1;go_wp2;refine bodyPost_ret (v:=.tuple #[.agg #[.slice none 0 0,.slice none 0 0],.bool false]) (by simp [results,Tryz.results58,go_sem,q0,q1]) rfl ?_;exact ⟨rfl,B2.out⟩
  | true =>
   rw [h2] at HS;rw [Bool.and_true,if_pos rfl];clear h2;go_enter Tryz.func58,Tryz.ntmps58
   (go_wp2_with fail);refine HB.out.mono ?_;rintro e w1 ⟨rfl,hb⟩;have HS1:=uH (HS.out w1 (below_next ba hb));(go_wp2_with fail);refine HS1.out.mono ?_;rintro e w2 ⟨rfl,rfl⟩;have K1:=K.out.below hb;have m0:=K1.cell 0;have m1:=K1.cell 1;have f0:=K1.free 0;have f1:=K1.free 1;have b1:=(below_next ba hb).setCell (p:=⟨w.heap.size,0,none⟩) (Nat.le_refl _) (.slice A n c);have b2:=b1.setCell (p:=⟨w.heap.size,1,none⟩) (Nat.le_refl _) (.slice A' n' c');have K2:=(K1.set 0 (.slice A n c)).set 1 (.slice A' n' c');have q0:=K2.cell 0;have q1:=K2.cell 1;have B2:=uH b2;clear HB hb b1 b2 K1 K2 K HS HS1;go_wp2;refine bodyPost_ret (v:=.tuple #[.agg #[.slice A n c,.slice A' n' c'],.bool true]) (by simp [results,Tryz.results58,go_sem,q0,q1]) rfl ?_;exact ⟨rfl,B2.out⟩
def tkC (t:Tk):List Value:=[.int .i64 t.brief,.int .i64 (t.width:Int),.int .i64 (t.cost:Int)]
theorem tkC_len (t:Tk):(tkC t).length=3:=rfl
def TkOwn (w:World) (B:Nat) (v:Value) (ts:List Tk):Prop:=w.ownsRow B 103 3 v ts.length (ts.flatMap tkC)
theorem infoTk:(Tryz.prog.info? 103).map (fun i=>(i.zero,i.size,i.bytes))=some (some (.agg #[.int .i64 0,.int .i64 0,.int .i64 0]),3,24):=by kernel_rfl
theorem rowNewTk (w:World) (u1 u2 u3:Value) (t:TypeId):Row (w.alloc (.cells #[u1,u2,u3] t)) (w.heap.size+1) (some ⟨w.heap.size,0,none⟩) 1 3 [u1,u2,u3]:=by
 refine ⟨rfl,fun _=>⟨w.heap.size,0,rfl,by omega,fun j x hj=>?_⟩⟩;rw [World.cell?_alloc_at _ t w.heap.size (0+j) rfl];simpa using hj
theorem TkOwn.keepT {w w':World} {B:Nat} {v:Value} {ts:List Tk} (h:TkOwn w B v ts) (hb:Below w.heap.size w w'):TkOwn w' B v ts:=ownG_keep h hb
def TkAns (w':World) (B:Nat) (ts:List Tk) (e:Ending):Prop:=∃ A c,e = .returned (.slice A ts.length c)∧TkOwn w' B (.slice A ts.length c) ts
theorem toks_step {bs:List Bf} {ws:List Wd} {k:Nat} (h:k < bs.length):toksG ws 0 (bs.take (k+1))=toksG ws 0 (bs.take k)++(if hitB ws (bfAt bs k)=true then [⟨(k:Int),(bfAt bs k).words.length,(bfAt bs k).mark.length⟩] else []):=by
 rw [List.take_succ_eq_append_getElem h,toksG_snoc,bfAt_get h,List.length_take,Nat.min_eq_left (by omega),Nat.zero_add]
set_option maxHeartbeats 3200000 in
theorem implTokensAt (A:Option Addr) (n c:Nat) (xs:List Br) (A':Option Addr) (n' c':Nat) (ws:List Wd) (i:Nat) (w:World) (hv:brsB (xs.map Br.dat)=true) (hs:spB ws=true) (hi:i < n') (h:BrsIn w w.heap.size A n c xs) (h':WdsIn w w.heap.size A' n' c' ws) :
  Calls Tryz.prog 186 #[deskV A n c A' n' c',.int .i64 (i:Int)] w fun e w'=>TkAns w' w.heap.size (toksAt (xs.map Br.dat) (ws.drop i)) e∧Below w.heap.size w w':=by
 obtain ⟨bs,hbs⟩ : ∃ bs,bs=xs.map Br.dat:=⟨_,rfl⟩;rw [← hbs] at hv ⊢;have hn20:n'≤20:=(by have:=(spB_iff.1 hs).2;rw [h'.1] at this;exact this);have hn8:n≤8:=(by have:=(brsB_iff.1 hv).1;rw [hbs,List.length_map,h.1] at this;exact this);have HLb:Hid (bs.length=n):=uH (by rw [hbs,List.length_map,h.1]);have HL:=uH h.1;have HDat:Hid (∀ k,k < n→bfAt bs k=(brAt xs k).dat):=uH (fun k hk=>by rw [hbs];exact brAt_dat (by rw [HL.out];exact hk));have HMk:Hid (∀ k,k < n→(brAt xs k).mark.length≤3∧(brAt xs k).n≤3):=uH (fun k hk=>by
  have h1:=brsB_mem hv _ (bfAt_mem (bs:=bs) (k:=k) (by rw [HLb.out];exact hk));rw [HDat.out k hk] at h1;obtain ⟨h2,h3⟩:=bfB_iff.1 h1;have h4:=(h.2.2.2.2 _ (brAt_mem (xs:=xs) (k:=k) (by rw [HL.out];exact hk))).1;exact ⟨(markB_len h2).2,by rw [← h4];exact (bwB_len h3).2⟩)
 have HXl:Hid (∀ k,k < n→(brAt xs k).words.length=(brAt xs k).n):=uH (fun k hk=>(h.2.2.2.2 _ (brAt_mem (xs:=xs) (k:=k) (by rw [HL.out];exact hk))).1);have H:=uH h;have hnc':=h'.2.1;have hcm':=h'.2.2.1;unfold maxLen at hcm';have hfr : ∀ V,(Instr.slice 27 (.slice A' n' c') (some (.int .i64 (i:Int))) none none).run Tryz.prog V = .ok (.slice (fromB A' i c' 1) (n' - i) (c' - i)) V:=fun V=>run_fromS elemW sizeW A' n' c' i (by omega) V;have HR:Hid (∀ W,Below w.heap.size w W→WdsIn W W.heap.size (fromB A' i c' 1) (n' - i) (c' - i) (ws.drop i)):=uH (fun W hb=>(h'.keep hb).fromS (by omega));obtain ⟨WD,hWD⟩ : ∃ WD,WD=ws.drop i:=⟨_,rfl⟩;have HLr:Hid (WD.length=n' - i):=uH (by rw [hWD,List.length_drop,h'.1]);have HW12:Hid ((wdAt WD 0).length≤12∧wdAt WD 0=WD.headD []):=uH (by
  have h1:i < ws.length:=(by rw [h'.1];exact hi);have h2:wdAt WD 0=WD.headD []:=by cases WD <;> rfl
  refine ⟨word_len12 ((spB_iff.1 hs).1 _ (List.mem_of_mem_drop (i:=i) ?_)),h2⟩;rw [← hWD];exact wdAt_mem (by rw [HLr.out];omega))
 rw [← hWD] at HR ⊢;clear h h' hv hs hbs hWD;have hRp:0 < n' - i:=(by omega);have hCr:n' - i≤c' - i:=(by omega);have hR20:n' - i≤20:=(by omega);have hC2:c' - i≤9223372036854775807:=(by omega);generalize fromB A' i c' 1=AR at *;generalize n' - i=R at *;generalize c' - i=C at *;obtain ⟨j0,hj,hy0,hy1,hy2⟩:=info_parts infoTk;have b0:Below w.heap.size w (w.alloc (.cells #[.slice A n c,.slice A' n' c'] 97)):=(Below.refl _ _).alloc (Nat.le_refl _) _;have KD:Hid (Blk (w.alloc (.cells #[.slice A n c,.slice A' n' c'] 97)) w.heap.size 97 #[.slice A n c,.slice A' n' c']):=uH (Blk.new _ _ _);have k0:=KD.out.cell 0;have k1:=KD.out.cell 1;have ba:=b0.alloc b0.size (.cells #[] 103);have HO0:Hid (TkOwn ((w.alloc (.cells #[.slice A n c,.slice A' n' c'] 97)).alloc (.cells #[] 103)) w.heap.size (.slice (some ⟨w.heap.size+1,0,none⟩) 0 0) []):=uH (by
  have:=World.ownsRow_made (base:=w.heap.size) (e:=103) (size:=3) (w.alloc (.cells #[.slice A n c,.slice A' n' c'] 97)) #[] 0 b0.size (by simp) (by simp);rw [World.size_alloc] at this;exact this)
 have m0:=Lib.cell?_alloc_some (.cells #[] 103) k0;have m1:=Lib.cell?_alloc_some (.cells #[] 103) k1;unfold deskV;go_enter Tryz.func186,Tryz.ntmps186
 go_wp2;clear hfr;go_loopw [5,18] (fun s5 s18 wr=>∃ (k:Nat) (v:Value),k≤n∧s5=v∧s18 = .int .i64 k∧Hid (TkOwn wr w.heap.size v (toksG WD 0 (bs.take k)))∧Below w.heap.size w wr) (fun _ s18 _=>n - (intOf s18).toNat)
 case atStart=>exact ⟨0,_,Nat.zero_le _,rfl,rfl,HO0,ba⟩
 case round =>
  obtain ⟨k,v,hk,rfl,rfl,HO,hb⟩:=hrel;have hzw:=hb.size;have i1:(0:Int)≤(k:Int):=(by omega);have htl:(toksG WD 0 (bs.take k)).length≤8:=(by have:=toksG_len WD (bs.take k) 0;rw [List.length_take] at this;omega);by_cases hlt:k < n
  ·have i2:(k:Int) < (n:Int):=(by omega);obtain ⟨b,off,rfl,hbB,c0,c1,hI⟩:=(H.out.keep hb).at_ hlt;have hmk:=HMk.out k hlt;have hst:=toks_step (bs:=bs) (ws:=WD) (k:=k) (by rw [HLb.out];exact hlt);rw [HDat.out k hlt] at hst;have HXq:=uH (HXl.out k hlt);have HSt:Hid (toksG WD 0 (bs.take (k+1))=toksG WD 0 (bs.take k)++(if hitB WD (brAt xs k).dat=true then [⟨(k:Int),(brAt xs k).n,(brAt xs k).mark.length⟩] else [])):=uH (by rw [hst,← HXq.out];rfl);clear hst;generalize brAt xs k=x at *;have hba:Below wr.heap.size wr (wr.alloc (.cells #[.string (mkStr x.mark),.slice x.A x.n x.c] 34)):=(Below.refl _ _).alloc (Nat.le_refl _) _;have x0:=newcell wr #[.string (mkStr x.mark),.slice x.A x.n x.c] 34 0 _ rfl;have x1:=newcell wr #[.string (mkStr x.mark),.slice x.A x.n x.c] 34 1 _ rfl;have HOa:=uH (HO.out.keepT hba);have hbw:=below_next hb hba;have hza:=hbw.size;obtain ⟨m1',m2'⟩:=hmk;by_cases hle:x.n≤R
   ·have hs2 : ∀ V,(Instr.slice 27 (.slice AR R C) none (some (.int .i64 (x.n:Int))) none).run Tryz.prog V = .ok (.slice AR x.n C) V:=fun V=>run_uptoA elemW sizeW AR R C x.n (by omega) V;have HE:Hid (Calls Tryz.prog 183 #[.slice x.A x.n x.c,.slice AR x.n C] (wr.alloc (.cells #[.string (mkStr x.mark),.slice x.A x.n x.c] 34)).drew fun e w'=>e = .returned (.bool (hitB WD x.dat))∧Below (wr.alloc (.cells #[.string (mkStr x.mark),.slice x.A x.n x.c] 34)).drew.heap.size (wr.alloc (.cells #[.string (mkStr x.mark),.slice x.A x.n x.c] 34)).drew w'):=uH (by
     have key:decide (x.words=WD.take x.n)=hitB WD x.dat:=by
      unfold hitB Br.dat;refine decide_eq_decide.2 ?_
      show (x.words=WD.take x.n) ↔ (x.words.length≤WD.length∧WD.take x.words.length=x.words)
      rw [HXq.out,HLr.out];exact ⟨fun h=>⟨hle,h.symm⟩,fun h=>h.2.symm⟩
     rw [← key];exact equalWds _ _ _ _ _ _ _ _ _ (BrIn.keep hI hba.drew) ((HR.out _ hbw.drew).upto hle))
    have l1:(x.n:Int)≤(R:Int):=(by omega);have l2:decide (x.n≤R)=true:=decide_eq_true hle;clear hI HO;have x1d:(wr.alloc (.cells #[.string (mkStr x.mark),.slice x.A x.n x.c] 34)).drew.cell? ⟨wr.heap.size,1,none⟩=some (.slice x.A x.n x.c):=x1;cases hh:hitB WD x.dat with
    | true =>
     rw [hh] at HE HSt;clear hh;(go_wp2_with fail);go_region_held3 (fun w'=>w'.cell? ⟨wr.heap.size,1,none⟩=some (.slice x.A x.n x.c)) (first | assumption | go_keep)
      (first
       | (go_at_call 183;refine HE.out.mono ?_;rintro e w5 ⟨rfl,hb5⟩;have n1:=kcell hb5 x1d))
     have n0:=kcell (below_next ((Below.refl _ _).drew) hb5) x0;have b5:=below_next hbw (below_next ((Below.refl _ _).drew) hb5);have HO5:Hid (TkOwn w5 w.heap.size u5 (toksG WD 0 (bs.take k))):=uH (HOa.out.keepT (below_next ((Below.refl _ _).drew) hb5));have hz5:=b5.size;have hsz:(mkStr x.mark).size=x.mark.length:=mkStr_size _;have HSz:=uH hsz;have hs3:(mkStr x.mark).size≤3:=(by omega);clear hsz hb5 HE HOa hbw hba n1 x1d hs2;generalize hsM:mkStr x.mark=sM at *;clear hsM;go_wp2_with (at_builtin;refine wpList_append_any _ rfl (.tmp 38) (.tmp 45) _ rfl w.heap.size 103 j0 _ 3 24 Tryz.underlying100 hj hy0 hy1 hy2 rfl (by omega) _ (toksG WD 0 (bs.take k)).length ((toksG WD 0 (bs.take k)).flatMap tkC) rfl (ownG_keep HO5.out ((Below.refl _ _).alloc (Nat.le_refl _) _)) (w5.heap.size+1) (some ⟨w5.heap.size,0,none⟩) 1 1 [.int .i64 (k:Int),.int .i64 (x.n:Int),.int .i64 (sM.size:Int)] (by simp [Act.eval,Act.put]) (rowNewTk _ _ _ _ _) (by simp [Value.oneCell']) (by unfold maxLen;omega) (by omega) (by simp;omega) ?_;intro v6 w6 hown6 hg6 hat6)
     have HO6:Hid (TkOwn w6 w.heap.size v6 (toksG WD 0 (bs.take (k+1)))):=uH (by
      rw [HSt.out,if_pos (by trivial)];unfold TkOwn;rw [List.length_append,List.flatMap_append];rw [HSz.out] at hown6;exact hown6)
     have b6:Below w.heap.size w w6:=(b5.alloc hz5 _).grown hg6 (by simp;omega) (fun q hq=>ownG_base HO5.out hq);clear hown6 hg6 hat6 HO5 HSt n0 x0 x1 c0 c1 HSz;go_wp2;go_roundw
     case rel=>exact ⟨k+1,v6,by omega,rfl,by go_num,HO6,b6⟩
     case measure=>simp [intOf] <;> omega
    | false =>
     rw [hh] at HE HSt;clear hh;have HF:Hid (toksG WD 0 (bs.take (k+1))=toksG WD 0 (bs.take k)):=uH (by rw [HSt.out,if_neg (by simp),List.append_nil]);(go_wp2_with fail);go_region_held3 (fun w'=>w'.cell? ⟨wr.heap.size,1,none⟩=some (.slice x.A x.n x.c)) (first | assumption | go_keep)
      (first
       | (go_at_call 183;refine HE.out.mono ?_;rintro e w5 ⟨rfl,hb5⟩;have n1:=kcell hb5 x1d))
     have b5:=below_next hbw (below_next ((Below.refl _ _).drew) hb5);have HO5:Hid (TkOwn w5 w.heap.size u5 (toksG WD 0 (bs.take (k+1)))):=uH (by rw [HF.out];exact HOa.out.keepT (below_next ((Below.refl _ _).drew) hb5));clear hb5 HE HOa hbw hba n1 x1d hs2 HSt HF x0 x1 c0 c1;go_wp2;go_roundw
     case rel=>exact ⟨k+1,_,by omega,rfl,by go_num,HO5,b5⟩
     case measure=>simp [intOf] <;> omega
   ·have HF:Hid (toksG WD 0 (bs.take (k+1))=toksG WD 0 (bs.take k)):=uH (by
     rw [HSt.out,if_neg,List.append_nil];intro e;have:=hitB_len e;unfold Br.dat at this;simp only [HXq.out,HLr.out] at this;omega)
    have HO5:Hid (TkOwn (wr.alloc (.cells #[.string (mkStr x.mark),.slice x.A x.n x.c] 34)) w.heap.size u5 (toksG WD 0 (bs.take (k+1)))):=uH (by rw [HF.out];exact HOa.out);have l1 : ¬ (x.n:Int)≤(R:Int):=(by omega);have l2:decide (x.n≤R)=false:=decide_eq_false hle;have l3:decide ((x.n:Int)≤(R:Int))=false:=decide_eq_false l1;have l4:R < x.n:=(by omega);have l5:(R:Int) < (x.n:Int):=(by omega);clear hI HO HOa HSt HF hle l1;(go_wp2_with fail);refine region_qb (by kernel_rfl) (by kernel_rfl) ?_;repeat (first | go_big_quiet_step (fail) | quiet_step (fail))
    refine wpQuiet_nil ?_;intro w5 hb5;have b5:=below_next hbw hb5;have HO6:=uH (HO5.out.keepT hb5);clear hb5 hbw hba HO5 x0 x1 c0 c1 l2 l3 l4 l5;go_wp2;go_roundw
    case rel=>exact ⟨k+1,_,by omega,rfl,by go_num,HO6,b5⟩
    case measure=>simp [intOf] <;> omega
  ·obtain rfl:k=n:=(by omega);obtain ⟨b,off,eA,hbB,c0⟩:=(HR.out wr hb).at_ (k:=0) hRp;have HTk:Hid (toksAt bs WD=toksG WD 0 (bs.take k)++[⟨-1,1,(wdAt WD 0).length⟩]):=uH (by
    unfold toksAt;rw [HW12.out.2,← HLb.out,List.take_length])
   subst eA;rw [Nat.add_zero] at c0;have hsz:(mkStr (wdAt WD 0)).size=(wdAt WD 0).length:=mkStr_size _;have HSz:=uH hsz;have hs12:(mkStr (wdAt WD 0)).size≤12:=(by have:=HW12.out.1;omega);have z1:(0:Int) < (R:Int):=(by omega);clear hsz;generalize hsM:mkStr (wdAt WD 0)=sM at *;clear hsM;go_wp2_with (at_builtin;refine wpList_append_any _ rfl (.tmp 48) (.tmp 54) _ rfl w.heap.size 103 j0 _ 3 24 Tryz.underlying100 hj hy0 hy1 hy2 rfl (by omega) _ (toksG WD 0 (bs.take k)).length ((toksG WD 0 (bs.take k)).flatMap tkC) rfl (ownG_keep HO.out ((Below.refl _ _).alloc (Nat.le_refl _) _)) (wr.heap.size+1) (some ⟨wr.heap.size,0,none⟩) 1 1 [.int .i64 (-1),.int .i64 1,.int .i64 (sM.size:Int)] (by simp [Act.eval,Act.put]) (rowNewTk _ _ _ _ _) (by simp [Value.oneCell']) (by unfold maxLen;omega) (by omega) (by simp;omega) ?_;intro v6 w6 hown6 hg6 hat6)
   have HO6:Hid (TkOwn w6 w.heap.size v6 (toksAt bs WD)):=uH (by
    rw [HTk.out];unfold TkOwn;rw [List.length_append,List.flatMap_append];rw [HSz.out] at hown6;exact hown6)
   have b6:Below w.heap.size w w6:=(hb.alloc hzw _).grown hg6 (by simp;omega) (fun q hq=>ownG_base HO.out hq);obtain ⟨A6,c6,rfl,_,_⟩:=ownG_form HO6.out;have HF:Hid (TkAns w6 w.heap.size (toksAt bs WD) (.returned (.slice A6 (toksAt bs WD).length c6))):=uH ⟨A6,c6,rfl,HO6.out⟩;clear hown6 hg6 hat6 HO HTk HSz HO6;generalize (toksAt bs WD).length=N at *;go_wp2;go_ret;exact ⟨HF.out,b6⟩
end Go.Proofs.YtbkhnljaajajiaaGreatDoor
namespace Go.Proofs.YtbkhnljaajajiaaGreatDoor
open Go.ChangeShapes Go.WideShapes Go.ChangeAt Go.RowKit Go.Shelf
structure Kept2 (g1 g2:Nat) (w w':World):Prop where
 os:w'.os=w.os
 tape:w'.tape=w.tape
 output:w'.output=w.output
 size:w.heap.size≤w'.heap.size
 block : ∀ k,k < w.heap.size→k≠g1→k≠g2→w'.heap[k]? = w.heap[k]?
section
variable {g1 g2 B:Nat} {w w1 w2:World}
theorem Kept2.refl (w:World):Kept2 g1 g2 w w:=⟨rfl,rfl,rfl,Nat.le_refl _,fun _ _ _ _=>rfl⟩
theorem Kept2.of (h:Below w.heap.size w w1):Kept2 g1 g2 w w1:=⟨h.os,h.tape,h.output,h.size,fun k hk _ _=>h.block k hk⟩
theorem Kept2.drew (h:Kept2 g1 g2 w w1):Kept2 g1 g2 w w1.drew:=⟨h.os,h.tape,h.output,h.size,h.block⟩
theorem Kept2.trans (h:Kept2 g1 g2 w w1) (h2:Kept2 g1 g2 w1 w2):Kept2 g1 g2 w w2 :=
 ⟨h2.os.trans h.os,h2.tape.trans h.tape,h2.output.trans h.output,Nat.le_trans h.size h2.size,fun k hk e1 e2=>(h2.block k (Nat.lt_of_lt_of_le hk h.size) e1 e2).trans (h.block k hk e1 e2)⟩
theorem Kept2.set (h:Kept2 g1 g2 w w1) (p:Addr) (hp:p.block=g1∨p.block=g2) (u:Value):Kept2 g1 g2 w (w1.setCell p u) :=
 ⟨h.os,h.tape,h.output,by simpa using h.size,fun k hk e1 e2=>(Below.heap_setCell w1 p u k (fun e=>hp.elim (fun h=>e1 (e.trans h)) (fun h=>e2 (e.trans h)))).trans (h.block k hk e1 e2)⟩
theorem Kept2.below (h:Kept2 g1 g2 w w1) (h1:B≤g1) (h2:B≤g2) (hB:B≤w.heap.size):Below B w w1:=⟨h.os,h.tape,h.output,h.size,fun k hk=>h.block k (by omega) (by omega) (by omega)⟩
theorem Kept2.blk {b:Nat} {t:TypeId} {cs:Array Value} (h:Kept2 g1 g2 w w1) (hb:Blk w b t cs) (h1:b≠g1) (h2:b≠g2):Blk w1 b t cs:=(h.block b hb.lt h1 h2).trans hb
theorem Kept2.cell {p:Addr} {u:Value} (h:Kept2 g1 g2 w w1) (hc:w.cell? p=some u) (h1:p.block≠g1) (h2:p.block≠g2):w1.cell? p=some u :=
 (World.cell?_of_block (h.block p.block (World.block_lt_of_cell? _ _ hc) h1 h2)).trans hc
end
def LIn (w:World) (gF gW n:Nat) (F:Nat→Tk) (V:Nat→Nat):Prop :=
 ∃ csF csW:Array Value,Blk w gF 103 csF∧csF.size=n * 3∧(∀ j,j < n→csF[j * 3]? = some (.int .i64 (F j).brief)∧csF[j * 3+1]? = some (.int .i64 ((F j).width:Int))∧csF[j * 3+2]? = some (.int .i64 ((F j).cost:Int))) ∧
  Blk w gW 3 csW∧csW.size=n+1∧∀ j,j≤n→csW[j]? = some (.int .i64 ((V j:Nat):Int))
theorem LIn.keep {w w':World} {gF gW n:Nat} {F:Nat→Tk} {V:Nat→Nat} (h:LIn w gF gW n F V) (hb:Below w.heap.size w w'):LIn w' gF gW n F V:=by
 obtain ⟨csF,csW,h1,h2,h3,h4,h5,h6⟩:=h;exact ⟨csF,csW,h1.below hb,h2,h3,h4.below hb,h5,h6⟩
def updT {α:Type} (F:Nat→α) (i:Nat) (x:α) (j:Nat):α:=if j=i then x else F j
theorem updT_same {α:Type} (F:Nat→α) (i:Nat) (x:α):updT F i x i=x:=if_pos rfl
theorem updT_ne {α:Type} (F:Nat→α) {i j:Nat} (x:α) (h:j≠i):updT F i x j=F j:=if_neg h
theorem LIn.set {w:World} {gF gW n i:Nat} {F:Nat→Tk} {V:Nat→Nat} (h:LIn w gF gW n F V) (hne:gF≠gW) (hi:i < n) (t:Tk) (m:Nat) :
  LIn ((((w.setCell ⟨gF,i * 3,none⟩ (.int .i64 t.brief)).setCell ⟨gF,i * 3+1,none⟩ (.int .i64 (t.width:Int))).setCell ⟨gF,i * 3+2,none⟩ (.int .i64 (t.cost:Int))).setCell ⟨gW,i,none⟩ (.int .i64 (m:Int))) gF gW n (updT F i t) (updT V i m):=by
 obtain ⟨csF,csW,h1,h2,h3,h4,h5,h6⟩:=h;refine ⟨_,_,((((h1.set (i * 3) _).set (i * 3+1) _).set (i * 3+2) _).far (p:=⟨gW,i,none⟩) hne _),by simp [h2],fun j hj=>?_,(((h4.far (p:=⟨gF,i * 3,none⟩) (Ne.symm hne) _).far (p:=⟨gF,i * 3+1,none⟩) (Ne.symm hne) _).far (p:=⟨gF,i * 3+2,none⟩) (Ne.symm hne) _).set i _,by simp [h5],fun j hj=>?_⟩
 ·by_cases e:j=i
  ·subst e;rw [updT_same];refine ⟨?_,?_,?_⟩
   ·rw [Array.getElem?_setIfInBounds_ne (by omega),Array.getElem?_setIfInBounds_ne (by omega),Array.getElem?_setIfInBounds_self_of_lt (by omega)]
   ·rw [Array.getElem?_setIfInBounds_ne (by omega),Array.getElem?_setIfInBounds_self_of_lt (by simp;omega)]
   ·rw [Array.getElem?_setIfInBounds_self_of_lt (by simp;omega)]
  ·rw [updT_ne _ _ e];obtain ⟨g1,g2,g3⟩:=h3 j hj;refine ⟨?_,?_,?_⟩
   ·rw [Array.getElem?_setIfInBounds_ne (by omega),Array.getElem?_setIfInBounds_ne (by omega),Array.getElem?_setIfInBounds_ne (by omega)];exact g1
   ·rw [Array.getElem?_setIfInBounds_ne (by omega),Array.getElem?_setIfInBounds_ne (by omega),Array.getElem?_setIfInBounds_ne (by omega)];exact g2
   ·rw [Array.getElem?_setIfInBounds_ne (by omega),Array.getElem?_setIfInBounds_ne (by omega),Array.getElem?_setIfInBounds_ne (by omega)];exact g3
 ·by_cases e:j=i
  ·subst e;rw [updT_same,Array.getElem?_setIfInBounds_self_of_lt (by omega)]
  ·rw [updT_ne _ _ e,Array.getElem?_setIfInBounds_ne (by omega)];exact h6 j hj
structure VEnv (gF gW p3 p6 p7 n:Nat) (w:World):Prop where
 c3:w.cell? ⟨p3,0,none⟩=some (.func (.func 64) #[] #[])
 c6:w.cell? ⟨p6,0,none⟩=some (.slice (some ⟨gF,0,none⟩) n n)
 c7:w.cell? ⟨p7,0,none⟩=some (.slice (some ⟨gW,0,none⟩) (n+1) (n+1))
 n3:p3≠gF∧p3≠gW
 n6:p6≠gF∧p6≠gW
 n7:p7≠gF∧p7≠gW
 nn:gF≠gW
theorem VEnv.kept {gF gW p3 p6 p7 n:Nat} {w w':World} (h:VEnv gF gW p3 p6 p7 n w) (hk:Kept2 gF gW w w'):VEnv gF gW p3 p6 p7 n w' :=
 ⟨hk.cell h.c3 h.n3.1 h.n3.2,hk.cell h.c6 h.n6.1 h.n6.2,hk.cell h.c7 h.n7.1 h.n7.2,h.n3,h.n6,h.n7,h.nn⟩
theorem tokenCost (b z k:Int) (w:World):Calls Tryz.prog 64 #[.agg #[.int .i64 b,.int .i64 z,.int .i64 k]] w fun e w'=>e = .returned (.int .i64 k)∧Below w.heap.size w w':=by
 have b0:Below w.heap.size w (w.alloc (.cells #[.int .i64 b,.int .i64 z,.int .i64 k] 103)):=(Below.refl _ _).alloc (Nat.le_refl _) _;go_enter Tryz.func64,Tryz.ntmps64
 go_wp2;go_ret;exact ⟨rfl,b0⟩
def nextL (n i:Nat) (t:Tk) (F:Nat→Tk) (V:Nat→Nat) (gF gW:Nat) (w':World):Prop :=
 if (F i).width=0∨t.cost+V (i+t.width) < V i then LIn w' gF gW n (updT F i t) (updT V i (t.cost+V (i+t.width))) else LIn w' gF gW n F V
set_option maxHeartbeats 3200000 in
theorem leastFn {gF gW p3 p6 p7 n:Nat} (i:Nat) (t:Tk) (F:Nat→Tk) (V:Nat→Nat) (w:World) (hi:i < n) (hn:n≤20) (ht:i+t.width≤n) (hc:t.cost≤100) (hV : ∀ j,j≤n→V j≤1000) (hE:VEnv gF gW p3 p6 p7 n w) (hL:LIn w gF gW n F V) :
  Calls Tryz.prog 126 #[.int .i64 (i:Int),.agg #[.int .i64 t.brief,.int .i64 (t.width:Int),.int .i64 (t.cost:Int)],.pointer (some ⟨p3,0,none⟩),.pointer (some ⟨p7,0,none⟩),.pointer (some ⟨p6,0,none⟩)] w fun e w'=>e = .returned (.tuple #[])∧nextL n i t F V gF gW w'∧Kept2 gF gW w w':=by
 have b0:Below w.heap.size w (w.alloc (.cells #[.int .i64 t.brief,.int .i64 (t.width:Int),.int .i64 (t.cost:Int)] 103)):=(Below.refl _ _).alloc (Nat.le_refl _) _;have HE0:=uH hE;have hVi:=hV i (by omega);have hVt:=hV (i+t.width) ht;have HE:=uH (hE.kept (Kept2.of b0));have HL:=uH (hL.keep b0);have x0:=newcell w #[.int .i64 t.brief,.int .i64 (t.width:Int),.int .i64 (t.cost:Int)] 103 0 _ rfl;have x1:=newcell w #[.int .i64 t.brief,.int .i64 (t.width:Int),.int .i64 (t.cost:Int)] 103 1 _ rfl;have x2:=newcell w #[.int .i64 t.brief,.int .i64 (t.width:Int),.int .i64 (t.cost:Int)] 103 2 _ rfl;obtain ⟨csF,csW,h1,h2,h3,h4,h5,h6⟩:=HL.out;have y3:=HE.out.c3;have y7:=HE.out.c7;have y6:=HE.out.c6;have yw:=(h4.cell (i+t.width)).trans (h6 _ ht);have HB0:=uH b0;have HCost:=uH (fun W=>tokenCost t.brief t.width t.cost W);have HX:=uH (And.intro x0 (And.intro x1 x2));have r0:=qcell x0;have r1:=qcell x1;have r2:=qcell x2;have q3:=qcell y3;have q7:=qcell y7;have qw:=qcell yw;have hw1:IntKind.i64.wrap ((i:Int)+(t.width:Int))=(i:Int)+(t.width:Int):=IntWalk.i64_in _ (by omega);have hw2:IntKind.i64.wrap ((t.cost:Int)+((V (i+t.width):Nat):Int))=(t.cost:Int)+((V (i+t.width):Nat):Int):=IntWalk.i64_in _ (by omega);have l1:(0:Int)≤(i:Int)+(t.width:Int):=(by omega);have l2:(i:Int)+(t.width:Int) < (n:Int)+1:=(by omega);have hnn:((i:Int)+(t.width:Int)).toNat=i+t.width:=(by omega);have HGl:Hid (gF < w.heap.size∧gW < w.heap.size):=uH (by obtain ⟨a1,a2,a3,a4,a5,a6,a7,a8⟩:=hL;exact ⟨a3.lt,a6.lt⟩);clear hE hL hV h1 h2 h3 h4 h5 h6 b0;go_enter Tryz.func126,Tryz.ntmps126
 (go_wp2_with fail);go_region_held3 (fun w'=>w'.cell? ⟨w.heap.size,0,none⟩=some (.int .i64 t.brief)∧w'.cell? ⟨w.heap.size,1,none⟩=some (.int .i64 (t.width:Int))∧w'.cell? ⟨w.heap.size,2,none⟩=some (.int .i64 (t.cost:Int))∧w'.cell? ⟨p3,0,none⟩=some (.func (.func 64) #[] #[])∧w'.cell? ⟨p7,0,none⟩=some (.slice (some ⟨gW,0,none⟩) (n+1) (n+1))∧w'.cell? ⟨gW,i+t.width,none⟩=some (.int .i64 ((V (i+t.width):Nat):Int))) (first | (exact ⟨by assumption,by assumption,by assumption,by assumption,by assumption,by assumption⟩) | go_keep)
  (first
   | (go_at_call 64;refine (HCost.out _).mono ?_;rintro e w5 ⟨rfl,hb5⟩;have m0:=kcell hb5 (show World.cell? (World.drew _) _=_ from x0);have m1:=kcell hb5 (show World.cell? (World.drew _) _=_ from x1);have m2:=kcell hb5 (show World.cell? (World.drew _) _=_ from x2);have m3:=kcell hb5 (show World.cell? (World.drew _) _=_ from y3);have m7:=kcell hb5 (show World.cell? (World.drew _) _=_ from y7);have mw:=kcell hb5 (show World.cell? (World.drew _) _=_ from yw)))
 have hb6:=below_next ((Below.refl _ _).drew) hb5;have HE5:=uH (HE.out.kept (Kept2.of hb6));have HL5:=uH (HL.out.keep hb6);have HK5:Hid (Kept2 gF gW w w5):=uH ((Kept2.of HB0.out).trans (Kept2.of hb6));obtain ⟨csF,csW,h1,h2,h3,h4,h5,h6⟩:=HL5.out;obtain ⟨f0,f1,f2⟩:=h3 i hi;have e0:=(h1.cell (i * 3)).trans f0;have e1:=(h1.cell (i * 3+1)).trans f1;have e2:=(h1.cell (i * 3+2)).trans f2;have g0:=h1.free (i * 3);have g1:=h1.free (i * 3+1);have g2:=h1.free (i * 3+2);have ew:=(h4.cell i).trans (h6 i (by omega));have gw:=h4.free i;have m6:=HE5.out.c6;have i1:(0:Int)≤(i:Int):=(by omega);have i2:(i:Int) < (n:Int):=(by omega);have i3:(i:Int) < (n:Int)+1:=(by omega);have hnn:=HE5.out.nn;have HSet:=uH (fun m=>LIn.set HL5.out hnn hi t m);have HKs:Hid (∀ m:Nat,Kept2 gF gW w ((((w5.setCell ⟨gF,i * 3,none⟩ (.int .i64 t.brief)).setCell ⟨gF,i * 3+1,none⟩ (.int .i64 (t.width:Int))).setCell ⟨gF,i * 3+2,none⟩ (.int .i64 (t.cost:Int))).setCell ⟨gW,i,none⟩ (.int .i64 (m:Int)))):=uH (fun m=>(((HK5.out.set _ (.inl rfl) _).set _ (.inl rfl) _).set _ (.inl rfl) _).set _ (.inr rfl) _);have HWhole:Hid (((t.cost+V (i+t.width):Nat):Int)=(t.cost:Int)+((V (i+t.width):Nat):Int)):=uH (by omega);clear h1 h2 h3 h4 h5 h6 f0 f1 f2 HE HL HX HB0 HCost HE0 y3 y6 y7 yw x0 x1 x2 q3 q7 qw r0 r1 r2 hb5 hb6;have ne1 : ¬ p7=gF:=HE5.out.n7.1;have ne2 : ¬ p7=gW:=HE5.out.n7.2;have ne3 : ¬ p6=gF:=HE5.out.n6.1;have ne4 : ¬ p6=gW:=HE5.out.n6.2;have ne5 : ¬ gF=gW:=hnn;have ne6 : ¬ gW=gF:=fun e=>hnn e.symm;have ne7 : ¬ gF=p7:=fun e=>ne1 e.symm;have ne8 : ¬ gW=p7:=fun e=>ne2 e.symm;have ne9 : ¬ gF=p6:=fun e=>ne3 e.symm;have neA : ¬ gW=p6:=fun e=>ne4 e.symm;have neB : ¬ w.heap.size=gF:=fun e=>by
  have:=HGl.out.1;omega
 have neC : ¬ w.heap.size=gW:=fun e=>by
  have:=HGl.out.2;omega
 have neD : ¬ gF=w.heap.size:=fun e=>neB e.symm;have neE : ¬ gW=w.heap.size:=fun e=>neC e.symm;by_cases hz:(F i).width=0∨t.cost+V (i+t.width) < V i
 ·have HN:Hid (∀ W,LIn W gF gW n (updT F i t) (updT V i (t.cost+V (i+t.width)))→nextL n i t F V gF gW W):=uH (fun W h=>by unfold nextL;rw [if_pos hz];exact h);have hset:=HSet.out (t.cost+V (i+t.width));have hks:=HKs.out (t.cost+V (i+t.width));rw [HWhole.out] at hset hks;have HS1:=uH hset;have HK1:=uH hks;clear hset hks HSet HKs;by_cases hz1:(F i).width=0
  ·have z0:(((F i).width:Int) == 0)=true:=(by rw [hz1];rfl);clear hz hz1;(go_wp2_with fail);go_region
   all_goals
    go_wp2;first | go_end0 | skip
    exact ⟨rfl,HN.out _ HS1.out,HK1.out.drew⟩
  ·have z0:(((F i).width:Int) == 0)=false:=(by simp;omega);have z1:(t.cost:Int)+((V (i+t.width):Nat):Int) < ((V i:Nat):Int):=(by omega);clear hz hz1;(go_wp2_with fail);go_region
   all_goals
    go_wp2;first | go_end0 | skip
    exact ⟨rfl,HN.out _ HS1.out,HK1.out.drew⟩
 ·have HN:Hid (nextL n i t F V gF gW w5):=uH (by unfold nextL;rw [if_neg hz];exact HL5.out);have z0:(((F i).width:Int) == 0)=false:=(by simp;omega);have z1 : ¬ (t.cost:Int)+((V (i+t.width):Nat):Int) < ((V i:Nat):Int):=(by omega);clear hz HSet HKs;go_wp2;first | go_end0 | skip
  exact ⟨rfl,HN.out,HK5.out⟩
theorem LIn.congr {w:World} {gF gW n:Nat} {F F':Nat→Tk} {V V':Nat→Nat} (h:LIn w gF gW n F V) (h1 : ∀ j,j < n→F' j=F j) (h2 : ∀ j,j≤n→V' j=V j):LIn w gF gW n F' V':=by
 obtain ⟨csF,csW,a1,a2,a3,a4,a5,a6⟩:=h;exact ⟨csF,csW,a1,a2,fun j hj=>by rw [h1 j hj];exact a3 j hj,a4,a5,fun j hj=>by rw [h2 j hj];exact a6 j hj⟩
def FkT (bs:List Bf) (ws:List Wd) (i j:Nat):Tk:=if i≤j then (firstT bs (ws.drop j)).1 else ⟨0,0,0⟩
def VkT (bs:List Bf) (ws:List Wd) (i j:Nat):Nat:=if i≤j then costOf bs (ws.drop j) else 0
theorem toks_ok {bs:List Bf} {ws:List Wd} (hv:brsB bs=true) (hs:spB ws=true) {i:Nat} (hi:i < ws.length) {t:Tk} (ht:t∈toksAt bs (ws.drop i)):1≤t.width∧i+t.width≤ws.length∧t.cost≤100:=by
 rcases List.mem_append.1 ht with hm | hm
 ·obtain ⟨j,b,h1,h2,rfl⟩:=(toksG_mem bs 0).1 hm;have hb:=List.mem_of_getElem? h1;have h3:=hitB_len h2;rw [List.length_drop] at h3;have h4:=valid_one hv b hb;have h5:=(markB_len (bfB_iff.1 (brsB_mem hv b hb)).1).2;exact ⟨h4,by show i+b.words.length≤ws.length;omega,by show b.mark.length≤100;omega⟩
 ·rw [List.mem_singleton] at hm;subst hm;refine ⟨Nat.le_refl _,by show i+1≤ws.length;omega,?_⟩;rw [List.drop_eq_getElem_cons hi]
  show (ws[i]).length≤100
  have:=word_len12 ((spB_iff.1 hs).1 _ (List.getElem_mem hi));omega
def tkAt (ts:List Tk) (k:Nat):Tk:=ts.getD k ⟨0,0,0⟩
theorem tkAt_some {ts:List Tk} {k:Nat} (h:k < ts.length):ts[k]? = some (tkAt ts k):=by simp [tkAt,List.getD_eq_getElem?_getD,h]
theorem TkOwn.at_ {w:World} {B L c k:Nat} {A:Option Addr} {ts:List Tk} (h:TkOwn w B (.slice A L c) ts) (hl:ts.length=L) (hk:k < L) :
  ∃ b off,A=some ⟨b,off,none⟩∧B≤b∧w.cell? ⟨b,off+k * 3,none⟩=some (.int .i64 (tkAt ts k).brief)∧w.cell? ⟨b,off+k * 3+1,none⟩=some (.int .i64 ((tkAt ts k).width:Int))∧w.cell? ⟨b,off+k * 3+2,none⟩=some (.int .i64 ((tkAt ts k).cost:Int)):=by
 unfold TkOwn at h;rw [hl] at h;obtain ⟨b,off,eA,hbB,hc⟩:=(Row.of_own h).2 (by omega);have hs:=tkAt_some (ts:=ts) (k:=k) (by omega);have hB:B≤b:=(by subst eA;exact ownG_base h rfl);refine ⟨b,off,eA,hB,?_,?_,?_⟩
 ·have:=hc (k * 3+0) _ (flat_at tkC_len ts k _ 0 (.int .i64 (tkAt ts k).brief) hs rfl);simpa using this
 ·have:=hc (k * 3+1) _ (flat_at tkC_len ts k _ 1 (.int .i64 ((tkAt ts k).width:Int)) hs rfl)
  rwa [← Nat.add_assoc] at this
 ·have:=hc (k * 3+2) _ (flat_at tkC_len ts k _ 2 (.int .i64 ((tkAt ts k).cost:Int)) hs rfl)
  rwa [← Nat.add_assoc] at this
def keepN (bs:List Bf) (ws:List Wd) (i k:Nat):Tk × Nat:=((toksAt bs (ws.drop i)).take k).foldl (keepT bs (ws.drop i)) emptyT
theorem keepN_succ {bs:List Bf} {ws:List Wd} {i k:Nat} (h:k < (toksAt bs (ws.drop i)).length):keepN bs ws i (k+1)=keepT bs (ws.drop i) (keepN bs ws i k) (tkAt (toksAt bs (ws.drop i)) k):=by
 unfold keepN;have h2:=tkAt_some h;rw [List.getElem?_eq_getElem h] at h2;injection h2 with h2;rw [List.take_succ_eq_append_getElem h,List.foldl_append,h2];rfl
theorem keepN_all (bs:List Bf) (ws:List Wd) (i:Nat):keepN bs ws i (toksAt bs (ws.drop i)).length=firstT bs (ws.drop i):=by unfold keepN firstT;rw [List.take_length]
theorem nextL_keep {bs:List Bf} {ws:List Wd} {i k gF gW:Nat} {W:World} {t:Tk} (hw:1≤t.width) (h:nextL ws.length i t (updT (FkT bs ws (i+1)) i (keepN bs ws i k).1) (updT (VkT bs ws (i+1)) i (keepN bs ws i k).2) gF gW W) :
  LIn W gF gW ws.length (updT (FkT bs ws (i+1)) i (keepT bs (ws.drop i) (keepN bs ws i k) t).1) (updT (VkT bs ws (i+1)) i (keepT bs (ws.drop i) (keepN bs ws i k) t).2):=by
 have e1:updT (VkT bs ws (i+1)) i (keepN bs ws i k).2 (i+t.width)=costOf bs ((ws.drop i).drop t.width):=by
  rw [updT_ne _ _ (by omega)];unfold VkT;rw [if_pos (by omega),List.drop_drop]
 unfold nextL at h;rw [updT_same,updT_same,e1] at h;unfold keepT wholeT;split at h
 ·rename_i hc
  rw [if_pos hc];refine LIn.congr h (fun j _=>?_) (fun j _=>?_)
  ·by_cases e:j=i
   ·subst e;rw [updT_same,updT_same]
   ·rw [updT_ne _ _ e,updT_ne _ _ e,updT_ne _ _ e]
  ·by_cases e:j=i
   ·subst e;rw [updT_same,updT_same]
   ·rw [updT_ne _ _ e,updT_ne _ _ e,updT_ne _ _ e]
 ·rename_i hc
  rw [if_neg hc];exact h
theorem tables_start {bs:List Bf} {ws:List Wd} {i gF gW:Nat} {W:World} (h:LIn W gF gW ws.length (FkT bs ws (i+1)) (VkT bs ws (i+1))) :
  LIn W gF gW ws.length (updT (FkT bs ws (i+1)) i (keepN bs ws i 0).1) (updT (VkT bs ws (i+1)) i (keepN bs ws i 0).2):=by
 refine LIn.congr h (fun j _=>?_) (fun j _=>?_)
 ·by_cases e:j=i
  ·subst e;rw [updT_same];unfold FkT;rw [if_neg (by omega)];rfl
  ·rw [updT_ne _ _ e]
 ·by_cases e:j=i
  ·subst e;rw [updT_same];unfold VkT;rw [if_neg (by omega)];rfl
  ·rw [updT_ne _ _ e]
theorem tables_end {bs:List Bf} {ws:List Wd} {i gF gW:Nat} {W:World} (h1 : ∀ b∈bs,1≤b.words.length) (hi:i < ws.length) (h:LIn W gF gW ws.length (updT (FkT bs ws (i+1)) i (firstT bs (ws.drop i)).1) (updT (VkT bs ws (i+1)) i (firstT bs (ws.drop i)).2)) :
  LIn W gF gW ws.length (FkT bs ws i) (VkT bs ws i):=by
 have hf:=(firstT_is h1 (ws:=ws.drop i) (by rw [List.length_drop];omega)).1;refine LIn.congr h (fun j _=>?_) (fun j _=>?_)
 ·by_cases e:j=i
  ·subst e;rw [updT_same];unfold FkT;rw [if_pos (Nat.le_refl _)]
  ·rw [updT_ne _ _ e];unfold FkT;by_cases h2:i≤j
   ·rw [if_pos h2,if_pos (by omega)]
   ·rw [if_neg h2,if_neg (by omega)]
 ·by_cases e:j=i
  ·subst e;rw [updT_same,hf];unfold VkT;rw [if_pos (Nat.le_refl _)]
  ·rw [updT_ne _ _ e];unfold VkT;by_cases h2:i≤j
   ·rw [if_pos h2,if_pos (by omega)]
   ·rw [if_neg h2,if_neg (by omega)]
theorem BrsIn.below {w w':World} {B n c:Nat} {A:Option Addr} {xs:List Br} (h:BrsIn w B A n c xs) (hb:Below B w w'):BrsIn w' B A n c xs :=
 ⟨h.1,h.2.1,h.2.2.1,h.2.2.2.1.below hb,fun x hx=>WdsIn.below (h.2.2.2.2 x hx) hb⟩
theorem BrsIn.more {w:World} {B B' n c:Nat} {A:Option Addr} {xs:List Br} (h:BrsIn w B A n c xs) (hB:B≤B'):BrsIn w B' A n c xs :=
 ⟨h.1,h.2.1,h.2.2.1,h.2.2.2.1.more hB,fun x hx=>WdsIn.more (h.2.2.2.2 x hx) hB⟩
theorem keepN_bd {bs:List Bf} {ws:List Wd} {i:Nat} (hv:brsB bs=true) (hs:spB ws=true) (hi:i < ws.length) : ∀ k,(keepN bs ws i k).2≤1000:=by
 intro k;induction k with
 | zero=>exact Nat.zero_le _
 | succ k ih =>
  by_cases hk:k < (toksAt bs (ws.drop i)).length
  ·rw [keepN_succ hk];unfold keepT;split
   ·have h1:=toks_ok hv hs hi (List.mem_of_getElem? (tkAt_some hk));have h2:=cost240 (valid_one hv) hs (i+(tkAt (toksAt bs (ws.drop i)) k).width)
    show wholeT bs (ws.drop i) _≤1000
    unfold wholeT;rw [List.drop_drop];omega
   ·exact ih
  ·have:keepN bs ws i (k+1)=keepN bs ws i k:=by
    unfold keepN;rw [List.take_of_length_le (by omega),List.take_of_length_le (by omega)]
   rw [this];exact ih
theorem vk_bd {bs:List Bf} {ws:List Wd} {i k:Nat} (h1 : ∀ b∈bs,1≤b.words.length) (hv:brsB bs=true) (hs:spB ws=true) (hi:i < ws.length) (j:Nat):updT (VkT bs ws (i+1)) i (keepN bs ws i k).2 j≤1000:=by
 by_cases e:j=i
 ·subst e;rw [updT_same];exact keepN_bd hv hs hi k
 ·rw [updT_ne _ _ e];unfold VkT;split
  ·have:=cost240 h1 hs j;omega
  ·omega
def cbV (p3 p6 p7:Nat):Value:=.func (.func 126) #[] #[.pointer (some ⟨p3,0,none⟩),.pointer (some ⟨p7,0,none⟩),.pointer (some ⟨p6,0,none⟩)]
set_option maxHeartbeats 3200000 in
theorem visitAll {gF gW p3 p6 p7 Bd:Nat} (A:Option Addr) (n c:Nat) (xs:List Br) (A':Option Addr) (n' c':Nat) (ws:List Wd) (hv:brsB (xs.map Br.dat)=true) (hs:spB ws=true) (hF:Bd≤gF) (hG:Bd≤gW) :
  ∀ (m i:Nat) (w:World),i+m=n'→BrsIn w Bd A n c xs→WdsIn w Bd A' n' c' ws→Bd≤w.heap.size→VEnv gF gW p3 p6 p7 n' w→LIn w gF gW n' (FkT (xs.map Br.dat) ws n') (VkT (xs.map Br.dat) ws n') →
  Calls Tryz.prog 125 #[deskV A n c A' n' c',.int .i64 (i:Int),cbV p3 p6 p7] w fun e w'=>e = .returned (.tuple #[])∧LIn w' gF gW n' (FkT (xs.map Br.dat) ws i) (VkT (xs.map Br.dat) ws i)∧Kept2 gF gW w w':=by
 intro m;induction m with
 | zero =>
  intro i w hi h h' hB hE hL;obtain rfl:i=n':=(by omega);have hn20:i≤20:=(by have:=(spB_iff.1 hs).2;rw [h'.1] at this;exact this);have b0:Below w.heap.size w (w.alloc (.cells #[.slice A n c,.slice A' i c'] 97)):=(Below.refl _ _).alloc (Nat.le_refl _) _;have HF:=uH (hL.keep b0);have HK:Hid (Kept2 gF gW w (w.alloc (.cells #[.slice A n c,.slice A' i c'] 97))):=uH (Kept2.of b0);clear h h' hE hL hs hv b0;unfold deskV cbV;go_enter Tryz.func125,Tryz.ntmps125
  go_wp2;first | go_end0 | refine bodyPost_ret (results_none rfl _ _ _) rfl ?_
  exact ⟨rfl,HF.out,HK.out⟩
 | succ m ih =>
  intro i w hi h h' hB hE hL;have hn20:n'≤20:=(by have:=(spB_iff.1 hs).2;rw [h'.1] at this;exact this);have hlt:i < n':=(by omega);have HL':=uH h'.1;have hv1:=valid_one hv;have HOne:=uH hv1;have HV:=uH hv;have HSp:=uH hs;have i0:(0:Int)≤(i:Int):=(by omega);have i1:(i:Int) < (n':Int):=(by omega);have b0:Below w.heap.size w (w.alloc (.cells #[.slice A n c,.slice A' n' c'] 97)):=(Below.refl _ _).alloc (Nat.le_refl _) _;have KD:Hid (Blk (w.alloc (.cells #[.slice A n c,.slice A' n' c'] 97)) w.heap.size 97 #[.slice A n c,.slice A' n' c']):=uH (Blk.new _ _ _);have k0:=KD.out.cell 0;have k1:=KD.out.cell 1;have hBb:Below Bd w (w.alloc (.cells #[.slice A n c,.slice A' n' c'] 97)):=b0.mono hB;have hgl:gF < w.heap.size∧gW < w.heap.size:=(by obtain ⟨a1,a2,a3,a4,a5,a6,a7,a8⟩:=hL;exact ⟨a3.lt,a6.lt⟩);have HIH:=uH (ih (i+1) _ (by omega) (h.below hBb) (h'.below hBb) (by simp;omega) (hE.kept (Kept2.of b0)) (hL.keep b0));have HE:=uH hE;have HBr:=uH (h.below hBb);have HWs:=uH (h'.below hBb);have HK0:Hid (Kept2 gF gW w (w.alloc (.cells #[.slice A n c,.slice A' n' c'] 97))):=uH (Kept2.of b0);have HBa:Hid (Bd≤(w.alloc (.cells #[.slice A n c,.slice A' n' c'] 97)).heap.size):=uH (by simp;omega);unfold deskV cbV at HIH ⊢;rw [show (((i+1:Nat):Int))=(i:Int)+1 by omega] at HIH;clear h h' hE hL ih hs hv hv1 hBb hi b0;go_enter Tryz.func125,Tryz.ntmps125
  (go_wp2_with fail);refine HIH.out.mono ?_;rintro e w1 ⟨rfl,hL1,hK1⟩;have hb1:=hK1.below hF hG HBa.out;have HBr1:=uH (HBr.out.below hb1);have HWs1:=uH (HWs.out.below hb1);have hB1:Bd≤w1.heap.size:=Nat.le_trans HBa.out hb1.size;have HK1:=uH (HK0.out.trans hK1);have KD1:Hid (Blk w1 w.heap.size 97 #[.slice A n c,.slice A' n' c']):=uH (hK1.blk KD.out (by omega) (by omega));have m0:=KD1.out.cell 0;have m1:=KD1.out.cell 1;have HL1:=uH hL1;have HTk:=uH (implTokensAt A n c xs A' n' c' ws i w1 HV.out HSp.out hlt (HBr1.out.more hB1) (HWs1.out.more hB1));unfold deskV at HTk;clear hK1 hb1 hL1 HIH HBr HWs HK0 k0 k1;(go_wp2_with fail);refine HTk.out.mono ?_;rintro e w2 ⟨⟨A6,c6,rfl,hO⟩,hb2⟩;have HO:=uH hO;have hz2:=hb2.size;have hz1:=HK1.out.size;have HE2:=uH ((HE.out.kept HK1.out).kept (Kept2.of hb2));have HL2:Hid (LIn w2 gF gW n' (updT (FkT (xs.map Br.dat) ws (i+1)) i (keepN (xs.map Br.dat) ws i 0).1) (updT (VkT (xs.map Br.dat) ws (i+1)) i (keepN (xs.map Br.dat) ws i 0).2)):=uH (by
   have:=HL1.out.keep hb2;rw [← HL'.out] at this ⊢;exact tables_start this)
  have HK2:Hid (Kept2 gF gW w w2):=uH (HK1.out.trans (Kept2.of hb2));clear hO hb2 HTk HL1 HK1 m0 m1;obtain ⟨L,hLn⟩ : ∃ L,L=(toksAt (xs.map Br.dat) (ws.drop i)).length:=⟨_,rfl⟩;rw [← hLn] at HO ⊢;have HLn:=uH hLn.symm;have HAll:Hid (keepN (xs.map Br.dat) ws i L=firstT (xs.map Br.dat) (ws.drop i)):=uH (by rw [hLn];exact keepN_all _ _ _);have hL20:L≤1000000:=by
   have h1:=toksG_len (ws.drop i) (xs.map Br.dat) 0;have h2:=(brsB_iff.1 HV.out).1;rw [hLn];unfold toksAt;rw [List.length_append];simp at h1 h2 ⊢;omega
  clear hLn;go_wp2;go_loopw [22] (fun s22 wr=>∃ k:Nat,k≤L∧s22 = .int .i64 k∧Hid (LIn wr gF gW n' (updT (FkT (xs.map Br.dat) ws (i+1)) i (keepN (xs.map Br.dat) ws i k).1) (updT (VkT (xs.map Br.dat) ws (i+1)) i (keepN (xs.map Br.dat) ws i k).2))∧Kept2 gF gW w2 wr) (fun s22 _=>L - (intOf s22).toNat)
  case atStart=>exact ⟨0,Nat.zero_le _,rfl,HL2,Kept2.refl _⟩
  case round =>
   obtain ⟨k,hk,rfl,HLr,hkr⟩:=hrel;have hzr:=hkr.size;have j1:(0:Int)≤(k:Int):=(by omega);by_cases hlk:k < L
   ·have j2:(k:Int) < (L:Int):=(by omega);obtain ⟨b,off,rfl,hbb,c0,c1,c2⟩:=HO.out.at_ HLn.out hlk;have d0:=hkr.cell c0 (by show b≠gF;omega) (by show b≠gW;omega);have d1:=hkr.cell c1 (by show b≠gF;omega) (by show b≠gW;omega);have d2:=hkr.cell c2 (by show b≠gF;omega) (by show b≠gW;omega);have hmem:tkAt (toksAt (xs.map Br.dat) (ws.drop i)) k∈toksAt (xs.map Br.dat) (ws.drop i):=List.mem_of_getElem? (tkAt_some (by rw [HLn.out];exact hlk));obtain ⟨t1,t2,t3⟩:=toks_ok HV.out HSp.out (by rw [HL'.out];exact hlt) hmem;rw [HL'.out] at t2;have HNx:Hid (∀ W,nextL n' i (tkAt (toksAt (xs.map Br.dat) (ws.drop i)) k) (updT (FkT (xs.map Br.dat) ws (i+1)) i (keepN (xs.map Br.dat) ws i k).1) (updT (VkT (xs.map Br.dat) ws (i+1)) i (keepN (xs.map Br.dat) ws i k).2) gF gW W→LIn W gF gW n' (updT (FkT (xs.map Br.dat) ws (i+1)) i (keepN (xs.map Br.dat) ws i (k+1)).1) (updT (VkT (xs.map Br.dat) ws (i+1)) i (keepN (xs.map Br.dat) ws i (k+1)).2)):=uH (fun W hN=>by
     rw [keepN_succ (by rw [HLn.out];exact hlk)];rw [← HL'.out] at hN ⊢;exact nextL_keep t1 hN)
    have HVb:Hid (∀ j,j≤n'→updT (VkT (xs.map Br.dat) ws (i+1)) i (keepN (xs.map Br.dat) ws i k).2 j≤1000):=uH (fun j hj=>vk_bd HOne.out HV.out HSp.out (by rw [HL'.out];exact hlt) j);generalize tkAt (toksAt (xs.map Br.dat) (ws.drop i)) k=t at *;have ba:Below wr.heap.size wr (wr.alloc (.cells #[.int .i64 t.brief,.int .i64 (t.width:Int),.int .i64 (t.cost:Int)] 103)):=(Below.refl _ _).alloc (Nat.le_refl _) _;have HC:=uH (leastFn (p3:=p3) (p6:=p6) (p7:=p7) i t _ _ _ hlt hn20 t2 t3 HVb.out ((HE2.out.kept hkr).kept (Kept2.of ba)) (HLr.out.keep ba));have HKa:Hid (Kept2 gF gW w2 (wr.alloc (.cells #[.int .i64 t.brief,.int .i64 (t.width:Int),.int .i64 (t.cost:Int)] 103))):=uH (hkr.trans (Kept2.of ba));clear HLr hkr ba HVb hmem c0 c1 c2;(go_wp2_with fail);refine HC.out.mono ?_;rintro e w5 ⟨rfl,hN5,hK5⟩;have HL5:=uH (HNx.out w5 hN5);have hk5:=HKa.out.trans hK5;clear hN5 hK5 HC HKa HNx d0 d1 d2;go_wp2;go_roundw
    case rel=>exact ⟨k+1,by omega,by go_num,HL5,hk5⟩
    case measure=>simp [intOf] <;> omega
   ·obtain rfl:k=L:=(by omega);have HF:Hid (LIn wr gF gW n' (FkT (xs.map Br.dat) ws i) (VkT (xs.map Br.dat) ws i)):=uH (by
     have:=HLr.out;rw [HAll.out] at this;rw [← HL'.out] at this ⊢;exact tables_end HOne.out (by rw [HL'.out];exact hlt) this)
    have hkf:=HK2.out.trans hkr;clear HLr hkr;go_wp2;first | go_end0 | refine bodyPost_ret (results_none rfl _ _ _) rfl ?_
    exact ⟨rfl,HF.out,hkf⟩
theorem made_at3 {v:Value} {n:Nat} (j:Nat) (h:j < n):(madeCells #[v,v,v] n)[j]? = some v:=by
 have:j % 3=0∨j % 3=1∨j % 3=2:=(by omega);rcases this with e | e | e <;> simp [madeCells,h,e]
def LeastAns (w:World) (bs:List Bf) (ws:List Wd) (n:Nat) (e:Ending) (w':World):Prop :=
 ∃ gF gW:Nat,e = .returned (.tuple #[.slice (some ⟨gF,0,none⟩) n n,.slice (some ⟨gW,0,none⟩) (n+1) (n+1)])∧LIn w' gF gW n (FkT bs ws 0) (VkT bs ws 0)∧w.heap.size≤gF∧w.heap.size≤gW∧Below w.heap.size w w'
set_option maxHeartbeats 1600000 in
theorem implLeast (A:Option Addr) (n c:Nat) (xs:List Br) (A':Option Addr) (n' c':Nat) (ws:List Wd) (w:World) (hv:brsB (xs.map Br.dat)=true) (hs:spB ws=true) (h:BrsIn w w.heap.size A n c xs) (h':WdsIn w w.heap.size A' n' c' ws) :
  Calls Tryz.prog 63 #[deskV A n c A' n' c',.func (.func 64) #[] #[]] w (LeastAns w (xs.map Br.dat) ws n'):=by
 have hn20:n'≤20:=(by have:=(spB_iff.1 hs).2;rw [h'.1] at this;exact this);have HL':=uH h'.1;have HV:=uH hv;have HSp:=uH hs;have H:=uH h;have H':=uH h';clear h h' hv hs;obtain ⟨j0,hj,hy0,hy1,hy2⟩:=info_parts infoTk;obtain ⟨i0,hi,hz0,hz1,hz2⟩:=info_parts infoInt;have hmk:=fun W=>run_make_rowN (P:=Tryz.prog) 100 103 j0 _ Tryz.underlying100 hj hy0 .i64 .i64 n' n' (Nat.le_refl _) (by rw [hy2];omega) (by omega) W;have hmk2:=fun W=>run_make_rowN (P:=Tryz.prog) 105 3 i0 _ Tryz.underlying105 hi hz0 .i64 .i64 (n'+1) (n'+1) (Nat.le_refl _) (by rw [hz2];omega) (by omega) W;rw [hy1] at hmk;rw [hz1] at hmk2;simp only [Int.natCast_add,Int.natCast_one] at hmk2;have hw1:IntKind.i64.wrap ((n':Int)+1)=(n':Int)+1:=IntWalk.i64_in _ (by omega);have hmf : ∀ (fn:Fn) (first cap:Array Value) (w:World),(Instr.makeFunc fn first cap).run Tryz.prog w = .ok (.func fn first cap) w:=fun _ _ _ _=>rfl;have K0:=Blk.new w 97 #[.slice A n c,.slice A' n' c'];have k0:=K0.cell 0;have k1:=K0.cell 1;have HB:Hid (∀ tw:TypeId,∃ W6:World,W6=((((((w.alloc (.cells #[.slice A n c,.slice A' n' c'] 97)).alloc (.cells #[.func (.func 64) #[] #[]] tw)).alloc (.cells (madeCells #[Value.int .i64 0,.int .i64 0,.int .i64 0] (n' * 3)) 103)).alloc (.cells #[.slice (some ⟨w.heap.size+1+1,0,none⟩) n' n'] 100)).alloc (.cells (madeCells #[Value.int .i64 0] (n'+1)) 3)).alloc (.cells #[.slice (some ⟨w.heap.size+1+1+1+1,0,none⟩) (n'+1) (n'+1)] 105)) ∧
   VEnv (w.heap.size+1+1) (w.heap.size+1+1+1+1) (w.heap.size+1) (w.heap.size+1+1+1) (w.heap.size+1+1+1+1+1) n' W6∧LIn W6 (w.heap.size+1+1) (w.heap.size+1+1+1+1) n' (FkT (xs.map Br.dat) ws n') (VkT (xs.map Br.dat) ws n')∧Below w.heap.size w W6∧Blk W6 w.heap.size 97 #[.slice A n c,.slice A' n' c']):=uH (fun tw=>by
  refine ⟨_,rfl,⟨?_,?_,?_,by omega,by omega,by omega,by omega⟩,?_,?_,?_⟩
  ·have B:=((((Blk.new (w.alloc (.cells #[.slice A n c,.slice A' n' c'] 97)) tw #[.func (.func 64) #[] #[]]).alloc (.cells (madeCells #[Value.int .i64 0,.int .i64 0,.int .i64 0] (n' * 3)) 103)).alloc (.cells #[.slice (some ⟨w.heap.size+1+1,0,none⟩) n' n'] 100)).alloc (.cells (madeCells #[Value.int .i64 0] (n'+1)) 3)).alloc (.cells #[.slice (some ⟨w.heap.size+1+1+1+1,0,none⟩) (n'+1) (n'+1)] 105);simp only [World.size_alloc] at B;exact B.cell 0
  ·have B:=((Blk.new (((w.alloc (.cells #[.slice A n c,.slice A' n' c'] 97)).alloc (.cells #[.func (.func 64) #[] #[]] tw)).alloc (.cells (madeCells #[Value.int .i64 0,.int .i64 0,.int .i64 0] (n' * 3)) 103)) 100 #[.slice (some ⟨w.heap.size+1+1,0,none⟩) n' n']).alloc (.cells (madeCells #[Value.int .i64 0] (n'+1)) 3)).alloc (.cells #[.slice (some ⟨w.heap.size+1+1+1+1,0,none⟩) (n'+1) (n'+1)] 105);simp only [World.size_alloc] at B;exact B.cell 0
  ·have B:=Blk.new (((((w.alloc (.cells #[.slice A n c,.slice A' n' c'] 97)).alloc (.cells #[.func (.func 64) #[] #[]] tw)).alloc (.cells (madeCells #[Value.int .i64 0,.int .i64 0,.int .i64 0] (n' * 3)) 103)).alloc (.cells #[.slice (some ⟨w.heap.size+1+1,0,none⟩) n' n'] 100)).alloc (.cells (madeCells #[Value.int .i64 0] (n'+1)) 3)) 105 #[.slice (some ⟨w.heap.size+1+1+1+1,0,none⟩) (n'+1) (n'+1)];simp only [World.size_alloc] at B;exact B.cell 0
  ·have B1:=(((Blk.new ((w.alloc (.cells #[.slice A n c,.slice A' n' c'] 97)).alloc (.cells #[.func (.func 64) #[] #[]] tw)) 103 (madeCells #[Value.int .i64 0,.int .i64 0,.int .i64 0] (n' * 3))).alloc (.cells #[.slice (some ⟨w.heap.size+1+1,0,none⟩) n' n'] 100)).alloc (.cells (madeCells #[Value.int .i64 0] (n'+1)) 3)).alloc (.cells #[.slice (some ⟨w.heap.size+1+1+1+1,0,none⟩) (n'+1) (n'+1)] 105);have B2:=(Blk.new ((((w.alloc (.cells #[.slice A n c,.slice A' n' c'] 97)).alloc (.cells #[.func (.func 64) #[] #[]] tw)).alloc (.cells (madeCells #[Value.int .i64 0,.int .i64 0,.int .i64 0] (n' * 3)) 103)).alloc (.cells #[.slice (some ⟨w.heap.size+1+1,0,none⟩) n' n'] 100)) 3 (madeCells #[Value.int .i64 0] (n'+1))).alloc (.cells #[.slice (some ⟨w.heap.size+1+1+1+1,0,none⟩) (n'+1) (n'+1)] 105);simp only [World.size_alloc] at B1 B2;refine ⟨_,_,B1,madeCells_size _ _,fun j hj=>?_,B2,madeCells_size _ _,fun j hj=>?_⟩
   ·unfold FkT;rw [if_neg (by omega)];exact ⟨made_at3 _ (by omega),made_at3 _ (by omega),made_at3 _ (by omega)⟩
   ·rw [made_at _ (by omega)];unfold VkT;split
    ·rw [List.drop_of_length_le (by rw [HL'.out];omega),costOf_nil];rfl
    ·rfl
  ·exact ((((((Below.refl _ _).alloc (Nat.le_refl _) _).alloc (by simp) _).alloc (by simp;omega) _).alloc (by simp;omega) _).alloc (by simp;omega) _).alloc (by simp;omega) _
  ·exact ((((K0.alloc _).alloc _).alloc _).alloc _).alloc _)
 clear K0;unfold deskV;go_enter Tryz.func63,Tryz.ntmps63
 (go_wp2_with fail);clear hmk hmk2 hmf k0 k1;obtain ⟨W6,hW6,hE,hL,hb,hK⟩:=HB.out _;rw [← hW6];have HVis:=uH (visitAll (p3:=w.heap.size+1) (p6:=w.heap.size+1+1+1) (p7:=w.heap.size+1+1+1+1+1) (Bd:=w.heap.size) A n c xs A' n' c' ws HV.out HSp.out (by omega) (by omega) n' 0 W6 (by omega) (H.out.below hb) (H'.out.below hb) hb.size hE hL);unfold deskV cbV at HVis;have HE:=uH hE;have HBl:=uH hb;have hz6:=hb.size;clear hW6 hE hL hb HB hK;refine HVis.out.mono ?_;rintro e w7 ⟨rfl,hL7,hK7⟩;have HE7:=HE.out.kept hK7;have q6:=HE7.c6;have q7:=HE7.c7;have b7:=(HBl.out.trans (hK7.below (by omega) (by omega) hz6));have HF:Hid (LeastAns w (xs.map Br.dat) ws n' (.returned (.tuple #[.slice (some ⟨w.heap.size+1+1,0,none⟩) n' n',.slice (some ⟨w.heap.size+1+1+1+1,0,none⟩) (n'+1) (n'+1)])) w7.drew):=uH ⟨_,_,rfl,hL7,by omega,by omega,b7.drew⟩;clear hL7 hK7 HVis HE HBl b7 HE7;(go_wp2_with fail);go_region
 all_goals
  go_wp2
  go_ret2
  exact HF.out
def bestK (bs:List Bf):List Wd→List Tk
 | []=>[]
 | x::r=>(firstT bs (x::r)).1::bestK bs (r.drop ((firstT bs (x::r)).1.width - 1))
termination_by ws=>ws.length
decreasing_by rw [List.length_cons,List.length_drop];omega
theorem bestK_nil (bs:List Bf):bestK bs []=[]:=by rw [bestK]
theorem first_bd {bs:List Bf} (h : ∀ b∈bs,1≤b.words.length) {ws:List Wd} (hn:0 < ws.length):1≤(firstT bs ws).1.width∧(firstT bs ws).1.width≤ws.length:=by
 rw [(firstT_is h hn).2.1];exact stepT_bd h hn
theorem bestK_step {bs:List Bf} (h : ∀ b∈bs,1≤b.words.length) {ws:List Wd} (hn:0 < ws.length):bestK bs ws=(firstT bs ws).1::bestK bs (ws.drop (firstT bs ws).1.width):=by
 cases ws with
 | nil=>simp at hn
 | cons x r =>
  have hb:=first_bd h (ws:=x::r) hn;rw [bestK];congr 2
  obtain ⟨m,hm⟩ : ∃ m,(firstT bs (x::r)).1.width=m+1:=⟨_,(Nat.sub_add_cancel hb.1).symm⟩;rw [hm,Nat.add_sub_cancel,List.drop_succ_cons]
theorem LIn.grown {w w':World} {gF gW n:Nat} {F:Nat→Tk} {V:Nat→Nat} {row:Option Nat} (h:LIn w gF gW n F V) (hg:w.grownBy w' row) (h1:row≠some gF) (h2:row≠some gW):LIn w' gF gW n F V:=by
 obtain ⟨csF,csW,a1,a2,a3,a4,a5,a6⟩:=h;exact ⟨csF,csW,(hg.block gF a1.lt (Ne.symm h1)).trans a1,a2,a3,(hg.block gW a4.lt (Ne.symm h2)).trans a4,a5,a6⟩
theorem LIn.first {w:World} {gF gW n i:Nat} {bs:List Bf} {ws:List Wd} (h:LIn w gF gW n (FkT bs ws 0) (VkT bs ws 0)) (hi:i < n) :
  w.cell? ⟨gF,i * 3,none⟩=some (.int .i64 (firstT bs (ws.drop i)).1.brief)∧w.cell? ⟨gF,i * 3+1,none⟩=some (.int .i64 ((firstT bs (ws.drop i)).1.width:Int))∧w.cell? ⟨gF,i * 3+2,none⟩=some (.int .i64 ((firstT bs (ws.drop i)).1.cost:Int)):=by
 obtain ⟨csF,csW,a1,a2,a3,a4,a5,a6⟩:=h;obtain ⟨g1,g2,g3⟩:=a3 i hi;unfold FkT at g1 g2 g3;rw [if_pos (Nat.zero_le _)] at g1 g2 g3;exact ⟨(a1.cell _).trans g1,(a1.cell _).trans g2,(a1.cell _).trans g3⟩
set_option maxHeartbeats 1600000 in
theorem implBest (A:Option Addr) (n c:Nat) (xs:List Br) (A':Option Addr) (n' c':Nat) (ws:List Wd) (w:World) (hv:brsB (xs.map Br.dat)=true) (hs:spB ws=true) (h:BrsIn w w.heap.size A n c xs) (h':WdsIn w w.heap.size A' n' c' ws) :
  Calls Tryz.prog 59 #[deskV A n c A' n' c'] w fun e w'=>TkAns w' w.heap.size (bestK (xs.map Br.dat) ws) e∧Below w.heap.size w w':=by
 have hn20:n'≤20:=(by have:=(spB_iff.1 hs).2;rw [h'.1] at this;exact this);have b0:Below w.heap.size w (w.alloc (.cells #[.slice A n c,.slice A' n' c'] 97)):=(Below.refl _ _).alloc (Nat.le_refl _) _;have K0:=Blk.new w 97 #[.slice A n c,.slice A' n' c'];have k0:=K0.cell 0;have k1:=K0.cell 1;have HLs:=uH (implLeast A n c xs A' n' c' ws _ hv hs (h.keep b0) (h'.keep b0));have HL':=uH h'.1;have HOne:=uH (valid_one hv);obtain ⟨bs,hbs⟩ : ∃ bs,bs=xs.map Br.dat:=⟨_,rfl⟩;rw [← hbs] at HLs HOne ⊢;obtain ⟨j0,hj,hy0,hy1,hy2⟩:=info_parts infoTk;have HK0:=uH K0;clear h h' hv hs hbs K0;unfold deskV at HLs ⊢;go_enter Tryz.func59,Tryz.ntmps59
 (go_wp2_with fail);refine HLs.out.mono ?_;rintro e w1 ⟨gF,gW,rfl,hL,hgF,hgW,hb1⟩;have K1:=HK0.out.below hb1;have m0:=K1.cell 0;have m1:=K1.cell 1;have b1:=below_next b0 hb1;have hz1:=b1.size;have hgl:gF < w1.heap.size∧gW < w1.heap.size:=(by obtain ⟨a1,a2,a3,a4,a5,a6,a7,a8⟩:=hL;exact ⟨a3.lt,a6.lt⟩);have HK1:=uH K1;have ha:Below w1.heap.size w1 (w1.alloc (.cells #[] 103)):=(Below.refl _ _).alloc (Nat.le_refl _) _;have HL1:=uH (hL.keep ha);have HO0:Hid (TkOwn (w1.alloc (.cells #[] 103)) w1.heap.size (.slice (some ⟨w1.heap.size,0,none⟩) 0 0) []):=uH (World.ownsRow_made (base:=w1.heap.size) (e:=103) (size:=3) w1 #[] 0 (Nat.le_refl _) (by simp) (by simp));clear hL hb1 HLs HK0 K1 k0 k1 b0;go_wp2;go_loopw [5,6] (fun s5 s6 wr=>∃ (i:Nat) (L:List Tk) (v:Value),i≤n'∧s5=v∧s6 = .int .i64 i∧L.length≤i∧Hid (bestK bs ws=L++bestK bs (ws.drop i))∧Hid (TkOwn wr w1.heap.size v L)∧Hid (LIn wr gF gW n' (FkT bs ws 0) (VkT bs ws 0))∧Below w1.heap.size w1 wr) (fun _ s6 _=>n' - (intOf s6).toNat)
 case atStart=>exact ⟨0,[],_,Nat.zero_le _,rfl,rfl,Nat.le_refl _,uH (by rw [List.drop_zero];rfl),HO0,HL1,ha⟩
 case round =>
  obtain ⟨i,L,v,hi,rfl,rfl,hl,HT,HO,HL,hb⟩:=hrel;have hzw:=hb.size;have K2:=HK1.out.below hb;have q0:=K2.cell 0;have q1:=K2.cell 1;have i1:(0:Int)≤(i:Int):=(by omega);by_cases hlt:i < n'
  ·have i2:(i:Int) < (n':Int):=(by omega);obtain ⟨f0,f1,f2⟩:=HL.out.first hlt;have hbd:=first_bd HOne.out (ws:=ws.drop i) (by rw [List.length_drop,HL'.out];omega);have hst:=bestK_step HOne.out (ws:=ws.drop i) (by rw [List.length_drop,HL'.out];omega);rw [List.drop_drop] at hst;rw [List.length_drop,HL'.out] at hbd;have HT2:Hid (bestK bs ws=(L++[(firstT bs (ws.drop i)).1])++bestK bs (ws.drop (i+(firstT bs (ws.drop i)).1.width))):=uH (by rw [HT.out,hst,List.append_assoc];rfl);clear hst HT K2;generalize (firstT bs (ws.drop i)).1=t at *;obtain ⟨hd1,hd2⟩:=hbd;have hw1:IntKind.i64.wrap ((i:Int)+(t.width:Int))=(i:Int)+(t.width:Int):=IntWalk.i64_in _ (by omega);have f1a:=kcell ((Below.refl wr.heap.size wr).alloc (Nat.le_refl _) (.cells #[.int .i64 t.brief,.int .i64 (t.width:Int),.int .i64 (t.cost:Int)] 103)) f1;have HNe:Hid (u5.ownBlock≠some gF):=uH (fun e=>by have:=ownG_base HO.out e;omega);go_wp2_with (at_builtin;refine wpList_append_any _ rfl (.tmp 25) (.tmp 30) _ rfl w1.heap.size 103 j0 _ 3 24 Tryz.underlying100 hj hy0 hy1 hy2 rfl (by omega) _ L.length (L.flatMap tkC) rfl (ownG_keep HO.out ((Below.refl _ _).alloc (Nat.le_refl _) _)) (wr.heap.size+1) (some ⟨wr.heap.size,0,none⟩) 1 1 [.int .i64 t.brief,.int .i64 (t.width:Int),.int .i64 (t.cost:Int)] (by simp [Act.eval,Act.put]) (rowNewTk _ _ _ _ _) (by simp [Value.oneCell']) (by unfold maxLen;omega) (by omega) (by simp;omega) ?_;intro v6 w6 hown6 hg6 hat6;have g1:=gcell hg6 f1a HNe.out)
   have HO6:Hid (TkOwn w6 w1.heap.size v6 (L++[t])):=uH (by
    unfold TkOwn;rw [List.length_append,List.flatMap_append];exact hown6)
   have hBk : ∀ q,u5.ownBlock=some q→w1.heap.size≤q:=fun q hq=>ownG_base HO.out hq;have b6:Below w1.heap.size w1 w6:=(hb.alloc hzw _).grown hg6 (by simp;omega) hBk;have HL6:Hid (LIn w6 gF gW n' (FkT bs ws 0) (VkT bs ws 0)):=uH ((HL.out.keep ((Below.refl _ _).alloc (Nat.le_refl _) _)).grown hg6 (fun e=>by have:=hBk _ e;omega) (fun e=>by have:=hBk _ e;omega));have hl6:(L++[t]).length≤i+t.width:=(by rw [List.length_append];simp;omega);clear hown6 hg6 hat6 HO HL hBk f0 f1 f2 q0 q1 f1a;go_wp2;go_roundw
   case rel=>exact ⟨i+t.width,L++[t],v6,by omega,rfl,by go_num,hl6,HT2,HO6,HL6,b6⟩
   case measure=>simp [intOf] <;> omega
  ·obtain rfl:i=n':=(by omega);have HF0:Hid (bestK bs ws=L):=uH (by rw [HT.out,List.drop_of_length_le (by rw [HL'.out];exact Nat.le_refl _),bestK_nil,List.append_nil]);obtain ⟨A5,c5,rfl,_,_⟩:=ownG_form HO.out;have HF:Hid (TkAns wr w.heap.size (bestK bs ws) (.returned (.slice A5 L.length c5))):=uH (by rw [HF0.out];exact ⟨A5,c5,rfl,ownG_mono HO.out hz1⟩);have bf:=below_next b1 hb;clear HT HO HL HF0 hl;generalize L.length=N at *;go_wp2;go_ret;exact ⟨HF.out,bf⟩
theorem implCopyLeast (A:Option Addr) (n c:Nat) (xs:List Br) (A':Option Addr) (n' c':Nat) (ws:List Wd) (w:World) (hX:OkBs xs) (hW : ∀ l∈ws,l.length≤maxLen) (h:BrsIn w w.heap.size A n c xs) (h':WdsIn w w.heap.size A' n' c' ws) :
  Calls Tryz.prog 24 #[.slice A n c,.slice A' n' c'] w fun e w'=>e = .returned (.int .i64 (leastI (xs.map Br.dat) ws))∧Below w.heap.size w w':=by
 have HD:=uH (implDeskOf A n c xs A' n' c' ws w hX hW h h');unfold deskV at HD;cases hv:(brsB (xs.map Br.dat) && spB ws) with
 | false =>
  have HR:Hid (leastI (xs.map Br.dat) ws = -1):=uH (by unfold leastI;rw [hv];rfl);rw [hv,if_neg (by simp)] at HD;clear hv h h' hX hW;go_enter Tryz.func24,Tryz.ntmps24
  (go_wp2_with fail);refine HD.out.mono ?_;rintro e w1 ⟨rfl,hb⟩;have b1:=hb.alloc hb.size (.cells #[.slice none 0 0,.slice none 0 0] 97);go_wp2;go_ret;exact ⟨ret_int HR.out.symm,b1⟩
 | true =>
  have HR:Hid (leastI (xs.map Br.dat) ws=(costOf (xs.map Br.dat) ws:Int)):=uH (by unfold leastI;rw [hv];rfl);rw [hv,if_pos rfl] at HD;rw [Bool.and_eq_true] at hv;have HLs:=uH (fun W (hb:Below w.heap.size w W)=>implLeast A n c xs A' n' c' ws W hv.1 hv.2 (h.keep hb) (h'.keep hb));have hn20:n'≤20:=(by have:=(spB_iff.1 hv.2).2;rw [h'.1] at this;exact this);unfold deskV at HLs;clear hv h h' hX hW;go_enter Tryz.func24,Tryz.ntmps24
  (go_wp2_with fail);refine HD.out.mono ?_;rintro e w1 ⟨rfl,hb⟩;have b1:=hb.alloc hb.size (.cells #[.slice A n c,.slice A' n' c'] 97);have K:=Blk.new w1 97 #[.slice A n c,.slice A' n' c'];have k0:=K.cell 0;have k1:=K.cell 1;have HL1:=uH (HLs.out _ b1);clear HLs HD hb K;(go_wp2_with fail);refine HL1.out.mono ?_;rintro e w2 ⟨gF,gW,rfl,⟨csF,csW,a1,a2,a3,a4,a5,a6⟩,_,_,hb2⟩;have c0:=(a4.cell 0).trans (a6 0 (Nat.zero_le _));have e0:VkT (xs.map Br.dat) ws 0 0=costOf (xs.map Br.dat) ws:=(by unfold VkT;rw [if_pos (Nat.zero_le _),List.drop_zero]);rw [e0] at c0;have b2:=below_next b1 hb2;clear a1 a2 a3 a4 a5 a6 hb2 HL1 e0 k0 k1 b1;go_wp2;go_ret;exact ⟨ret_int HR.out.symm,b2⟩
theorem TkOwn.grown {w w':World} {B:Nat} {v:Value} {ts:List Tk} {row:Option Nat} (h:TkOwn w B v ts) (hg:w.grownBy w' row) (hne : ∀ b,v.ownBlock=some b→row≠some b):TkOwn w' B v ts :=
 ownG_congr h (fun b hb=>hg.block b (ownG_lt h hb) (fun e=>hne b hb e.symm))
theorem bestK_at {bs:List Bf} {ws:List Wd} (h1 : ∀ b∈bs,1≤b.words.length) {k i:Nat} (hk:k < (bestK bs ws).length) (h:(bestK bs ws).drop k=bestK bs (ws.drop i)) :
  i < ws.length∧tkAt (bestK bs ws) k=(firstT bs (ws.drop i)).1∧(bestK bs ws).drop (k+1)=bestK bs (ws.drop (i+(tkAt (bestK bs ws) k).width)) ∧
  bestT bs (ws.drop i)=(stepT bs (ws.drop i)).1::bestT bs (ws.drop (i+(tkAt (bestK bs ws) k).width))∧1≤(tkAt (bestK bs ws) k).width∧i+(tkAt (bestK bs ws) k).width≤ws.length ∧
  (((tkAt (bestK bs ws) k).brief = -1∧(stepT bs (ws.drop i)).1=wdAt ws i)∨∃ q:Nat,q < bs.length∧(tkAt (bestK bs ws) k).brief=(q:Int)∧(stepT bs (ws.drop i)).1=(bfAt bs q).mark):=by
 have hi:i < ws.length:=by
  rcases Nat.lt_or_ge i ws.length with h2 | h2
  ·exact h2
  ·rw [List.drop_of_length_le h2,bestK_nil] at h;have:=congrArg List.length h;rw [List.length_drop] at this;simp at this;omega
 have hd:0 < (ws.drop i).length:=(by rw [List.length_drop];omega);have hs:=bestK_step h1 hd;have hk2:(bestK bs ws)[k]? = some (tkAt (bestK bs ws) k):=tkAt_some hk;rw [List.getElem?_eq_getElem hk] at hk2;injection hk2 with hk2;rw [List.drop_eq_getElem_cons hk,hk2,hs] at h;injection h with e1 e2;have hf:=firstT_is h1 hd;have hb:=first_bd h1 hd;rw [List.length_drop] at hb;have ht:=bestT_step h1 hd;rw [List.drop_drop] at e2 ht;rw [← hf.2.1] at ht;have hh:(ws.drop i).headD []=wdAt ws i:=by
  have h6:=wdAt_some hi;rw [List.getElem?_eq_getElem hi] at h6;injection h6 with h6;rw [List.drop_eq_getElem_cons hi,h6];rfl
 rw [e1];refine ⟨hi,rfl,e2,ht,hb.1,by omega,?_⟩;rw [← hh];exact hf.2.2
theorem bestK_len {bs:List Bf} (h : ∀ b∈bs,1≤b.words.length) : ∀ (n:Nat) (ws:List Wd),ws.length≤n→(bestK bs ws).length≤ws.length:=by
 intro n;induction n with
 | zero=>intro ws hl;have:ws=[]:=List.length_eq_zero_iff.1 (by omega);subst this;rw [bestK_nil];exact Nat.le_refl _
 | succ n ih =>
  intro ws hl;by_cases h0:0 < ws.length
  ·rw [bestK_step h h0,List.length_cons];have hb:=first_bd h h0;have:=ih (ws.drop (firstT bs ws).1.width) (by rw [List.length_drop];omega);rw [List.length_drop] at this;omega
  ·have:ws=[]:=List.length_eq_zero_iff.1 (by omega);subst this;rw [bestK_nil];exact Nat.le_refl _
theorem bestK_done {bs:List Bf} {ws:List Wd} (h1 : ∀ b∈bs,1≤b.words.length) {i:Nat} (h:bestK bs (ws.drop i)=[]):bestT bs (ws.drop i)=[]:=by
 by_cases hd:0 < (ws.drop i).length
 ·rw [bestK_step h1 hd] at h;cases h
 ·have:ws.drop i=[]:=List.length_eq_zero_iff.1 (by omega);rw [this,bestT_nil]
set_option maxHeartbeats 3200000 in
theorem implCopyBest (A:Option Addr) (n c:Nat) (xs:List Br) (A':Option Addr) (n' c':Nat) (ws:List Wd) (w:World) (hX:OkBs xs) (hW : ∀ l∈ws,l.length≤maxLen) (h:BrsIn w w.heap.size A n c xs) (h':WdsIn w w.heap.size A' n' c' ws) :
  Calls Tryz.prog 17 #[.slice A n c,.slice A' n' c'] w fun e w'=>WdsO w' w.heap.size (bestO (xs.map Br.dat) ws) e∧Below w.heap.size w w':=by
 have HD:=uH (implDeskOf A n c xs A' n' c' ws w hX hW h h');unfold deskV at HD;cases hv:(brsB (xs.map Br.dat) && spB ws) with
 | false =>
  have HR:Hid (bestO (xs.map Br.dat) ws=none):=uH (by unfold bestO;rw [hv];rfl);rw [hv,if_neg (by simp)] at HD;clear hv h h' hX hW;go_enter Tryz.func17,Tryz.ntmps17
  (go_wp2_with fail);refine HD.out.mono ?_;rintro e w1 ⟨rfl,hb⟩;have b1:=hb.alloc hb.size (.cells #[.slice none 0 0,.slice none 0 0] 97);have HF:Hid (WdsO (w1.alloc (.cells #[.slice none 0 0,.slice none 0 0] 97)) w.heap.size (bestO (xs.map Br.dat) ws) (.returned (.tuple #[.slice none 0 0,.bool false]))):=uH (WdsO.no HR.out (World.ownsRow_nil _ _ _ _));go_wp2
  go_ret2
  exact ⟨HF.out,b1⟩
 | true =>
  have HR:Hid (bestO (xs.map Br.dat) ws=some (bestT (xs.map Br.dat) ws)):=uH (by unfold bestO;rw [hv];rfl);rw [hv,if_pos rfl] at HD;rw [Bool.and_eq_true] at hv;have HBs:=uH (fun W (hb:Below w.heap.size w W)=>implBest A n c xs A' n' c' ws W hv.1 hv.2 (h.keep hb) (h'.keep hb));have hn20:n'≤20:=(by have:=(spB_iff.1 hv.2).2;rw [h'.1] at this;exact this);have HOne:=uH (valid_one hv.1);obtain ⟨bs,hbs⟩ : ∃ bs,bs=xs.map Br.dat:=⟨_,rfl⟩;rw [← hbs] at HBs HOne HR ⊢;have HLb:Hid (bs.length=n):=uH (by rw [hbs,List.length_map,h.1]);have HDat:Hid (∀ k,k < n→bfAt bs k=(brAt xs k).dat):=uH (fun k hk=>by rw [hbs];exact brAt_dat (by rw [h.1];exact hk));have HL':=uH h'.1;have hn8:n≤1000:=(by have:=(brsB_iff.1 hv.1).1;rw [List.length_map,h.1] at this;omega);have H:=uH h;have H':=uH h';obtain ⟨j0,hj,hy0,hy1,hy2⟩:=info_parts infoWd;unfold deskV at HBs;clear hv h h' hX hW hbs;go_enter Tryz.func17,Tryz.ntmps17
  (go_wp2_with fail);refine HD.out.mono ?_;rintro e w1 ⟨rfl,hb⟩;have b1:=hb.alloc hb.size (.cells #[.slice A n c,.slice A' n' c'] 97);have K:=Blk.new w1 97 #[.slice A n c,.slice A' n' c'];have HK:=uH K;have k0:=K.cell 0;have k1:=K.cell 1;have b2:=b1.alloc b1.size (.cells #[] 9);have m0:=Lib.cell?_alloc_some (.cells #[] 9) k0;have m1:=Lib.cell?_alloc_some (.cells #[] 9) k1;have HO0:Hid (WdOwn ((w1.alloc (.cells #[.slice A n c,.slice A' n' c'] 97)).alloc (.cells #[] 9)) w.heap.size (.slice (some ⟨w1.heap.size+1,0,none⟩) 0 0) []):=uH (by
   have:=ownG_mono (WdOwn.made (w1.alloc (.cells #[.slice A n c,.slice A' n' c'] 97))) b1.size;simp only [World.size_alloc] at this;exact this)
  have HB1:=uH (HBs.out _ b2);clear HBs HD hb K;(go_wp2_with fail);refine HB1.out.mono ?_;rintro e w2 ⟨⟨A6,c6,rfl,hT⟩,hb2⟩;have b3:=below_next b2 hb2;have HO2:=uH (HO0.out.keep hb2);obtain ⟨L,hL⟩ : ∃ L,L=(bestK bs ws).length:=⟨_,rfl⟩;have HT:=uH hT;have hL20:L≤20:=by
   have h1:=bestK_len HOne.out _ ws (Nat.le_refl _);have h2:=HL'.out;omega
  rw [← hL] at HT ⊢;have HSep0:Hid (∀ q,(Value.slice (some ⟨w1.heap.size+1,0,none⟩) 0 0).ownBlock=some q→(Value.slice A6 L c6).ownBlock≠some q):=uH (fun q hq e=>by
   have h2:some (w1.heap.size+1)=some q:=hq;injection h2 with h2;have:=ownG_base HT.out e;simp at this;omega)
  have HLn:=uH hL.symm;have hzb:=hb2.size;have hzw0:=b2.size;clear hT hb2 HB1 HO0 k0 k1 m0 m1 b1 b2 hL HK;go_wp2;go_loopw [8,9,24] (fun s8 s9 s24 wr=>∃ (k i:Nat) (out:List Wd) (v:Value),k≤L∧i≤n'∧s8=v∧s9 = .int .i64 i∧s24 = .int .i64 k∧out.length≤i∧Hid (bestT bs ws=out++bestT bs (ws.drop i))∧Hid ((bestK bs ws).drop k=bestK bs (ws.drop i))∧Hid (WdOwn wr w.heap.size v out)∧Hid (TkOwn wr w.heap.size (.slice A6 L c6) (bestK bs ws))∧Hid (∀ q,v.ownBlock=some q→(Value.slice A6 L c6).ownBlock≠some q)∧Below w.heap.size w wr) (fun _ _ s24 _=>L - (intOf s24).toNat)
  case atStart=>exact ⟨0,0,[],_,Nat.zero_le _,Nat.zero_le _,rfl,rfl,rfl,Nat.le_refl _,uH (by rw [List.drop_zero];rfl),uH rfl,HO2,uH (by have:=HT.out;unfold TkOwn at this ⊢;exact ownG_mono this hzw0),HSep0,b3⟩
  case round =>
   obtain ⟨k,i,out,v,hk,hi,rfl,rfl,rfl,hol,HB,HKd,HO,HTr,HSep,hb⟩:=hrel;have hzr:=hb.size;have i0:(0:Int)≤(i:Int):=(by omega);have k0:(0:Int)≤(k:Int):=(by omega);by_cases hlt:k < L
   ·have k1:(k:Int) < (L:Int):=(by omega);obtain ⟨p1,p2,p3,p4,p5,p6,p7⟩:=bestK_at HOne.out (by rw [HLn.out];exact hlt) HKd.out;obtain ⟨tb,tof,eA6,htb,c0,c1,c2⟩:=HTr.out.at_ HLn.out hlt;rw [HL'.out] at p1 p6;have HP2:Hid (bestT bs ws=(out++[(stepT bs (ws.drop i)).1])++bestT bs (ws.drop (i+(tkAt (bestK bs ws) k).width))):=uH (by rw [HB.out,p4,List.append_assoc];rfl);have HP3:=uH p3;subst eA6;have hcase:Hid (((tkAt (bestK bs ws) k).brief = -1∧(stepT bs (ws.drop i)).1=wdAt ws i)∨∃ q:Nat,q < n∧(tkAt (bestK bs ws) k).brief=(q:Int)∧(stepT bs (ws.drop i)).1=(brAt xs q).mark):=uH (by
     rcases p7 with h | ⟨q,h1,h2,h3⟩
     ·exact .inl h
     ·rw [HLb.out] at h1;exact .inr ⟨q,h1,h2,by rw [h3,HDat.out q h1];rfl⟩)
    have i1:(i:Int) < (n':Int):=(by omega);clear p2 p3 p4 p7 HB HKd;generalize (stepT bs (ws.drop i)).1=N at *;generalize tkAt (bestK bs ws) k=t at *;have hba:Below wr.heap.size wr (wr.alloc (.cells #[.int .i64 t.brief,.int .i64 (t.width:Int),.int .i64 (t.cost:Int)] 103)):=(Below.refl _ _).alloc (Nat.le_refl _) _;have KT:=Blk.new wr 103 #[.int .i64 t.brief,.int .i64 (t.width:Int),.int .i64 (t.cost:Int)];have x0:=KT.cell 0;have x1:=KT.cell 1;have x2:=KT.cell 2;have hw1:IntKind.i64.wrap ((i:Int)+(t.width:Int))=(i:Int)+(t.width:Int):=IntWalk.i64_in _ (by omega);have HOa:=uH (HO.out.keep hba);have hbw:=below_next hb hba;have hzw:=hbw.size;have HTa:=uH (HTr.out.keepT hba);have KTh:=uH KT;have hsz1:wr.heap.size < (wr.alloc (.cells #[.int .i64 t.brief,.int .i64 (t.width:Int),.int .i64 (t.cost:Int)] 103)).heap.size:=(by simp);have HVl:Hid (∀ q,u8.ownBlock=some q→q < wr.heap.size):=uH (fun q hq=>ownG_lt HO.out hq);have HBk:Hid (∀ q,u8.ownBlock=some q→w.heap.size≤q):=uH (fun q hq=>ownG_base HO.out hq);have HTl:Hid (∀ q,(Value.slice (some ⟨tb,tof,none⟩) L c6).ownBlock=some q→q < wr.heap.size):=uH (fun q hq=>ownG_lt HTr.out hq);have y1:=kcell ((Below.refl (wr.alloc (.cells #[.int .i64 t.brief,.int .i64 (t.width:Int),.int .i64 (t.cost:Int)] 103)).heap.size (wr.alloc (.cells #[.int .i64 t.brief,.int .i64 (t.width:Int),.int .i64 (t.cost:Int)] 103))).alloc (Nat.le_refl _) (.cells #[.string (mkStr N)] 9)) x1;have HNt:Hid (u8.ownBlock≠some wr.heap.size):=uH (fun e=>by have:=HVl.out _ e;omega);have HEnd:Hid (∀ v6 w6,w6.ownsRow w.heap.size 9 1 v6 (out.length+1) (out.map strP++[strP N])→((wr.alloc (.cells #[.int .i64 t.brief,.int .i64 (t.width:Int),.int .i64 (t.cost:Int)] 103)).alloc (.cells #[.string (mkStr N)] 9)).grownBy w6 u8.ownBlock→(v6.ownBlock=u8.ownBlock∨v6.ownBlock=some ((wr.alloc (.cells #[.int .i64 t.brief,.int .i64 (t.width:Int),.int .i64 (t.cost:Int)] 103)).alloc (.cells #[.string (mkStr N)] 9)).heap.size) →
      Hid (WdOwn w6 w.heap.size v6 (out++[N]))∧Hid (TkOwn w6 w.heap.size (.slice (some ⟨tb,tof,none⟩) L c6) (bestK bs ws))∧Hid (∀ q,v6.ownBlock=some q→(Value.slice (some ⟨tb,tof,none⟩) L c6).ownBlock≠some q)∧Below w.heap.size w w6):=uH (fun v6 w6 hown hg hat=>by
     have hbx:Below (wr.alloc (.cells #[.int .i64 t.brief,.int .i64 (t.width:Int),.int .i64 (t.cost:Int)] 103)).heap.size (wr.alloc (.cells #[.int .i64 t.brief,.int .i64 (t.width:Int),.int .i64 (t.cost:Int)] 103)) ((wr.alloc (.cells #[.int .i64 t.brief,.int .i64 (t.width:Int),.int .i64 (t.cost:Int)] 103)).alloc (.cells #[.string (mkStr N)] 9)):=(Below.refl _ _).alloc (Nat.le_refl _) _;refine ⟨uH (by unfold WdOwn;rw [List.length_append,List.map_append];exact hown),uH ((HTa.out.keepT hbx).grown hg (fun b hb2 e=>HSep.out b e hb2)),uH (fun q hq e2=>?_),(below_next hbw hbx).grown hg (by simp;omega) HBk.out⟩;rcases hat with e | e
     ·rw [e] at hq;exact HSep.out q hq e2
     ·rw [e] at hq;injection hq with hq;have:=HTl.out q e2;simp at hq;omega)
    have hRow:=rowNew1 (wr.alloc (.cells #[.int .i64 t.brief,.int .i64 (t.width:Int),.int .i64 (t.cost:Int)] 103)) (.string (mkStr N)) 9;simp only [World.size_alloc] at hRow;by_cases hbr:t.brief = -1
    ·have hN:N=wdAt ws i:=by
      rcases hcase.out with h | ⟨q,h1,h2,h3⟩
      ·exact h.2
      ·omega
     have e1:(t.brief == -1)=true:=(by rw [hbr];rfl);obtain ⟨b,off,eA',hbB,cw⟩:=(H'.out.keep hbw).at_ p1;subst eA';rw [← hN] at cw;clear hN hbr hcase HO HTr hb hba KT;go_wp2_with (at_builtin;refine wpList_append_any _ rfl (.tmp 31) (.tmp 36) _ rfl w.heap.size 9 j0 _ 1 16 Tryz.underlying27 hj hy0 hy1 hy2 rfl (by omega) _ out.length (out.map strP) rfl (ownG_keep HOa.out ((Below.refl _ _).alloc (Nat.le_refl _) _)) (wr.heap.size+1+1) (some ⟨wr.heap.size+1,0,none⟩) 1 1 [strP N] (by simp [Act.eval,Act.put]) hRow (by simp [strP,Value.oneCell']) (by unfold maxLen;omega) (by omega) (by simp;omega) ?_;intro v6 w6 hown6 hg6 hat6;have g1:=gcell hg6 y1 HNt.out)
     obtain ⟨E1,E2,E3,b6⟩:=HEnd.out v6 w6 hown6 hg6 hat6;have hol6:(out++[N]).length≤i+t.width:=(by rw [List.length_append];simp;omega);clear hown6 hg6 hat6 HEnd HOa HTa HSep c0 c1 c2 x0 x1 x2 y1;go_wp2;go_roundw
     case rel=>exact ⟨k+1,i+t.width,out++[N],v6,by omega,by omega,rfl,by go_num,by go_num,hol6,HP2,HP3,E1,E2,E3,b6⟩
     case measure=>simp [intOf] <;> omega
    ·obtain ⟨q,hq1,hq2,hq3⟩ : ∃ q:Nat,q < n∧t.brief=(q:Int)∧N=(brAt xs q).mark:=by
      rcases hcase.out with h | h
      ·exact absurd h.1 hbr
      ·exact h
     have e1:((q:Int) == -1)=false:=beq_eq_false_iff_ne.2 (by omega);obtain ⟨b,off,eA',hbB,cw,_,_⟩:=(H.out.keep hbw).at_ hq1;subst eA';rw [← hq3] at cw;have z1:(0:Int)≤(q:Int):=(by omega);have z2:(q:Int) < (n:Int):=(by omega);obtain ⟨tbr,twd,tct⟩:=t;dsimp only at hq2;subst hq2;dsimp only at *;clear hq3 hbr hcase HO HTr hb hba KT;go_wp2_with (at_builtin;refine wpList_append_any _ rfl (.tmp 38) (.tmp 45) _ rfl w.heap.size 9 j0 _ 1 16 Tryz.underlying27 hj hy0 hy1 hy2 rfl (by omega) _ out.length (out.map strP) rfl (ownG_keep HOa.out ((Below.refl _ _).alloc (Nat.le_refl _) _)) (wr.heap.size+1+1) (some ⟨wr.heap.size+1,0,none⟩) 1 1 [strP N] (by simp [Act.eval,Act.put]) hRow (by simp [strP,Value.oneCell']) (by unfold maxLen;omega) (by omega) (by simp;omega) ?_;intro v6 w6 hown6 hg6 hat6;have g1:=gcell hg6 y1 HNt.out)
     obtain ⟨E1,E2,E3,b6⟩:=HEnd.out v6 w6 hown6 hg6 hat6;have hol6:(out++[N]).length≤i+twd:=(by rw [List.length_append];simp;omega);clear hown6 hg6 hat6 HEnd HOa HTa HSep c0 c1 c2 x0 x1 x2 y1;go_wp2;go_roundw
     case rel=>exact ⟨k+1,i+twd,out++[N],v6,by omega,by omega,rfl,by go_num,by go_num,hol6,HP2,HP3,E1,E2,E3,b6⟩
     case measure=>simp [intOf] <;> omega
   ·obtain rfl:k=L:=(by omega);have HF0:Hid (bestT bs ws=out):=uH (by
     have h1:=HKd.out;rw [List.drop_of_length_le (by rw [HLn.out];exact Nat.le_refl _)] at h1;rw [HB.out,bestK_done HOne.out h1.symm,List.append_nil])
    obtain ⟨A5,c5,rfl,_,_⟩:=ownG_form HO.out;have HF:Hid (WdsO wr w.heap.size (bestO bs ws) (.returned (.tuple #[.slice A5 out.length c5,.bool true]))):=uH (WdsO.yes (by rw [HR.out,HF0.out]) rfl HO.out);clear HB HKd HO HTr HSep HF0 hol;generalize out.length=N at *;go_wp2
    go_ret2
    exact ⟨HF.out,hb⟩
end Go.Proofs.YtbkhnljaajajiaaGreatDoor
