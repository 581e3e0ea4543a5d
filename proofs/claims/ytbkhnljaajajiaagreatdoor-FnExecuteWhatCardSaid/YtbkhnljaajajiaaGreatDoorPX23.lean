/-
  Contracts and plain laws that the proofs lean on. Conditions: as each says.
-/
import Derived.Test.YtbkhnljaajajiaaGreatDoorPX18
import Derived.Test.YtbkhnljaajajiaaGreatDoorPX22
set_option maxRecDepth 100000
set_option linter.unusedSimpArgs false
set_option linter.unusedVariables false
set_option linter.unnecessarySimpa false
namespace Go.Proofs.YtbkhnljaajajiaaGreatDoor
open Go.ChangeShapes Go.WideShapes Go.ChangeAt Go.RowKit
def stepF (bs:List Bf) (ws:List Wd) (k:Nat):Wd × Nat:=match pickFrom bs ws k with
 | some b=>(b.mark,b.words.length)
 | none=>(ws.headD [],1)
theorem stepF_zero (bs:List Bf) (ws:List Wd):stepF bs ws 0=stepT bs ws:=rfl
theorem stepF_end (bs:List Bf) (ws:List Wd):stepF bs ws bs.length=(ws.headD [],1):=by unfold stepF;rw [pickFrom_end]
theorem stepF_yes {bs:List Bf} {ws:List Wd} {k:Nat} (h:k < bs.length) (h1:hitB ws (bfAt bs k)=true) (h2:wayD bs ws (bfAt bs k)=costOf bs ws):stepF bs ws k=((bfAt bs k).mark,(bfAt bs k).words.length):=by
 unfold stepF;rw [pickFrom_at h,h1,h2,decide_eq_true rfl];rfl
theorem stepF_no {bs:List Bf} {ws:List Wd} {k:Nat} (h:k < bs.length) (h1 : ¬ (hitB ws (bfAt bs k)=true∧wayD bs ws (bfAt bs k)=costOf bs ws)):stepF bs ws k=stepF bs ws (k+1):=by
 unfold stepF;rw [pickFrom_at h,if_neg];intro e;rw [Bool.and_eq_true,decide_eq_true_iff] at e;exact h1 e
def WdsO (w':World) (B:Nat) (o:Option (List Wd)) (e:Ending):Prop :=
 ∃ A c,e = .returned (.tuple #[.slice A (o.getD []).length c,.bool o.isSome])∧WdOwn w' B (.slice A (o.getD []).length c) (o.getD [])
theorem WdsO.no {w':World} {B:Nat} {o:Option (List Wd)} {A:Option Addr} {c:Nat} (ho:o=none) (h:WdOwn w' B (.slice A 0 c) []):WdsO w' B o (.returned (.tuple #[.slice A 0 c,.bool false])):=by
 subst ho;exact ⟨A,c,rfl,h⟩
theorem WdsO.yes {w':World} {B n:Nat} {o:Option (List Wd)} {A:Option Addr} {c:Nat} {ws:List Wd} (ho:o=some ws) (hn:n=ws.length) (h:WdOwn w' B (.slice A n c) ws):WdsO w' B o (.returned (.tuple #[.slice A n c,.bool true])):=by
 subst ho hn;exact ⟨A,c,rfl,h⟩
set_option maxHeartbeats 3200000 in
theorem specCopyBest (A:Option Addr) (n c:Nat) (xs:List Br) (A':Option Addr) (n' c':Nat) (ws:List Wd) (w:World) (hX:OkBs xs) (hW : ∀ l∈ws,l.length≤maxLen) (h:BrsIn w w.heap.size A n c xs) (h':WdsIn w w.heap.size A' n' c' ws) :
  Calls Tryz.prog 18 #[.slice A n c,.slice A' n' c'] w fun e w'=>WdsO w' w.heap.size (bestO (xs.map Br.dat) ws) e∧Below w.heap.size w w':=by
 obtain ⟨j0,hj,hy0,hy1,hy2⟩:=info_parts infoWd;have b0:Below w.heap.size w (w.alloc (.cells #[] 9)):=(Below.refl _ _).alloc (Nat.le_refl _) _;have HB:=uH (l4Both A n c xs A' n' c' ws _ hX hW (h.keep b0) (h'.keep b0));have HO0:=uH (WdOwn.made w);cases hv:(brsB (xs.map Br.dat) && spB ws) with
 | false =>
  have HR:Hid (bestO (xs.map Br.dat) ws=none):=uH (by unfold bestO;rw [hv];rfl);rw [hv] at HB;clear hv h h' hX hW;go_enter Tryz.func18,Tryz.ntmps18
  (go_wp2_with fail);refine HB.out.mono ?_;rintro e w1 ⟨rfl,hb⟩;have HF:=uH (WdsO.no HR.out (HO0.out.keep hb));have b1:=below_next b0 hb;clear HR HO0 HB hb b0;go_wp2
  go_ret2
  exact ⟨HF.out,b1⟩
 | true =>
  have HR:Hid (bestO (xs.map Br.dat) ws=some (bestT (xs.map Br.dat) ws)):=uH (by unfold bestO;rw [hv];rfl);rw [hv] at HB;rw [Bool.and_eq_true] at hv;obtain ⟨hv1,hs⟩:=hv;obtain ⟨bs,hbs⟩ : ∃ bs,bs=xs.map Br.dat:=⟨_,rfl⟩;have HC:=uH (fun W (hb:Below w.heap.size w W)=>l4Costs A n c xs A' n' c' ws W hv1 hs (h.keep hb) (h'.keep hb));rw [← hbs] at HC HR hv1 ⊢;have hone:=valid_one hv1;have hn20:n'≤20:=(by have:=(spB_iff.1 hs).2;rw [h'.1] at this;exact this);have hn8:n≤8:=(by have:=(brsB_iff.1 hv1).1;rw [hbs,List.length_map,h.1] at this;exact this);have HLb:Hid (bs.length=n):=uH (by rw [hbs,List.length_map,h.1]);have HL':=uH h'.1;have HL:=uH h.1;have HDat:Hid (∀ k,k < n→bfAt bs k=(brAt xs k).dat):=uH (fun k hk=>by rw [hbs];exact brAt_dat (by rw [HL.out];exact hk));have HOne:=uH hone;have HBd:Hid (∀ j,costOf bs (ws.drop j)≤240):=uH (fun j=>cost240 hone hs j);have HMk:Hid (∀ k,k < n→(brAt xs k).mark.length≤3∧1≤(brAt xs k).n∧(brAt xs k).n≤3):=uH (fun k hk=>by
   have h1:=brsB_mem hv1 _ (bfAt_mem (bs:=bs) (k:=k) (by rw [HLb.out];exact hk));rw [HDat.out k hk] at h1;obtain ⟨h2,h3⟩:=bfB_iff.1 h1;have h4:=(h.2.2.2.2 _ (brAt_mem (xs:=xs) (k:=k) (by rw [HL.out];exact hk))).1;have h5:=bwB_len h3;exact ⟨(markB_len h2).2,by rw [← h4];exact h5.1,by rw [← h4];exact h5.2⟩)
  have HXl:Hid (∀ k,k < n→(brAt xs k).words.length=(brAt xs k).n):=uH (fun k hk=>(h.2.2.2.2 _ (brAt_mem (xs:=xs) (k:=k) (by rw [HL.out];exact hk))).1);have H:=uH h;have H':=uH h';clear h h' hv1 hs hone hbs hX hW;go_enter Tryz.func18,Tryz.ntmps18
  (go_wp2_with fail);refine HB.out.mono ?_;rintro e w1 ⟨rfl,hb⟩;have b1:=below_next b0 hb;have HC1:=uH (HC.out w1 b1);have HO1:=uH (HO0.out.keep hb);have hg1:w.heap.size < w1.heap.size:=(by have:=hb.size;simp at this;omega);clear HC HB HO0 hb b0;(go_wp2_with fail);refine HC1.out.mono ?_;rintro e w2 ⟨rfl,hc,hb2⟩;have b2:=below_next b1 hb2;have HCo:=uH hc;have HO2:=uH (HO1.out.keep hb2);have hgg:w1.heap.size < w2.heap.size:=(by obtain ⟨cs,h1,_⟩:=hc;exact h1.lt);clear HC1 HO1 hc hb2 b1;obtain ⟨g,hg⟩ : ∃ g,g=w1.heap.size:=⟨_,rfl⟩;rw [← hg] at HCo hgg hg1 ⊢;clear hg;have HW0:Hid (∀ q,(Value.slice (some ⟨w.heap.size,0,none⟩) 0 0).ownBlock=some q→q≠g):=uH (fun q hq=>by have h2:some w.heap.size=some q:=hq;injection h2 with h2;omega);go_wp2;go_loopw [6,8] (fun s6 s8 wr=>∃ (at_:Nat) (out:List Wd) (v:Value),at_≤n'∧s6=v∧s8 = .int .i64 at_∧out.length≤at_∧Hid (bestT bs ws=out++bestT bs (ws.drop at_))∧Hid (WdOwn wr w.heap.size v out)∧Hid (∀ q,v.ownBlock=some q→q≠g)∧Hid (CostsIn wr g bs ws)∧Below w.heap.size w wr) (fun _ s8 _=>n' - (intOf s8).toNat)
  case atStart=>exact ⟨0,[],_,Nat.zero_le _,rfl,rfl,Nat.le_refl _,uH (by rw [List.drop_zero];rfl),HO2,HW0,HCo,b2⟩
  case round =>
   obtain ⟨i,out,v,hi,rfl,rfl,hol,HT,HO,HW,HC,hb⟩:=hrel;have i1:(0:Int)≤(i:Int):=(by omega);by_cases hlt:i < n'
   ·have i2:(i:Int) < (n':Int):=(by omega);obtain ⟨b,off,rfl,hbB,c0⟩:=(H'.out.keep hb).at_ hlt;have HS0:Hid (stepF bs (ws.drop i) n=(wdAt ws i,1)):=uH (by
     have h1:=stepF_end bs (ws.drop i);rw [HLb.out] at h1;have h5:i < ws.length:=(by rw [HL'.out];exact hlt);have h6:=wdAt_some h5;rw [List.getElem?_eq_getElem h5] at h6;injection h6 with h6;rw [h1,List.drop_eq_getElem_cons h5,h6];rfl)
    go_wp2;go_loopw [9,10,11] (fun s9 s10 s11 wv=>∃ k:Nat,k≤n∧s9 = .string (mkStr (stepF bs (ws.drop i) k).1)∧s10 = .int .i64 ((stepF bs (ws.drop i) k).2:Int)∧s11 = .int .i64 ((k:Int) - 1)∧Below wr.heap.size wr wv) (fun _ _ s11 _=>(intOf s11+1).toNat)
    case atStart=>exact ⟨n,Nat.le_refl _,by rw [HS0.out],by rw [HS0.out];rfl,rfl,Below.refl _ _⟩
    case round =>
     obtain ⟨k,hk,rfl,rfl,rfl,hb3⟩:=hrel;cases k with
     | zero =>
      obtain ⟨N,S,hNS⟩ : ∃ N S,stepF bs (ws.drop i) 0=(N,S):=⟨_,_,rfl⟩;have hbd:=stepT_bd HOne.out (ws:=ws.drop i) (by rw [List.length_drop,HL'.out];omega);have HT2:=bestT_step HOne.out (ws:=ws.drop i) (by rw [List.length_drop,HL'.out];omega);rw [← stepF_zero,hNS] at hbd HT2;rw [hNS];dsimp only at hbd HT2 ⊢;rw [List.length_drop,HL'.out] at hbd;rw [List.drop_drop] at HT2;have HT3:Hid (bestT bs ws=(out++[N])++bestT bs (ws.drop (i+S))):=uH (by rw [HT.out,HT2,List.append_assoc];rfl);have HOr:Hid (wr.ownsRow w.heap.size 9 1 u6 out.length (out.map strP)):=uH (HO.out.keep hb3);have b4:=below_next hb hb3;have hzb:=b4.size;have HCr:=uH (HC.out.below hb3);have hgr:g < wr.heap.size:=(by obtain ⟨cs,h1,_⟩:=HCr.out;exact h1.lt);obtain ⟨hb5,hb6⟩:=hbd;have hw1:IntKind.i64.wrap ((i:Int)+(S:Int))=(i:Int)+(S:Int):=IntWalk.i64_in _ (by omega);clear hNS HT2 HT HO HC hb3 hb HS0;go_wp2_with (at_builtin;refine wpList_append_any _ rfl (.tmp 76) (.tmp 78) _ rfl w.heap.size 9 j0 _ 1 16 Tryz.underlying27 hj hy0 hy1 hy2 rfl (by omega) _ out.length (out.map strP) rfl (HOr.out.alloc _) (wr.heap.size+1) (some ⟨wr.heap.size,0,none⟩) 1 1 [strP N] (by simp [Act.eval,Act.put]) (rowNew1 _ _ _) (by simp [strP,Value.oneCell']) (by unfold maxLen;omega) (by omega) (by simp;omega) ?_;intro v4 w4 hown4 hg4 hat4)
      have HO4:Hid (WdOwn w4 w.heap.size v4 (out++[N])):=uH (by unfold WdOwn;rw [List.length_append,List.map_append];exact hown4);have hBk : ∀ q,u6.ownBlock=some q→w.heap.size≤q:=fun q hq=>ownG_base HOr.out hq;have b5:Below w.heap.size w w4:=(b4.alloc hzb _).grown hg4 (by simp;omega) hBk;have HW4:Hid (∀ q,v4.ownBlock=some q→q≠g):=uH (fun q hq=>by
       rcases hat4 with e | e
       ·rw [e] at hq;exact HW.out q hq
       ·rw [e] at hq;injection hq with hq;simp at hq;omega)
      have HC4:Hid (CostsIn w4 g bs ws):=uH (by
       obtain ⟨cs,h1,h2,h3⟩:=HCr.out;exact ⟨cs,(hg4.block g (by simp;omega) (fun e=>HW.out g e.symm rfl)).trans (h1.alloc _),h2,h3⟩)
      have hol4:(out++[N]).length≤i+S:=(by rw [List.length_append];simp;omega);clear hown4 hg4 hat4 HOr HCr HW hBk b4;go_wp2;go_roundw
      case rel=>exact ⟨i+S,out++[N],v4,by omega,rfl,by go_num,hol4,HT3,HO4,HW4,HC4,b5⟩
      case measure=>simp [intOf] <;> omega
     | succ q =>
      have hI:(((q+1:Nat):Int) - 1)=(q:Int):=(by omega);rw [hI];clear hI;have hqn:q < n:=(by omega);have q1:(0:Int)≤(q:Int):=(by omega);have q2:(q:Int) < (n:Int):=(by omega);have b4:=below_next hb hb3;obtain ⟨b2,off2,rfl,hbB2,d0,d1,hIq⟩:=(H.out.keep b4).at_ hqn;have HAt:Hid (∀ W,Below wr.heap.size wr W→Calls Tryz.prog 62 #[.slice (some ⟨b,off,none⟩) n' c',.int .i64 (i:Int),.agg #[.string (mkStr (brAt xs q).mark),.slice (brAt xs q).A (brAt xs q).n (brAt xs q).c]] W fun e w'=>e = .returned (.bool (hitB (ws.drop i) (brAt xs q).dat))∧Below W.heap.size W w'):=uH (fun W hW=>l4At _ n' c' ws i (brAt xs q) W (by omega) (by omega) (by have:=(HMk.out q hqn).2.2;omega) (H'.out.keep (below_next b4 hW)) ((H.out.keep (below_next b4 hW)).2.2.2.2 _ (brAt_mem (by rw [HL.out];exact hqn))));have HYes:Hid (hitB (ws.drop i) (brAt xs q).dat=true→wayD bs (ws.drop i) (brAt xs q).dat=costOf bs (ws.drop i)→stepF bs (ws.drop i) q=((brAt xs q).mark,(brAt xs q).n)):=uH (fun h1 h2=>by
       have h3:=stepF_yes (bs:=bs) (ws:=ws.drop i) (k:=q) (by rw [HLb.out];exact hqn) (by rw [HDat.out q hqn];exact h1) (by rw [HDat.out q hqn];exact h2);rw [h3,HDat.out q hqn];exact Prod.ext rfl (HXl.out q hqn))
      have HNo:Hid (¬ (hitB (ws.drop i) (brAt xs q).dat=true∧wayD bs (ws.drop i) (brAt xs q).dat=costOf bs (ws.drop i))→stepF bs (ws.drop i) q=stepF bs (ws.drop i) (q+1)):=uH (fun h1=>stepF_no (by rw [HLb.out];exact hqn) (by rw [HDat.out q hqn];exact h1));have HCr:=uH (HC.out.below hb3);have r0:=qcell d0;have r1:=qcell d1;clear hIq hb;cases hh:hitB (ws.drop i) (brAt xs q).dat with
      | false =>
       rw [hh] at HAt;have HF:=uH (HNo.out (fun e=>by rw [hh] at e;cases e.1));clear hh HYes HNo HCr;rw [← HF.out];generalize brAt xs q=x at *;(go_wp2_with fail);refine region_qb (by kernel_rfl) (by kernel_rfl) ?_;repeat (first | go_big_quiet_step ((go_at_call 62;exact quietB (HAt.out _ (below_regrown _ _ _)))) | quiet_step ((go_at_call 62;exact quietB (HAt.out _ (below_regrown _ _ _)))))
       refine wpQuiet_nil ?_;intro w5 hb5;have b5:=below_next hb3 hb5;clear hb5 hb3 r0 r1 d0 d1 HAt;go_wp2;go_roundw
       case rel=>exact ⟨q,by omega,rfl,rfl,by go_num,b5⟩
       case measure=>simp [intOf] <;> omega
      | true =>
       rw [hh] at HAt;have HLe:Hid (i+(brAt xs q).n≤n'):=uH (by
        have:=hitB_len hh;unfold Br.dat at this;simp only [HXl.out q hqn,List.length_drop,HL'.out] at this;omega)
       have e1:wayD bs (ws.drop i) (brAt xs q).dat=costOf bs (ws.drop (i+(brAt xs q).n))+(brAt xs q).mark.length:=by
        unfold wayD
        show costOf bs ((ws.drop i).drop (brAt xs q).words.length)+(brAt xs q).mark.length=_
        rw [HXl.out q hqn,List.drop_drop]
       have hle:=HLe.out;have hm3:=HMk.out q hqn;have hc1:=HBd.out i;have hc2:=HBd.out (i+(brAt xs q).n);have x0:=HCr.out.cell (j:=i) (by rw [HL'.out];omega);have x1:=HCr.out.cell (j:=i+(brAt xs q).n) (by rw [HL'.out];exact hle);have y0:=qcell x0;have y1:=qcell x1;have hsz:(mkStr (brAt xs q).mark).size=(brAt xs q).mark.length:=mkStr_size _;have hl0:(mkStr (brAt xs q).mark).size≤3:=(by omega);have l1:(0:Int)≤(i:Int)+((brAt xs q).n:Int):=(by omega);have l2:(i:Int)+((brAt xs q).n:Int) < (n':Int)+1:=(by omega);have l3:(i:Int) < (n':Int)+1:=(by omega);have hw1:IntKind.i64.wrap ((i:Int)+((brAt xs q).n:Int))=(i:Int)+((brAt xs q).n:Int):=IntWalk.i64_in _ (by omega);have hw2:IntKind.i64.wrap ((costOf bs (ws.drop (i+(brAt xs q).n)):Int)+((mkStr (brAt xs q).mark).size:Int))=(costOf bs (ws.drop (i+(brAt xs q).n)):Int)+((mkStr (brAt xs q).mark).size:Int):=IntWalk.i64_in _ (by omega);have hnn:((i:Int)+((brAt xs q).n:Int)).toNat=i+(brAt xs q).n:=(by omega);by_cases heq:costOf bs (ws.drop (i+(brAt xs q).n))+(brAt xs q).mark.length=costOf bs (ws.drop i)
       ·have HF:=uH (HYes.out hh (by rw [e1];exact heq));have hq0:((costOf bs (ws.drop (i+(brAt xs q).n)):Int)+((mkStr (brAt xs q).mark).size:Int) == (costOf bs (ws.drop i):Int))=true:=(by rw [hsz];simp;omega);clear hh HYes HNo heq e1 hm3 hsz hle HCr HLe;generalize costOf bs (ws.drop (i+(brAt xs q).n))=C2 at *;generalize costOf bs (ws.drop i)=C1 at *;generalize brAt xs q=x at *;(go_wp2_with fail);refine region_qb (by kernel_rfl) (by kernel_rfl) ?_;repeat (first | go_big_quiet_step ((go_at_call 62;exact quietB (HAt.out _ (below_regrown _ _ _)))) | quiet_step ((go_at_call 62;exact quietB (HAt.out _ (below_regrown _ _ _)))))
        refine wpQuiet_nil ?_;intro w5 hb5;have b5:=below_next hb3 hb5;have z0:=kcell hb5 d0;clear hb5 hb3 r0 r1 d0 d1 x0 x1 y0 y1 HAt hw1 hw2 hnn hq0;go_wp2;go_roundw
        case rel=>exact ⟨q,by omega,by rw [HF.out],by rw [HF.out],by go_num,b5⟩
        case measure=>simp [intOf] <;> omega
       ·have HF:=uH (HNo.out (fun e=>heq (by rw [← e1];exact e.2)));have hq0:((costOf bs (ws.drop (i+(brAt xs q).n)):Int)+((mkStr (brAt xs q).mark).size:Int) == (costOf bs (ws.drop i):Int))=false:=(by rw [hsz];simp;omega);clear hh HYes HNo heq e1 hm3 hsz hle HCr HLe;rw [← HF.out];generalize costOf bs (ws.drop (i+(brAt xs q).n))=C2 at *;generalize costOf bs (ws.drop i)=C1 at *;generalize brAt xs q=x at *;(go_wp2_with fail);refine region_qb (by kernel_rfl) (by kernel_rfl) ?_;repeat (first | go_big_quiet_step ((go_at_call 62;exact quietB (HAt.out _ (below_regrown _ _ _)))) | quiet_step ((go_at_call 62;exact quietB (HAt.out _ (below_regrown _ _ _)))))
        refine wpQuiet_nil ?_;intro w5 hb5;have b5:=below_next hb3 hb5;clear hb5 hb3 r0 r1 d0 d1 x0 x1 y0 y1 HAt hw1 hw2 hnn hq0;go_wp2;go_roundw
        case rel=>exact ⟨q,by omega,rfl,rfl,by go_num,b5⟩
        case measure=>simp [intOf] <;> omega
   ·obtain rfl:i=n':=(by omega);have HF:Hid (bestT bs ws=out):=uH (by rw [HT.out,List.drop_of_length_le (by rw [HL'.out];exact Nat.le_refl _),bestT_nil,List.append_nil]);obtain ⟨A5,c5,rfl,_,_⟩:=ownG_form HO.out;have HA:Hid (WdsO wr w.heap.size (bestO bs ws) (.returned (.tuple #[.slice A5 out.length c5,.bool true]))):=uH (WdsO.yes (by rw [HR.out,HF.out]) rfl HO.out);clear HT HO HW HC HF;generalize out.length=N at *;go_wp2
    go_ret2
    exact ⟨HA.out,hb⟩
end Go.Proofs.YtbkhnljaajajiaaGreatDoor
