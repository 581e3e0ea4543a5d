/-
  Contracts and plain laws that the proofs lean on. Conditions: as each says.
-/
import Derived.Test.YtbkhnljaajajiaaGreatDoorPX14
import Derived.Test.YtbkhnljaajajiaaGreatDoorPX18
import Derived.Lib.AppendIntMem
set_option maxRecDepth 100000
set_option linter.unusedSimpArgs false
set_option linter.unusedVariables false
set_option linter.unnecessarySimpa false
namespace Go.Proofs.YtbkhnljaajajiaaGreatDoor
open Go.ChangeShapes Go.WideShapes Go.ChangeAt Go.RowKit
theorem goEq {a b:List Wd} {i k:Nat} {cur:Option Mk} (hi:i < a.length) (hk:k < b.length) (he:wdAt a i=wdAt b k):mkGo (a.drop i) (b.drop k) i cur=cur.toList++mkGo (a.drop (i+1)) (b.drop (k+1)) (i+1) none:=by
 rw [drop_wd hi,drop_wd hk,he,mkGo_same]
theorem goCut {a b:List Wd} {i k:Nat} {cur:Option Mk} (hi:i < a.length) (hne:k < b.length→wdAt a i≠wdAt b k) (hd:dst (a.drop (i+1)) (b.drop k) < dst (a.drop i) (b.drop k)) :
  mkGo (a.drop i) (b.drop k) i cur=mkGo (a.drop (i+1)) (b.drop k) (i+1) (some ⟨(curOf i cur).at_,(curOf i cur).cut+1,(curOf i cur).put⟩):=by
 rw [drop_wd hi] at hd ⊢;refine mkGo_cut (fun y r h=>?_) hd;by_cases hk:k < b.length
 ·rw [drop_wd hk] at h;injection h with h _;rw [← h];exact hne hk
 ·rw [List.drop_of_length_le (by omega)] at h;cases h
theorem goPut {a b:List Wd} {i k:Nat} {cur:Option Mk} (hk:k < b.length) (h:i < a.length→wdAt a i≠wdAt b k∧¬ dst (a.drop (i+1)) (b.drop k) < dst (a.drop i) (b.drop k)) :
  mkGo (a.drop i) (b.drop k) i cur=mkGo (a.drop i) (b.drop (k+1)) i (some ⟨(curOf i cur).at_,(curOf i cur).cut,(curOf i cur).put++[wdAt b k]⟩):=by
 rw [drop_wd hk];refine mkGo_put (fun x r e=>?_);by_cases hi:i < a.length
 ·have h1:=h hi;rw [drop_wd hi] at e h1;rw [drop_wd hk] at h1;injection e with e1 e2;rw [← e1,← e2];exact h1
 ·rw [List.drop_of_length_le (by omega)] at e;cases e
theorem goEnd {a b:List Wd} {i k:Nat} {cur:Option Mk} (hi:a.length≤i) (hk:b.length≤k):mkGo (a.drop i) (b.drop k) i cur=cur.toList:=by
 rw [List.drop_of_length_le hi,List.drop_of_length_le hk,mkGo_done]
theorem dst_edge {a b:List Wd} {i:Nat} (hi:i < a.length):dst (a.drop (i+1)) (b.drop b.length) < dst (a.drop i) (b.drop b.length):=by
 rw [dst_bj,dst_bj];omega
theorem dst_test {a b:List Wd} {i k:Nat} (hi:i < a.length):dst (a.drop (i+1)) (b.drop k) < dst (a.drop i) (b.drop k) ↔ 1+dst (a.drop (i+1)) (b.drop k)=dst (a.drop i) (b.drop k):=by
 rw [drop_wd hi];exact dst_step _ _ _
def CurOwn (w:World) (T0:Nat) (v:Value) (D0:List Mr) (x:Mr):Prop :=
 x.put.length=x.n∧w.ownsRow T0 9 1 (.slice x.A x.n x.c) x.n (x.put.map strP)∧∀ q,(Value.slice x.A x.n x.c).ownBlock=some q→v.ownBlock≠some q∧∀ y∈D0,0 < y.n→∀ p,y.A=some p→p.block≠q
theorem CurOwn.keep {w w':World} {T0:Nat} {v:Value} {D0:List Mr} {x:Mr} (h:CurOwn w T0 v D0 x) (hb:Below w.heap.size w w'):CurOwn w' T0 v D0 x:=⟨h.1,ownG_keep h.2.1 hb,h.2.2⟩
theorem CurOwn.far {w:World} {T0 gv j:Nat} {v u:Value} {D0:List Mr} {x:Mr} (h:CurOwn w T0 v D0 x) (hv:v.ownBlock=some gv):CurOwn (w.setCell ⟨gv,j,none⟩ u) T0 v D0 x :=
 ⟨h.1,ownG_congr h.2.1 (fun q hq=>Below.heap_setCell w ⟨gv,j,none⟩ u q (fun e=>(h.2.2 q hq).1 (by rw [hv];congr 1;exact e.symm))),h.2.2⟩
theorem MrOwn.put {w w8:World} {B gv:Nat} {v:Value} {D0:List Mr} {x x':Mr} {row:Option Nat} (h:MrOwn w B v (D0++[x])) (hv:v.ownBlock=some gv) (hg:w.grownBy w8 row) (h1:row≠some gv) (h2 : ∀ y∈D0,0 < y.n→∀ p,y.A=some p→row≠some p.block)
  (ha:x'.at_=x.at_) (hc:x'.cut=x.cut) (hx':MrIn w8 w8.heap.size x') (hn:0 < x'.n→∀ p,x'.A=some p→v.ownBlock≠some p.block∧p.block < w8.heap.size) :
  MrOwn (w8.setCell ⟨gv,D0.length * 3+2,none⟩ (.slice x'.A x'.n x'.c)) B v (D0++[x']):=by
 have h0:w8.ownsRow B 116 3 v (D0++[x]).length ((D0++[x]).flatMap mkC):=ownG_congr h.1 (fun q hq=>hg.block q (ownG_lt h.1 hq) (fun e=>h1 (by rw [← e,← hv,hq])));have h3:=own_set (j:=D0.length * 3+2) (u:=.slice x'.A x'.n x'.c) h0 hv;rw [flat_last D0 x x' 2 _ (by simp [mkC,ha,hc]) (by omega)] at h3;have hs:=only_set1 w8 gv (D0.length * 3+2) (.slice x'.A x'.n x'.c);refine ⟨by rw [List.length_append] at h3 ⊢;exact h3,fun y hy=>?_⟩;rcases List.mem_append.1 hy with hy | hy
 ·have k1:=h.2 y (by simp [hy]);refine ⟨WdsIn.grown (WdsIn.grown k1.1 hg (fun hp p hpA=>h2 y hy hp p hpA)) hs (fun hp p hpA=>by rw [← hv];exact (k1.2 hp p hpA).1),fun hp p hpA=>⟨(k1.2 hp p hpA).1,?_⟩⟩;have:=(k1.2 hp p hpA).2;have:=hg.size;simp;omega
 ·rw [List.mem_singleton] at hy;subst hy;exact ⟨WdsIn.grown hx' hs (fun hp p hpA=>by rw [← hv];exact (hn hp p hpA).1),fun hp p hpA=>⟨(hn hp p hpA).1,by simpa using (hn hp p hpA).2⟩⟩
def TabC (w:World) (g:Nat) (rb:Nat→Nat) (a b:List Wd):Prop :=
 ∀ i,i≤a.length→w.cell? ⟨g,i,none⟩=some (.slice (some ⟨rb i,0,none⟩) (b.length+1) (b.length+1))∧∀ j,j≤b.length→w.cell? ⟨rb i,j,none⟩=some (.int .i64 ((dst (a.drop i) (b.drop j):Nat):Int))
theorem TabC.only {w w':World} {g o:Nat} {rb:Nat→Nat} {a b:List Wd} (h:TabC w g rb a b) (hg:w.grownBy w' (some o)) (hog:o≠g) (hor : ∀ i,i≤a.length→o≠rb i):TabC w' g rb a b :=
 fun i hi=>⟨gcell hg (h i hi).1 (fun e=>hog (by injection e)),fun j hj=>gcell hg ((h i hi).2 j hj) (fun e=>hor i hi (by injection e))⟩
attribute [local go_sem ↓] appZ_eq
set_option maxHeartbeats 3200000 in
theorem specMarksMake (A:Option Addr) (n c:Nat) (a:List Wd) (A':Option Addr) (n' c':Nat) (b:List Wd) (w:World) (hW : ∀ l∈a,l.length≤maxLen) (hW' : ∀ l∈b,l.length≤maxLen) (h:WdsIn w w.heap.size A n c a) (h':WdsIn w w.heap.size A' n' c' b) :
  Calls Tryz.prog 28 #[.slice A n c,.slice A' n' c'] w fun e w'=>MkAns w' (makeO a b) e∧Below w.heap.size w w':=by
 have hal:Below w.heap.size w (w.alloc (.cells #[] 116)):=(Below.refl _ _).alloc (Nat.le_refl _) _;have HS:=uH (specSpeechValid A n c a _ hW (h.keep hal));have HS':=uH (specSpeechValid A' n' c' b _ hW' (h'.keep hal));have HL:=uH h.1;have HL':=uH h'.1;have H:=uH h;have H':=uH h';have HO0:=uH (MrOwn.made w);have HZ:=uH (fun (W:World) (AA:Option Addr)=>MrsIn.zero W W.heap.size AA);clear h h' hW hW';cases hA:spB a with
 | false =>
  have HR:Hid (makeO a b=none):=uH (if_neg (by rw [hA];simp));rw [hA] at HS;clear hA;go_enter Tryz.func28,Tryz.ntmps28
  (go_wp2_with fail);refine HS.out.mono ?_;rintro e w1 ⟨rfl,rfl⟩;go_wp2;go_returns;exact ⟨.inl ⟨HR.out,_,_,rfl,HZ.out _ _⟩,hal⟩
 | true =>
 cases hB:spB b with
 | false =>
  have HR:Hid (makeO a b=none):=uH (if_neg (by rw [hB];simp));rw [hA] at HS;rw [hB] at HS';clear hA hB;go_enter Tryz.func28,Tryz.ntmps28
  (go_wp2_with fail);refine HS.out.mono ?_;rintro e w1 ⟨rfl,rfl⟩;(go_wp2_with fail);refine HS'.out.mono ?_;rintro e w1 ⟨rfl,rfl⟩;go_wp2;go_returns;exact ⟨.inl ⟨HR.out,_,_,rfl,HZ.out _ _⟩,hal⟩
 | true =>
  obtain ⟨i0,hi,hz0,hz1,hz2⟩:=info_parts infoMk;obtain ⟨j0,hj,hy0,hy1,hy2⟩:=info_parts infoWd;have HR:Hid (makeO a b=some (mkAll a b)):=uH (if_pos (by rw [hA,hB];rfl));have h20:n≤20:=(by have:=(spB_iff.1 hA).2;rw [HL.out] at this;exact this);have h20':n'≤20:=(by have:=(spB_iff.1 hB).2;rw [HL'.out] at this;exact this);rw [hA] at HS;rw [hB] at HS';have HT:=uH (specSizes A n c a A' n' c' b _ h20 h20' (H.out.keep hal) (H'.out.keep hal));clear hA hB;go_enter Tryz.func28,Tryz.ntmps28
  (go_wp2_with fail);refine HS.out.mono ?_;rintro e w1 ⟨rfl,rfl⟩;(go_wp2_with fail);refine HS'.out.mono ?_;rintro e w1 ⟨rfl,rfl⟩;(go_wp2_with fail);refine HT.out.mono ?_;rintro e w2 ⟨⟨v7,rfl,g,rb,rfl,hg1,hg2,hTc⟩,hb2⟩;simp only [World.size_alloc] at hg1;have b2:=below_next hal hb2;have HTC:Hid (TabC w2 g rb a b):=uH (fun i hi=>⟨(hTc i hi).1,(hTc i hi).2.2.2⟩);have HTb:Hid (w.heap.size≠g∧∀ i,i≤a.length→w.heap.size≠rb i):=uH ⟨by omega,fun i hi=>by have:=(hTc i hi).2.1;omega⟩;have HO2:=uH (HO0.out.keep hb2);have HGo0:Hid (mkAll a b=([]:List Mr).map Mr.dat++mkGo (a.drop 0) (b.drop 0) 0 ((none:Option Mr).map Mr.dat)):=uH rfl;rw [HL.out];clear hTc hb2 HT HS HS' HO0 hal hg2;go_wp2;go_loopw [6,8,9,10] (fun s6 s8 s9 s10 wr=>∃ (i k:Nat) (D0:List Mr) (o:Option Mr) (v:Value),i≤n∧k≤n'∧s6=v∧s8 = .int .i64 i∧s9 = .int .i64 k∧s10 = .bool o.isSome∧Hid (mkAll a b=D0.map Mr.dat++mkGo (a.drop i) (b.drop k) i (o.map Mr.dat))∧Hid (D0.length+o.toList.length≤i+k)∧Hid (MrOwn wr w.heap.size v (D0++o.toList))∧Hid (∀ x,o=some x→CurOwn wr w2.heap.size v D0 x∧x.at_≤i∧x.cut≤i∧x.n≤k)∧Hid (∀ q,v.ownBlock=some q→q=w.heap.size∨w2.heap.size≤q)∧Hid (w2.grownBy wr (some w.heap.size))) (fun _ s8 s9 _ _=>(n - (intOf s8).toNat)+(n' - (intOf s9).toNat))
  case atStart=>exact ⟨0,0,[],none,_,Nat.zero_le _,Nat.zero_le _,rfl,rfl,rfl,rfl,HGo0,uH (by simp),HO2,uH (fun x hx=>by cases hx),uH (fun q hq=>.inl (by injection hq with hq;exact hq.symm)),uH (World.grownBy.refl _ _)⟩
  case round =>
   obtain ⟨i,k,D0,o,v,hin,hkn,rfl,rfl,rfl,rfl,HE,HX,HO,HC,HV,HG⟩:=hrel;have hb:=uH (b2.grown HG.out b2.size (fun q hq=>by injection hq with hq;omega));have ii1:(0:Int)≤(i:Int):=(by omega);have kk1:(0:Int)≤(k:Int):=by omega
   go_upto_region 8 with fail
   go_cut [34] (fun c34 wx=>wr=wx∧Value.bool (decide (i < n∨k < n'))=c34)
   case first =>
    by_cases hi:i < n
    ·have e0:(i:Int) < (n:Int):=(by omega);go_wp2
     go_meet
     exact ⟨rfl,congrArg Value.bool (decide_eq_true (.inl hi))⟩
    ·have e0 : ¬ (i:Int) < (n:Int):=(by omega);by_cases hk:k < n'
     ·have e1:(k:Int) < (n':Int):=(by omega);go_wp2
      go_meet
      exact ⟨rfl,congrArg Value.bool (decide_eq_true (.inr hk))⟩
     ·have e1 : ¬ (k:Int) < (n':Int):=(by omega);go_wp2
      go_meet
      exact ⟨rfl,congrArg Value.bool (decide_eq_false (fun h=>h.elim hi hk))⟩
   case rest =>
    obtain ⟨rfl,rfl⟩:=hcut;by_cases hgo:i < n∨k < n'
    ·rw [decide_eq_true hgo]
     go_upto_region 9 with fail
     go_cut [55] (fun c55 wx=>Below wr.heap.size wr wx∧Value.bool (decide (i < n∧k < n'∧wdAt a i=wdAt b k))=c55)
     case first =>
      clear HE HX HO HC HV HTC HTb HGo0 HO2 HR HZ;by_cases hi:i < n
      ·have e0:(i:Int) < (n:Int):=(by omega);by_cases hk:k < n'
       ·have e1:(k:Int) < (n':Int):=(by omega);obtain ⟨bA,oA,rfl,hbA,cA⟩:=(H.out.keep hb.out).at_ hi;obtain ⟨bB,oB,rfl,hbB,cB⟩:=(H'.out.keep hb.out).at_ hk;have hq1:=beq_str (mkStr (wdAt b k)) (wdAt a i) (wdAt b k) rfl;have HD:Hid (decide (i < n∧k < n'∧wdAt a i=wdAt b k)=decide (wdAt a i=wdAt b k)):=uH (decide_eq_decide.2 ⟨fun h=>h.2.2,fun h=>⟨hi,hk,h⟩⟩);have qA:=qcell cA;have qB:=qcell cB;generalize mkStr (wdAt a i)=sA at *;generalize mkStr (wdAt b k)=sB at *;generalize decide (wdAt a i=wdAt b k)=q at *;refine region_qb (by kernel_rfl) (by kernel_rfl) ?_;repeat (first | go_big_quiet_step (fail) | quiet_step (fail))
        refine wpQuiet_nil ?_;intro w5 hb5;go_wp2
        go_meet
        exact ⟨hb5,congrArg Value.bool HD.out⟩
       ·have e1 : ¬ (k:Int) < (n':Int):=(by omega);refine region_qb (by kernel_rfl) (by kernel_rfl) ?_;repeat (first | go_big_quiet_step (fail) | quiet_step (fail))
        refine wpQuiet_nil ?_;intro w5 hb5;go_wp2
        go_meet
        exact ⟨hb5,congrArg Value.bool (decide_eq_false (fun h=>hk h.2.1))⟩
      ·have e0 : ¬ (i:Int) < (n:Int):=(by omega);refine region_qb (by kernel_rfl) (by kernel_rfl) ?_;repeat (first | go_big_quiet_step (fail) | quiet_step (fail))
       refine wpQuiet_nil ?_;intro w5 hb5;go_wp2
       go_meet
       exact ⟨hb5,congrArg Value.bool (decide_eq_false (fun h=>hi h.1))⟩
     case rest =>
      obtain ⟨hb5,rfl⟩:=hcut;generalize wc=w5 at *;have HO5:=uH (HO.out.keep hb5);have HC5:Hid (∀ x,o=some x→CurOwn w5 w2.heap.size u6 D0 x∧x.at_≤i∧x.cut≤i∧x.n≤k):=uH (fun x hx=>⟨(HC.out x hx).1.keep hb5,(HC.out x hx).2⟩);have HG5:=uH (grown_below HG.out hb5);have HB5:=uH (below_next hb.out hb5);have z5:=HG5.out.size;clear HO HC HG hb hb5;by_cases he:i < n∧k < n'∧wdAt a i=wdAt b k
      ·rw [decide_eq_true he];obtain ⟨hi3,hk3,he3⟩:=he;have HE2:Hid (mkAll a b=(D0++o.toList).map Mr.dat++mkGo (a.drop (i+1)) (b.drop (k+1)) (i+1) ((none:Option Mr).map Mr.dat)):=uH (by
        rw [HE.out,goEq (by rw [HL.out];exact hi3) (by rw [HL'.out];exact hk3) he3,List.map_append,List.append_assoc];congr 2
        cases o <;> rfl)
       have HX2:Hid ((D0++o.toList).length+(none:Option Mr).toList.length≤i+1+(k+1)):=uH (by have:=HX.out;rw [List.length_append];simp;omega);have HO6:Hid (MrOwn w5 w.heap.size u6 ((D0++o.toList)++(none:Option Mr).toList)):=uH (by simpa using HO5.out);have i5:(i:Int)+1≤21:=(by omega);clear HE HX HO5 HC5 he3;go_wp2;go_roundw
       case rel=>exact ⟨i+1,k+1,D0++o.toList,none,u6,by omega,by omega,rfl,by go_num,by go_num,rfl,HE2,HX2,HO6,uH (fun x hx=>by cases hx),HV,HG5⟩
       case measure=>simp [intOf] <;> omega
      ·rw [decide_eq_false he]
       go_upto_if 61 with fail
       go_cut [6,10] (fun v6 s10 wx=>∃ (W:World) (u:Value) (x:Mr),W=wx∧u=v6∧Value.bool true=s10∧Hid (x.dat=curOf i (o.map Mr.dat))∧Hid (MrOwn wx w.heap.size u (D0++[x]))∧Hid (CurOwn wx w2.heap.size u D0 x)∧x.at_≤i∧x.cut≤i∧x.n≤k∧Hid (∀ q,u.ownBlock=some q→q=w.heap.size∨w2.heap.size≤q)∧Hid (w2.grownBy wx (some w.heap.size)))
       case first =>
        cases o with
        | some x =>
         obtain ⟨h1,h2,h3,h4⟩:=HC5.out x rfl;have H1:=uH h1;have HO6:Hid (MrOwn w5 w.heap.size u6 (D0++[x])):=HO5;clear h1 HE HX HO5 HC5;go_wp2
         go_meet
         exact ⟨w5,u6,x,rfl,rfl,rfl,uH rfl,HO6,H1,h2,h3,h4,HV,HG5⟩
        | none =>
         have HO6:Hid (MrOwn w5 w.heap.size u6 D0):=uH (by simpa using HO5.out);have hlD:D0.length≤40:=(by have:=HX.out;simp at this;omega);have hal5:Below w5.heap.size w5 ((w5.alloc (.cells #[] 9)).alloc (.cells #[.int .i64 (i:Int),.int .i64 0,.slice (some ⟨w5.heap.size,0,none⟩) 0 0] 116)):=((Below.refl _ _).alloc (Nat.le_refl _) _).alloc (by simp) _;have HOa:=uH (HO6.out.keep hal5);have HRow:Hid (Row ((w5.alloc (.cells #[] 9)).alloc (.cells #[.int .i64 (i:Int),.int .i64 0,.slice (some ⟨w5.heap.size,0,none⟩) 0 0] 116)) (w5.heap.size+2) (some ⟨w5.heap.size+1,0,none⟩) 1 3 [.int .i64 (i:Int),.int .i64 0,.slice (some ⟨w5.heap.size,0,none⟩) 0 0]):=uH (by
          have h0:=rowNewMk (w5.alloc (.cells #[] 9)) (.int .i64 (i:Int)) (.int .i64 0) (.slice (some ⟨w5.heap.size,0,none⟩) 0 0) 116;simp only [World.size_alloc] at h0;exact h0)
         have HSo:Hid (((w5.alloc (.cells #[] 9)).alloc (.cells #[.int .i64 (i:Int),.int .i64 0,.slice (some ⟨w5.heap.size,0,none⟩) 0 0] 116)).ownsRow w2.heap.size 9 1 (.slice (some ⟨w5.heap.size,0,none⟩) 0 0) 0 []):=uH (World.ownsRow.alloc (ownG_mono (World.ownsRow_made w5 #[] 0 (Nat.le_refl _) (by simp) (by simp)) z5) _);have zb:=HB5.out.size;clear HE HX HO5 HC5 he;go_wp2_with (at_builtin;refine wpList_append_any _ rfl (.tmp 62) (.tmp 66) _ rfl w.heap.size 116 i0 _ 3 40 Tryz.underlying41 hi hz0 hz1 hz2 rfl (by omega) u6 D0.length (D0.flatMap mkC) rfl HOa.out.1 (w5.heap.size+2) (some ⟨w5.heap.size+1,0,none⟩) 1 1 [.int .i64 (i:Int),.int .i64 0,.slice (some ⟨w5.heap.size,0,none⟩) 0 0] rfl HRow.out (by simp [Value.oneCell']) (by unfold maxLen;omega) (by omega) (by simp;omega) ?_;intro v7 w7 hown7 hg7 hat7)
         have HB7:Hid (∀ q,u6.ownBlock=some q→q < w5.heap.size):=uH (fun q hq=>ownG_lt HO6.out.1 hq);have HO7:Hid (MrOwn w7 w.heap.size v7 (D0++[⟨i,0,some ⟨w5.heap.size,0,none⟩,0,0,[]⟩])):=uH (MrOwn.push (x:=⟨i,0,some ⟨w5.heap.size,0,none⟩,0,0,[]⟩) HOa.out ⟨rfl,Nat.le_refl _,Nat.zero_le _,⟨rfl,fun h=>absurd h (by simp)⟩⟩ (fun h=>absurd h (by simp)) hown7 hg7 hat7);have HV7:Hid (∀ q,v7.ownBlock=some q→q=w.heap.size∨w2.heap.size≤q):=uH (fun q hq=>by
          rcases hat7 with e | e
          ·exact HV.out q (e.symm.trans hq)
          ·rw [e] at hq;injection hq with hq;simp at hq;omega)
         have HC7:Hid (CurOwn w7 w2.heap.size v7 D0 ⟨i,0,some ⟨w5.heap.size,0,none⟩,0,0,[]⟩):=uH ⟨rfl,ownG_congr HSo.out (fun q hq=>hg7.block q (ownG_lt HSo.out hq) (fun e=>by injection hq with hq;have:=HB7.out q e.symm;simp at hq;omega)),fun q hq=>⟨fun e=>by
          injection hq with hq;simp at hq;rcases hat7 with e2 | e2
          ·have:=HB7.out q (e2.symm.trans e);omega
          ·rw [e2] at e;injection e with e;simp at e;omega,fun y hy hp p hpA=>by
          injection hq with hq;simp at hq;have:=((HO6.out.2 y hy).2 hp p hpA).2;omega⟩⟩
         have HG7:Hid (w2.grownBy w7 (some w.heap.size)):=uH ((grown_below HG5.out hal5).andThen hg7 (fun q hq=>(HV.out q hq).elim (fun e=>.inr (by rw [e])) (fun e=>.inl e)));clear hown7 hg7 hat7 HRow HSo HOa;go_wp2
         go_meet
         exact ⟨w7,v7,_,rfl,rfl,rfl,uH rfl,HO7,HC7,Nat.le_refl _,Nat.zero_le _,Nat.zero_le _,HV7,HG7⟩
       case rest =>
        obtain ⟨wz,u,x,rfl,rfl,rfl,HXd,HO7,HC7,hx1,hx2,hx3,HV7,HG7⟩:=hcut;have HEx:Hid (curOf i (o.map Mr.dat)=x.dat):=uH HXd.out.symm;have hlD:D0.length≤40:=(by have:=HX.out;omega);obtain ⟨gv,cv,rfl,hgv,hcv,hcm,hov⟩:=own_some HO7.out.1 (show 0 < (D0++[x]).length by simp);have hlen:(D0++[x]).length=D0.length+1:=(by simp);rw [hlen] at HO7 HC7 HV7 hov hcv;rw [hlen];clear hlen HXd HO5 HC5 HG5 HB5 HV;have HBz:=uH (b2.grown HG7.out b2.size (fun q hq=>by injection hq with hq;omega));have HTz:Hid (TabC wz g rb a b):=uH (HTC.out.only HG7.out HTb.out.1 HTb.out.2)
        go_upto_region 17 with fail
        go_cut [93] (fun c93 wx=>Below wz.heap.size wz wx∧Value.bool (decide (i < n∧dst (a.drop (i+1)) (b.drop k) < dst (a.drop i) (b.drop k)))=c93)
        case first =>
         clear HE HX HO7 HC7 HV7 HTC HTb HGo0 HO2 HR HZ HG7;by_cases hi3:i < n
         ·have e0:(i:Int) < (n:Int):=(by omega);have i4:(i:Int)+1 < (n:Int)+1:=(by omega);have i5:(i:Int) < (n:Int)+1:=(by omega);have k5:(k:Int) < (n':Int)+1:=(by omega);obtain ⟨t1,t1'⟩:=HTz.out (i+1) (by rw [HL.out];omega);obtain ⟨t0,t0'⟩:=HTz.out i (by rw [HL.out];omega);have x1:=t1' k (by rw [HL'.out];exact hkn);have x0:=t0' k (by rw [HL'.out];exact hkn);rw [HL'.out] at t1 t0;have HDs:=uH (dst_test (a:=a) (b:=b) (i:=i) (k:=k) (by rw [HL.out];exact hi3));have d1:=dst_40 (a:=a) (b:=b) (i+1) k;have d0:=dst_40 (a:=a) (b:=b) i k;rw [HL.out,HL'.out] at d1 d0;clear t1' t0';have HF:Hid (decide (i < n∧dst (a.drop (i+1)) (b.drop k) < dst (a.drop i) (b.drop k))=decide (1+((dst (a.drop (i+1)) (b.drop k):Nat):Int)=((dst (a.drop i) (b.drop k):Nat):Int))):=uH (decide_eq_decide.2 ⟨fun h=>by have:=HDs.out.1 h.2;omega,fun h=>⟨hi3,HDs.out.2 (by omega)⟩⟩);obtain ⟨D1,hD1⟩ : ∃ D,D=dst (a.drop (i+1)) (b.drop k):=⟨_,rfl⟩;obtain ⟨Dz,hDz⟩ : ∃ D,D=dst (a.drop i) (b.drop k):=⟨_,rfl⟩;rw [← hD1] at x1 d1;rw [← hDz] at x0 d0;obtain ⟨q,hq⟩ : ∃ q,q=decide (1+(D1:Int)=(Dz:Int)):=⟨_,rfl⟩;have HF2:Hid (decide (i < n∧dst (a.drop (i+1)) (b.drop k) < dst (a.drop i) (b.drop k))=q):=uH (by rw [HF.out,hq,hD1,hDz]);have hq2:((1+(D1:Int)) == (Dz:Int))=q:=by
           rw [hq];by_cases h:1+(D1:Int)=(Dz:Int)
           ·rw [decide_eq_true h];simpa using h
           ·rw [decide_eq_false h];simpa using h
          clear hq hD1 hDz HF HDs;have q1:=qcell t1;have q0:=qcell t0;have p1:=qcell x1;have p0:=qcell x0;refine region_qb (by kernel_rfl) (by kernel_rfl) ?_;repeat (first | go_big_quiet_step (fail) | quiet_step (fail))
          refine wpQuiet_nil ?_;intro w9 hb9;go_wp2
          go_meet
          exact ⟨hb9,congrArg Value.bool HF2.out⟩
         ·have e0 : ¬ (i:Int) < (n:Int):=(by omega);refine region_qb (by kernel_rfl) (by kernel_rfl) ?_;repeat (first | go_big_quiet_step (fail) | quiet_step (fail))
          refine wpQuiet_nil ?_;intro w9 hb9;go_wp2
          go_meet
          exact ⟨hb9,congrArg Value.bool (decide_eq_false (fun h=>hi3 h.1))⟩
        case rest =>
         obtain ⟨hb9,rfl⟩:=hcut;generalize wc=w9 at *;have HO9:=uH (HO7.out.keep hb9);have HC9:=uH (HC7.out.keep hb9);have HG9:=uH (grown_below HG7.out hb9);have HB9:=uH (below_next HBz.out hb9);have hgl:(D0++[x])[D0.length]? = some x:=(by simp);have l1:=own_cell HO9.out.1 hov (flat_at mkC_len _ _ _ 1 (.int .i64 (x.cut:Int)) hgl rfl);have l2:=own_cell HO9.out.1 hov (flat_at mkC_len _ _ _ 2 (.slice x.A x.n x.c) hgl rfl);have hgv9:=ownG_lt HO9.out.1 hov;have z9:=HG9.out.size;clear hb9 hgl HO7 HC7 HG7 HBz HTz;by_cases hc:i < n∧dst (a.drop (i+1)) (b.drop k) < dst (a.drop i) (b.drop k)
         ·rw [decide_eq_true hc];obtain ⟨hi3,hlt⟩:=hc;have HE2:Hid (mkAll a b=D0.map Mr.dat++mkGo (a.drop (i+1)) (b.drop k) (i+1) ((some ⟨x.at_,x.cut+1,x.A,x.n,x.c,x.put⟩:Option Mr).map Mr.dat)):=uH (by
           rw [HE.out,goCut (by rw [HL.out];exact hi3) (fun hk e=>he ⟨hi3,by rw [HL'.out] at hk;exact hk,e⟩) hlt,HEx.out];rfl)
          have HX2:Hid (D0.length+(some (⟨x.at_,x.cut+1,x.A,x.n,x.c,x.put⟩:Mr)).toList.length≤i+1+k):=uH (by have:=HX.out;simp;omega);have HO2':Hid (MrOwn (w9.setCell ⟨gv,D0.length * 3+1,none⟩ (.int .i64 ((x.cut:Int)+1))) w.heap.size (.slice (some ⟨gv,0,none⟩) (D0.length+1) cv) (D0++(some (⟨x.at_,x.cut+1,x.A,x.n,x.c,x.put⟩:Mr)).toList)):=uH (MrOwn.last (x':=⟨x.at_,x.cut+1,x.A,x.n,x.c,x.put⟩) HO9.out hov (by simp [mkC]) (by omega) (HO9.out.2 x (by simp)).1 (HO9.out.2 x (by simp)).2);have HC2:Hid (∀ y,some (⟨x.at_,x.cut+1,x.A,x.n,x.c,x.put⟩:Mr)=some y→CurOwn (w9.setCell ⟨gv,D0.length * 3+1,none⟩ (.int .i64 ((x.cut:Int)+1))) w2.heap.size (.slice (some ⟨gv,0,none⟩) (D0.length+1) cv) D0 y∧y.at_≤i+1∧y.cut≤i+1∧y.n≤k):=uH (fun y hy=>by
           injection hy with hy;subst hy;exact ⟨CurOwn.far (x:=⟨x.at_,x.cut+1,x.A,x.n,x.c,x.put⟩) HC9.out hov,by show x.at_≤i+1;omega,by show x.cut+1≤i+1;omega,hx3⟩)
          have HG2:Hid (w2.grownBy (w9.setCell ⟨gv,D0.length * 3+1,none⟩ (.int .i64 ((x.cut:Int)+1))) (some w.heap.size)):=uH (HG9.out.andThen (only_set1 w9 gv _ _) (fun q hq=>(HV7.out q (hov.trans hq)).elim (fun e=>.inr (by rw [e])) (fun e=>.inl e)));obtain ⟨l1c,l1f⟩:=l1;clear HE HX HO9 HC9 HG9 HEx l2 hlt he;go_wp2;go_roundw
          case rel=>exact ⟨i+1,k,D0,some ⟨x.at_,x.cut+1,x.A,x.n,x.c,x.put⟩,_,by omega,by omega,rfl,by go_num,rfl,rfl,HE2,HX2,HO2',HC2,HV7,HG2⟩
          case measure=>simp [intOf] <;> omega
         ·rw [decide_eq_false hc];have hk3:k < n':=by
           apply Classical.byContradiction;intro hk;have hkn2:k=n':=(by omega);have hi3:i < n:=(by omega);refine hc ⟨hi3,?_⟩;rw [hkn2,← HL'.out];exact dst_edge (by rw [HL.out];exact hi3)
          obtain ⟨bB,oB,rfl,hbB,cB⟩:=(H'.out.keep HB9.out).at_ hk3;have HE2:Hid (mkAll a b=D0.map Mr.dat++mkGo (a.drop i) (b.drop (k+1)) i (some ⟨x.at_,x.cut,x.put++[wdAt b k]⟩)):=uH (by
           rw [HE.out,goPut (by rw [HL'.out];exact hk3) (fun hi=>⟨fun e=>he ⟨by rw [HL.out] at hi;exact hi,hk3,e⟩,fun hl=>hc ⟨by rw [HL.out] at hi;exact hi,hl⟩⟩),HEx.out];rfl)
          clear HE HEx he hc;generalize wdAt b k=l at *;have kk3:(k:Int) < (n':Int):=(by omega);obtain ⟨xat,xcut,xA,xn,xc,xput⟩:=x;dsimp only at hx1 hx2 hx3 l1 l2 HE2;obtain ⟨l2c,l2f⟩:=l2;have hal9:Below w9.heap.size w9 (w9.alloc (.cells #[.string (mkStr l)] 9)):=(Below.refl _ _).alloc (Nat.le_refl _) _;have l2a:=kcell hal9 l2c;obtain ⟨v8,w8,hrun,hown8,hg8,hat8⟩:=run_append_any (P:=Tryz.prog) (w:=(w9.alloc (.cells #[.string (mkStr l)] 9)).drew) w2.heap.size 27 27 9 j0 _ 1 16 Tryz.underlying27 hj hy0 hy1 hy2 rfl (by omega) (.slice xA xn xc) xn (xput.map strP) (World.ownsRow.alloc HC9.out.2.1 _) (w9.heap.size+1) (some ⟨w9.heap.size,0,none⟩) 1 1 [.string (mkStr l)] (rowNew1 _ _ _) (by simp [Value.oneCell']) (by unfold maxLen;omega) (by omega) (by show w2.heap.size≤(w9.alloc _).heap.size;simp;omega);have hrun':(appZ #[27,27] 27 #[.slice xA xn xc,.slice (some ⟨w9.heap.size,0,none⟩) 1 1]).run Tryz.prog (w9.alloc (.cells #[.string (mkStr l)] 9)).drew = .ok v8 w8:=hrun;obtain ⟨A8,c8,rfl,hc8,hm8⟩:=ownG_form hown8;have hg9:w9.grownBy w8 (Value.slice xA xn xc).ownBlock:=⟨hg8.os.trans hal9.os,hg8.tape,hg8.output.trans hal9.output,Nat.le_trans hal9.size hg8.size,fun q hq hne=>(hg8.block q (Nat.lt_of_lt_of_le hq hal9.size) hne).trans (hal9.block q hq)⟩;have hr1:(Value.slice xA xn xc).ownBlock≠some gv:=fun e=>(HC9.out.2.2 gv e).1 hov;have hr2 : ∀ y∈D0,0 < y.n→∀ p,y.A=some p→(Value.slice xA xn xc).ownBlock≠some p.block:=fun y hy hp p hpA e=>(HC9.out.2.2 p.block e).2 y hy hp p hpA rfl;have h08:w8.ownsRow w.heap.size 116 3 (.slice (some ⟨gv,0,none⟩) (D0.length+1) cv) (D0++[(⟨xat,xcut,xA,xn,xc,xput⟩:Mr)]).length ((D0++[(⟨xat,xcut,xA,xn,xc,xput⟩:Mr)]).flatMap mkC):=ownG_congr HO9.out.1 (fun q hq=>hg9.block q (ownG_lt HO9.out.1 hq) (fun e=>hr1 (by rw [← e,← hov,hq])));have hgl:(D0++[(⟨xat,xcut,xA,xn,xc,xput⟩:Mr)])[D0.length]? = some ⟨xat,xcut,xA,xn,xc,xput⟩:=(by simp);obtain ⟨l8c,l8f⟩:=own_cell h08 hov (flat_at mkC_len _ _ _ 2 (.slice xA xn xc) hgl rfl);have hpl:xput.length=xn:=HC9.out.1;have hIn8:WdsIn w8 w8.heap.size A8 (xn+1) c8 (xput++[l]):=⟨by rw [List.length_append,hpl];rfl,hc8,hm8,by rw [List.map_append];exact Row.of_own hown8⟩;have hA8 : ∀ q,(Value.slice A8 (xn+1) c8).ownBlock=some q→gv≠q∧(∀ y∈D0,0 < y.n→∀ p,y.A=some p→p.block≠q):=fun q hq=>by
           rcases hat8 with e | e
           ·have hq2:=e.symm.trans hq;exact ⟨fun e2=>hr1 (by rw [hq2,e2]),(HC9.out.2.2 q hq2).2⟩
           ·rw [e] at hq;injection hq with hq;have hq3:q=(w9.alloc (.cells #[.string (mkStr l)] 9)).heap.size:=hq.symm;rw [World.size_alloc] at hq3;exact ⟨by omega,fun y hy hp p hpA=>by have:=((HO9.out.2 y (by simp [hy])).2 hp p hpA).2;omega⟩
          have HO2':Hid (MrOwn (w8.setCell ⟨gv,D0.length * 3+2,none⟩ (.slice A8 (xn+1) c8)) w.heap.size (.slice (some ⟨gv,0,none⟩) (D0.length+1) cv) (D0++(some (⟨xat,xcut,A8,xn+1,c8,xput++[l]⟩:Mr)).toList)):=uH (MrOwn.put (x':=⟨xat,xcut,A8,xn+1,c8,xput++[l]⟩) HO9.out hov hg9 hr1 hr2 rfl rfl hIn8 (fun _ p hpA=>by
           have hpA':A8=some p:=hpA;have hob:(Value.slice A8 (xn+1) c8).ownBlock=some p.block:=(by rw [hpA'];rfl);exact ⟨fun e=>(hA8 _ hob).1 (by rw [hov] at e;injection e),ownG_lt hown8 hob⟩))
          have HC2:Hid (∀ y,some (⟨xat,xcut,A8,xn+1,c8,xput++[l]⟩:Mr)=some y→CurOwn (w8.setCell ⟨gv,D0.length * 3+2,none⟩ (.slice A8 (xn+1) c8)) w2.heap.size (.slice (some ⟨gv,0,none⟩) (D0.length+1) cv) D0 y∧y.at_≤i∧y.cut≤i∧y.n≤k+1):=uH (fun y hy=>by
           injection hy with hy;subst hy;have hC8:CurOwn w8 w2.heap.size (.slice (some ⟨gv,0,none⟩) (D0.length+1) cv) D0 ⟨xat,xcut,A8,xn+1,c8,xput++[l]⟩:=⟨by show (xput++[l]).length=xn+1;rw [List.length_append,hpl];rfl,by show w8.ownsRow w2.heap.size 9 1 (.slice A8 (xn+1) c8) (xn+1) ((xput++[l]).map strP);rw [List.map_append];exact hown8,fun q hq=>⟨fun e=>(hA8 q hq).1 (by rw [hov] at e;injection e),(hA8 q hq).2⟩⟩;exact ⟨hC8.far hov,hx1,hx2,by show xn+1≤k+1;omega⟩)
          have HG2:Hid (w2.grownBy (w8.setCell ⟨gv,D0.length * 3+2,none⟩ (.slice A8 (xn+1) c8)) (some w.heap.size)):=uH ((HG9.out.andThen hg9 (fun q hq=>.inl (ownG_base HC9.out.2.1 hq))).andThen (only_set1 w8 gv _ _) (fun q hq=>(HV7.out q (hov.trans hq)).elim (fun e=>.inr (by rw [e])) (fun e=>.inl e)));have HX2:Hid (D0.length+(some (⟨xat,xcut,A8,xn+1,c8,xput++[l]⟩:Mr)).toList.length≤i+(k+1)):=uH (by have:=HX.out;simp;omega);clear hr1 hr2 h08 hgl hpl hIn8 hA8 hown8 hg8 hat8 hrun hg9 HO9 HC9 HG9 HX l1;(go_wp2_with fail);go_region
          all_goals
           go_wp2;go_roundw
           case rel=>exact ⟨i,k+1,D0,some ⟨xat,xcut,A8,xn+1,c8,xput++[l]⟩,_,by omega,by omega,rfl,rfl,by go_num,rfl,HE2,HX2,HO2',HC2,HV7,HG2⟩
           case measure=>simp [intOf] <;> omega
    ·rw [decide_eq_false hgo];have HE2:Hid (makeO a b=some ((D0++o.toList).map Mr.dat)):=uH (by
      rw [HR.out,HE.out,goEnd (by rw [HL.out];omega) (by rw [HL'.out];omega),List.map_append];congr 2
      cases o <;> rfl)
     obtain ⟨A6,c6,rfl,hc6,hm6⟩:=ownG_form HO.out.1;have HM:=uH (MrOwn.reads HO.out rfl);have HBo:=uH hb.out;clear HE HO HC;go_wp2;go_returns;exact ⟨.inr ⟨A6,c6,D0++o.toList,HE2.out,rfl,HM.out⟩,HBo.out⟩
end Go.Proofs.YtbkhnljaajajiaaGreatDoor
namespace Go.Proofs.YtbkhnljaajajiaaGreatDoor
open Go.ChangeShapes Go.WideShapes Go.ChangeAt Go.RowKit
def curF (b:List Wd) (i k fA fB:Nat):Option Mk:=if fA < i∨fB < k then some ⟨fA,i - fA,(b.drop fB).take (k - fB)⟩ else none
theorem curF_of {b:List Wd} {i k fA fB:Nat} (h1:fA≤i) (h2:fB≤k):curOf i (curF b i k fA fB)=⟨fA,i - fA,(b.drop fB).take (k - fB)⟩:=by
 unfold curF curOf;by_cases h:fA < i∨fB < k
 ·rw [if_pos h];rfl
 ·rw [if_neg h];have e1:fA=i:=(by omega);have e2:fB=k:=(by omega);subst e1 e2;simp
theorem curF_new (b:List Wd) (i k:Nat):curF b i k i k=none:=if_neg (by omega)
theorem curF_cut {b:List Wd} {i k fA fB:Nat} (h1:fA≤i) (h2:fB≤k):some (⟨(curOf i (curF b i k fA fB)).at_,(curOf i (curF b i k fA fB)).cut+1,(curOf i (curF b i k fA fB)).put⟩:Mk)=curF b (i+1) k fA fB:=by
 rw [curF_of h1 h2];unfold curF;rw [if_pos (by omega)];congr 2;show i - fA+1=i+1 - fA;omega
theorem curF_put {b:List Wd} {i k fA fB:Nat} (h1:fA≤i) (h2:fB≤k) (hk:k < b.length):some (⟨(curOf i (curF b i k fA fB)).at_,(curOf i (curF b i k fA fB)).cut,(curOf i (curF b i k fA fB)).put++[wdAt b k]⟩:Mk)=curF b i (k+1) fA fB:=by
 rw [curF_of h1 h2];unfold curF;rw [if_pos (by omega)];congr 2
 show (b.drop fB).take (k - fB)++[wdAt b k]=(b.drop fB).take (k+1 - fB)
 rw [show k+1 - fB=k - fB+1 by omega,List.take_add_one,List.getElem?_drop,show fB+(k - fB)=k by omega,wdAt_some hk];rfl
def VarsM (w:World) (g i k fA fB:Nat) (v:Value):Prop :=
 Blk w (g+1) 41 #[v]∧Blk w (g+2) 3 #[.int .i64 (fA:Int)]∧Blk w (g+3) 3 #[.int .i64 (fB:Int)]∧Blk w (g+4) 3 #[.int .i64 (i:Int)]∧Blk w (g+5) 3 #[.int .i64 (k:Int)]
section
variable {w w':World} {g i k fA fB:Nat} {v:Value}
theorem VarsM.below (h:VarsM w g i k fA fB v) (hb:Below w.heap.size w w'):VarsM w' g i k fA fB v:=⟨h.1.below hb,h.2.1.below hb,h.2.2.1.below hb,h.2.2.2.1.below hb,h.2.2.2.2.below hb⟩
theorem VarsM.grown {row:Option Nat} (h:VarsM w g i k fA fB v) (hg:w.grownBy w' row) (hr : ∀ q,row=some q→q≤g∨g+6≤q):VarsM w' g i k fA fB v:=by
 have key : ∀ {q:Nat} {t:TypeId} {cs:Array Value},Blk w q t cs→g < q→q < g+6→Blk w' q t cs:=fun hb h1 h2=>(hg.block _ hb.lt (fun e=>by have:=hr _ e.symm;omega)).trans hb;exact ⟨key h.1 (by omega) (by omega),key h.2.1 (by omega) (by omega),key h.2.2.1 (by omega) (by omega),key h.2.2.2.1 (by omega) (by omega),key h.2.2.2.2 (by omega) (by omega)⟩
theorem VarsM.setM (h:VarsM w g i k fA fB v) (u:Value):VarsM (w.setCell ⟨g+1,0,none⟩ u) g i k fA fB u :=
 ⟨h.1.set 0 u,h.2.1.far (by simp) u,h.2.2.1.far (by simp) u,h.2.2.2.1.far (by simp) u,h.2.2.2.2.far (by simp) u⟩
theorem VarsM.setA (h:VarsM w g i k fA fB v) (u:Nat):VarsM (w.setCell ⟨g+2,0,none⟩ (.int .i64 (u:Int))) g i k u fB v :=
 ⟨h.1.far (by simp) _,h.2.1.set 0 _,h.2.2.1.far (by simp) _,h.2.2.2.1.far (by simp) _,h.2.2.2.2.far (by simp) _⟩
theorem VarsM.setB (h:VarsM w g i k fA fB v) (u:Nat):VarsM (w.setCell ⟨g+3,0,none⟩ (.int .i64 (u:Int))) g i k fA u v :=
 ⟨h.1.far (by simp) _,h.2.1.far (by simp) _,h.2.2.1.set 0 _,h.2.2.2.1.far (by simp) _,h.2.2.2.2.far (by simp) _⟩
theorem VarsM.setI (h:VarsM w g i k fA fB v) (u:Nat):VarsM (w.setCell ⟨g+4,0,none⟩ (.int .i64 (u:Int))) g u k fA fB v :=
 ⟨h.1.far (by simp) _,h.2.1.far (by simp) _,h.2.2.1.far (by simp) _,h.2.2.2.1.set 0 _,h.2.2.2.2.far (by simp) _⟩
theorem VarsM.setJ (h:VarsM w g i k fA fB v) (u:Nat):VarsM (w.setCell ⟨g+5,0,none⟩ (.int .i64 (u:Int))) g i u fA fB v :=
 ⟨h.1.far (by simp) _,h.2.1.far (by simp) _,h.2.2.1.far (by simp) _,h.2.2.2.1.far (by simp) _,h.2.2.2.2.set 0 _⟩
end
def cellNat (w:World) (b:Nat):Nat:=match w.cell? ⟨b,0,none⟩ with | some v=>(intOf v).toNat | none=>0
theorem cellNat_of {w:World} {b:Nat} {t:TypeId} {x:Nat} (h:Blk w b t #[.int .i64 (x:Int)]):cellNat w b=x:=by
 unfold cellNat;rw [h.cell 0];simp [intOf]
theorem MrOwn.far {w:World} {B q j:Nat} {v u:Value} {xs:List Mr} (h:MrOwn w B v xs) (hq:v.ownBlock≠some q) (hx : ∀ x∈xs,0 < x.n→∀ a,x.A=some a→a.block≠q):MrOwn (w.setCell ⟨q,j,none⟩ u) B v xs:=by
 have hg:=only_set1 w q j u;exact ⟨ownG_congr h.1 (fun r hr=>hg.block r (ownG_lt h.1 hr) (fun e=>hq (by rw [hr,e]))),fun x hm=>⟨WdsIn.grown (h.2 x hm).1 hg (fun hp a ha e=>hx x hm hp a ha (by injection e with e;exact e.symm)),fun hp a ha=>⟨((h.2 x hm).2 hp a ha).1,by simpa using ((h.2 x hm).2 hp a ha).2⟩⟩⟩
def LoopM (w1 wr:World) (g i k fA fB:Nat) (D:List Mr) (v:Value):Prop :=
 VarsM wr g i k fA fB v∧MrOwn wr g v D∧(∀ q,v.ownBlock=some q→q=g∨g+6≤q)∧Below g w1 wr∧∀ x∈D,0 < x.n→∀ p,x.A=some p→g+6≤p.block
section
variable {w1 w w':World} {g i k fA fB:Nat} {D:List Mr} {v:Value}
theorem LoopM.size (h:LoopM w1 w g i k fA fB D v):g+6≤w.heap.size:=h.1.2.2.2.2.lt
theorem LoopM.below (h:LoopM w1 w g i k fA fB D v) (hb:Below w.heap.size w w'):LoopM w1 w' g i k fA fB D v :=
 ⟨h.1.below hb,h.2.1.keep hb,h.2.2.1,h.2.2.2.1.trans (hb.mono (by have:=h.size;omega)),h.2.2.2.2⟩
theorem LoopM.var (h:LoopM w1 w g i k fA fB D v) {q j:Nat} {u:Value} (hq:g < q) (hq2:q < g+6) {i' k' fA' fB':Nat} (hv:VarsM (w.setCell ⟨q,j,none⟩ u) g i' k' fA' fB' v):LoopM w1 (w.setCell ⟨q,j,none⟩ u) g i' k' fA' fB' D v :=
 ⟨hv,h.2.1.far (fun e=>by have:=h.2.2.1 q e;omega) (fun x hx hp a ha e=>by have:=h.2.2.2.2 x hx hp a ha;omega),h.2.2.1,
  h.2.2.2.1.grown (only_set1 w q j u) (by have:=h.size;omega) (fun r hr=>by injection hr with hr;omega),h.2.2.2.2⟩
theorem LoopM.setI (h:LoopM w1 w g i k fA fB D v) (u:Nat):LoopM w1 (w.setCell ⟨g+4,0,none⟩ (.int .i64 (u:Int))) g u k fA fB D v:=h.var (by omega) (by omega) (h.1.setI u)
theorem LoopM.setJ (h:LoopM w1 w g i k fA fB D v) (u:Nat):LoopM w1 (w.setCell ⟨g+5,0,none⟩ (.int .i64 (u:Int))) g i u fA fB D v:=h.var (by omega) (by omega) (h.1.setJ u)
theorem LoopM.setA (h:LoopM w1 w g i k fA fB D v) (u:Nat):LoopM w1 (w.setCell ⟨g+2,0,none⟩ (.int .i64 (u:Int))) g i k u fB D v:=h.var (by omega) (by omega) (h.1.setA u)
theorem LoopM.setB (h:LoopM w1 w g i k fA fB D v) (u:Nat):LoopM w1 (w.setCell ⟨g+3,0,none⟩ (.int .i64 (u:Int))) g i k fA u D v:=h.var (by omega) (by omega) (h.1.setB u)
theorem LoopM.drew (h:LoopM w1 w g i k fA fB D v):LoopM w1 w.drew g i k fA fB D v:=h.below (Below.refl _ _).drew
theorem LoopM.fin (h:LoopM w1 w g i k fA fB D v) {b:List Wd} (hF:FinAns w w' g (g+1) v D (fA < i∨fB < k) ⟨fA,i - fA,(b.drop fB).take (k - fB)⟩) :
  ∃ D' v',LoopM w1 w' g i k fA fB D' v'∧D'.map Mr.dat=D.map Mr.dat++(curF b i k fA fB).toList∧D'.length≤D.length+1:=by
 rcases hF with ⟨hop,hb⟩ | ⟨hop,w2,v2,x,hd,hx,rfl,hg,hO,hv⟩
 ·exact ⟨D,v,h.below hb,by unfold curF;rw [if_neg hop];simp,by omega⟩
 ·have hr : ∀ q,v.ownBlock=some q→q≤g∨g+6≤q:=(fun q hq=>by have:=h.2.2.1 q hq;omega);have hV:=h.1.grown hg hr;have hz:=h.size;have hv2 : ∀ q,v2.ownBlock=some q→q=g∨g+6≤q:=fun q hq=>by
   rcases hv with e | ⟨r,e,hr2⟩
   ·exact h.2.2.1 q (e.symm.trans hq)
   ·rw [e] at hq;injection hq with hq;omega
  have hD2 : ∀ y∈D++[x],0 < y.n→∀ p,y.A=some p→g+6≤p.block:=fun y hy hp p hpA=>by
   rcases List.mem_append.1 hy with hy | hy
   ·exact h.2.2.2.2 y hy hp p hpA
   ·rw [List.mem_singleton] at hy;subst hy;have:=hx hp p hpA;omega
  refine ⟨D++[x],v2,⟨hV.setM v2,hO.far (fun e=>by have:=hv2 _ e;omega) (fun y hy hp a ha e=>by have:=hD2 y hy hp a ha;omega),hv2,?_,hD2⟩,by unfold curF;rw [if_pos hop,List.map_append];simp [hd],by simp⟩;have b1:Below g w1 w2:=h.2.2.2.1.grown hg (by omega) (fun q hq=>by have:=h.2.2.1 q hq;omega);exact b1.grown (only_set1 w2 (g+1) 0 v2) (by have:=hg.size;omega) (fun r hr=>by injection hr with hr;omega)
end
theorem LoopM.start {w1:World} (g:Nat) (hg:w1.heap.size=g) :
  LoopM w1 ((((((w1.alloc (.cells #[] 116)).alloc (.cells #[.slice (some ⟨g,0,none⟩) 0 0] 41)).alloc (.cells #[.int .i64 0] 3)).alloc (.cells #[.int .i64 0] 3)).alloc (.cells #[.int .i64 0] 3)).alloc (.cells #[.int .i64 0] 3)) g 0 0 0 0 [] (.slice (some ⟨g,0,none⟩) 0 0):=by
 subst hg;have e1:(w1.alloc (.cells #[] 116)).heap.size=w1.heap.size+1:=(by simp);have key : ∀ (W:World) (n:Nat) (cs:Array Value) (t:TypeId),W.heap.size=n→Blk (W.alloc (.cells cs t)) n t cs:=(fun W n cs t h=>by subst h;exact Blk.new _ _ _);refine ⟨⟨((((key _ _ _ _ (by simp)).alloc _).alloc _).alloc _).alloc _,(((key _ _ _ _ (by simp)).alloc _).alloc _).alloc _,((key _ _ _ _ (by simp)).alloc _).alloc _,(key _ _ _ _ (by simp)).alloc _,key _ _ _ _ (by simp)⟩,?_,fun q hq=>.inl (by injection hq with hq;exact hq.symm),?_,by simp⟩
 ·have h0:=MrOwn.made w1;have al : ∀ (W:World) (o:Obj),Below W.heap.size W (W.alloc o):=fun W o=>(Below.refl _ _).alloc (Nat.le_refl _) _;exact ((((h0.keep (al _ _)).keep (al _ _)).keep (al _ _)).keep (al _ _)).keep (al _ _)
 ·exact ((((((Below.refl _ _).alloc (Nat.le_refl _) _).alloc (by simp) _).alloc (by simp;omega) _).alloc (by simp;omega) _).alloc (by simp;omega) _).alloc (by simp;omega) _
set_option maxHeartbeats 3200000 in
theorem implMarksMake (A:Option Addr) (n c:Nat) (a:List Wd) (A':Option Addr) (n' c':Nat) (b:List Wd) (w:World) (hW : ∀ l∈a,l.length≤maxLen) (hW' : ∀ l∈b,l.length≤maxLen) (h:WdsIn w w.heap.size A n c a) (h':WdsIn w w.heap.size A' n' c' b) :
  Calls Tryz.prog 27 #[.slice A n c,.slice A' n' c'] w fun e w'=>MkAns w' (makeO a b) e∧Below w.heap.size w w':=by
 have hal:Below w.heap.size w (w.alloc (.cells #[.slice A' n' c'] 27)):=(Below.refl _ _).alloc (Nat.le_refl _) _;have HS:=uH (implSpeechValid A n c a _ hW (h.keep hal));have HS':=uH (implSpeechValid A' n' c' b _ hW' (h'.keep hal));have HL:=uH h.1;have HL':=uH h'.1;have H:=uH h;have H':=uH h';have HZ:=uH (fun (W:World) (AA:Option Addr)=>MrsIn.zero W W.heap.size AA);clear h h' hW hW';cases hA:spB a with
 | false =>
  have HR:Hid (makeO a b=none):=uH (if_neg (by rw [hA];simp));rw [hA] at HS;clear hA;go_enter Tryz.func27,Tryz.ntmps27
  (go_wp2_with fail);refine HS.out.mono ?_;rintro e w1 ⟨rfl,rfl⟩;go_wp2;go_returns;exact ⟨.inl ⟨HR.out,_,_,rfl,HZ.out _ _⟩,hal⟩
 | true =>
 cases hB:spB b with
 | false =>
  have HR:Hid (makeO a b=none):=uH (if_neg (by rw [hB];simp));rw [hA] at HS;rw [hB] at HS';clear hA hB;go_enter Tryz.func27,Tryz.ntmps27
  (go_wp2_with fail);refine HS.out.mono ?_;rintro e w1 ⟨rfl,rfl⟩;(go_wp2_with fail);refine HS'.out.mono ?_;rintro e w1 ⟨rfl,rfl⟩;go_wp2;go_returns;exact ⟨.inl ⟨HR.out,_,_,rfl,HZ.out _ _⟩,hal⟩
 | true =>
  have HR:Hid (makeO a b=some (mkAll a b)):=uH (if_pos (by rw [hA,hB];rfl));have h20:n≤20:=(by have:=(spB_iff.1 hA).2;rw [HL.out] at this;exact this);have h20':n'≤20:=(by have:=(spB_iff.1 hB).2;rw [HL'.out] at this;exact this);rw [hA] at HS;rw [hB] at HS';have HT:=uH (implFarTable A n c a A' n' c' b _ h20 h20' (H.out.keep hal) (H'.out.keep hal));clear hA hB;go_enter Tryz.func27,Tryz.ntmps27
  (go_wp2_with fail);refine HS.out.mono ?_;rintro e w1 ⟨rfl,rfl⟩;(go_wp2_with fail);refine HS'.out.mono ?_;rintro e w1 ⟨rfl,rfl⟩;(go_wp2_with fail);refine HT.out.mono ?_;rintro e w1 ⟨⟨v7,rfl,gt,rb,rfl,hg1,hg2,hTc⟩,hb2⟩;simp only [World.size_alloc] at hg1;have b1:=below_next hal hb2;have hbc:=kcell hb2 (newcell w #[.slice A' n' c'] 27 0 _ rfl);obtain ⟨g,hg⟩ : ∃ g,w1.heap.size=g:=⟨_,rfl⟩;have hNg:w.heap.size < g:=(by rw [← hg];exact World.block_lt_of_cell? _ _ hbc);have HTC:Hid (TabC w1 gt rb a b):=uH (fun i hi=>⟨(hTc i hi).1,(hTc i hi).2.2.2⟩);have HTb:Hid (gt < g∧∀ i,i≤a.length→rb i < g):=uH ⟨by rw [← hg];exact hg2,fun i hi=>by rw [← hg];exact (hTc i hi).2.2.1⟩;have HB1:=uH b1;have HBc:=uH hbc;have HM0:=uH (LoopM.start g hg);have HGo0:Hid (mkAll a b=([]:List Mr).map Mr.dat++mkGo (a.drop 0) (b.drop 0) 0 (curF b 0 0 0 0)):=uH rfl;rw [HL.out];clear hTc hb2 HT HS HS' hal hg2 b1 hbc;have HFC:=uH (fun (W:World) (i k fA fB:Nat) (D:List Mr) (v:Value) (hM:LoopM w1 W g i k fA fB D v) (h1:fA≤i) (h2:i≤20) (h3:fB≤k) (h4:k≤n') (hD:D.length≤40) =>
   (finishC (g+4) (g+2) (g+5) (g+3) w.heap.size (g+1) i fA k fB g A' n' c' b v D W (hM.1.2.2.2.1.cell 0) (hM.1.2.1.cell 0) (hM.1.2.2.2.2.cell 0) (hM.1.2.2.1.cell 0) ((hM.2.2.2.1.cell hNg).trans HBc.out) ⟨hM.1.1.cell 0,hM.1.1.free 0⟩
    (H'.out.keep (HB1.out.trans (hM.2.2.2.1.mono (by omega)))) hM.2.1 (fun e=>by have:=hM.2.2.1 _ e;omega) (by have:=hM.size;omega) h1 h2 h3 h4 h20' hD).mono (fun e w' (hh:e = .returned (.tuple #[])∧FinAns W w' g (g+1) v D (fA < i∨fB < k) ⟨fA,i - fA,(b.drop fB).take (k - fB)⟩)=>(⟨hh.1,hM.fin hh.2⟩:e = .returned (.tuple #[])∧∃ D' v',LoopM w1 w' g i k fA fB D' v'∧D'.map Mr.dat=D.map Mr.dat++(curF b i k fA fB).toList∧D'.length≤D.length+1)))
  (go_wp2_with fail);rw [show g+1+1+1+1+1=g+5 from rfl,show g+1+1+1+1=g+4 from rfl,show g+1+1+1=g+3 from rfl,show g+1+1=g+2 from rfl];go_loopw [] (fun wr=>∃ (i k fA fB:Nat) (D:List Mr) (v:Value),i≤n∧k≤n'∧fA≤i∧fB≤k∧Hid (mkAll a b=D.map Mr.dat++mkGo (a.drop i) (b.drop k) i (curF b i k fA fB))∧Hid (D.length≤fA+fB)∧Hid (LoopM w1 wr g i k fA fB D v)) (fun wr=>(n - cellNat wr (g+4))+(n' - cellNat wr (g+5)))
  case atStart=>exact ⟨0,0,0,0,[],_,Nat.zero_le _,Nat.zero_le _,Nat.le_refl _,Nat.le_refl _,HGo0,uH (by simp),HM0⟩
  case round =>
   obtain ⟨i,k,fA,fB,D,v,hin,hkn,hfi,hfk,HE,HX,HM⟩:=hrel;have ii1:(0:Int)≤(i:Int):=(by omega);have kk1:(0:Int)≤(k:Int):=(by omega);have cI:wr.cell? ⟨g+4,0,none⟩=some (.int .i64 (i:Int)):=HM.out.1.2.2.2.1.cell 0;have cK:wr.cell? ⟨g+5,0,none⟩=some (.int .i64 (k:Int)):=HM.out.1.2.2.2.2.cell 0;have cb:wr.cell? ⟨w.heap.size,0,none⟩=some (.slice A' n' c'):=(HM.out.2.2.2.1.cell hNg).trans HBc.out;have mI:cellNat wr (g+4)=i:=cellNat_of HM.out.1.2.2.2.1;have mK:cellNat wr (g+5)=k:=cellNat_of HM.out.1.2.2.2.2;have HmI:=uH mI;have HmK:=uH mK;clear mI mK
   go_upto_region 8 with fail
   go_cut [35] (fun c35 wx=>wr=wx∧Value.bool (decide (i < n∨k < n'))=c35)
   case first =>
    by_cases hi:i < n
    ·have e0:(i:Int) < (n:Int):=(by omega);go_wp2
     go_meet
     exact ⟨rfl,congrArg Value.bool (decide_eq_true (.inl hi))⟩
    ·have e0 : ¬ (i:Int) < (n:Int):=(by omega);by_cases hk:k < n'
     ·have e1:(k:Int) < (n':Int):=(by omega);go_wp2
      go_meet
      exact ⟨rfl,congrArg Value.bool (decide_eq_true (.inr hk))⟩
     ·have e1 : ¬ (k:Int) < (n':Int):=(by omega);go_wp2
      go_meet
      exact ⟨rfl,congrArg Value.bool (decide_eq_false (fun h=>h.elim hi hk))⟩
   case rest =>
    obtain ⟨rfl,rfl⟩:=hcut;by_cases hgo:i < n∨k < n'
    ·rw [decide_eq_true hgo]
     go_upto_region 10 with fail
     go_cut [38] (fun c38 wx=>Below wr.heap.size wr wx∧Value.bool (decide (i < n∧k < n'∧wdAt a i=wdAt b k))=c38)
     case first =>
      have HbA:=uH (H.out.keep (HB1.out.trans (HM.out.2.2.2.1.mono (by omega))));have HbB:=uH (H'.out.keep (HB1.out.trans (HM.out.2.2.2.1.mono (by omega))));clear HE HX HM HTC HTb HGo0 HR HZ HFC H H';by_cases hi:i < n
      ·have e0:(i:Int) < (n:Int):=(by omega);by_cases hk:k < n'
       ·have e1:(k:Int) < (n':Int):=(by omega);obtain ⟨bA,oA,rfl,hbA,cA⟩:=HbA.out.at_ hi;obtain ⟨bB,oB,rfl,hbB,cB⟩:=HbB.out.at_ hk;have hq1:=beq_str (mkStr (wdAt b k)) (wdAt a i) (wdAt b k) rfl;have HD:Hid (decide (i < n∧k < n'∧wdAt a i=wdAt b k)=decide (wdAt a i=wdAt b k)):=uH (decide_eq_decide.2 ⟨fun h=>h.2.2,fun h=>⟨hi,hk,h⟩⟩);have qA:=qcell cA;have qB:=qcell cB;have qI:=qcell cI;have qK:=qcell cK;have qb:=qcell cb;generalize mkStr (wdAt a i)=sA at *;generalize mkStr (wdAt b k)=sB at *;generalize decide (wdAt a i=wdAt b k)=q at *;refine region_qb (by kernel_rfl) (by kernel_rfl) ?_;repeat (first | go_big_quiet_step (fail) | quiet_step (fail))
        refine wpQuiet_nil ?_;intro w5 hb5;go_wp2
        go_meet
        exact ⟨hb5,congrArg Value.bool HD.out⟩
       ·have e1 : ¬ (k:Int) < (n':Int):=(by omega);have qI:=qcell cI;have qK:=qcell cK;have qb:=qcell cb;refine region_qb (by kernel_rfl) (by kernel_rfl) ?_;repeat (first | go_big_quiet_step (fail) | quiet_step (fail))
        refine wpQuiet_nil ?_;intro w5 hb5;go_wp2
        go_meet
        exact ⟨hb5,congrArg Value.bool (decide_eq_false (fun h=>hk h.2.1))⟩
      ·have e0 : ¬ (i:Int) < (n:Int):=(by omega);have qI:=qcell cI;have qK:=qcell cK;have qb:=qcell cb;refine region_qb (by kernel_rfl) (by kernel_rfl) ?_;repeat (first | go_big_quiet_step (fail) | quiet_step (fail))
       refine wpQuiet_nil ?_;intro w5 hb5;go_wp2
       go_meet
       exact ⟨hb5,congrArg Value.bool (decide_eq_false (fun h=>hi h.1))⟩
     case rest =>
      obtain ⟨hb5,rfl⟩:=hcut;generalize wc=w5 at *;have HM5:=uH (HM.out.below hb5);clear HM cI cK cb hb5;have cI:w5.cell? ⟨g+4,0,none⟩=some (.int .i64 (i:Int)):=HM5.out.1.2.2.2.1.cell 0;have cK:w5.cell? ⟨g+5,0,none⟩=some (.int .i64 (k:Int)):=HM5.out.1.2.2.2.2.cell 0;have fI:w5.frozen? ⟨g+4,0,none⟩=false:=HM5.out.1.2.2.2.1.free 0;have fK:w5.frozen? ⟨g+5,0,none⟩=false:=HM5.out.1.2.2.2.2.free 0;by_cases he:i < n∧k < n'∧wdAt a i=wdAt b k
      ·rw [decide_eq_true he];obtain ⟨hi3,hk3,he3⟩:=he;have HC:=uH (HFC.out w5 i k fA fB D v HM5.out hfi (by omega) hfk hkn (by have:=HX.out;omega));have HE2:Hid (mkAll a b=(D.map Mr.dat++(curF b i k fA fB).toList)++mkGo (a.drop (i+1)) (b.drop (k+1)) (i+1) (curF b (i+1) (k+1) (i+1) (k+1))):=uH (by
        rw [HE.out,goEq (by rw [HL.out];exact hi3) (by rw [HL'.out];exact hk3) he3,curF_new,List.append_assoc])
       clear HE HM5 cI cK fI fK he3;(go_wp2_with fail);refine HC.out.mono ?_;rintro e w6 ⟨rfl,D6,v6,hM6,hD6,hl6⟩;have HM6:=uH hM6;have HX2:Hid (D6.length≤i+1+(k+1)):=uH (by have:=HX.out;omega);have HE6:Hid (mkAll a b=D6.map Mr.dat++mkGo (a.drop (i+1)) (b.drop (k+1)) (i+1) (curF b (i+1) (k+1) (i+1) (k+1))):=uH (by rw [hD6];exact HE2.out);have cI:w6.cell? ⟨g+4,0,none⟩=some (.int .i64 (i:Int)):=hM6.1.2.2.2.1.cell 0;have cK:w6.cell? ⟨g+5,0,none⟩=some (.int .i64 (k:Int)):=hM6.1.2.2.2.2.cell 0;have fI:w6.frozen? ⟨g+4,0,none⟩=false:=hM6.1.2.2.2.1.free 0;have fK:w6.frozen? ⟨g+5,0,none⟩=false:=hM6.1.2.2.2.2.free 0;clear HE2 HC hM6 hD6 hl6 HX;have i5:(i:Int)+1≤21:=(by omega);have k5:(k:Int)+1≤21:=by omega
       go_upto_region 12 with fail
       go_region
       all_goals
        have HM7:=((HM6.out.setI (i+1)).setJ (k+1)).drew;rw [show ((i+1:Nat):Int)=(i:Int)+1 by omega,show ((k+1:Nat):Int)=(k:Int)+1 by omega] at HM7;generalize ((w6.setCell ⟨g+4,0,none⟩ (.int .i64 ((i:Int)+1))).setCell ⟨g+5,0,none⟩ (.int .i64 ((k:Int)+1))).drew=w7 at *;have cI:w7.cell? ⟨g+4,0,none⟩=some (.int .i64 ((i+1:Nat):Int)):=HM7.1.2.2.2.1.cell 0;have cK:w7.cell? ⟨g+5,0,none⟩=some (.int .i64 ((k+1:Nat):Int)):=HM7.1.2.2.2.2.cell 0;have cA:w7.cell? ⟨g+2,0,none⟩=some (.int .i64 (fA:Int)):=HM7.1.2.1.cell 0;have cB:w7.cell? ⟨g+3,0,none⟩=some (.int .i64 (fB:Int)):=HM7.1.2.2.1.cell 0;have fA':w7.frozen? ⟨g+2,0,none⟩=false:=HM7.1.2.1.free 0;have fB':w7.frozen? ⟨g+3,0,none⟩=false:=HM7.1.2.2.1.free 0;have HM8:=uH ((HM7.setA (i+1)).setB (k+1));clear HM7;generalize hi1:i+1=i1 at *;generalize hk1:k+1=k1 at *;(go_wp2_with fail);go_region
        all_goals
         have HM9:=uH HM8.out.drew;generalize ((w7.setCell ⟨g+2,0,none⟩ (.int .i64 (i1:Int))).setCell ⟨g+3,0,none⟩ (.int .i64 (k1:Int))).drew=w9 at *;have HnI:=uH (cellNat_of HM9.out.1.2.2.2.1);have HnK:=uH (cellNat_of HM9.out.1.2.2.2.2);clear HM8 cI cK cA cB fA' fB';go_wp2;go_roundw
         case rel=>exact ⟨i1,k1,i1,k1,D6,v6,by omega,by omega,Nat.le_refl _,Nat.le_refl _,HE6,HX2,HM9⟩
         case measure=>rw [HnI.out,HnK.out,HmI.out,HmK.out];omega
      ·rw [decide_eq_false he]
       go_upto_region 14 with fail
       go_cut [68] (fun c68 wx=>Below w5.heap.size w5 wx∧Value.bool (decide (i < n∧dst (a.drop (i+1)) (b.drop k) < dst (a.drop i) (b.drop k)))=c68)
       case first =>
        have HTz:Hid (TabC w5 gt rb a b):=uH (fun i hi=>⟨(HM5.out.2.2.2.1.cell HTb.out.1).trans (HTC.out i hi).1,fun j hj=>(HM5.out.2.2.2.1.cell (HTb.out.2 i hi)).trans ((HTC.out i hi).2 j hj)⟩);clear HE HX HM5 HTC HTb HGo0 HR HZ HFC H H' fI fK;have qI:=qcell cI;have qK:=qcell cK;by_cases hi3:i < n
        ·have e0:(i:Int) < (n:Int):=(by omega);have i4:(i:Int)+1 < (n:Int)+1:=(by omega);have i5:(i:Int) < (n:Int)+1:=(by omega);have k5:(k:Int) < (n':Int)+1:=(by omega);obtain ⟨t1,t1'⟩:=HTz.out (i+1) (by rw [HL.out];omega);obtain ⟨t0,t0'⟩:=HTz.out i (by rw [HL.out];omega);have x1:=t1' k (by rw [HL'.out];exact hkn);have x0:=t0' k (by rw [HL'.out];exact hkn);rw [HL'.out] at t1 t0;have d1:=dst_40 (a:=a) (b:=b) (i+1) k;have d0:=dst_40 (a:=a) (b:=b) i k;rw [HL.out,HL'.out] at d1 d0;clear t1' t0';obtain ⟨D1,hD1⟩ : ∃ D,D=dst (a.drop (i+1)) (b.drop k):=⟨_,rfl⟩;obtain ⟨Dz,hDz⟩ : ∃ D,D=dst (a.drop i) (b.drop k):=⟨_,rfl⟩;rw [← hD1] at x1 d1;rw [← hDz] at x0 d0;have HF2:Hid (decide (i < n∧dst (a.drop (i+1)) (b.drop k) < dst (a.drop i) (b.drop k))=decide (D1 < Dz)):=uH (by
          rw [← hD1,← hDz];exact decide_eq_decide.2 ⟨fun h=>by have:=h.2;omega,fun h=>⟨hi3,by omega⟩⟩)
         clear hD1 hDz;have q1:=qcell t1;have q0:=qcell t0;have p1:=qcell x1;have p0:=qcell x0;refine region_qb (by kernel_rfl) (by kernel_rfl) ?_;repeat (first | go_big_quiet_step (fail) | quiet_step (fail))
         refine wpQuiet_nil ?_;intro w9 hb9;go_wp2
         go_meet
         exact ⟨hb9,congrArg Value.bool HF2.out⟩
        ·have e0 : ¬ (i:Int) < (n:Int):=(by omega);refine region_qb (by kernel_rfl) (by kernel_rfl) ?_;repeat (first | go_big_quiet_step (fail) | quiet_step (fail))
         refine wpQuiet_nil ?_;intro w9 hb9;go_wp2
         go_meet
         exact ⟨hb9,congrArg Value.bool (decide_eq_false (fun h=>hi3 h.1))⟩
       case rest =>
        obtain ⟨hb9,rfl⟩:=hcut;generalize wc=w9 at *;have HM9:=uH (HM5.out.below hb9);clear HM5 cI cK fI fK hb9;have cI:w9.cell? ⟨g+4,0,none⟩=some (.int .i64 (i:Int)):=HM9.out.1.2.2.2.1.cell 0;have cK:w9.cell? ⟨g+5,0,none⟩=some (.int .i64 (k:Int)):=HM9.out.1.2.2.2.2.cell 0;have fI:w9.frozen? ⟨g+4,0,none⟩=false:=HM9.out.1.2.2.2.1.free 0;have fK:w9.frozen? ⟨g+5,0,none⟩=false:=HM9.out.1.2.2.2.2.free 0;by_cases hc:i < n∧dst (a.drop (i+1)) (b.drop k) < dst (a.drop i) (b.drop k)
        ·rw [decide_eq_true hc];obtain ⟨hi3,hlt⟩:=hc;have HE2:Hid (mkAll a b=D.map Mr.dat++mkGo (a.drop (i+1)) (b.drop k) (i+1) (curF b (i+1) k fA fB)):=uH (by
          rw [HE.out,goCut (by rw [HL.out];exact hi3) (fun hk e=>he ⟨hi3,by rw [HL'.out] at hk;exact hk,e⟩) hlt,curF_cut hfi hfk])
         have HM10:=HM9.out.setI (i+1);rw [show ((i+1:Nat):Int)=(i:Int)+1 by omega] at HM10;have HMx:=uH HM10;have HnI:=uH (cellNat_of HM10.1.2.2.2.1);have HnK:=uH (cellNat_of HM10.1.2.2.2.2);clear HM10 HE HM9 hlt he;go_wp2;go_roundw
         case rel=>exact ⟨i+1,k,fA,fB,D,v,by omega,by omega,by omega,by omega,HE2,HX,HMx⟩
         case measure=>rw [HnI.out,HnK.out,HmI.out,HmK.out];omega
        ·rw [decide_eq_false hc];have hk3:k < n':=by
          apply Classical.byContradiction;intro hk;have hkn2:k=n':=(by omega);have hi3:i < n:=(by omega);refine hc ⟨hi3,?_⟩;rw [hkn2,← HL'.out];exact dst_edge (by rw [HL.out];exact hi3)
         have HE2:Hid (mkAll a b=D.map Mr.dat++mkGo (a.drop i) (b.drop (k+1)) i (curF b i (k+1) fA fB)):=uH (by
          rw [HE.out,goPut (by rw [HL'.out];exact hk3) (fun hi=>⟨fun e=>he ⟨by rw [HL.out] at hi;exact hi,hk3,e⟩,fun hl=>hc ⟨by rw [HL.out] at hi;exact hi,hl⟩⟩),curF_put hfi hfk (by rw [HL'.out];exact hk3)])
         have HM10:=HM9.out.setJ (k+1);rw [show ((k+1:Nat):Int)=(k:Int)+1 by omega] at HM10;have HMx:=uH HM10;have HnI:=uH (cellNat_of HM10.1.2.2.2.1);have HnK:=uH (cellNat_of HM10.1.2.2.2.2);clear HM10 HE HM9 hc he;go_wp2;go_roundw
         case rel=>exact ⟨i,k+1,fA,fB,D,v,by omega,by omega,by omega,by omega,HE2,HX,HMx⟩
         case measure=>rw [HnI.out,HnK.out,HmI.out,HmK.out];omega
    ·rw [decide_eq_false hgo];have HC:=uH (HFC.out wr i k fA fB D v HM.out hfi (by omega) hfk hkn (by have:=HX.out;omega));have HE2:Hid (makeO a b=some (D.map Mr.dat++(curF b i k fA fB).toList)):=uH (by
      rw [HR.out,HE.out,goEnd (by rw [HL.out];omega) (by rw [HL'.out];omega)])
     clear HE HM cI cK cb HFC;(go_wp2_with fail);refine HC.out.mono ?_;rintro e w6 ⟨rfl,D6,v6,hM6,hD6,hl6⟩;have cM:w6.cell? ⟨g+1,0,none⟩=some v6:=hM6.1.1.cell 0;have HBo:=uH (HB1.out.trans (hM6.2.2.2.1.mono (by omega)));have HE6:Hid (makeO a b=some (D6.map Mr.dat)):=uH (by rw [HE2.out,hD6]);obtain ⟨A6,c6,rfl,hc6,hm6⟩:=ownG_form hM6.2.1.1;have HMs:=uH (MrOwn.reads hM6.2.1 rfl);clear HE2 HC hM6 hD6 hl6 HX;go_wp2;go_returns;exact ⟨.inr ⟨A6,c6,D6,HE6.out,rfl,HMs.out⟩,HBo.out⟩
def TabP (w : World) : Prop := Lib.TabIs Tryz.prog w "internal/strconv.uint64pow10" .u64 Lib.pow10Tab
theorem TabP.keep {w w':World} (h:TabP w) (hb:Below w.heap.size w w'):TabP w':=Lib.tabBelow_of_tabIs h w' hb
theorem itoaDay (d:Int) (w:World) (h0:0≤d) (h1:d≤9223372036854775807) (hT:TabP w) :
  Calls Tryz.prog 50 #[.int .i64 d] w fun e w'=>e = .returned (.string (mkStr (Lib.decDigits d.toNat)))∧Below w.heap.size w w':=by
 refine (Tryz.strconv_Itoa d (by omega) h1 w hT).mono ?_;rintro e w' ⟨rfl,k,os,rfl⟩;refine ⟨?_,?_⟩
 ·unfold Lib.itoa;rw [if_neg (by omega)];rfl
 ·exact Lib.below_grow _ _ (Nat.le_refl _) _ _
theorem grown_cell {W W':World} {row:Option Nat} {a:Addr} {u:Value} (hg:W.grownBy W' row) (hne:row≠some a.block) (h:W.cell? a=some u):W'.cell? a=some u:=by
 have hlt:=World.block_lt_of_cell? _ _ h;unfold World.cell? at h ⊢;rw [hg.block _ hlt (fun e=>hne e.symm)];exact h
theorem infoStrT:(Tryz.prog.info? 9).map (fun i=>(i.zero,i.size,i.bytes))=some (some (.string ByteArray.empty),1,16):=by kernel_rfl
theorem rowStrT (w:World) (u:Value) (t:TypeId):Row (w.alloc (.cells #[u] t)) (w.heap.size+1) (some ⟨w.heap.size,0,none⟩) 1 1 [u] :=
 ⟨rfl,fun _=>⟨w.heap.size,0,rfl,by omega,fun j x hx=>by
  rcases j with _ | j
  ·simp at hx;subst hx;exact newcell w #[u] t 0 u rfl
  ·simp at hx⟩⟩
theorem dec_len20 (d:Int) (h0:0≤d) (h1:d≤9999):(Lib.decDigits d.toNat).length≤20:=by
 rw [Lib.decDigits_length];exact Lib.nDigits_le20 _ (by omega)
theorem ret_bytes {a b:List UInt8} (h:a=b):Ending.returned (.string (mkStr a)) = .returned (.string (mkStr b)):=by rw [h]
def dayV (p:Pad):Value:=.string (mkStr (dayT p))
set_option maxHeartbeats 1600000 in
theorem leafText (g:Nat) (A:Option Addr) (n c:Nat) (ps:List Pad) (w:World) (hc:w.cell? ⟨g,0,none⟩=some (.slice A n c)) (hP:PadsIn w w.heap.size A n c ps) (hok : ∀ p∈ps,okP p=true) (h4:n≤4) (hT:TabP w) :
  Calls Tryz.prog 82 #[.pointer (some ⟨g,0,none⟩)] w fun e w'=>e = .returned (.string (mkStr (drawT ps)))∧Below w.heap.size w w':=by
 have HL:=uH hP.1;have hm:=hP.2.2.1;have hnc:=hP.2.1;unfold maxLen at hm;have H:=uH hP;clear hP;have HOk:=uH hok;clear hok;have HT:=uH hT;clear hT;obtain ⟨i0,hi,hz0,hz1,hz2⟩:=info_parts infoStrT;have hc2:=kcell ((Below.refl w.heap.size w).alloc (Nat.le_refl _) (.cells #[] 9)) hc;go_enter Tryz.func82,Tryz.ntmps82
 go_wp2;go_loopw [3,12] (fun v i wr=>∃ k:Nat,k≤n∧i = .int .i64 k∧Hid (wr.ownsRow w.heap.size 9 1 v k ((ps.take k).map dayV))∧Below w.heap.size w wr) (fun _ i _=>n - (intOf i).toNat)
 case atStart =>
  refine ⟨0,Nat.zero_le _,rfl,uH ?_,(Below.refl _ _).alloc (Nat.le_refl _) _⟩;exact World.ownsRow_made w #[] 0 (Nat.le_refl _) (by simp) (by simp)
 case round =>
  obtain ⟨k,hk,rfl,HO,hb⟩:=hrel;have hz:=hb.size;by_cases hlt:k < n
  ·have hkl:k < ps.length:=(by rw [HL.out];exact hlt);obtain ⟨b,off,eA,hbB,c0,c1,_⟩:=(H.out.keep hb).at_ hlt;have hpo:=HOk.out (padAt ps k) (padAt_mem hkl);obtain ⟨hd0,hd1,hcl⟩:=ok_case hpo;have hal:Below wr.heap.size wr (wr.alloc (.cells #[.int .i64 (padAt ps k).day,.string (padAt ps k).case] 53)):=(Below.refl _ _).alloc (Nat.le_refl _) _;have bA:=hb.alloc hz (.cells #[.int .i64 (padAt ps k).day,.string (padAt ps k).case] 53);have p0:=newcell wr #[.int .i64 (padAt ps k).day,.string (padAt ps k).case] 53 0 (.int .i64 (padAt ps k).day) rfl;have p1:=newcell wr #[.int .i64 (padAt ps k).day,.string (padAt ps k).case] 53 1 (.string (padAt ps k).case) rfl;have HIt:Hid (∀ W,Below w.heap.size w W→Calls Tryz.prog 50 #[.int .i64 (padAt ps k).day] W fun e w'=>e = .returned (.string (mkStr (Lib.decDigits (padAt ps k).day.toNat)))∧Below W.heap.size W w'):=uH (fun W hW=>itoaDay _ W hd0 (by omega) (HT.out.keep hW));have hdl:=dec_len20 (padAt ps k).day hd0 hd1;have hadd1 : ∀ W',(Op.stringOp .add (mkStr (Lib.decDigits (padAt ps k).day.toNat)) { data:=#[58] }).run Tryz.prog W' = .ok (.string (mkStr (Lib.decDigits (padAt ps k).day.toNat++[58]))) W':=fun W'=>run_add _ [58] (by simp;omega) W';have hadd2 : ∀ W',(Op.stringOp .add (mkStr (Lib.decDigits (padAt ps k).day.toNat++[58])) (padAt ps k).case).run Tryz.prog W' = .ok (.string (mkStr (dayT (padAt ps k)))) W':=fun W'=>by
    have h:=run_add (P:=Tryz.prog) (Lib.decDigits (padAt ps k).day.toNat++[58]) (padAt ps k).case.data.toList (by rw [List.length_append,List.length_singleton];omega) W';rw [mkStr_self] at h;rw [h];unfold dayT;rw [List.append_assoc]
   have HSt:Hid ((ps.take (k+1)).map dayV=(ps.take k).map dayV++[.string (mkStr (dayT (padAt ps k)))]):=uH (by rw [padTake hkl,List.map_append];rfl);have HOA:=uH (HO.out.alloc (.cells #[.int .i64 (padAt ps k).day,.string (padAt ps k).case] 53));have HI2:Hid (∀ W,Below (wr.alloc (.cells #[.int .i64 (padAt ps k).day,.string (padAt ps k).case] 53)).heap.size (wr.alloc (.cells #[.int .i64 (padAt ps k).day,.string (padAt ps k).case] 53)) W→Calls Tryz.prog 50 #[.int .i64 (padAt ps k).day] W fun e w3=>e = .returned (.string (mkStr (Lib.decDigits (padAt ps k).day.toNat)))∧Hid (w3.ownsRow w.heap.size 9 1 u3 k ((ps.take k).map dayV))∧Below w.heap.size w w3∧w3.cell? ⟨wr.heap.size,0,none⟩=some (.int .i64 (padAt ps k).day)∧w3.cell? ⟨wr.heap.size,1,none⟩=some (.string (padAt ps k).case)∧(∀ o,(w3.alloc o).cell? ⟨wr.heap.size,0,none⟩=some (.int .i64 (padAt ps k).day))∧∀ o,(w3.alloc o).cell? ⟨wr.heap.size,1,none⟩=some (.string (padAt ps k).case)):=uH (fun W hW=>(HIt.out W (below_step bA bA.size hW)).mono fun e w3 ⟨he,hb3⟩=>by
    have h3:=below_next hW hb3;have q0:=kcell h3 p0;have q1:=kcell h3 p1;exact ⟨he,uH (ownG_keep HOA.out h3),below_step bA bA.size h3,q0,q1,fun o=>kcell ((Below.refl _ _).alloc (Nat.le_refl _) o) q0,fun o=>kcell ((Below.refl _ _).alloc (Nat.le_refl _) o) q1⟩)
   have HNe:Hid (u3.ownBlock≠some wr.heap.size):=uH (fun e=>Nat.lt_irrefl _ (ownG_lt HO.out e));subst eA;clear hkl HO hpo hcl hdl HIt;generalize mkStr (Lib.decDigits (padAt ps k).day.toNat++[58])=t1 at *;generalize mkStr (Lib.decDigits (padAt ps k).day.toNat)=t0 at *;generalize mkStr (dayT (padAt ps k))=t2 at *;generalize padAt ps k=p at *;generalize (ps.take k).map dayV=L at *;(go_wp2_with fail);go_region_held3 (fun w'=>w'.cell? ⟨wr.heap.size,0,none⟩=some (.int .i64 p.day)∧w'.cell? ⟨wr.heap.size,1,none⟩=some (.string p.case)) (first | exact ⟨by assumption,by assumption⟩ | go_keep) (first
    | (go_at_call 50;refine (HI2.out _ (Below.refl _ _).drew).mono ?_;rintro e w3 ⟨rfl,HO3,b3,k0,k1,l0,l1⟩;have hz3:=b3.size)
    | ((refine step_append_any _ rfl (.tmp 16) (.tmp 24) _ rfl w.heap.size 9 i0 _ 1 16 Tryz.underlying27 hi hz0 hz1 hz2 rfl (by omega) u3 k L rfl (HO3.out.alloc _) (w3.heap.size+1) (some ⟨w3.heap.size,0,none⟩) 1 1 [.string t2] rfl (rowStrT _ _ _) (by simp [Value.oneCell']) (by unfold maxLen;omega) (by omega) (by simp;omega) ?_;intro v4 w4 hown4 hg4 hat4;have m0:=grown_cell hg4 HNe.out (l0 _);have m1:=grown_cell hg4 HNe.out (l1 _))))
   all_goals (
    have HO4:Hid (w4.ownsRow w.heap.size 9 1 v4 (k+1) ((ps.take (k+1)).map dayV)):=uH (by rw [HSt.out];exact hown4);have b4:Below w.heap.size w w4:=(b3.alloc hz3 _).grown hg4 (by simp;omega) (fun z hz=>ownG_base HO3.out hz);clear hown4 hg4 hat4 HO3 k0 k1 l0 l1 m0 m1;go_wp2;go_roundw
    case rel=>exact ⟨k+1,by omega,by go_num,HO4,b4⟩
    case measure=>simp [intOf];omega)
  ·obtain rfl:n=k:=(by omega);rw [List.take_of_length_le (by rw [HL.out];exact Nat.le_refl _)] at HO;obtain ⟨A4,c4,rfl,hc4,hm4⟩:=ownG_form HO.out;have HJ:Hid (Calls Tryz.prog 73 #[.slice A4 n c4,.string { data:=#[32] }] wr fun e w'=>e = .returned (.string (mkStr (drawT ps)))∧Below wr.heap.size wr w'):=uH (by
    have hO:=HO.out;have hle:=HL.out;by_cases h0:n=0
    ·have hps:ps=[]:=List.length_eq_zero_iff.1 (hle.trans h0);subst hps h0;exact (Tryz.strings_Join_none A4 c4 _ wr).mono fun e w' ⟨he,hw⟩=>⟨by rw [he];unfold drawT;rw [List.map_nil,Lib.join_nil];rfl,by rw [hw];exact Below.refl _ _⟩
    ·obtain ⟨g,cap,hv,_,hlt⟩:=hO.form (by omega);have hA:A4=some ⟨g,0,none⟩:=(by injection hv);subst hA;have hS:(ps.map fun p=>mkStr (dayT p)).length=n:=(by rw [List.length_map];exact hle);have hJ:=Tryz.strings_Join g 0 c4 (ps.map fun p=>mkStr (dayT p)) { data:=#[32] } wr (fun j x hx=>by
      rw [List.getElem?_map] at hx;cases hd:ps[j]? with
      | none=>rw [hd] at hx;cases hx
      | some d =>
       rw [hd] at hx;injection hx with hx;subst hx;have:wr.cell? (Addr.add ⟨g,0,none⟩ j)=some (.string (mkStr (dayT d))):=hO.cells (g:=g) rfl j (dayV d) (by rw [List.getElem?_map,hd];rfl);by_cases hj0:j=0
       ·subst hj0;simpa [Addr.add] using this
       ·simpa [Addr.add,hj0] using this) hlt (by rw [hS];omega) (by rw [hS];exact hc4) (by
      have:=drawT_len HOk.out;unfold drawT at this;rw [show (ps.map fun p=>mkStr (dayT p)).map (·.data.toList)=ps.map dayT by rw [List.map_map];rfl]
      show (Lib.join (ps.map dayT) [32]).length≤_
      omega)
     rw [hS] at hJ;rw [show (ps.map fun p=>mkStr (dayT p)).map (·.data.toList)=ps.map dayT by rw [List.map_map];rfl] at hJ;exact hJ)
   clear HO;(go_wp2_with fail);refine HJ.out.mono ?_;rintro e w3 ⟨rfl,hb3⟩;have b3:=below_next hb hb3;go_wp2;go_returns;exact ⟨rfl,b3⟩
theorem cabTxt_step {css:List (List Pad)} {k:Nat} {ps:List Pad} (h:css[k]? = some ps):cabTxt (css.take (k+1))=cabTxt (css.take k)++(drawT ps++[10]):=by
 rw [take_step h,cabTxt_app];unfold cabTxt;simp
theorem cabTxt_bd {css:List (List Pad)} (h:cabOK css) (k:Nat):(cabTxt (css.take k)).length≤822:=by
 have h1:=cabTxt_len (css:=css.take k) (fun ps hps=>cab_all h ps (List.mem_of_mem_take hps));have h2:=h.1;rw [List.length_take] at h1;have:min k css.length≤6:=(by omega);omega
set_option maxHeartbeats 1600000 in
theorem implCabinetText (A:Option Addr) (n c:Nat) (ds:List Drawer) (w:World) (h:DrawersIn w w.heap.size A n c ds) (hT:TabP w) :
  Calls Tryz.prog 35 #[.slice A n c] w fun e w'=>e = .returned (.string (mkStr (cabText (ds.map (·.ps)))))∧Below w.heap.size w w':=by
 have HC:=uH (treeOf A n c ds w h);clear h;have HTb:=uH hT;clear hT;go_enter Tryz.func35,Tryz.ntmps35
 (go_wp2_with fail);refine HC.out.mono ?_;rintro e w1 ⟨hT,b1⟩;rcases hT with ⟨hn,rfl⟩ | ⟨hy,t,v,ls,rfl,hT,hM⟩
 ·have HR:=uH (cabText_no hn);clear hn;go_wp2;go_returns;exact ⟨ret_bytes (a:=[]) HR.out.symm,b1⟩
 ·have HR:Hid (cabText (ds.map (·.ps))=cabTxt (ls.map (·.ps))):=uH (by rw [hM];exact cabText_yes hy);have HOk:Hid (cabOK (ls.map (·.ps))):=uH (by rw [hM];exact cabB_iff.1 hy);have HT1:=uH (HTb.out.keep b1);have HBu:=uH (IsBuilder.new w1);obtain ⟨hBt,hblk,hlv⟩:=hT;obtain ⟨Al,cl,rfl,hcl,hml⟩:=ownG_form hlv.1;have x0:=hblk.cell 0;have x1:=kcell ((Below.refl w1.heap.size w1).alloc (Nat.le_refl _) (.cells #[.pointer none,.slice none 0 0] 82)) x0;have HLv:=uH hlv;have h6:ls.length≤6:=(by have:=HOk.out.1;rwa [List.length_map] at this);clear hy hM hlv hblk HC HTb x0;generalize hln:ls.length=N at *;have HLn:=uH hln;clear hln;go_wp2;go_loopw [20] (fun i wr=>∃ k:Nat,k≤N∧i = .int .i64 k∧Hid (Lib.IsBuilder 82 5 w1.heap.size w1.heap.size (Lib.byteCells (cabTxt ((ls.map (·.ps)).take k))) wr)∧Below w1.heap.size w1 wr) (fun i _=>N - (intOf i).toNat)
  case atStart=>exact ⟨0,Nat.zero_le _,rfl,HBu,(Below.refl _ _).alloc (Nat.le_refl _) _⟩
  case round =>
   obtain ⟨k,hk,rfl,HB,hb⟩:=hrel;have b2:=below_next b1 hb;have hz:=hb.size;by_cases hlt:k < N
   ·have hkl:k < ls.length:=(by rw [HLn.out];exact hlt);have hcs:(ls.map (·.ps))[k]? = some (leafAt ls k).ps:=(by rw [List.getElem?_map,leafAt_some hkl];rfl);have hall:=cab_all HOk.out (leafAt ls k).ps (List.mem_of_getElem? hcs);have HSt:=uH (cabTxt_step hcs);have hbd:=cabTxt_bd HOk.out k;obtain ⟨b,off,eA,hbB,c0,hg1,c1,_,_,hPo,hgd⟩:=(HLv.out.below hb).at_ HLn.out hlt;obtain ⟨Av,cv,ev,_,_⟩:=ownG_form hPo;rw [ev] at c1 hPo;have hPi:=PadsOwn.reads hPo rfl hgd;have hTw:=HT1.out.keep hb;have HTx:=uH (leafText (leafAt ls k).g Av _ cv (leafAt ls k).ps wr c1 hPi hall.1 hall.2 hTw);have hdl:(drawT (leafAt ls k).ps).length≤136:=(by have:=drawT_len hall.1;have:=hall.2;omega);have hadd : ∀ W',(Op.stringOp .add (mkStr (drawT (leafAt ls k).ps)) { data:=#[10] }).run Tryz.prog W' = .ok (.string (mkStr (drawT (leafAt ls k).ps++[10]))) W':=fun W'=>run_add _ [10] (by simp;omega) W';have hsz:(mkStr (drawT (leafAt ls k).ps++[10])).size≤137:=(by rw [mkStr_size,List.length_append,List.length_singleton];omega);have hsc:Lib.strCells (mkStr (drawT (leafAt ls k).ps++[10]))=Lib.byteCells (drawT (leafAt ls k).ps++[10]):=strCells_mk _;have HSc:=uH hsc;subst eA;clear hcs hall hPo hgd hPi hTw hdl hsc hkl ev;generalize mkStr (drawT (leafAt ls k).ps++[10])=s2 at *;generalize drawT (leafAt ls k).ps++[10]=tl at *;generalize mkStr (drawT (leafAt ls k).ps)=s1 at *;generalize cabTxt ((ls.map (·.ps)).take k)=tx at *;(go_wp2_with fail);refine HTx.out.mono ?_;rintro e w3 ⟨rfl,hb3⟩;have b3:=hb.trans (hb3.mono hz);have HB3:=uH (IsBuilder.keep HB.out hb3);have HW:=uH (writeString w1.heap.size w1.heap.size _ s2 w3 HB3.out (by rw [Lib.byteCells_length];omega) b3.size);clear c0 c1 hb3 HB;(go_wp2_with fail);refine HW.out.mono ?_;rintro e w4 ⟨rfl,hB4,hb4⟩;have b4:=b3.trans hb4;have HB4:Hid (Lib.IsBuilder 82 5 w1.heap.size w1.heap.size (Lib.byteCells (cabTxt ((ls.map (·.ps)).take (k+1)))) w4):=uH (by
     rw [HSt.out,show Lib.byteCells (tx++tl)=Lib.byteCells tx++Lib.strCells s2 by rw [HSc.out];unfold Lib.byteCells;rw [List.map_append]];exact .inr hB4)
    clear hB4 hb4 HB3 HW;go_wp2;go_roundw
    case rel=>exact ⟨k+1,by omega,by go_num,HB4,b4⟩
    case measure=>simp [intOf];omega
   ·have e2:(ls.map (·.ps)).take k=ls.map (·.ps):=List.take_of_length_le (by rw [List.length_map,HLn.out];omega);rw [e2] at HB;have HS:=uH (Tryz.Builder_String_any w1.heap.size w1.heap.size (cabTxt (ls.map (·.ps))) wr HB.out hz);clear e2 HB;(go_wp2_with fail);refine HS.out.mono ?_;rintro e w3 ⟨rfl,hb3⟩;have b3:=b1.trans ((hb.trans hb3).mono b1.size);go_wp2;go_returns;exact ⟨ret_bytes HR.out.symm,b3⟩
end Go.Proofs.YtbkhnljaajajiaaGreatDoor
namespace Go.Proofs.YtbkhnljaajajiaaGreatDoor
open Go.ChangeShapes Go.WideShapes Go.ChangeAt Go.RowKit Go.Shelf
theorem leafWhole (t k:Nat) (v:Value) (ls:List Leaf) (l:Leaf) (B:Nat) (w:World) (h:TreeIn w B t v ls) (hl:ls[k]? = some l) (hn:l.ps.length≤4) :
  Calls Tryz.prog 139 #[.pointer (some ⟨l.g,0,none⟩)] w fun e w'=>e = .returned (.pointer none)∧w'=w:=by
 have hlI:=h.2.2.2.1 l (List.mem_of_getElem? hl);obtain ⟨A,c,e1,hnc,hcm⟩:=own_form hlI.2.2.1;have hbk:=hlI.2.1;rw [e1] at hbk;have k0:=hbk.cell 0;clear h hl hlI hbk;go_enter Tryz.func139,Tryz.ntmps139
 go_wp2;go_returns;exact ⟨rfl,rfl⟩
set_option maxHeartbeats 1000000 in
theorem leafSplit (t k:Nat) (v:Value) (ls:List Leaf) (l:Leaf) (B:Nat) (w:World) (hB:B≤w.heap.size) (h:TreeIn w B t v ls) (hl:ls[k]? = some l) (hn4:4 < l.ps.length) (hn:l.ps.length≤1048576) :
  Calls Tryz.prog 139 #[.pointer (some ⟨l.g,0,none⟩)] w fun e w'=>∃ G sv v2,e = .returned (.pointer (some ⟨G,0,none⟩))∧Below B w w'∧w.heap.size≤G∧(∀ b,sv.ownBlock=some b→w.heap.size≤b)∧(∀ b,v2.ownBlock=some b→w.heap.size≤b∧sv.ownBlock≠some b)∧LeafIn w' B ⟨G,sv,l.ps.drop ((l.ps.length+1) / 2)⟩∧TreeIn w' B t v (ls.set k ⟨l.g,v2,l.ps.take ((l.ps.length+1) / 2)⟩):=by
 have hlI:=h.2.2.2.1 l (List.mem_of_getElem? hl);obtain ⟨A,c,e1,hnc,hcm⟩:=own_form hlI.2.2.1;have hbk:=hlI.2.1;have hO:=hlI.2.2.1;rw [e1] at hbk hO;have k0:=hbk.cell 0;have HR:=uH (hO.reads rfl hlI.2.2.2);have HT:=uH h;have HL:=uH hl;have HI:=uH hlI;unfold maxLen at hcm;have hw1:IntKind.i64.wrap ((l.ps.length:Int)+1)=(l.ps.length:Int)+1:=IntWalk.i64_in _ (by omega);clear h hl hlI hbk hO;go_enter Tryz.func139,Tryz.ntmps139
 (go_wp2_with fail);have hfa:Option.map (fun x:Addr=>x.add ((l.ps.length+1) / 2 * 2)) A=fromA A ((l.ps.length+1) / 2) c 2:=(by unfold fromA;rw [if_neg (by omega)]);rw [hfa];have hgd:=HI.out.2.2.2;refine (clonePads _ _ _ (l.ps.drop ((l.ps.length+1) / 2)) w (by omega) (by omega) (HR.out.from_ (by omega))).mono ?_;rintro e w1 ⟨g1,c1,rfl,hO1,hg1,hb1⟩;have hbA:Below w.heap.size w (w1.alloc (.cells #[.slice (some ⟨g1,0,none⟩) (l.ps.length - (l.ps.length+1) / 2) c1] 192)):=hb1.alloc hb1.size _;have k2:=kcell hbA k0;have HBA:=uH hbA;have HO1:=uH hO1;have HB1:=uH hb1;clear hO1 hb1 hbA;(go_wp2_with fail);refine (clonePads _ _ _ (l.ps.take ((l.ps.length+1) / 2)) _ (by omega) (by omega) (((HR.out.upto (k:=(l.ps.length+1) / 2) (by omega)).below HBA.out).more HBA.out.size)).mono ?_;rintro e w2 ⟨g2,c2,rfl,hO2,hg2,hb2⟩;have k3:=kcell hb2 k2;have f3:=kfree (HBA.out.trans (hb2.mono HBA.out.size)) (HI.out.2.1.cell 0) (HI.out.2.1.free 0);have HO2:=uH hO2;have HB2:=uH hb2;clear hO2 hb2;go_wp2;go_returns;have hb0:=HBA.out.trans (HB2.out.mono HBA.out.size);have hlg:=HI.out.2.1.lt;have h1z:=HB1.out.size;have hg1l:=own_lt HO1.out (b:=g1) rfl;have hg2z:w1.heap.size+1≤g2:=(by simpa using hg2);have hfar : ∀ b,b < w1.heap.size+1→b≠l.g→∀ u,(w2.setCell ⟨l.g,0,none⟩ u).heap[b]? = (w1.alloc (.cells #[.slice (some ⟨g1,0,none⟩) (l.ps.length - (l.ps.length+1) / 2) c1] 192)).heap[b]? := fun b hb hne u =>
  (Below.heap_setCell w2 _ u b hne).trans (HB2.out.block b (by simpa using hb))
 refine ⟨w1.heap.size,.slice (some ⟨g1,0,none⟩) (l.ps.length - (l.ps.length+1) / 2) c1,.slice (some ⟨g2,0,none⟩) ((l.ps.length+1) / 2) c2,rfl,(hb0.mono hB).setCell HI.out.1 _,h1z,?_,?_,?_,?_⟩
 ·intro b hb;injection hb with hb;rw [← hb];exact hg1
 ·intro b hb;injection hb with hb;have hb':g2=b:=hb;refine ⟨by omega,fun e=>?_⟩;injection e with e;have e':g1=b:=e;omega
 ·refine ⟨Nat.le_trans hB h1z,?_,?_,fun x hx=>hgd x (List.mem_of_mem_drop hx)⟩
  ·exact (hfar w1.heap.size (by omega) (by omega) _).trans (Blk.new w1 _ _)
  ·refine own_congr (own_mono HO1.out hB) (fun b hb=>?_);injection hb with hb;have hb':g1=b:=hb;subst hb';exact (hfar _ (by omega) (by omega) _).trans (Below.heap_alloc w1 _ _ hg1l)
 ·exact TreeIn.turn2 HT.out HL.out (Below.only hb0) (own_mono HO2.out (Nat.le_trans hB HBA.out.size)) (fun b hb=>by injection hb with hb;have hb':g2=b:=hb;omega) (fun x hx=>hgd x (List.mem_of_mem_take hx))
end Go.Proofs.YtbkhnljaajajiaaGreatDoor
namespace Go.Proofs.YtbkhnljaajajiaaGreatDoor
open Go.ChangeShapes Go.WideShapes Go.ChangeAt Go.RowKit
def DrawnSp (B g lim most:Nat) (w:World) (e:Ending) (w':World):Prop :=
 ∃ (v:Value) (ws:List (List UInt8)),e = .returned v∧ws.length≤most∧(∀ l∈ws,l.length≤40)∧WdOwn w' w.heap.size v ws∧w.grownBy w' (some g)∧RdIn w' B g (lim+30)
theorem rowStr1 (w:World) (u:Value) (t:TypeId):Row (w.alloc (.cells #[u] t)) (w.heap.size+1) (some ⟨w.heap.size,0,none⟩) 1 1 [u]:=rowNew1 w u t
set_option maxHeartbeats 1600000 in
theorem l91Speech (g B lim most:Nat) (w:World) (hmost:most≤12) (hl:lim≤800000000) (hr:RdIn w B g lim) (hBw:B≤w.heap.size) :
  Calls Tryz.prog 97 #[.pointer (some ⟨g,0,none⟩),.int .i64 (most:Int)] w (DrawnSp B g lim most w):=by
 obtain ⟨j0,hj,hy0,hy1,hy2⟩:=info_parts infoWd;have hg:=hr.lt;have HP:=uH (pickR (n:=(most:Int)+1) (hr.alloc' (.cells #[] 9)) (by omega) (by omega) (by omega));have hO0:WdOwn (w.alloc (.cells #[] 9)) w.heap.size (.slice (some ⟨w.heap.size,0,none⟩) 0 0) []:=World.ownsRow_made w #[] 0 (Nat.le_refl _) (by simp) (by simp);have hG0:w.grownBy (w.alloc (.cells #[] 9)) (some g):=only_alloc (World.grownBy.refl w (some g)) _;clear hr;go_enter Tryz.func97,Tryz.ntmps97
 (go_wp2_with fail);refine HP.out.mono ?_;rintro e w1 ⟨N,rfl,hN,hg1,hr1⟩;have hNm:N≤most:=(by omega);have HO1:Hid (WdOwn w1 w.heap.size (.slice (some ⟨w.heap.size,0,none⟩) 0 0) []):=uH (ownG_only hO0 hg1 hg);have HG1:=uH (only_next hG0 hg1);have HR1:=uH hr1;clear hO0 hG0 hg1 hr1 HP hN;go_wp2;go_loopw [5,7] (fun s5 s7 wr=>∃ (k:Nat) (ws:List (List UInt8)) (A:Option Addr) (c:Nat),k≤N∧s5 = .slice A k c∧s7 = .int .i64 k∧Hid (ws.length=k)∧Hid (∀ l∈ws,l.length≤40)∧Hid (WdOwn wr w.heap.size (.slice A k c) ws)∧Hid (w.grownBy wr (some g))∧Hid (RdIn wr B g (lim+1+k))) (fun _ i _=>N - (intOf i).toNat)
 case atStart=>exact ⟨0,[],_,0,Nat.zero_le _,rfl,rfl,uH rfl,uH (by simp),HO1,HG1,HR1⟩
 case round =>
  obtain ⟨k,ws,A,c,hk,rfl,rfl,HL,HS,HO,HG,HR⟩:=hrel;have k0:(0:Int)≤(k:Int):=(by omega);have hzw:=HG.out.size;by_cases hlt:k < N
  ·have k1:(k:Int) < (N:Int):=(by omega);have HOf:=uH (fun cs t h=>ofNew g B (lim+1+k) 5 [⟨#[119,101]⟩,⟨#[97,114,101]⟩,⟨#[110,111,116]⟩,⟨#[104,101,114,101]⟩,⟨#[110,111,119]⟩] cs t wr h rfl (by omega) (by omega) (by decide) (by omega) HR.out);(go_wp2_with fail);refine (HOf.out _ _ rfl).mono ?_;rintro e w3 ⟨l,hl3,rfl,hg3,hr3⟩;have HO3:Hid (w3.ownsRow w.heap.size 9 1 (.slice A k c) k (ws.map strP)):=uH (by have:=ownG_only HO.out hg3 hg;rwa [HL.out] at this);have HG3:=uH (only_alloc (only_next HG.out hg3) (.cells #[.string (mkStr l)] 9));have HR3:=uH (hr3.alloc' (.cells #[.string (mkStr l)] 9));have hbs:w.heap.size≤(w3.alloc (.cells #[.string (mkStr l)] 9)).heap.size:=HG3.out.size;have hrow:=rowStr1 w3 (.string (mkStr l)) 9;clear hg3 hr3 HOf HG HR HO;go_wp2_with (at_builtin;refine wpList_append_any _ rfl (.tmp 18) (.tmp 22) _ rfl w.heap.size 9 j0 _ 1 16 Tryz.underlying27 hj hy0 hy1 hy2 rfl (by omega) _ k (ws.map strP) rfl (World.ownsRow.alloc HO3.out _) (w3.heap.size+1) (some ⟨w3.heap.size,0,none⟩) 1 1 [.string (mkStr l)] rfl hrow (by simp [Value.oneCell']) (by unfold maxLen;omega) (by omega) hbs ?_;intro v4 w4 hown4 hg4 hat4)
   obtain ⟨A4,c4,rfl,_,_⟩:=ownG_form hown4;have HO4:Hid (WdOwn w4 w.heap.size (.slice A4 (k+1) c4) (ws++[l])):=uH (by unfold WdOwn;rw [List.length_append,HL.out,List.map_append];exact hown4);have hBk : ∀ q,(Value.slice A k c).ownBlock=some q→w.heap.size≤q:=fun q hq=>ownG_base HO3.out hq;have HG4:=uH (own_after' HG3.out hg4 hBk);have HR4:Hid (RdIn w4 B g (lim+1+(k+1))):=uH (HR3.out.far hg4 (fun q hq=>⟨by have:=hBk q hq;omega,by have:=hBk q hq;omega⟩) (by omega));have HL4:Hid ((ws++[l]).length=k+1):=uH (by rw [List.length_append,HL.out];rfl);have HS4:Hid (∀ x∈ws++[l],x.length≤40):=uH (fun x hx=>by
    rcases List.mem_append.1 hx with h | h
    ·exact HS.out x h
    ·rw [List.mem_singleton] at h;rw [h];exact hl3)
   clear hown4 hg4 hat4 HO3 HG3 HR3 hrow hbs hBk HL HS;go_wp2;go_roundw
   case rel=>exact ⟨k+1,ws++[l],A4,c4,by omega,rfl,by go_num,HL4,HS4,HO4,HG4,HR4⟩
   case measure=>simp [intOf];omega
  ·obtain rfl:k=N:=(by omega);by_cases h0:k=0
   ·have hF:DrawnSp B g lim most w (.returned (.slice A k c)) wr:=⟨_,ws,rfl,by rw [HL.out];omega,HS.out,HO.out,HG.out,HR.out.more (by omega)⟩;have HF:=uH hF;have z0:decide (0 < k)=false:=decide_eq_false (by omega);clear hF HL HS HO HG HR;go_wp2;go_ret;exact HF.out
   ·have z0:decide (0 < k)=true:=decide_eq_true (by omega);have z1:(0:Int) < (k:Int):=(by omega);have HP:=uH (pickR (n:=40) HR.out (by omega) (by omega) (by omega));obtain ⟨gb,cap,hA,hgb,_,_,hob⟩:=own_some HO.out (by rw [HL.out];omega);injection hA with hA hkk hc;clear hkk;subst hA hc;(go_wp2_with fail);refine HP.out.mono ?_;rintro e w1 ⟨m,rfl,hm,hg1,hr1⟩;have HO1:=uH (ownG_only HO.out hg1 hg);have HG1:=uH (only_next HG.out hg1);by_cases hm0:m=0
    ·subst hm0;have HOf:=uH (fun cs t h=>ofNew g B (lim+1+k+1) 3 [⟨#[]⟩,⟨#[65]⟩,⟨#[97,49]⟩] cs t w1 h rfl (by omega) (by omega) (by decide) (by omega) hr1);clear hr1 HP HG HR HO hg1;(go_wp2_with fail);refine (HOf.out _ _ rfl).mono ?_;rintro e w3 ⟨l,hl3,rfl,hg3,hr3⟩;have hO3:=ownG_only HO1.out hg3 hg;have hk1:0 < ws.length:=(by rw [HL.out];omega);obtain ⟨x0,hx0⟩ : ∃ x,(ws.map strP)[0]? = some x:=⟨_,List.getElem?_eq_getElem (by rw [List.length_map];exact hk1)⟩;obtain ⟨d0,f0⟩:=own_cell (j:=0) hO3 rfl hx0;have hS:=own_set (j:=0) (u:=.string (mkStr l)) hO3 rfl;have hset:(ws.map strP).set 0 (.string (mkStr l))=(ws.set 0 l).map strP:=(by rw [List.map_set];rfl);have hF:DrawnSp B g lim most w (.returned (.slice (some ⟨gb,0,none⟩) k c)) (w3.setCell ⟨gb,0,none⟩ (.string (mkStr l))):=by
      refine ⟨_,ws.set 0 l,rfl,by rw [List.length_set,HL.out];omega,fun x hx=>?_,?_,only_setCell (only_next HG1.out hg3) (p:=⟨gb,0,none⟩) (.inr (by simpa using hgb)) _,(hr3.set' (p:=⟨gb,0,none⟩) (by simp;omega) (by simp;omega) _).more (by omega)⟩
      ·rcases List.mem_or_eq_of_mem_set hx with h | h
       ·exact HS.out x h
       ·rw [h];exact hl3
      ·unfold WdOwn;rw [List.length_set,← hset];exact hS
     have HF:=uH hF;clear hF hS hset hO3 HO1 HG1 hg3 hr3 HOf hx0 HL HS hk1;go_wp2;go_ret;exact HF.out
    ·have e0:((m:Int) == 0)=false:=(by simpa using hm0);have hF:DrawnSp B g lim most w (.returned (.slice (some ⟨gb,0,none⟩) k c)) w1:=⟨_,ws,rfl,by rw [HL.out];omega,HS.out,HO1.out,HG1.out,hr1.more (by omega)⟩;have HF:=uH hF;clear hF HL HS HO HG HR HO1 HG1 hg1 hr1 HP hm0;go_wp2;go_ret;exact HF.out
end Go.Proofs.YtbkhnljaajajiaaGreatDoor
