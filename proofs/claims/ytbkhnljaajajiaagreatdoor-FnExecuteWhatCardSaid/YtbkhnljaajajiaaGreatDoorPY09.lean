/-
  Contracts and plain laws that the proofs lean on. Conditions: as each says.
-/
import Derived.Test.YtbkhnljaajajiaaGreatDoorPX32
import Derived.Test.YtbkhnljaajajiaaGreatDoorPY03
set_option maxRecDepth 100000
set_option linter.unusedSimpArgs false
set_option linter.unusedVariables false
set_option linter.unnecessarySimpa false
namespace Go.Proofs.YtbkhnljaajajiaaGreatDoor
open Go.ChangeShapes Go.WideShapes Go.ChangeAt Go.RowKit
theorem Carry.cabB {w w':World} {B:Nat} {h:Hd} {A A':Option Addr} {n c n' c':Nat} {ws:List Wd} {ds:List Drawer} (hb:Below w.heap.size w w') (hB:w.heap.size≤B) (ho:CabOwn w' B (.slice A' n' c') ds) (hn:ds.length=n') :
  Carry w w' h { h with A4:=A',n4:=n',c4:=c',ds:=ds } A n c ws:=fun _ hlt H _ =>
 let K:=H.keepB hb
 ⟨K.sg,K.br,K.wd,ho.readsB (Nat.lt_of_lt_of_le hlt hB) hn⟩
theorem CabOwn.high {w w':World} {B:Nat} {v:Value} {ds:List Drawer} (h:CabOwn w B v ds) (hh : ∀ g,B≤g→w'.heap[g]? = w.heap[g]?):CabOwn w' B v ds :=
 h.congr (fun g hg=>hh g (ownG_base h.1 hg)) (fun d hd g hg=>hh g (ownG_base (h.2.1 d hd).2.1 hg))
set_option maxHeartbeats 3200000 in
theorem l9LineFile (A1 A2 A3 A4:Option Addr) (n1 c1 n2 c2 n3 c3 n4 c4:Nat) (sys:List Sg) (xs:List Br) (sp:List Wd) (ds:List Drawer) (A:Option Addr) (c:Nat) (ws:List Wd) (w:World) (hu:wdAt ws 0=cFile) (ok:(Hd.mk A1 n1 c1 A2 n2 c2 A3 n3 c3 A4 n4 c4 sys xs sp ds).st.ok) (hWl : ∀ l∈ws,l.length≤600) (h:StIn w ⟨A1,n1,c1,A2,n2,c2,A3,n3,c3,A4,n4,c4,sys,xs,sp,ds⟩) (hw:WdsIn w w.heap.size A 3 c ws) :
  Calls Tryz.prog 54 #[.agg #[.slice A1 n1 c1,.slice A2 n2 c2,.slice A3 n3 c3,.slice A4 n4 c4],.slice A 3 c] w fun e w'=>LineAns w w' (Hd.mk A1 n1 c1 A2 n2 c2 A3 n3 c3 A4 n4 c4 sys xs sp ds) A 3 c ws (lineS (Hd.mk A1 n1 c1 A2 n2 c2 A3 n3 c3 A4 n4 c4 sys xs sp ds).st ws) e∧Below w.heap.size w w':=by
 obtain ⟨b0,K2,K4,K7,hz⟩:=preW_facts w #[.slice A1 n1 c1,.slice A2 n2 c2,.slice A3 n3 c3,.slice A4 n4 c4] #[.slice none 0 0,.slice none 0 0,.slice none 0 0,.slice none 0 0] 91;obtain ⟨W,hW0⟩ : ∃ W,W=preW w #[.slice A1 n1 c1,.slice A2 n2 c2,.slice A3 n3 c3,.slice A4 n4 c4] #[.slice none 0 0,.slice none 0 0,.slice none 0 0,.slice none 0 0] 91:=⟨_,rfl⟩;rw [← hW0] at b0 K2 K4 K7 hz;have HL:=uH hw.1;have HW:=uH (hw.keep b0);obtain ⟨b,off,rfl,hbB,e0⟩:=HW.out.at_ (k:=0) (by omega);obtain ⟨_,_,ea,_,e1⟩:=HW.out.at_ (k:=1) (by omega);injection ea with ea;injection ea with ea1 ea2;subst ea1 ea2;obtain ⟨_,_,ea,_,e2⟩:=HW.out.at_ (k:=2) (by omega);injection ea with ea;injection ea with ea1 ea2;subst ea1 ea2;have hbw:b < w.heap.size:=by
  obtain ⟨_,_,ea,hb,_⟩:=hw.at_ (k:=0) (by omega);injection ea with ea;injection ea with ea1 ea2;omega
 have e0a:(((w.alloc (.cells #[.slice A1 n1 c1,.slice A2 n2 c2,.slice A3 n3 c3,.slice A4 n4 c4] 91)).alloc (.cells #[.slice none 0 0,.slice none 0 0,.slice none 0 0,.slice none 0 0] 91)).alloc (.cells #[.slice A1 n1 c1,.slice A2 n2 c2,.slice A3 n3 c3,.slice A4 n4 c4] 91)).cell? ⟨b,off,none⟩=some (.string (mkStr (wdAt ws 0))):=by
  show (preW w _ _ _).cell? _=_
  rw [← hW0];simpa using e0
 have e1':W.cell? ⟨b,off+1,none⟩=some (.string (mkStr (wdAt ws 1))):=(by simpa using e1);have e2':W.cell? ⟨b,off+2,none⟩=some (.string (mkStr (wdAt ws 2))):=(by simpa using e2);have HW0:Hid (((w.alloc (.cells #[.slice A1 n1 c1,.slice A2 n2 c2,.slice A3 n3 c3,.slice A4 n4 c4] 91)).alloc (.cells #[.slice none 0 0,.slice none 0 0,.slice none 0 0,.slice none 0 0] 91)).alloc (.cells #[.slice A1 n1 c1,.slice A2 n2 c2,.slice A3 n3 c3,.slice A4 n4 c4] 91)=W):=uH hW0.symm;have hsz:=stSz ok;have ht:(wdAt ws 1).length≤600:=hWl _ (wdAt_mem (ws:=ws) (k:=1) (by rw [HL.out];omega));have ht2:(wdAt ws 2).length≤600:=hWl _ (wdAt_mem (ws:=ws) (k:=2) (by rw [HL.out];omega));have hnb:=numOf_bd (wdAt ws 1);have HNum:=uH (fun V=>specNumber (mkStr (wdAt ws 1)) V (by rw [mkStr_size];unfold maxLen;omega));rw [mkStr_data] at HNum;have HCy:Hid (∀ V,Below W.heap.size W V→Calls Tryz.prog 79 #[.slice A4 n4 c4,.agg #[.int .i64 (numOf (wdAt ws 1)),.string (mkStr (wdAt ws 2))]] V fun e w'=>FileAns w' V.heap.size (fileO (ds.map (·.ps)) ⟨numOf (wdAt ws 1),mkStr (wdAt ws 2)⟩) e∧Below V.heap.size V w'):=uH (fun V hV=>specCabinetFile A4 n4 c4 ds ⟨numOf (wdAt ws 1),mkStr (wdAt ws 2)⟩ V (by have:=hsz.sz;simp only at this;omega) ⟨num_wf hnb,by show (mkStr (wdAt ws 2)).size≤maxLen;rw [mkStr_size];unfold maxLen;omega⟩ ((h.keep b0).keep hV).dr);have HU:Hid (lineS (Hd.mk A1 n1 c1 A2 n2 c2 A3 n3 c3 A4 n4 c4 sys xs sp ds).st ws=up (Hd.mk A1 n1 c1 A2 n2 c2 A3 n3 c3 A4 n4 c4 sys xs sp ds).st (fileO (ds.map (·.ps)) ⟨numOf (wdAt ws 1),mkStr (wdAt ws 2)⟩) fun x=>{ (Hd.mk A1 n1 c1 A2 n2 c2 A3 n3 c3 A4 n4 c4 sys xs sp ds).st with cab:=x }):=uH (by unfold lineS;rw [if_neg (by rw [hu];rintro ⟨h,_⟩;revert h;decide),if_neg (by rw [hu];rintro ⟨h,_⟩;revert h;decide),if_neg (by rw [hu];decide),if_pos ⟨hu,HL.out⟩];rfl);generalize wdAt ws 0=u at *;generalize wdAt ws 1=u1 at *;generalize wdAt ws 2=u2 at *;obtain ⟨q0,p0⟩:=eqF (l:=u) (c:=[115,105,103,110]) (by rw [hu];decide);obtain ⟨q1,p1⟩:=eqF (l:=u) (c:=[98,114,105,101,102]) (by rw [hu];decide);obtain ⟨q2,p2⟩:=eqF (l:=u) (c:=[115,112,101,101,99,104]) (by rw [hu];decide);obtain ⟨q3,p3⟩:=eqT (l:=u) (c:=[102,105,108,101]) hu;clear hW0 hu e0 e1 e2 hsz ok h hw hnb;generalize numOf u1=q at *;have y0:=K2.four.2.2.2.1;go_enter Tryz.func54,Tryz.ntmps54
 (go_wp2_with fail);rw [HW0.out];clear HW0 e0a;go_region_held3 (fun w'=>w'.cell? ⟨w.heap.size,3,none⟩=some (.slice A4 n4 c4)∧w'.cell? ⟨b,off+1,none⟩=some (.string (mkStr u1))∧w'.cell? ⟨b,off+2,none⟩=some (.string (mkStr u2))) (first | exact ⟨by assumption,by assumption,by assumption⟩ | exact ⟨far_cell (by assumption) (by dsimp only;omega),far_cell (by assumption) (by dsimp only;omega),far_cell (by assumption) (by dsimp only;omega)⟩ | go_keep)
  (first
   | (go_at_call 116;refine (HNum.out _).mono ?_;rintro e w0 ⟨rfl,rfl⟩)
   | (go_at_call 79;refine (HCy.out _ (Below.refl _ _).drew).mono ?_;rintro e w1 ⟨hA,hb1⟩;obtain ⟨A9,n9,c9,t9,rfl,HA9⟩:=hA.one;have m0:=kcell hb1 (show World.cell? (World.drew _) _=_ from y0);have m1:=kcell hb1 (show World.cell? (World.drew _) _=_ from e1');have m2:=kcell hb1 (show World.cell? (World.drew _) _=_ from e2');have m3:=(Blk.below (w:=World.drew W) (show Blk (World.drew W) _ _ _ from K7) hb1).four))
 have bd:Below W.heap.size W w1:=((Below.refl _ _).drew).trans hb1;have b1:=below_next b0 bd;have k2:=(K2.below bd).far (p:=⟨w.heap.size+1+1,3,none⟩) (by dsimp only;omega) (.slice A9 n9 c9);have k4:=(K4.below bd).far (p:=⟨w.heap.size+1+1,3,none⟩) (by dsimp only;omega) (.slice A9 n9 c9);have k7:=(K7.below bd).set 3 (.slice A9 n9 c9);have b2:Below w.heap.size w (w1.setCell ⟨w.heap.size+1+1,3,none⟩ (.slice A9 n9 c9)):=b1.setCell (by dsimp only;omega) _;obtain ⟨V,hV⟩ : ∃ V,V=w1.setCell ⟨w.heap.size+1+1,3,none⟩ (.slice A9 n9 c9):=⟨_,rfl⟩;have HVh:Hid (V.heap.size=w1.heap.size∧∀ g,W.heap.size≤g→V.heap[g]? = w1.heap[g]?):=uH ⟨by rw [hV];simp [World.setCell],fun g hg=>by rw [hV];exact Below.heap_setCell _ _ _ _ (by dsimp only;omega)⟩;rw [← hV] at k2 k4 k7 b2 ⊢;obtain ⟨r0,r1,r2,r3,_⟩:=k2.four;obtain ⟨s0,s1,s2,s3,f0,f1,f2,f3⟩:=k4.four;obtain ⟨v0,v1,v2,v3,_⟩:=Blk.four (x:=.slice A1 n1 c1) (y:=.slice A2 n2 c2) (z:=.slice A3 n3 c3) (u:=.slice A9 n9 c9) k7;clear hV hb1 m0 m1 m2 m3 bd b1 K2 K4 K7 y0 e1' e2' HCy HNum;rcases HA9.out with ⟨rfl,ho⟩ | ⟨rfl,ds',ho,hn',hO⟩
 ·have HR:Hid (lineS (Hd.mk A1 n1 c1 A2 n2 c2 A3 n3 c3 A4 n4 c4 sys xs sp ds).st ws=((Hd.mk A1 n1 c1 A2 n2 c2 A3 n3 c3 A4 n4 c4 sys xs sp ds).st,sayNo)):=uH (by rw [HU.out,ho];rfl);clear ho HA9 HU;have hf:=(four_set k4 (.slice A1 n1 c1) (.slice A2 n2 c2) (.slice A3 n3 c3) (.slice A4 n4 c4)).four;have b3:=four_below b2 (B:=w.heap.size+1) (by omega) (.slice A1 n1 c1) (.slice A2 n2 c2) (.slice A3 n3 c3) (.slice A4 n4 c4);obtain ⟨l0,l1,l2,l3,_⟩:=hf;go_wp2;refine bodyPost_ret (v:=.tuple #[.agg #[.slice A1 n1 c1,.slice A2 n2 c2,.slice A3 n3 c3,.slice A4 n4 c4],.string (mkStr sayNo)]) (by simp [results,Tryz.results54,go_sem,l0,l1,l2,l3];rfl) rfl ?_;exact ⟨⟨_,by rw [HR.out],by rw [HR.out],Carry.same b3⟩,b3⟩
 ·have HR:Hid (lineS (Hd.mk A1 n1 c1 A2 n2 c2 A3 n3 c3 A4 n4 c4 sys xs sp ds).st ws=({ (Hd.mk A1 n1 c1 A2 n2 c2 A3 n3 c3 A4 n4 c4 sys xs sp ds).st with cab:=ds'.map (·.ps) },sayOk)):=uH (by rw [HU.out,ho];rfl);have hf:=(four_set k4 (.slice A1 n1 c1) (.slice A2 n2 c2) (.slice A3 n3 c3) (.slice A9 n9 c9)).four;have b3:=four_below b2 (B:=w.heap.size+1) (by omega) (.slice A1 n1 c1) (.slice A2 n2 c2) (.slice A3 n3 c3) (.slice A9 n9 c9);obtain ⟨l0,l1,l2,l3,_⟩:=hf;have hO:CabOwn w1 W.heap.size (.slice A9 n9 c9) ds':=hO;have HC9:Hid (Carry w ((((V.setCell ⟨w.heap.size+1,0,none⟩ (.slice A1 n1 c1)).setCell ⟨w.heap.size+1,1,none⟩ (.slice A2 n2 c2)).setCell ⟨w.heap.size+1,2,none⟩ (.slice A3 n3 c3)).setCell ⟨w.heap.size+1,3,none⟩ (.slice A9 n9 c9)) (Hd.mk A1 n1 c1 A2 n2 c2 A3 n3 c3 A4 n4 c4 sys xs sp ds) (Hd.mk A1 n1 c1 A2 n2 c2 A3 n3 c3 A9 n9 c9 sys xs sp ds') (some ⟨b,off,none⟩) 3 c ws):=uH (Carry.cabB b3 (by omega) (hO.high (fun g hg=>(four_heap V (by omega) _ _ _ _).trans (HVh.out.2 g hg))) hn');clear ho HA9 HU hO hn';go_wp2;refine bodyPost_ret (v:=.tuple #[.agg #[.slice A1 n1 c1,.slice A2 n2 c2,.slice A3 n3 c3,.slice A9 n9 c9],.string (mkStr sayOk)]) (by simp [results,Tryz.results54,go_sem,l0,l1,l2,l3];rfl) rfl ?_;exact ⟨⟨Hd.mk A1 n1 c1 A2 n2 c2 A3 n3 c3 A9 n9 c9 sys xs sp ds',by rw [HR.out];rfl,by rw [HR.out],HC9.out⟩,b3⟩
set_option maxHeartbeats 3200000 in
theorem l9LineClear (A1 A2 A3 A4:Option Addr) (n1 c1 n2 c2 n3 c3 n4 c4:Nat) (sys:List Sg) (xs:List Br) (sp:List Wd) (ds:List Drawer) (A:Option Addr) (c:Nat) (ws:List Wd) (w:World) (hu:wdAt ws 0=cClear) (ok:(Hd.mk A1 n1 c1 A2 n2 c2 A3 n3 c3 A4 n4 c4 sys xs sp ds).st.ok) (hWl : ∀ l∈ws,l.length≤600) (h:StIn w ⟨A1,n1,c1,A2,n2,c2,A3,n3,c3,A4,n4,c4,sys,xs,sp,ds⟩) (hw:WdsIn w w.heap.size A 2 c ws) :
  Calls Tryz.prog 54 #[.agg #[.slice A1 n1 c1,.slice A2 n2 c2,.slice A3 n3 c3,.slice A4 n4 c4],.slice A 2 c] w fun e w'=>LineAns w w' (Hd.mk A1 n1 c1 A2 n2 c2 A3 n3 c3 A4 n4 c4 sys xs sp ds) A 2 c ws (lineS (Hd.mk A1 n1 c1 A2 n2 c2 A3 n3 c3 A4 n4 c4 sys xs sp ds).st ws) e∧Below w.heap.size w w':=by
 obtain ⟨b0,K2,K4,K7,hz⟩:=preW_facts w #[.slice A1 n1 c1,.slice A2 n2 c2,.slice A3 n3 c3,.slice A4 n4 c4] #[.slice none 0 0,.slice none 0 0,.slice none 0 0,.slice none 0 0] 91;obtain ⟨W,hW0⟩ : ∃ W,W=preW w #[.slice A1 n1 c1,.slice A2 n2 c2,.slice A3 n3 c3,.slice A4 n4 c4] #[.slice none 0 0,.slice none 0 0,.slice none 0 0,.slice none 0 0] 91:=⟨_,rfl⟩;rw [← hW0] at b0 K2 K4 K7 hz;have HL:=uH hw.1;have HW:=uH (hw.keep b0);obtain ⟨b,off,rfl,hbB,e0⟩:=HW.out.at_ (k:=0) (by omega);obtain ⟨_,_,ea,_,e1⟩:=HW.out.at_ (k:=1) (by omega);injection ea with ea;injection ea with ea1 ea2;subst ea1 ea2;have hbw:b < w.heap.size:=by
  obtain ⟨_,_,ea,hb,_⟩:=hw.at_ (k:=0) (by omega);injection ea with ea;injection ea with ea1 ea2;omega
 have e0a:(((w.alloc (.cells #[.slice A1 n1 c1,.slice A2 n2 c2,.slice A3 n3 c3,.slice A4 n4 c4] 91)).alloc (.cells #[.slice none 0 0,.slice none 0 0,.slice none 0 0,.slice none 0 0] 91)).alloc (.cells #[.slice A1 n1 c1,.slice A2 n2 c2,.slice A3 n3 c3,.slice A4 n4 c4] 91)).cell? ⟨b,off,none⟩=some (.string (mkStr (wdAt ws 0))):=by
  show (preW w _ _ _).cell? _=_
  rw [← hW0];simpa using e0
 have e1':W.cell? ⟨b,off+1,none⟩=some (.string (mkStr (wdAt ws 1))):=(by simpa using e1);have HW0:Hid (((w.alloc (.cells #[.slice A1 n1 c1,.slice A2 n2 c2,.slice A3 n3 c3,.slice A4 n4 c4] 91)).alloc (.cells #[.slice none 0 0,.slice none 0 0,.slice none 0 0,.slice none 0 0] 91)).alloc (.cells #[.slice A1 n1 c1,.slice A2 n2 c2,.slice A3 n3 c3,.slice A4 n4 c4] 91)=W):=uH hW0.symm;have hsz:=stSz ok;have ht:(wdAt ws 1).length≤600:=hWl _ (wdAt_mem (ws:=ws) (k:=1) (by rw [HL.out];omega));have hnb:=numOf_bd (wdAt ws 1);have HNum:=uH (fun V=>specNumber (mkStr (wdAt ws 1)) V (by rw [mkStr_size];unfold maxLen;omega));rw [mkStr_data] at HNum;have HCy:Hid (∀ V,Below W.heap.size W V→Calls Tryz.prog 117 #[.slice A4 n4 c4,.int .i64 (numOf (wdAt ws 1))] V fun e w'=>FileAns w' V.heap.size (thinO (fromDay (numOf (wdAt ws 1))) (ds.map (·.ps))) e∧Below V.heap.size V w'):=uH (fun V hV=>specCabinetClear A4 n4 c4 ds (numOf (wdAt ws 1)) V (by have:=hsz.sz;simp only at this;omega) ((h.keep b0).keep hV).dr);have HU:Hid (lineS (Hd.mk A1 n1 c1 A2 n2 c2 A3 n3 c3 A4 n4 c4 sys xs sp ds).st ws=up (Hd.mk A1 n1 c1 A2 n2 c2 A3 n3 c3 A4 n4 c4 sys xs sp ds).st (clearO (ds.map (·.ps)) (numOf (wdAt ws 1))) fun x=>{ (Hd.mk A1 n1 c1 A2 n2 c2 A3 n3 c3 A4 n4 c4 sys xs sp ds).st with cab:=x }):=uH (by unfold lineS;rw [if_neg (by rw [hu];rintro ⟨h,_⟩;revert h;decide),if_neg (by rw [hu];rintro ⟨h,_⟩;revert h;decide),if_neg (by rw [hu];decide),if_neg (by rw [hu];rintro ⟨h,_⟩;revert h;decide),if_pos ⟨hu,HL.out⟩];rfl);generalize wdAt ws 0=u at *;generalize wdAt ws 1=u1 at *;obtain ⟨q0,p0⟩:=eqF (l:=u) (c:=[115,105,103,110]) (by rw [hu];decide);obtain ⟨q1,p1⟩:=eqF (l:=u) (c:=[98,114,105,101,102]) (by rw [hu];decide);obtain ⟨q2,p2⟩:=eqF (l:=u) (c:=[115,112,101,101,99,104]) (by rw [hu];decide);obtain ⟨q3,p3⟩:=eqF (l:=u) (c:=[102,105,108,101]) (by rw [hu];decide);obtain ⟨q4,p4⟩:=eqT (l:=u) (c:=[99,108,101,97,114]) hu;clear hW0 hu e0 e1 hsz ok h hw hnb;generalize numOf u1=q at *;have y0:=K2.four.2.2.2.1;go_enter Tryz.func54,Tryz.ntmps54
 (go_wp2_with fail);rw [HW0.out];clear HW0 e0a;go_region_held3 (fun w'=>w'.cell? ⟨w.heap.size,3,none⟩=some (.slice A4 n4 c4)∧w'.cell? ⟨b,off+1,none⟩=some (.string (mkStr u1))) (first | exact ⟨by assumption,by assumption⟩ | exact ⟨far_cell (by assumption) (by dsimp only;omega),far_cell (by assumption) (by dsimp only;omega)⟩ | go_keep)
  (first
   | (go_at_call 116;refine (HNum.out _).mono ?_;rintro e w0 ⟨rfl,rfl⟩)
   | (go_at_call 117;refine (HCy.out _ (Below.refl _ _).drew).mono ?_;rintro e w1 ⟨hA,hb1⟩;obtain ⟨A9,n9,c9,t9,rfl,HA9⟩:=hA.one;have m0:=kcell hb1 (show World.cell? (World.drew _) _=_ from y0);have m1:=kcell hb1 (show World.cell? (World.drew _) _=_ from e1');have m3:=(Blk.below (w:=World.drew W) (show Blk (World.drew W) _ _ _ from K7) hb1).four))
 have bd:Below W.heap.size W w1:=((Below.refl _ _).drew).trans hb1;have b1:=below_next b0 bd;have k2:=(K2.below bd).far (p:=⟨w.heap.size+1+1,3,none⟩) (by dsimp only;omega) (.slice A9 n9 c9);have k4:=(K4.below bd).far (p:=⟨w.heap.size+1+1,3,none⟩) (by dsimp only;omega) (.slice A9 n9 c9);have k7:=(K7.below bd).set 3 (.slice A9 n9 c9);have b2:Below w.heap.size w (w1.setCell ⟨w.heap.size+1+1,3,none⟩ (.slice A9 n9 c9)):=b1.setCell (by dsimp only;omega) _;obtain ⟨V,hV⟩ : ∃ V,V=w1.setCell ⟨w.heap.size+1+1,3,none⟩ (.slice A9 n9 c9):=⟨_,rfl⟩;have HVh:Hid (V.heap.size=w1.heap.size∧∀ g,W.heap.size≤g→V.heap[g]? = w1.heap[g]?):=uH ⟨by rw [hV];simp [World.setCell],fun g hg=>by rw [hV];exact Below.heap_setCell _ _ _ _ (by dsimp only;omega)⟩;rw [← hV] at k2 k4 k7 b2 ⊢;obtain ⟨r0,r1,r2,r3,_⟩:=k2.four;obtain ⟨s0,s1,s2,s3,f0,f1,f2,f3⟩:=k4.four;obtain ⟨v0,v1,v2,v3,_⟩:=Blk.four (x:=.slice A1 n1 c1) (y:=.slice A2 n2 c2) (z:=.slice A3 n3 c3) (u:=.slice A9 n9 c9) k7;have x1:V.cell? ⟨b,off+1,none⟩=some (.string (mkStr u1)):=(by rw [hV];exact far_cell m1 (by dsimp only;omega));clear hV hb1 m0 m1 m3 bd b1 K2 K4 K7 y0 e1' HCy;rcases HA9.out with ⟨rfl,ho⟩ | ⟨rfl,ds',ho,hn',hO⟩
 ·have HR:Hid (lineS (Hd.mk A1 n1 c1 A2 n2 c2 A3 n3 c3 A4 n4 c4 sys xs sp ds).st ws=((Hd.mk A1 n1 c1 A2 n2 c2 A3 n3 c3 A4 n4 c4 sys xs sp ds).st,sayNo)):=uH (by rw [HU.out];unfold clearO;rw [ho];split <;> rfl)
  clear ho HA9 HU HNum;have hf:=(four_set k4 (.slice A1 n1 c1) (.slice A2 n2 c2) (.slice A3 n3 c3) (.slice A4 n4 c4)).four;have b3:=four_below b2 (B:=w.heap.size+1) (by omega) (.slice A1 n1 c1) (.slice A2 n2 c2) (.slice A3 n3 c3) (.slice A4 n4 c4);obtain ⟨l0,l1,l2,l3,_⟩:=hf;go_wp2;refine bodyPost_ret (v:=.tuple #[.agg #[.slice A1 n1 c1,.slice A2 n2 c2,.slice A3 n3 c3,.slice A4 n4 c4],.string (mkStr sayNo)]) (by simp [results,Tryz.results54,go_sem,l0,l1,l2,l3];rfl) rfl ?_;exact ⟨⟨_,by rw [HR.out],by rw [HR.out],Carry.same b3⟩,b3⟩
 ·by_cases hq:q≤9999
  ·have HR:Hid (lineS (Hd.mk A1 n1 c1 A2 n2 c2 A3 n3 c3 A4 n4 c4 sys xs sp ds).st ws=({ (Hd.mk A1 n1 c1 A2 n2 c2 A3 n3 c3 A4 n4 c4 sys xs sp ds).st with cab:=ds'.map (·.ps) },sayOk)):=uH (by rw [HU.out];unfold clearO;rw [if_pos hq,ho];rfl);have hf:=(four_set k4 (.slice A1 n1 c1) (.slice A2 n2 c2) (.slice A3 n3 c3) (.slice A9 n9 c9)).four;have b3:=four_below b2 (B:=w.heap.size+1) (by omega) (.slice A1 n1 c1) (.slice A2 n2 c2) (.slice A3 n3 c3) (.slice A9 n9 c9);obtain ⟨l0,l1,l2,l3,_⟩:=hf;have hO:CabOwn w1 W.heap.size (.slice A9 n9 c9) ds':=hO;have HC9:Hid (Carry w ((((V.setCell ⟨w.heap.size+1,0,none⟩ (.slice A1 n1 c1)).setCell ⟨w.heap.size+1,1,none⟩ (.slice A2 n2 c2)).setCell ⟨w.heap.size+1,2,none⟩ (.slice A3 n3 c3)).setCell ⟨w.heap.size+1,3,none⟩ (.slice A9 n9 c9)) (Hd.mk A1 n1 c1 A2 n2 c2 A3 n3 c3 A4 n4 c4 sys xs sp ds) (Hd.mk A1 n1 c1 A2 n2 c2 A3 n3 c3 A9 n9 c9 sys xs sp ds') (some ⟨b,off,none⟩) 2 c ws):=uH (Carry.cabB b3 (by omega) (hO.high (fun g hg=>(four_heap V (by omega) _ _ _ _).trans (HVh.out.2 g hg))) hn');have z2:decide (q≤9999)=true:=decide_eq_true hq;clear ho HA9 HU hO hn';go_wp2_with (go_at_call 116;refine (HNum.out _).mono ?_;rintro e w0 ⟨rfl,rfl⟩)
   refine bodyPost_ret (v:=.tuple #[.agg #[.slice A1 n1 c1,.slice A2 n2 c2,.slice A3 n3 c3,.slice A9 n9 c9],.string (mkStr sayOk)]) (by simp [results,Tryz.results54,go_sem,l0,l1,l2,l3];rfl) rfl ?_;exact ⟨⟨Hd.mk A1 n1 c1 A2 n2 c2 A3 n3 c3 A9 n9 c9 sys xs sp ds',by rw [HR.out];rfl,by rw [HR.out],HC9.out⟩,b3⟩
  ·have HR:Hid (lineS (Hd.mk A1 n1 c1 A2 n2 c2 A3 n3 c3 A4 n4 c4 sys xs sp ds).st ws=((Hd.mk A1 n1 c1 A2 n2 c2 A3 n3 c3 A4 n4 c4 sys xs sp ds).st,sayNo)):=uH (by rw [HU.out];unfold clearO;rw [if_neg hq];rfl);have z1 : ¬ q≤9999:=hq;have z2:decide (q≤9999)=false:=decide_eq_false hq;clear ho HA9 HU;have hf:=(four_set k4 (.slice A1 n1 c1) (.slice A2 n2 c2) (.slice A3 n3 c3) (.slice A4 n4 c4)).four;have b3:=four_below b2 (B:=w.heap.size+1) (by omega) (.slice A1 n1 c1) (.slice A2 n2 c2) (.slice A3 n3 c3) (.slice A4 n4 c4);obtain ⟨l0,l1,l2,l3,_⟩:=hf;go_wp2_with (go_at_call 116;refine (HNum.out _).mono ?_;rintro e w0 ⟨rfl,rfl⟩)
   refine bodyPost_ret (v:=.tuple #[.agg #[.slice A1 n1 c1,.slice A2 n2 c2,.slice A3 n3 c3,.slice A4 n4 c4],.string (mkStr sayNo)]) (by simp [results,Tryz.results54,go_sem,l0,l1,l2,l3];rfl) rfl ?_;exact ⟨⟨_,by rw [HR.out],by rw [HR.out],Carry.same b3⟩,b3⟩
theorem preW2_facts (w:World) (hd zs hd':Array Value) (t:TypeId) :
  Below w.heap.size w (((w.alloc (.cells hd t)).alloc (.cells zs t)).alloc (.cells hd' t))∧Blk (((w.alloc (.cells hd t)).alloc (.cells zs t)).alloc (.cells hd' t)) w.heap.size t hd∧Blk (((w.alloc (.cells hd t)).alloc (.cells zs t)).alloc (.cells hd' t)) (w.heap.size+1) t zs∧Blk (((w.alloc (.cells hd t)).alloc (.cells zs t)).alloc (.cells hd' t)) (w.heap.size+1+1) t hd':=by
 have e1:(w.alloc (.cells hd t)).heap.size=w.heap.size+1:=(by simp);have e2:((w.alloc (.cells hd t)).alloc (.cells zs t)).heap.size=w.heap.size+1+1:=(by simp);refine ⟨(((Below.refl _ _).alloc (Nat.le_refl _) _).alloc (by omega) _).alloc (by omega) _,((Blk.new w t hd).alloc _).alloc _,?_,?_⟩
 ·have:=(Blk.new (w.alloc (.cells hd t)) t zs).alloc (.cells hd' t);rw [e1] at this;exact this
 ·have:=Blk.new ((w.alloc (.cells hd t)).alloc (.cells zs t)) t hd';rw [e2] at this;exact this
set_option maxHeartbeats 3200000 in
theorem l9LineSpeech (A1 A2 A3 A4:Option Addr) (n1 c1 n2 c2 n3 c3 n4 c4:Nat) (sys:List Sg) (xs:List Br) (sp:List Wd) (ds:List Drawer) (A:Option Addr) (n c:Nat) (ws:List Wd) (w:World) (hu:wdAt ws 0=cSpeech) (h1:1≤n) (hWl : ∀ l∈ws,l.length≤600) (hw:WdsIn w w.heap.size A n c ws) :
  Calls Tryz.prog 54 #[.agg #[.slice A1 n1 c1,.slice A2 n2 c2,.slice A3 n3 c3,.slice A4 n4 c4],.slice A n c] w fun e w'=>LineAns w w' (Hd.mk A1 n1 c1 A2 n2 c2 A3 n3 c3 A4 n4 c4 sys xs sp ds) A n c ws (lineS (Hd.mk A1 n1 c1 A2 n2 c2 A3 n3 c3 A4 n4 c4 sys xs sp ds).st ws) e∧Below w.heap.size w w':=by
 obtain ⟨b0,K2,K4,K7,hz⟩:=preW_facts w #[.slice A1 n1 c1,.slice A2 n2 c2,.slice A3 n3 c3,.slice A4 n4 c4] #[.slice none 0 0,.slice none 0 0,.slice none 0 0,.slice none 0 0] 91;obtain ⟨W,hW0⟩ : ∃ W,W=preW w #[.slice A1 n1 c1,.slice A2 n2 c2,.slice A3 n3 c3,.slice A4 n4 c4] #[.slice none 0 0,.slice none 0 0,.slice none 0 0,.slice none 0 0] 91:=⟨_,rfl⟩;rw [← hW0] at b0 K2 K4 K7 hz;have HL:=uH hw.1;have HW:=uH (hw.keep b0);obtain ⟨b,off,rfl,hbB,e0⟩:=HW.out.at_ (k:=0) (by omega);have hbw:b < w.heap.size:=by
  obtain ⟨_,_,ea,hb,_⟩:=hw.at_ (k:=0) (by omega);injection ea with ea;injection ea with ea1 ea2;omega
 have e0a:(((w.alloc (.cells #[.slice A1 n1 c1,.slice A2 n2 c2,.slice A3 n3 c3,.slice A4 n4 c4] 91)).alloc (.cells #[.slice none 0 0,.slice none 0 0,.slice none 0 0,.slice none 0 0] 91)).alloc (.cells #[.slice A1 n1 c1,.slice A2 n2 c2,.slice A3 n3 c3,.slice A4 n4 c4] 91)).cell? ⟨b,off,none⟩=some (.string (mkStr (wdAt ws 0))):=by
  show (preW w _ _ _).cell? _=_
  rw [← hW0];simpa using e0
 have HW0:Hid (((w.alloc (.cells #[.slice A1 n1 c1,.slice A2 n2 c2,.slice A3 n3 c3,.slice A4 n4 c4] 91)).alloc (.cells #[.slice none 0 0,.slice none 0 0,.slice none 0 0,.slice none 0 0] 91)).alloc (.cells #[.slice A1 n1 c1,.slice A2 n2 c2,.slice A3 n3 c3,.slice A4 n4 c4] 91)=W):=uH hW0.symm;have HV5:Hid (∀ V,Below w.heap.size w V→Calls Tryz.prog 70 #[.slice (fromB (some ⟨b,off,none⟩) 1 c 1) (n - 1) (c - 1)] V fun e w'=>e = .returned (.bool (spB (ws.drop 1)))∧V=w'):=uH (fun V hV=>specSpeechValid _ (n - 1) (c - 1) (ws.drop 1) V (fun l hl=>by have:=hWl l (List.mem_of_mem_drop hl);unfold maxLen;omega) ((hw.keep hV).fromS h1));have HU:Hid (lineS (Hd.mk A1 n1 c1 A2 n2 c2 A3 n3 c3 A4 n4 c4 sys xs sp ds).st ws=up (Hd.mk A1 n1 c1 A2 n2 c2 A3 n3 c3 A4 n4 c4 sys xs sp ds).st (if spB (ws.drop 1)=true then some (ws.drop 1) else none) fun x=>{ (Hd.mk A1 n1 c1 A2 n2 c2 A3 n3 c3 A4 n4 c4 sys xs sp ds).st with sp:=x }):=uH (by unfold lineS;rw [if_neg (by rw [hu];rintro ⟨h,_⟩;revert h;decide),if_neg (by rw [hu];rintro ⟨h,_⟩;revert h;decide),if_pos hu]);have hfr : ∀ V,(Instr.slice 27 (.slice (some ⟨b,off,none⟩) n c) (some (.int .i64 1)) none none).run Tryz.prog V = .ok (.slice (fromB (some ⟨b,off,none⟩) 1 c 1) (n - 1) (c - 1)) V:=fun V=>run_fromS elemW sizeW _ n c 1 h1 V;have HCar:=uH (fun V (hV:Below w.heap.size w V)=>Carry.sp (h:=Hd.mk A1 n1 c1 A2 n2 c2 A3 n3 c3 A4 n4 c4 sys xs sp ds) (A:=some ⟨b,off,none⟩) (c:=c) (ws:=ws) hV h1);generalize fromB (some (⟨b,off,none⟩:Addr)) 1 c 1=AR at *;generalize wdAt ws 0=u at *;obtain ⟨q0,p0⟩:=eqF (l:=u) (c:=[115,105,103,110]) (by rw [hu];decide);obtain ⟨q1,p1⟩:=eqF (l:=u) (c:=[98,114,105,101,102]) (by rw [hu];decide);obtain ⟨q2,p2⟩:=eqT (l:=u) (c:=[115,112,101,101,99,104]) hu;have i1:(0:Int) < (n:Int):=(by omega);have i2:(1:Int)≤(n:Int):=(by omega);clear hu e0 hw;have g2:=K7.cell 2;have g3:=K7.free 2;rw [← HW0.out] at g2 g3;go_enter Tryz.func54,Tryz.ntmps54
 (go_wp2_with fail);obtain ⟨b2,k2,k4,k7⟩:=preW2_facts w #[.slice A1 n1 c1,.slice A2 n2 c2,.slice A3 n3 c3,.slice A4 n4 c4] #[.slice none 0 0,.slice none 0 0,.slice none 0 0,.slice none 0 0] #[.slice A1 n1 c1,.slice A2 n2 c2,.slice AR (n - 1) (c - 1),.slice A4 n4 c4] 91;obtain ⟨V,hV⟩ : ∃ V,V=(((w.alloc (.cells #[.slice A1 n1 c1,.slice A2 n2 c2,.slice A3 n3 c3,.slice A4 n4 c4] 91)).alloc (.cells #[.slice none 0 0,.slice none 0 0,.slice none 0 0,.slice none 0 0] 91)).alloc (.cells #[.slice A1 n1 c1,.slice A2 n2 c2,.slice AR (n - 1) (c - 1),.slice A4 n4 c4] 91)):=⟨_,rfl⟩;rw [← hV] at k2 k4 k7 b2 ⊢;clear hV K2 K4 K7 g2 g3 e0a HW0 hW0 b0 hz;obtain ⟨r0,r1,r2,r3,_⟩:=k2.four;obtain ⟨s0,s1,s2,s3,f0,f1,f2,f3⟩:=k4.four;obtain ⟨v0,v1,v2,v3,_⟩:=k7.four;have HVV:=uH (HV5.out V b2);clear HV5;refine HVV.out.mono ?_;rintro e w5 ⟨rfl,rfl⟩;cases hs:spB (ws.drop 1) with
 | false =>
  have HR:Hid (lineS (Hd.mk A1 n1 c1 A2 n2 c2 A3 n3 c3 A4 n4 c4 sys xs sp ds).st ws=((Hd.mk A1 n1 c1 A2 n2 c2 A3 n3 c3 A4 n4 c4 sys xs sp ds).st,sayNo)):=uH (by rw [HU.out,hs];rfl);have hf:=(four_set k4 (.slice A1 n1 c1) (.slice A2 n2 c2) (.slice A3 n3 c3) (.slice A4 n4 c4)).four;have b3:=four_below b2 (B:=w.heap.size+1) (by omega) (.slice A1 n1 c1) (.slice A2 n2 c2) (.slice A3 n3 c3) (.slice A4 n4 c4);obtain ⟨l0,l1,l2,l3,_⟩:=hf;clear hs HU HVV;go_wp2;refine bodyPost_ret (v:=.tuple #[.agg #[.slice A1 n1 c1,.slice A2 n2 c2,.slice A3 n3 c3,.slice A4 n4 c4],.string (mkStr sayNo)]) (by simp [results,Tryz.results54,go_sem,l0,l1,l2,l3];rfl) rfl ?_;exact ⟨⟨_,by rw [HR.out],by rw [HR.out],Carry.same b3⟩,b3⟩
 | true =>
  have HR:Hid (lineS (Hd.mk A1 n1 c1 A2 n2 c2 A3 n3 c3 A4 n4 c4 sys xs sp ds).st ws=({ (Hd.mk A1 n1 c1 A2 n2 c2 A3 n3 c3 A4 n4 c4 sys xs sp ds).st with sp:=ws.drop 1 },sayOk)):=uH (by rw [HU.out,hs];rfl);have hf:=(four_set k4 (.slice A1 n1 c1) (.slice A2 n2 c2) (.slice AR (n - 1) (c - 1)) (.slice A4 n4 c4)).four;have b3:=four_below b2 (B:=w.heap.size+1) (by omega) (.slice A1 n1 c1) (.slice A2 n2 c2) (.slice AR (n - 1) (c - 1)) (.slice A4 n4 c4);obtain ⟨l0,l1,l2,l3,_⟩:=hf;have HC9:=uH (HCar.out _ b3);clear hs HU HVV;go_wp2;refine bodyPost_ret (v:=.tuple #[.agg #[.slice A1 n1 c1,.slice A2 n2 c2,.slice AR (n - 1) (c - 1),.slice A4 n4 c4],.string (mkStr sayOk)]) (by simp [results,Tryz.results54,go_sem,l0,l1,l2,l3];rfl) rfl ?_;exact ⟨⟨_,by rw [HR.out];rfl,by rw [HR.out],HC9.out⟩,b3⟩
section
variable {S:List Nat} {w w':World} {b:Nat}
theorem Carry.many {h h':Hd} {A:Option Addr} {n c:Nat} {ws:List Wd} (hC:Carry w w' h h' A n c ws) (hS : ∀ b∈S,b < w.heap.size) (hne : ∃ b,b∈S) (H:StIn (blanks S w) h) (hw:WdsIn (blanks S w) (blanks S w).heap.size A n c ws):StIn (blanks S w') h':=by
 have hw' : ∀ b∈S,WdsIn (blank b w) (blank b w).heap.size A n c ws:=fun b hb=>by
  rw [blanks_size] at hw;rw [blank_size];exact hw.less hb
 have k : ∀ b∈S,StIn (blank b w') h':=fun b hb=>hC b (hS b hb) (H.less hb) (hw' b hb);obtain ⟨b,hb⟩:=hne;exact StIn.blanksOf (k b hb).unblank k
end
end Go.Proofs.YtbkhnljaajajiaaGreatDoor
namespace Go.Proofs.YtbkhnljaajajiaaGreatDoor
theorem dec_bytes : ∀ (n:Nat),∀ b∈Lib.decDigits n,48≤b.toNat∧b.toNat≤57:=by
 intro n;induction n using Nat.strongRecOn with
 | _ n ih =>
  intro b hb;rw [Lib.decDigits] at hb;split at hb
  ·have hb:=List.mem_singleton.1 hb;rw [hb,UInt8.toNat_ofNat'];omega
  ·rcases List.mem_append.1 hb with hb | hb
   ·exact ih (n / 10) (by omega) b hb
   ·have hb:=List.mem_singleton.1 hb;rw [hb,UInt8.toNat_ofNat'];omega
end Go.Proofs.YtbkhnljaajajiaaGreatDoor
namespace Go.Proofs.YtbkhnljaajajiaaGreatDoor
open Go.ChangeShapes Go.WideShapes Go.ChangeAt Go.RowKit
def whole (l:List UInt8):Prop:=l=[]∨∃ a,l=a++[10]
theorem whole_app {a b:List UInt8} (ha:whole a) (hb:whole b):whole (a++b):=by
 rcases hb with rfl | ⟨b,rfl⟩
 ·rw [List.append_nil];exact ha
 ·exact .inr ⟨a++b,by rw [List.append_assoc]⟩
theorem linesOf_whole {a:List UInt8} (b:List UInt8) (h:whole a):linesOf (a++b)=linesOf a++linesOf b:=by
 rcases h with rfl | ⟨a,rfl⟩
 ·rfl
 ·rw [List.append_assoc];exact linesOf_app a b
def complL (l:List UInt8):List UInt8:=(l.reverse.dropWhile (·≠10)).reverse
theorem complL_snoc (l:List UInt8) (c:UInt8):complL (l++[c])=if c=10 then l++[c] else complL l:=by
 unfold complL;rw [List.reverse_append,List.reverse_singleton,List.singleton_append,List.dropWhile_cons];by_cases h:c=10
 ·rw [if_neg (by simp [h]),if_pos h];simp
 ·rw [if_pos (by simp [h]),if_neg h]
theorem complL_parts (l:List UInt8) : ∃ r,l=complL l++r∧(10:UInt8) ∉ r∧whole (complL l):=by
 unfold complL;refine ⟨(l.reverse.takeWhile (·≠10)).reverse,?_,?_,?_⟩
 ·rw [← List.reverse_append,List.takeWhile_append_dropWhile,List.reverse_reverse]
 ·intro h;rw [List.mem_reverse] at h;have : ∀ (l:List UInt8),(10:UInt8) ∉ l.takeWhile (·≠10):=by
   intro l;induction l with
   | nil=>simp
   | cons x r ih =>
    rw [List.takeWhile_cons];by_cases h:x=10
    ·simp [h]
    ·simp only [h,ne_eq,not_false_eq_true,decide_true,if_true];intro hm;rcases List.mem_cons.1 hm with h2 | h2
     ·exact h h2.symm
     ·exact ih (by simpa using h2)
  exact this _ h
 ·cases h:l.reverse.dropWhile (·≠10) with
  | nil=>exact .inl rfl
  | cons c r =>
   refine .inr ⟨r.reverse,?_⟩;have:=List.head?_dropWhile_not (fun x:UInt8=>decide (x≠10)) l.reverse;rw [show (fun x:UInt8=>decide (x≠10))=(fun x=>decide (x≠10)) from rfl,h] at this;simp at this;rw [List.reverse_cons,this]
theorem complL_len (l:List UInt8):(complL l).length≤l.length:=by
 obtain ⟨r,h,_⟩:=complL_parts l;have:=congrArg List.length h;rw [List.length_append] at this;omega
theorem complL_whole (l:List UInt8):whole (complL l):=(complL_parts l).choose_spec.2.2
theorem complL_fix {a r:List UInt8} (ha:whole a) (hr:(10:UInt8) ∉ r):complL (a++r)=a:=by
 unfold complL;rw [List.reverse_append,List.dropWhile_append_of_pos (by intro x hx;simp;rintro rfl;exact hr (List.mem_reverse.1 hx))];rcases ha with rfl | ⟨a,rfl⟩
 ·rfl
 ·simp
def lastL (l:List UInt8):List UInt8:=l.drop (complL (l.take (l.length - 1))).length
theorem lastL_is {a r:List UInt8} (ha:whole a) (hr:(10:UInt8) ∉ r):lastL (a++r++[10])=r++[10]:=by
 unfold lastL;have e:(a++r++[10]).take ((a++r++[10]).length - 1)=a++r:=List.take_left' (by simp);rw [e,complL_fix ha hr,List.append_assoc];exact List.drop_left' rfl
theorem whole_nl (l:Wd):whole (l++[10]):=.inr ⟨l,rfl⟩
theorem whole_said (o:Option Wd):whole (saidO o):=by
 cases o with
 | none=>exact .inr ⟨[110,111],rfl⟩
 | some l=>exact whole_nl l
theorem whole_cab (css:List (List Pad)):whole (cabText css):=by
 unfold cabText;split
 ·unfold cabTxt;induction css with
  | nil=>exact .inl rfl
  | cons x r ih=>rw [List.flatMap_cons];exact whole_app (whole_nl _) (by
    revert ih;intro ih;have : ∀ l:List (List Pad),whole (l.flatMap fun ps=>drawT ps++[10]):=by
     intro l;induction l with
     | nil=>exact .inl rfl
     | cons y t iy=>rw [List.flatMap_cons];exact whole_app (whole_nl _) iy
    exact this r)
 ·exact .inl rfl
theorem whole_ask (s:St) (ws:List Wd):whole (ask s ws):=by
 unfold ask;split
 ·exact whole_said _
 split
 ·exact whole_said _
 split
 ·exact whole_nl _
 split
 ·exact whole_said _
 split
 ·exact whole_cab _
 ·exact .inr ⟨[119,104,97,116],rfl⟩
theorem whole_up {α:Type} (s:St) (o:Option α) (f:α→St):whole (up s o f).2:=by
 cases o with
 | none=>exact .inr ⟨[110,111],rfl⟩
 | some x=>exact .inr ⟨[111,107],rfl⟩
theorem whole_line (s:St) (ws:List Wd):whole (lineS s ws).2:=by
 unfold lineS;split
 ·exact whole_up _ _ _
 split
 ·exact whole_up _ _ _
 split
 ·exact whole_up _ _ _
 split
 ·exact whole_up _ _ _
 split
 ·exact whole_up _ _ _
 ·exact whole_ask _ _
theorem whole_run : ∀ (ls:List Wd) (s:St),whole (runS s ls).2
 | [],_=>.inl rfl
 | l::r,s=>by rw [runS];exact whole_app (whole_line _ _) (whole_run r _)
theorem dec_no10 (n:Nat):(10:UInt8) ∉ Lib.decDigits n:=fun h=>by
 have:=(dec_bytes n 10 h).1;revert this;decide
def endR (s:St):Wd:=[119,111,114,100,115,32]++Lib.decDigits s.sp.length++[32,112,97,100,115,32]++Lib.decDigits s.cab.flatten.length
theorem endS_is (s:St):endS s=endR s++[10]:=rfl
theorem endR_no (s:St):(10:UInt8) ∉ endR s:=by
 unfold endR;intro h;rcases List.mem_append.1 h with h | h
 ·rcases List.mem_append.1 h with h | h
  ·rcases List.mem_append.1 h with h | h
   ·revert h;decide
   ·exact dec_no10 _ h
  ·revert h;decide
 ·exact dec_no10 _ h
theorem exec_last {l:Wd} (h:l.length≤500):lastL (exec l)=endS (runS st0 (linesOf l)).1:=by
 rw [exec_yes h,endS_is,← List.append_assoc];exact lastL_is (whole_run _ _) (endR_no _)
theorem exec_more {l m:Wd} (hw:whole l) (h:l.length+m.length≤500):exec (l++m)=(runS st0 (linesOf l)).2++(runS (runS st0 (linesOf l)).1 (linesOf m)).2++endS (runS (runS st0 (linesOf l)).1 (linesOf m)).1:=by
 rw [exec_yes (by rw [List.length_append];exact h),linesOf_whole m hw,runS_app]
theorem addL (a b:List UInt8) {n:Nat} (h:a.length+b.length≤n) (hn:n≤1000000000) : ∃ l:List UInt8,l.length≤n∧∀ W',(Op.stringOp .add (mkStr a) (mkStr b)).run Tryz.prog W' = .ok (.string (mkStr l)) W' :=
 ⟨a++b,by rw [List.length_append];exact h,fun W'=>run_add _ _ (by omega) W'⟩
def DrawnLn (B g lim:Nat) (w:World) (e:Ending) (w':World):Prop :=
 ∃ l:List UInt8,l.length≤1000∧e = .returned (.string (mkStr l))∧w.grownBy w' (some g)∧RdIn w' B g (lim+50)
set_option maxHeartbeats 3200000 in
theorem l92Words (g B lim:Nat) (w:World) (hl:lim≤700000000) (hr:RdIn w B g lim) (hBw:B≤w.heap.size) :
  Calls Tryz.prog 44 #[.pointer (some ⟨g,0,none⟩)] w (DrawnLn B g lim w):=by
 have HP:=uH (pickR (n:=12) hr (by omega) (by omega) (by omega));have hgl:=hr.lt;clear hr;go_enter Tryz.func44,Tryz.ntmps44
 (go_wp2_with fail);refine HP.out.mono ?_;rintro e w1 ⟨m,rfl,hm,hg1,hr1⟩;have hm':m=0∨m=1∨m=2∨m=3∨m=4∨m=5∨m=6∨m=7∨m=8∨m=9∨m=10∨m=11:=(by omega);have HR1:=uH hr1;have HG1:=uH hg1;clear HP hr1 hg1 hm;rcases hm' with hm | hm | hm | hm | hm | hm | hm | hm | hm | hm | hm | hm
 ·subst hm;have HO1:=uH (fun cs t h=>ofNew g B (lim+1) 6 [⟨#[119]⟩,⟨#[114]⟩,⟨#[110]⟩,⟨#[116]⟩,⟨#[104]⟩,⟨#[97]⟩] cs t w1 h rfl (by omega) (by omega) (by decide) (by omega) HR1.out);(go_wp2_with fail);refine (HO1.out _ _ rfl).mono ?_;rintro e w2 ⟨l1,hl1,rfl,hg,hr⟩;have HG2:=uH (only_next HG1.out hg);have HR2:Hid (RdIn w2 B g (lim+2)):=uH hr;clear hg hr HO1 HG1 HR1;obtain ⟨x1,hx1,ax1'⟩:=addL [115,105,103,110,32] l1 (n:=100) (by first | omega | (simp only [List.length_cons,List.length_nil];omega)) (by omega);have ax1 : ∀ W',(Op.stringOp .add { data:=#[115,105,103,110,32] } (mkStr l1)).run Tryz.prog W' = .ok (.string (mkStr x1)) W':=ax1';obtain ⟨x2,hx2,ax2'⟩:=addL x1 [32] (n:=200) (by first | omega | (simp only [List.length_cons,List.length_nil];omega)) (by omega);have ax2 : ∀ W',(Op.stringOp .add (mkStr x1) { data:=#[32] }).run Tryz.prog W' = .ok (.string (mkStr x2)) W':=ax2';have HP2:=uH (pickR (n:=9) HR2.out (by omega) (by omega) (by omega));(go_wp2_with fail);refine HP2.out.mono ?_;rintro e w3 ⟨q,rfl,hq,hg,hr⟩;have HG3:=uH (only_next HG2.out hg);have HR3:Hid (RdIn w3 B g (lim+3)):=uH hr;have HD2:=uH (l6DecSmall q w3 (by omega));have hl2:=decN_len q (by omega);clear hg hr HP2 HG2 HR2;(go_wp2_with fail);refine HD2.out.mono ?_;rintro e w4 ⟨rfl,hb⟩;have HG4:=uH (only_below HG3.out hb);have HR4:=uH (HR3.out.below hb);clear hb HD2 HG3 HR3;generalize Lib.decDigits q=l2 at *;obtain ⟨x3,hx3,ax3'⟩:=addL x2 l2 (n:=300) (by first | omega | (simp only [List.length_cons,List.length_nil];omega)) (by omega);have ax3 : ∀ W',(Op.stringOp .add (mkStr x2) (mkStr l2)).run Tryz.prog W' = .ok (.string (mkStr x3)) W':=ax3';have HO3:=uH (fun cs t h=>ofNew g B (lim+3) 4 [⟨#[115]⟩,⟨#[109]⟩,⟨#[108]⟩,⟨#[120]⟩] cs t w4 h rfl (by omega) (by omega) (by decide) (by omega) HR4.out);(go_wp2_with fail);refine (HO3.out _ _ rfl).mono ?_;rintro e w5 ⟨l3,hl3,rfl,hg,hr⟩;have HG5:=uH (only_next HG4.out hg);have HR5:Hid (RdIn w5 B g (lim+4)):=uH hr;clear hg hr HO3 HG4 HR4;obtain ⟨x4,hx4,ax4'⟩:=addL x3 l3 (n:=400) (by first | omega | (simp only [List.length_cons,List.length_nil];omega)) (by omega);have ax4 : ∀ W',(Op.stringOp .add (mkStr x3) (mkStr l3)).run Tryz.prog W' = .ok (.string (mkStr x4)) W':=ax4';go_wp2;go_ret;exact ⟨x4,by omega,rfl,HG5.out,HR5.out.more (by omega)⟩
 ·subst hm;have HO1:=uH (fun cs t h=>ofNew g B (lim+1) 6 [⟨#[119]⟩,⟨#[114]⟩,⟨#[110]⟩,⟨#[116]⟩,⟨#[104]⟩,⟨#[97]⟩] cs t w1 h rfl (by omega) (by omega) (by decide) (by omega) HR1.out);(go_wp2_with fail);refine (HO1.out _ _ rfl).mono ?_;rintro e w2 ⟨l1,hl1,rfl,hg,hr⟩;have HG2:=uH (only_next HG1.out hg);have HR2:Hid (RdIn w2 B g (lim+2)):=uH hr;clear hg hr HO1 HG1 HR1;obtain ⟨x1,hx1,ax1'⟩:=addL [115,105,103,110,32] l1 (n:=100) (by first | omega | (simp only [List.length_cons,List.length_nil];omega)) (by omega);have ax1 : ∀ W',(Op.stringOp .add { data:=#[115,105,103,110,32] } (mkStr l1)).run Tryz.prog W' = .ok (.string (mkStr x1)) W':=ax1';obtain ⟨x2,hx2,ax2'⟩:=addL x1 [32] (n:=200) (by first | omega | (simp only [List.length_cons,List.length_nil];omega)) (by omega);have ax2 : ∀ W',(Op.stringOp .add (mkStr x1) { data:=#[32] }).run Tryz.prog W' = .ok (.string (mkStr x2)) W':=ax2';have HP2:=uH (pickR (n:=9) HR2.out (by omega) (by omega) (by omega));(go_wp2_with fail);refine HP2.out.mono ?_;rintro e w3 ⟨q,rfl,hq,hg,hr⟩;have HG3:=uH (only_next HG2.out hg);have HR3:Hid (RdIn w3 B g (lim+3)):=uH hr;have HD2:=uH (l6DecSmall q w3 (by omega));have hl2:=decN_len q (by omega);clear hg hr HP2 HG2 HR2;(go_wp2_with fail);refine HD2.out.mono ?_;rintro e w4 ⟨rfl,hb⟩;have HG4:=uH (only_below HG3.out hb);have HR4:=uH (HR3.out.below hb);clear hb HD2 HG3 HR3;generalize Lib.decDigits q=l2 at *;obtain ⟨x3,hx3,ax3'⟩:=addL x2 l2 (n:=300) (by first | omega | (simp only [List.length_cons,List.length_nil];omega)) (by omega);have ax3 : ∀ W',(Op.stringOp .add (mkStr x2) (mkStr l2)).run Tryz.prog W' = .ok (.string (mkStr x3)) W':=ax3';have HO3:=uH (fun cs t h=>ofNew g B (lim+3) 4 [⟨#[115]⟩,⟨#[109]⟩,⟨#[108]⟩,⟨#[120]⟩] cs t w4 h rfl (by omega) (by omega) (by decide) (by omega) HR4.out);(go_wp2_with fail);refine (HO3.out _ _ rfl).mono ?_;rintro e w5 ⟨l3,hl3,rfl,hg,hr⟩;have HG5:=uH (only_next HG4.out hg);have HR5:Hid (RdIn w5 B g (lim+4)):=uH hr;clear hg hr HO3 HG4 HR4;obtain ⟨x4,hx4,ax4'⟩:=addL x3 l3 (n:=400) (by first | omega | (simp only [List.length_cons,List.length_nil];omega)) (by omega);have ax4 : ∀ W',(Op.stringOp .add (mkStr x3) (mkStr l3)).run Tryz.prog W' = .ok (.string (mkStr x4)) W':=ax4';go_wp2;go_ret;exact ⟨x4,by omega,rfl,HG5.out,HR5.out.more (by omega)⟩
 ·subst hm;have HO1:=uH (fun cs t h=>ofNew g B (lim+1) 3 [⟨#[65]⟩,⟨#[66]⟩,⟨#[97]⟩] cs t w1 h rfl (by omega) (by omega) (by decide) (by omega) HR1.out);(go_wp2_with fail);refine (HO1.out _ _ rfl).mono ?_;rintro e w2 ⟨l1,hl1,rfl,hg,hr⟩;have HG2:=uH (only_next HG1.out hg);have HR2:Hid (RdIn w2 B g (lim+2)):=uH hr;clear hg hr HO1 HG1 HR1;obtain ⟨x1,hx1,ax1'⟩:=addL [98,114,105,101,102,32] l1 (n:=100) (by first | omega | (simp only [List.length_cons,List.length_nil];omega)) (by omega);have ax1 : ∀ W',(Op.stringOp .add { data:=#[98,114,105,101,102,32] } (mkStr l1)).run Tryz.prog W' = .ok (.string (mkStr x1)) W':=ax1';obtain ⟨x2,hx2,ax2'⟩:=addL x1 [32] (n:=200) (by first | omega | (simp only [List.length_cons,List.length_nil];omega)) (by omega);have ax2 : ∀ W',(Op.stringOp .add (mkStr x1) { data:=#[32] }).run Tryz.prog W' = .ok (.string (mkStr x2)) W':=ax2';have HO3:=uH (fun cs t h=>ofNew g B (lim+2) 4 [⟨#[119,101]⟩,⟨#[119,101,32,97,114,101]⟩,⟨#[110,111,116]⟩,⟨#[110,111,116,32,104,101,114,101,32,110,111,119]⟩] cs t w2 h rfl (by omega) (by omega) (by decide) (by omega) HR2.out);(go_wp2_with fail);refine (HO3.out _ _ rfl).mono ?_;rintro e w3 ⟨l3,hl3,rfl,hg,hr⟩;have HG3:=uH (only_next HG2.out hg);have HR3:Hid (RdIn w3 B g (lim+3)):=uH hr;clear hg hr HO3 HG2 HR2;obtain ⟨x4,hx4,ax4'⟩:=addL x2 l3 (n:=400) (by first | omega | (simp only [List.length_cons,List.length_nil];omega)) (by omega);have ax4 : ∀ W',(Op.stringOp .add (mkStr x2) (mkStr l3)).run Tryz.prog W' = .ok (.string (mkStr x4)) W':=ax4';go_wp2;go_ret;exact ⟨x4,by omega,rfl,HG3.out,HR3.out.more (by omega)⟩
 ·subst hm;have HSp:=uH (l91Speech g B (lim+1) 5 w1 (by omega) (by omega) HR1.out (by have:=HG1.out.size;omega));(go_wp2_with fail);refine HSp.out.mono ?_;rintro e w2 ⟨v,ws,rfl,hn,hsm,hO,hg,hr⟩;obtain ⟨A2,c2,rfl,_,_⟩:=ownG_form hO;have HWd:Hid (WdsIn w2 w2.heap.size A2 ws.length c2 ws):=uH (WdOwn.reads hO rfl);have HG2:=uH (only_next HG1.out hg);have HR2:=uH hr;have HSm:=uH hsm;clear hO hg hr hsm HSp HG1 HR1;go_wp2;go_loopw [3,5] (fun v3 v5 wr=>∃ (k:Nat) (l:List UInt8),k≤ws.length∧v3 = .string (mkStr l)∧v5 = .int .i64 k∧l.length≤10+50 * k∧wr=w2) (fun _ v5 _=>ws.length - (intOf v5).toNat)
  case atStart=>exact ⟨0,[115,112,101,101,99,104],Nat.zero_le _,rfl,rfl,by simp,by first | trivial | rfl⟩
  case round =>
   obtain ⟨k,l,hk,rfl,rfl,hll,rfl⟩:=hrel;have i3:(0:Int)≤(k:Int):=(by omega);by_cases hlt:k < ws.length
   ·have i4:(k:Int) < (ws.length:Int):=(by omega);obtain ⟨b,off,rfl,hbB,e0⟩:=HWd.out.at_ hlt;have hlk:=HSm.out _ (wdAt_mem hlt);generalize wdAt ws k=u at *;obtain ⟨x1,hx1,a1'⟩:=addL l [32] (n:=20+50 * k) (by simp only [List.length_cons,List.length_nil];omega) (by omega);have a1 : ∀ W',(Op.stringOp .add (mkStr l) { data:=#[32] }).run Tryz.prog W' = .ok (.string (mkStr x1)) W':=a1';obtain ⟨x2,hx2,a2⟩:=addL x1 u (n:=60+50 * k) (by omega) (by omega);clear hlk a1';go_wp2;go_roundw
    case rel=>exact ⟨k+1,x2,by omega,rfl,by go_num,by omega,by first | trivial | rfl⟩
    case measure=>simp [intOf];omega
   ·have i4 : ¬ (k:Int) < (ws.length:Int):=(by omega);go_wp2;go_ret;exact ⟨l,by omega,rfl,HG2.out,HR2.out.more (by omega)⟩
 ·subst hm;have HSp:=uH (l91Speech g B (lim+1) 5 w1 (by omega) (by omega) HR1.out (by have:=HG1.out.size;omega));(go_wp2_with fail);refine HSp.out.mono ?_;rintro e w2 ⟨v,ws,rfl,hn,hsm,hO,hg,hr⟩;obtain ⟨A2,c2,rfl,_,_⟩:=ownG_form hO;have HWd:Hid (WdsIn w2 w2.heap.size A2 ws.length c2 ws):=uH (WdOwn.reads hO rfl);have HG2:=uH (only_next HG1.out hg);have HR2:=uH hr;have HSm:=uH hsm;clear hO hg hr hsm HSp HG1 HR1;go_wp2;go_loopw [3,5] (fun v3 v5 wr=>∃ (k:Nat) (l:List UInt8),k≤ws.length∧v3 = .string (mkStr l)∧v5 = .int .i64 k∧l.length≤10+50 * k∧wr=w2) (fun _ v5 _=>ws.length - (intOf v5).toNat)
  case atStart=>exact ⟨0,[115,112,101,101,99,104],Nat.zero_le _,rfl,rfl,by simp,by first | trivial | rfl⟩
  case round =>
   obtain ⟨k,l,hk,rfl,rfl,hll,rfl⟩:=hrel;have i3:(0:Int)≤(k:Int):=(by omega);by_cases hlt:k < ws.length
   ·have i4:(k:Int) < (ws.length:Int):=(by omega);obtain ⟨b,off,rfl,hbB,e0⟩:=HWd.out.at_ hlt;have hlk:=HSm.out _ (wdAt_mem hlt);generalize wdAt ws k=u at *;obtain ⟨x1,hx1,a1'⟩:=addL l [32] (n:=20+50 * k) (by simp only [List.length_cons,List.length_nil];omega) (by omega);have a1 : ∀ W',(Op.stringOp .add (mkStr l) { data:=#[32] }).run Tryz.prog W' = .ok (.string (mkStr x1)) W':=a1';obtain ⟨x2,hx2,a2⟩:=addL x1 u (n:=60+50 * k) (by omega) (by omega);clear hlk a1';go_wp2;go_roundw
    case rel=>exact ⟨k+1,x2,by omega,rfl,by go_num,by omega,by first | trivial | rfl⟩
    case measure=>simp [intOf];omega
   ·have i4 : ¬ (k:Int) < (ws.length:Int):=(by omega);go_wp2;go_ret;exact ⟨l,by omega,rfl,HG2.out,HR2.out.more (by omega)⟩
 ·subst hm;have HO1:=uH (fun cs t h=>ofNew g B (lim+1) 5 [⟨#[]⟩,⟨#[32,119,101]⟩,⟨#[32,119,101,32,97,114,101,32,110,111,116]⟩,⟨#[32,110,111,116,32,110,111,119]⟩,⟨#[32,65]⟩] cs t w1 h rfl (by omega) (by omega) (by decide) (by omega) HR1.out);(go_wp2_with fail);refine (HO1.out _ _ rfl).mono ?_;rintro e w2 ⟨l1,hl1,rfl,hg,hr⟩;have HG2:=uH (only_next HG1.out hg);have HR2:Hid (RdIn w2 B g (lim+2)):=uH hr;clear hg hr HO1 HG1 HR1;obtain ⟨x4,hx4,ax4'⟩:=addL [112,114,111,111,102] l1 (n:=100) (by first | omega | (simp only [List.length_cons,List.length_nil];omega)) (by omega);have ax4 : ∀ W',(Op.stringOp .add { data:=#[112,114,111,111,102] } (mkStr l1)).run Tryz.prog W' = .ok (.string (mkStr x4)) W':=ax4';go_wp2;go_ret;exact ⟨x4,by omega,rfl,HG2.out,HR2.out.more (by omega)⟩
 ·subst hm;have HP2:=uH (pickR (n:=9) HR1.out (by omega) (by omega) (by omega));(go_wp2_with fail);refine HP2.out.mono ?_;rintro e w2 ⟨q,rfl,hq,hg,hr⟩;have HG2:=uH (only_next HG1.out hg);have HR2:Hid (RdIn w2 B g (lim+2)):=uH hr;have HD2:=uH (l6DecSmall q w2 (by omega));have hl2:=decN_len q (by omega);clear hg hr HP2 HG1 HR1;(go_wp2_with fail);refine HD2.out.mono ?_;rintro e w3 ⟨rfl,hb⟩;have HG3:=uH (only_below HG2.out hb);have HR3:=uH (HR2.out.below hb);clear hb HD2 HG2 HR2;generalize Lib.decDigits q=l2 at *;obtain ⟨x1,hx1,ax1'⟩:=addL [102,105,108,101,32] l2 (n:=100) (by first | omega | (simp only [List.length_cons,List.length_nil];omega)) (by omega);have ax1 : ∀ W',(Op.stringOp .add { data:=#[102,105,108,101,32] } (mkStr l2)).run Tryz.prog W' = .ok (.string (mkStr x1)) W':=ax1';obtain ⟨x2,hx2,ax2'⟩:=addL x1 [32] (n:=200) (by first | omega | (simp only [List.length_cons,List.length_nil];omega)) (by omega);have ax2 : ∀ W',(Op.stringOp .add (mkStr x1) { data:=#[32] }).run Tryz.prog W' = .ok (.string (mkStr x2)) W':=ax2';have HO3:=uH (fun cs t h=>ofNew g B (lim+2) 3 [⟨#[97]⟩,⟨#[98]⟩,⟨#[65]⟩] cs t w3 h rfl (by omega) (by omega) (by decide) (by omega) HR3.out);(go_wp2_with fail);refine (HO3.out _ _ rfl).mono ?_;rintro e w4 ⟨l3,hl3,rfl,hg,hr⟩;have HG4:=uH (only_next HG3.out hg);have HR4:Hid (RdIn w4 B g (lim+3)):=uH hr;clear hg hr HO3 HG3 HR3;obtain ⟨x4,hx4,ax4'⟩:=addL x2 l3 (n:=400) (by first | omega | (simp only [List.length_cons,List.length_nil];omega)) (by omega);have ax4 : ∀ W',(Op.stringOp .add (mkStr x2) (mkStr l3)).run Tryz.prog W' = .ok (.string (mkStr x4)) W':=ax4';go_wp2;go_ret;exact ⟨x4,by omega,rfl,HG4.out,HR4.out.more (by omega)⟩
 ·subst hm;have HP2:=uH (pickR (n:=9) HR1.out (by omega) (by omega) (by omega));(go_wp2_with fail);refine HP2.out.mono ?_;rintro e w2 ⟨q,rfl,hq,hg,hr⟩;have HG2:=uH (only_next HG1.out hg);have HR2:Hid (RdIn w2 B g (lim+2)):=uH hr;have HD2:=uH (l6DecSmall q w2 (by omega));have hl2:=decN_len q (by omega);clear hg hr HP2 HG1 HR1;(go_wp2_with fail);refine HD2.out.mono ?_;rintro e w3 ⟨rfl,hb⟩;have HG3:=uH (only_below HG2.out hb);have HR3:=uH (HR2.out.below hb);clear hb HD2 HG2 HR2;generalize Lib.decDigits q=l2 at *;obtain ⟨x1,hx1,ax1'⟩:=addL [102,105,108,101,32] l2 (n:=100) (by first | omega | (simp only [List.length_cons,List.length_nil];omega)) (by omega);have ax1 : ∀ W',(Op.stringOp .add { data:=#[102,105,108,101,32] } (mkStr l2)).run Tryz.prog W' = .ok (.string (mkStr x1)) W':=ax1';obtain ⟨x2,hx2,ax2'⟩:=addL x1 [32] (n:=200) (by first | omega | (simp only [List.length_cons,List.length_nil];omega)) (by omega);have ax2 : ∀ W',(Op.stringOp .add (mkStr x1) { data:=#[32] }).run Tryz.prog W' = .ok (.string (mkStr x2)) W':=ax2';have HO3:=uH (fun cs t h=>ofNew g B (lim+2) 3 [⟨#[97]⟩,⟨#[98]⟩,⟨#[65]⟩] cs t w3 h rfl (by omega) (by omega) (by decide) (by omega) HR3.out);(go_wp2_with fail);refine (HO3.out _ _ rfl).mono ?_;rintro e w4 ⟨l3,hl3,rfl,hg,hr⟩;have HG4:=uH (only_next HG3.out hg);have HR4:Hid (RdIn w4 B g (lim+3)):=uH hr;clear hg hr HO3 HG3 HR3;obtain ⟨x4,hx4,ax4'⟩:=addL x2 l3 (n:=400) (by first | omega | (simp only [List.length_cons,List.length_nil];omega)) (by omega);have ax4 : ∀ W',(Op.stringOp .add (mkStr x2) (mkStr l3)).run Tryz.prog W' = .ok (.string (mkStr x4)) W':=ax4';go_wp2;go_ret;exact ⟨x4,by omega,rfl,HG4.out,HR4.out.more (by omega)⟩
 ·subst hm;have HO1:=uH (fun cs t h=>ofNew g B (lim+1) 4 [⟨#[99,108,101,97,114,32,51]⟩,⟨#[99,108,101,97,114,32,120]⟩,⟨#[99,108,101,97,114,32,48]⟩,⟨#[99,108,101,97,114]⟩] cs t w1 h rfl (by omega) (by omega) (by decide) (by omega) HR1.out);(go_wp2_with fail);refine (HO1.out _ _ rfl).mono ?_;rintro e w2 ⟨l1,hl1,rfl,hg,hr⟩;have HG2:=uH (only_next HG1.out hg);have HR2:Hid (RdIn w2 B g (lim+2)):=uH hr;clear hg hr HO1 HG1 HR1;go_wp2;go_ret;exact ⟨l1,by omega,rfl,HG2.out,HR2.out.more (by omega)⟩
 ·subst hm;have HO1:=uH (fun cs t h=>ofNew g B (lim+1) 7 [⟨#[]⟩,⟨#[122,122,122]⟩,⟨#[115,112,101,101,99,104,32]⟩,⟨#[102,105,108,101,32,49]⟩,⟨#[115,105,103,110,32,119]⟩,⟨#[119,114,105,116,101,32,49]⟩,⟨#[98,114,105,101,102,32,65]⟩] cs t w1 h rfl (by omega) (by omega) (by decide) (by omega) HR1.out);(go_wp2_with fail);refine (HO1.out _ _ rfl).mono ?_;rintro e w2 ⟨l1,hl1,rfl,hg,hr⟩;have HG2:=uH (only_next HG1.out hg);have HR2:Hid (RdIn w2 B g (lim+2)):=uH hr;clear hg hr HO1 HG1 HR1;go_wp2;go_ret;exact ⟨l1,by omega,rfl,HG2.out,HR2.out.more (by omega)⟩
 ·subst hm;have HO1:=uH (fun cs t h=>ofNew g B (lim+1) 4 [⟨#[119,114,105,116,101]⟩,⟨#[99,111,112,121]⟩,⟨#[108,101,116,116,101,114,115]⟩,⟨#[99,97,98,105,110,101,116]⟩] cs t w1 h rfl (by omega) (by omega) (by decide) (by omega) HR1.out);(go_wp2_with fail);refine (HO1.out _ _ rfl).mono ?_;rintro e w2 ⟨l1,hl1,rfl,hg,hr⟩;have HG2:=uH (only_next HG1.out hg);have HR2:Hid (RdIn w2 B g (lim+2)):=uH hr;clear hg hr HO1 HG1 HR1;go_wp2;go_ret;exact ⟨l1,by omega,rfl,HG2.out,HR2.out.more (by omega)⟩
 ·subst hm;have HO1:=uH (fun cs t h=>ofNew g B (lim+1) 4 [⟨#[119,114,105,116,101]⟩,⟨#[99,111,112,121]⟩,⟨#[108,101,116,116,101,114,115]⟩,⟨#[99,97,98,105,110,101,116]⟩] cs t w1 h rfl (by omega) (by omega) (by decide) (by omega) HR1.out);(go_wp2_with fail);refine (HO1.out _ _ rfl).mono ?_;rintro e w2 ⟨l1,hl1,rfl,hg,hr⟩;have HG2:=uH (only_next HG1.out hg);have HR2:Hid (RdIn w2 B g (lim+2)):=uH hr;clear hg hr HO1 HG1 HR1;go_wp2;go_ret;exact ⟨l1,by omega,rfl,HG2.out,HR2.out.more (by omega)⟩
theorem l6ManyLet (w:World):Calls Tryz.prog 45 #[.string { data:=#[108,101,116,116,101,114,115,10] },.int .i64 70] w fun e w'=>(∃ l:List UInt8,l.length≤100000∧e = .returned (.string (mkStr l)))∧w=w':=by
 go_enter Tryz.func45,Tryz.ntmps45
 go_wp2;go_loopw [0,1,5] (fun v0 v1 v5 wr=>∃ (n:Nat) (a l:List UInt8),((n=70∧a.length≤8∧l.length≤0)∨(n=35∧a.length≤16∧l.length≤0)∨(n=17∧a.length≤32∧l.length≤16)∨(n=8∧a.length≤64∧l.length≤48)∨(n=4∧a.length≤128∧l.length≤48)∨(n=2∧a.length≤256∧l.length≤48)∨(n=1∧a.length≤512∧l.length≤48)∨(n=0∧a.length≤1024∧l.length≤560))∧v0 = .string (mkStr a)∧v1 = .int .i64 n∧v5 = .string (mkStr l)∧w=wr) (fun _ v1 _ _=>(intOf v1).toNat)
 case atStart=>exact ⟨70,[108,101,116,116,101,114,115,10],[],.inl ⟨rfl,by simp,by simp⟩,rfl,rfl,rfl,by first | trivial | rfl⟩
 case round =>
  obtain ⟨n,a,l,hn,rfl,rfl,rfl,rfl⟩:=hrel;rcases hn with ⟨rfl,ha,hl⟩ | ⟨rfl,ha,hl⟩ | ⟨rfl,ha,hl⟩ | ⟨rfl,ha,hl⟩ | ⟨rfl,ha,hl⟩ | ⟨rfl,ha,hl⟩ | ⟨rfl,ha,hl⟩ | ⟨rfl,ha,hl⟩
  ·obtain ⟨x2,hx2,a2⟩:=addL a a (n:=16) (by omega) (by omega);go_wp2;go_roundw
   case rel=>exact ⟨35,x2,l,.inr (.inl ⟨rfl,hx2,hl⟩),rfl,rfl,rfl,by first | trivial | rfl⟩
   case measure=>simp [intOf]
  ·obtain ⟨x1,hx1,a1⟩:=addL l a (n:=16) (by omega) (by omega);obtain ⟨x2,hx2,a2⟩:=addL a a (n:=32) (by omega) (by omega);go_wp2;go_roundw
   case rel=>exact ⟨17,x2,x1,.inr (.inr (.inl ⟨rfl,hx2,hx1⟩)),rfl,rfl,rfl,by first | trivial | rfl⟩
   case measure=>simp [intOf]
  ·obtain ⟨x1,hx1,a1⟩:=addL l a (n:=48) (by omega) (by omega);obtain ⟨x2,hx2,a2⟩:=addL a a (n:=64) (by omega) (by omega);go_wp2;go_roundw
   case rel=>exact ⟨8,x2,x1,.inr (.inr (.inr (.inl ⟨rfl,hx2,hx1⟩))),rfl,rfl,rfl,by first | trivial | rfl⟩
   case measure=>simp [intOf]
  ·obtain ⟨x2,hx2,a2⟩:=addL a a (n:=128) (by omega) (by omega);go_wp2;go_roundw
   case rel=>exact ⟨4,x2,l,.inr (.inr (.inr (.inr (.inl ⟨rfl,hx2,hl⟩)))),rfl,rfl,rfl,by first | trivial | rfl⟩
   case measure=>simp [intOf]
  ·obtain ⟨x2,hx2,a2⟩:=addL a a (n:=256) (by omega) (by omega);go_wp2;go_roundw
   case rel=>exact ⟨2,x2,l,.inr (.inr (.inr (.inr (.inr (.inl ⟨rfl,hx2,hl⟩))))),rfl,rfl,rfl,by first | trivial | rfl⟩
   case measure=>simp [intOf]
  ·obtain ⟨x2,hx2,a2⟩:=addL a a (n:=512) (by omega) (by omega);go_wp2;go_roundw
   case rel=>exact ⟨1,x2,l,.inr (.inr (.inr (.inr (.inr (.inr (.inl ⟨rfl,hx2,hl⟩)))))),rfl,rfl,rfl,by first | trivial | rfl⟩
   case measure=>simp [intOf]
  ·obtain ⟨x1,hx1,a1⟩:=addL l a (n:=560) (by omega) (by omega);obtain ⟨x2,hx2,a2⟩:=addL a a (n:=1024) (by omega) (by omega);go_wp2;go_roundw
   case rel=>exact ⟨0,x2,x1,.inr (.inr (.inr (.inr (.inr (.inr (.inr (⟨rfl,hx2,hx1⟩))))))),rfl,rfl,rfl,by first | trivial | rfl⟩
   case measure=>simp [intOf]
  ·go_wp2;go_ret;exact ⟨⟨l,by omega,rfl⟩,rfl⟩
def DrawnEx (w:World) (e:Ending) (w':World):Prop:=(∃ l:List UInt8,l.length≤200000∧e = .returned (.string (mkStr l)))∧Below w.heap.size w w'
set_option maxHeartbeats 1600000 in
theorem drawExecute (A:Option Addr) (n c:Nat) (bs:List Int) (w:World) (hb:BytesIn w w.heap.size A n c bs) :
  Calls Tryz.prog 11 #[.slice A n c] w (DrawnEx w):=by
 have HO:=uH (l6Open A n c bs w.heap.size w (Nat.le_refl _) hb);clear hb;go_enter Tryz.func11,Tryz.ntmps11
 (go_wp2_with fail);refine HO.out.mono ?_;rintro e w1 ⟨rfl,hb1,hr1⟩;have HP:=uH (pickR (n:=14) hr1 (by omega) (by omega) (by omega));clear hr1 HO;(go_wp2_with fail);refine HP.out.mono ?_;rintro e w2 ⟨N,rfl,hN,hg2,hr2⟩;have b2:=hb1.grown hg2 hb1.size (fun k hk=>by injection hk with hk;omega);have HR2:=uH hr2;clear hr2 HP hg2 hb1;go_wp2;go_loopw [4,6] (fun v4 v6 wr=>∃ (k:Nat) (l:List UInt8),k≤N∧v4 = .string (mkStr l)∧v6 = .int .i64 k∧l.length≤1100 * k∧Hid (RdIn wr w.heap.size w.heap.size (1+50 * k))∧Below w.heap.size w wr) (fun _ v6 _=>N - (intOf v6).toNat)
 case atStart=>exact ⟨0,[],Nat.zero_le _,rfl,rfl,by simp,HR2,b2⟩
 case round =>
  obtain ⟨k,l,hk,rfl,rfl,hll,hR,hb⟩:=hrel;have i3:(0:Int)≤(k:Int):=(by omega);by_cases hlt:k < N
  ·have i4:(k:Int) < (N:Int):=(by omega);have HW:=uH (l92Words w.heap.size w.heap.size (1+50 * k) wr (by omega) hR.out hb.size);clear hR;(go_wp2_with fail);refine HW.out.mono ?_;rintro e w3 ⟨u,hu,rfl,hg,hr⟩;have b3:=hb.grown hg hb.size (fun k hk=>by injection hk with hk;omega);have HR3:Hid (RdIn w3 w.heap.size w.heap.size (1+50 * (k+1))):=uH (hr.more (by omega));obtain ⟨x1,hx1,a1⟩:=addL l u (n:=1000+1100 * k) (by omega) (by omega);obtain ⟨x2,hx2,a2'⟩:=addL x1 [10] (n:=1100 * (k+1)) (by simp only [List.length_cons,List.length_nil];omega) (by omega);have a2 : ∀ W',(Op.stringOp .add (mkStr x1) { data:=#[10] }).run Tryz.prog W' = .ok (.string (mkStr x2)) W':=a2';clear HW hg hr a2';go_wp2;go_roundw
   case rel=>exact ⟨k+1,x2,by omega,rfl,by go_num,by omega,HR3,b3⟩
   case measure=>simp [intOf];omega
  ·have i4 : ¬ (k:Int) < (N:Int):=(by omega);have HP:=uH (pickR (n:=24) hR.out (by omega) (by omega) (by omega));clear hR;(go_wp2_with fail);refine HP.out.mono ?_;rintro e w3 ⟨m,rfl,hm,hg,hr⟩;have b3:=hb.grown hg hb.size (fun k hk=>by injection hk with hk;omega);clear HP hg hr;by_cases h0:m=0
   ·subst h0;obtain ⟨x2,hx2,a2'⟩:=addL l [119,114,105,116,101] (n:=20000) (by simp only [List.length_cons,List.length_nil];omega) (by omega);have a2 : ∀ W',(Op.stringOp .add (mkStr l) { data:=#[119,114,105,116,101] }).run Tryz.prog W' = .ok (.string (mkStr x2)) W':=a2';clear a2';go_wp2;go_ret;exact ⟨⟨x2,by omega,rfl⟩,b3⟩
   by_cases h1:m=1
   ·subst h1;have HM:=uH (l6ManyLet w3);(go_wp2_with fail);refine HM.out.mono ?_;rintro e w4 ⟨⟨u,hu,rfl⟩,rfl⟩;obtain ⟨x2,hx2,a2⟩:=addL l u (n:=150000) (by omega) (by omega);go_wp2;go_ret;exact ⟨⟨x2,by omega,rfl⟩,b3⟩
   ·have e0:((m:Int) == 0)=false:=(by simpa using h0);have e1:((m:Int) == 1)=false:=(by simp;omega);go_wp2;go_ret;exact ⟨⟨l,by omega,rfl⟩,b3⟩
theorem bytes_at (s:ByteArray) (k:Nat) (h:k < s.size):s.data.toList[k]'(by simpa using h)=s[k]:=by simp [ByteArray.getElem_eq_getElem_data]
theorem compl_step (s:ByteArray) (k:Nat) (h:k < s.size):complL (s.data.toList.take (k+1))=if s[k]=10 then s.data.toList.take (k+1) else complL (s.data.toList.take k):=by
 have hk:k < s.data.toList.length:=(by simpa using h);rw [List.take_succ_eq_append_getElem hk,complL_snoc,bytes_at s k h]
theorem complete (s:ByteArray) (w:World) (hs:s.size≤1048576) :
  Calls Tryz.prog 14 #[.string s] w fun e w'=>e = .returned (.string (mkStr (complL s.data.toList)))∧w=w':=by
 have HL:Hid (s.data.toList.take s.size=s.data.toList):=uH (List.take_of_length_le (by simp));go_enter Tryz.func14,Tryz.ntmps14
 go_wp2;go_loopw [3] (fun v3 wr=>∃ k:Nat,k≤s.size∧v3 = .int .i64 k∧Hid (complL s.data.toList=complL (s.data.toList.take k))∧w=wr) (fun v3 _=>(intOf v3).toNat)
 case atStart=>exact ⟨s.size,Nat.le_refl _,rfl,uH (by rw [HL.out]),by first | trivial | rfl⟩
 case round =>
  obtain ⟨k,hk,rfl,HC,rfl⟩:=hrel;by_cases h0:k=0
  ·subst h0;have HR:Hid (complL s.data.toList=[]):=uH (by rw [HC.out];rfl);go_wp2;go_ret;exact ⟨by rw [HR.out];rfl,rfl⟩
  ·obtain ⟨j,rfl⟩ : ∃ j,k=j+1:=⟨k - 1,by omega⟩;have hj:j < s.size:=(by omega);have HS:=uH (compl_step s j hj);have i1:(0:Int) < (j:Int)+1:=(by omega);have i2:(0:Int)≤(j:Int):=(by omega);have i3:(j:Int) < (s.size:Int):=(by omega);have i4:(j:Int)+1≤(s.size:Int):=(by omega);by_cases e:s[j]=10
   ·have hbq:((s[j].toNat:Int) == 10)=true:=(by rw [e];rfl);have HX:Hid (s.extract 0 (j+1)=mkStr (complL s.data.toList)):=uH (by rw [HC.out,HS.out,if_pos e,ext_mid s 0 (j+1),List.drop_zero]);clear e h0;go_wp2;go_ret;exact ⟨by rw [← HX.out];rfl,rfl⟩
   ·have hbq:((s[j].toNat:Int) == 10)=false:=beq_eq_false_iff_ne.2 (fun h=>e (UInt8.toNat_inj.1 (by show s[j].toNat=10;omega)));have HN:Hid (complL s.data.toList=complL (s.data.toList.take j)):=uH (by rw [HC.out,HS.out,if_neg e]);clear e h0;go_wp2;go_roundw
    case rel=>exact ⟨j,by omega,by go_num,HN,by first | trivial | rfl⟩
    case measure=>simp [intOf]
theorem lastLine (s:ByteArray) (w:World) (h2:2≤s.size) (hs:s.size≤1000000000000) :
  Calls Tryz.prog 15 #[.string s] w fun e w'=>e = .returned (.string (mkStr (lastL s.data.toList)))∧w=w':=by
 have esz:s.data.toList.length=s.size:=(by simp);obtain ⟨M,hM⟩ : ∃ M,s.size=M+2:=⟨s.size - 2,by omega⟩;have HLL:Hid (lastL s.data.toList=s.data.toList.drop (complL (s.data.toList.take (M+1))).length):=uH (by unfold lastL;rw [esz,hM];rfl);have HM:=uH hM;have i0:(s.size:Int)=(M:Int)+2:=(by omega);clear esz hM;go_enter Tryz.func15,Tryz.ntmps15
 go_wp2;go_loopw [3] (fun v3 wr=>∃ k:Nat,k≤M+1∧v3 = .int .i64 ((k:Int) - 1)∧Hid (complL (s.data.toList.take (M+1))=complL (s.data.toList.take k))∧w=wr) (fun v3 _=>(intOf v3+1).toNat)
 case atStart =>
  exact ⟨M+1,Nat.le_refl _,by rw [show ((M+1:Nat):Int) - 1=(M:Int) by omega],uH rfl,by first | trivial | rfl⟩
 case round =>
  obtain ⟨k,hk,rfl,HC,rfl⟩:=hrel;by_cases h0:k=0
  ·subst h0;have HR:Hid (mkStr (lastL s.data.toList)=s):=uH (by
    rw [HLL.out,HC.out];exact mkStr_self s)
   go_wp2;go_ret;exact ⟨by rw [HR.out];rfl,rfl⟩
  ·obtain ⟨j,rfl⟩ : ∃ j,k=j+1:=⟨k - 1,by omega⟩;have hj:j < s.size:=(by have:=HM.out;omega);have HS:=uH (compl_step s j hj);have e0:((j+1:Nat):Int) - 1=(j:Int):=(by omega);have i2:(0:Int)≤(j:Int):=(by omega);have i3:(j:Int) < (s.size:Int):=(by omega);have i4:(j:Int)+1≤(s.size:Int):=(by omega);rw [e0];clear e0;by_cases e:s[j]=10
   ·have hbq:((s[j].toNat:Int) == 10)=true:=(by rw [e];rfl);have HX:Hid (s.extract (j+1) s.size=mkStr (lastL s.data.toList)):=uH (by
     rw [HLL.out,HC.out,HS.out,if_pos e,ext_end s (j+1),List.length_take,Nat.min_eq_left (by simp;omega)])
    clear e h0;go_wp2;go_ret;exact ⟨by rw [← HX.out];rfl,rfl⟩
   ·have hbq:((s[j].toNat:Int) == 10)=false:=beq_eq_false_iff_ne.2 (fun h=>e (UInt8.toNat_inj.1 (by show s[j].toNat=10;omega)));have HN:Hid (complL (s.data.toList.take (M+1))=complL (s.data.toList.take j)):=uH (by rw [HC.out,HS.out,if_neg e]);clear e h0;go_wp2;go_roundw
    case rel=>exact ⟨j,by omega,by go_num,HN,by first | trivial | rfl⟩
    case measure=>simp [intOf]
theorem exec_lastlen {l:Wd} (h:l.length≤500):15≤(lastL (exec l)).length∧(lastL (exec l)).length≤(exec l).length:=by
 rw [exec_last h,exec_yes h,List.length_append];have:=endS_len (runS_ok (linesOf l) st0 st0_ok);omega
end Go.Proofs.YtbkhnljaajajiaaGreatDoor
