/-
  Contracts and plain laws that the proofs lean on. Conditions: as each says.
-/
import Derived.Test.YtbkhnljaajajiaaGreatDoorPX21
import Derived.Test.YtbkhnljaajajiaaGreatDoorPX24
import Derived.Test.YtbkhnljaajajiaaGreatDoorPX26
import Derived.Test.YtbkhnljaajajiaaGreatDoorPX27
import Derived.StringKeys
set_option maxRecDepth 100000
set_option linter.unusedSimpArgs false
set_option linter.unusedVariables false
set_option linter.unnecessarySimpa false
namespace Go.Proofs.YtbkhnljaajajiaaGreatDoor
open Go.ChangeShapes Go.WideShapes Go.ChangeAt Go.RowKit
theorem curOf_put {i:Nat} {cur:Option Mk} {S:List Wd} (h : ∀ m,cur=some m→∀ l∈m.put,l∈S) : ∀ l∈(curOf i cur).put,l∈S:=by
 cases cur with
 | none=>intro l hl;cases hl
 | some m=>exact h m rfl
theorem mkGo_mem {S:List Wd} : ∀ (a b:List Wd) (i:Nat) (cur:Option Mk),(∀ l∈b,l∈S)→(∀ m,cur=some m→∀ l∈m.put,l∈S)→∀ m∈mkGo a b i cur,∀ l∈m.put,l∈S:=by
 intro a b i cur;induction a,b,i,cur using mkGo.induct with
 | case1 i cur =>
  intro hb hc m hm;rw [mkGo_done] at hm;cases cur with
  | none=>cases hm
  | some m' =>
   have e:m=m':=(by simpa using hm);rw [e];exact hc m' rfl
 | case2 x a i cur ih =>
  intro hb hc m hm;rw [mkGo_cut (fun y r h=>by cases h) (dst_end x a)] at hm;exact ih hb (fun m' e=>by injection e with e;subst e;exact curOf_put hc) m hm
 | case3 y b i cur ih =>
  intro hb hc m hm;rw [mkGo_put (fun x r h=>by cases h)] at hm;refine ih (fun l hl=>hb l (by simp [hl])) (fun m' e=>?_) m hm;injection e with e;subst e;intro l hl;rcases List.mem_append.1 hl with h | h
  ·exact curOf_put hc l h
  ·rw [List.mem_singleton] at h;subst h;exact hb _ (by simp)
 | case4 x a b i cur ih =>
  intro hb hc m hm;rw [mkGo_same] at hm;rcases List.mem_append.1 hm with hm | hm
  ·cases cur with
   | none=>cases hm
   | some m' =>
    have e:m=m':=(by simpa using hm);rw [e];exact hc m' rfl
  ·exact ih (fun l hl=>hb l (by simp [hl])) (fun m' e=>by cases e) m hm
 | case5 x a y b i cur hne hd ih =>
  intro hb hc m hm;rw [mkGo_cut (fun y' r h=>by injection h with h _;rw [← h];exact hne) hd] at hm;exact ih hb (fun m' e=>by injection e with e;subst e;exact curOf_put hc) m hm
 | case6 x a y b i cur hne hd ih =>
  intro hb hc m hm;rw [mkGo_put (fun x' r h=>by injection h with h1 h2;rw [← h1,← h2];exact ⟨hne,hd⟩)] at hm;refine ih (fun l hl=>hb l (by simp [hl])) (fun m' e=>?_) m hm;injection e with e;subst e;intro l hl;rcases List.mem_append.1 hl with h | h
  ·exact curOf_put hc l h
  ·rw [List.mem_singleton] at h;subst h;exact hb _ (by simp)
theorem okMs_make {w:World} {B n c:Nat} {A:Option Addr} {a b:List Wd} {xs:List Mr} (ha:a.length≤1000) (hb:b.length≤1000) (hW : ∀ l∈b,l.length≤maxLen) (h:MrsIn w B A n c xs) (e:xs.map Mr.dat=mkAll a b):OkMs xs:=by
 intro x hx;have hm:x.dat∈mkAll a b:=(by rw [← e];exact List.mem_map_of_mem hx);have h1:=mkGo_bd (N:=a.length) (M:=b.length) a b 0 none (by omega) (fun m e=>by cases e) (Nat.le_refl _) x.dat hm;have h2:=mkGo_mem (S:=b) a b 0 none (fun l h=>h) (fun m e=>by cases e) x.dat hm;have h3:=(h.2.2.2.2 x hx).1;simp only [Mr.dat] at h1 h2;exact ⟨⟨by omega,by omega,by omega⟩,fun l hl=>hW l (h2 l hl)⟩
def MgAns (w':World) (B:Nat) (o:Option (List Wd)) (e:Ending):Prop :=
 ∃ A c,e = .returned (.tuple #[.slice A (o.getD []).length c,.bool o.isSome])∧WdOwn w' B (.slice A (o.getD []).length c) (o.getD [])
theorem MgAns.no {w':World} {B:Nat} {o:Option (List Wd)} {A:Option Addr} {c:Nat} (ho:o=none) (h:WdOwn w' B (.slice A 0 c) []):MgAns w' B o (.returned (.tuple #[.slice A 0 c,.bool false])):=by
 subst ho;exact ⟨A,c,rfl,h⟩
theorem MgAns.yes {w':World} {B n:Nat} {o:Option (List Wd)} {A:Option Addr} {c:Nat} {ws:List Wd} (ho:o=some ws) (hn:n=ws.length) (h:WdOwn w' B (.slice A n c) ws):MgAns w' B o (.returned (.tuple #[.slice A n c,.bool true])):=by
 subst ho hn;exact ⟨A,c,rfl,h⟩
theorem lineText_len9 (L:List Dat):(lineText L).length≤18 * L.length:=by
 cases h:lineB L with
 | true=>rw [lineText_yes h];exact lineT_len L
 | false=>rw [lineText_no h];simp
theorem allW_len9 {xs:List Sg} : ∀ {ws:List (List UInt8)} {L:List Dat},allW xs ws=some L→L.length=ws.length
 | [],L,h=>by injection h with h;subst h;rfl
 | l::r,L,h=>by
  obtain ⟨d,_,h⟩:=Option.bind_eq_some_iff.1 h;obtain ⟨L',h2,rfl⟩:=Option.map_eq_some_iff.1 h;rw [List.length_cons,List.length_cons,allW_len9 h2]
theorem lineOf_len20 {xs:List Sg} {ws:List (List UInt8)} {L:List Dat} (h:lineOf xs ws=some L):L.length≤20:=by
 unfold lineOf at h;split at h
 ·rename_i hc;rw [allW_len9 h];exact hc.2
 ·cases h
section
variable {A1 A2 A3 A4:Option Addr} {n1 c1 n2 c2 n3 c3 n4 c4:Nat} {sys:List Sg} {xs:List Br} {sp:List Wd} {ds:List Drawer}
theorem bestO_len {bs:List Bf} {ws t:List Wd} (h:brsB bs=true) (hs:spB ws=true) (ho:bestO bs ws=some t):t.length≤20:=by
 unfold bestO at ho;rw [h,hs] at ho;injection ho with ho;rw [← ho];exact Nat.le_trans (bestT_len (valid_one h) ws.length ws (Nat.le_refl _)) (spB_iff.1 hs).2
theorem bestT_sm {bs:List Bf} (h : ∀ b∈bs,1≤b.words.length) (hm : ∀ b∈bs,b.mark.length≤12) : ∀ (n:Nat) (ws:List Wd),ws.length≤n→(∀ l∈ws,l.length≤12)→∀ l∈bestT bs ws,l.length≤12:=by
 intro n;induction n with
 | zero=>intro ws hl _ l hx;have:ws=[]:=List.length_eq_zero_iff.1 (by omega);subst this;rw [bestT_nil] at hx;cases hx
 | succ n ih =>
  intro ws hl hw l hx;by_cases h0:0 < ws.length
  ·rw [bestT_step h h0] at hx;have hb:=stepT_bd h h0;rcases List.mem_cons.1 hx with rfl | hx
   ·unfold stepT;cases hp:pickB bs ws with
    | some b=>exact hm b (pickB_mem hp).1
    | none =>
     match ws,h0 with
     | x::r,_=>exact hw x (by simp)
   ·exact ih (ws.drop (stepT bs ws).2) (by rw [List.length_drop];omega) (fun y hy=>hw y (List.mem_of_mem_drop hy)) l hx
  ·have:ws=[]:=List.length_eq_zero_iff.1 (by omega);subst this;rw [bestT_nil] at hx;cases hx
theorem bestT_small {h:Hd} (ok:h.st.ok) : ∀ l∈bestT h.st.brs h.st.sp,l.length≤600:=fun l hl=>by
 have:=bestT_sm (valid_one ok.2.1) (fun b hb=>by have:=markB_len (bfB_iff.1 (brsB_mem ok.2.1 b hb)).1;omega) h.st.sp.length h.st.sp (Nat.le_refl _) (stSz ok).w3 l hl;omega
theorem marksText_len9 (ws:List Wd) (ms:List Mk):(marksText ws ms).length≤1000000:=by
 unfold marksText;split
 ·rename_i hv
  obtain ⟨h1,h2⟩:=mark_bd hv;have h3 : ∀ l∈ms.map mkTx,l.length≤400:=fun l hl=>by
   obtain ⟨m,hm,rfl⟩:=List.mem_map.1 hl;obtain ⟨g1,g2,g3,g4⟩:=h2 m hm;exact mkTx_len g1 g2 g3 g4
  have h4:=join_len1 (s:=32) h3;rw [List.length_map] at h4;have e:marksTxt ms=Lib.join (ms.map mkTx) [32]:=(by unfold marksTxt;rfl);rw [e];omega
 ·simp
end
end Go.Proofs.YtbkhnljaajajiaaGreatDoor
namespace Go.Proofs.YtbkhnljaajajiaaGreatDoor
open Go.ChangeShapes Go.WideShapes Go.ChangeAt Go.RowKit
theorem addRun2 {w V:World} {v:Value} {xs:List Br} {x:Br} (hV:Below w.heap.size w V) (hO:BrOwn V w.heap.size v xs) (hx:BrIn V V.heap.size x) (hsep : ∀ a,x.A=some a→v.ownBlock≠some a.block∧a.block < V.heap.size) (hn:xs.length≤1000) :
  ∃ (A2:Option Addr) (c2:Nat) (w2:World),
   (appZ #[26,26] 26 #[v,.slice (some ⟨V.heap.size,0,none⟩) 1 1]).run Tryz.prog (V.alloc (.cells #[.string (mkStr x.mark),.slice x.A x.n x.c] 34)) = .ok (.slice A2 (xs.length+1) c2) w2 ∧
   BrOwn w2 w.heap.size (.slice A2 (xs.length+1) c2) (xs++[x])∧Below w.heap.size w w2∧(∀ (p:Addr) (u:Value),V.cell? p=some u→v.ownBlock≠some p.block→w2.cell? p=some u):=by
 obtain ⟨i0,hi,hz0,hz1,hz2⟩:=info_parts infoBr;have hVz:=hV.size;have hbox:Below V.heap.size V (V.alloc (.cells #[.string (mkStr x.mark),.slice x.A x.n x.c] 34)):=(Below.refl _ _).alloc (Nat.le_refl _) _;have hO2:=hO.keep hbox;have hnew:=rowNewBr V (.string (mkStr x.mark)) (.slice x.A x.n x.c) 34;obtain ⟨v2,w2,g1,g2,g3,g4⟩:=run_append_any (P:=Tryz.prog) (w:=V.alloc (.cells #[.string (mkStr x.mark),.slice x.A x.n x.c] 34)) w.heap.size 26 26 34 i0 _ 2 40 Tryz.underlying26 hi hz0 hz1 hz2 rfl (by omega) v xs.length (xs.flatMap brC) hO2.1 _ (some ⟨V.heap.size,0,none⟩) 1 1 [.string (mkStr x.mark),.slice x.A x.n x.c] hnew (by simp [Value.oneCell']) (by unfold maxLen;omega) (by omega) (by simp;omega);obtain ⟨A2,c2,rfl,_,_⟩:=ownG_form g2;have hb2 : ∀ q,v.ownBlock=some q→w.heap.size≤q:=fun q hq=>ownG_base hO.1 hq;exact ⟨A2,c2,w2,g1,BrOwn.push hO2 (x:=x) (BrIn.keep hx hbox) (fun hp a ha=>⟨(hsep a ha).1,by simp;have:=(hsep a ha).2;omega⟩) g2 g3 g4,(hV.alloc hVz _).grown g3 (by simp;omega) hb2,fun p u h hne=>gcell g3 (kcell hbox h) hne⟩
def EndAdd2 (W:World) (L:List Bf) (k:Nat) (w2:World) (A2:Option Addr) (c2:Nat):Prop :=
 ∃ zs2:List Br,zs2.length=k+1∧zs2.map Br.dat=L∧OkBs zs2∧BrOwn w2 W.heap.size (.slice A2 (k+1) c2) zs2∧BrNew W.heap.size zs2∧Below W.heap.size W w2
def EndAdd (W:World) (xs:List Br) (k:Nat) (w2:World) (A2:Option Addr) (c2:Nat):Prop:=EndAdd2 W ((xs.map Br.dat).take (k+1)) k w2 A2 c2
attribute [local go_sem ↓] appZ_eq
set_option maxHeartbeats 3200000 in
theorem implBriefsAdd (A:Option Addr) (n c:Nat) (xs:List Br) (y:Br) (w:World) (hn:n≤500) (hX:OkBs (xs++[y])) (hm:y.n≤1000) (hm1:1≤y.n) (h:BrsIn w w.heap.size A n c xs) (hy:BrIn w w.heap.size y) :
  Calls Tryz.prog 165 #[.slice A n c,.agg #[.string (mkStr y.mark),.slice y.A y.n y.c]] w fun e w'=>AddAns w' w.heap.size (addO (xs.map Br.dat) y.dat) e∧Below w.heap.size w w':=by
 have HL:=uH h.1;have H:=uH h;have HY:=uH hy;have HX:=uH hX;clear h hy hX;have b0:Below w.heap.size w (w.alloc (.cells #[.string (mkStr y.mark),.slice y.A y.n y.c] 34)):=(Below.refl _ _).alloc (Nat.le_refl _) _;have HK0:=uH (newcell w #[.string (mkStr y.mark),.slice y.A y.n y.c] 34 0 _ rfl);have HK1:=uH (newcell w #[.string (mkStr y.mark),.slice y.A y.n y.c] 34 1 _ rfl);have hz0:w.heap.size < (w.alloc (.cells #[.string (mkStr y.mark),.slice y.A y.n y.c] 34)).heap.size:=(by simp);obtain ⟨W,hW⟩ : ∃ W,W=w.alloc (.cells #[.string (mkStr y.mark),.slice y.A y.n y.c] 34):=⟨_,rfl⟩;rw [← hW] at b0 HK0 HK1 hz0;have H2:=uH (H.out.keep b0);have HY2:=uH (BrIn.keep HY.out b0);have HXs:Hid (OkBs xs):=uH (fun x hx=>HX.out x (List.mem_append_left _ hx));have HV:=uH (implBriefsValid A n c xs W HXs.out H2.out);clear H HY;cases hv:brsB (xs.map Br.dat) with
 | false =>
  have HR:Hid (addO (xs.map Br.dat) y.dat=none):=uH (addO_no hv);rw [hv] at HV;clear hv;go_enter Tryz.func165,Tryz.ntmps165
  (go_wp2_with fail);rw [← hW];clear hW;refine HV.out.mono ?_;rintro e w1 ⟨rfl,hb⟩;have b1:=below_next b0 hb;go_wp2;go_returns;exact ⟨.inl ⟨HR.out,_,_,rfl⟩,b1⟩
 | true =>
  have hn8:n≤8:=(by have:=(brsB_iff.1 hv).1;rw [List.length_map,HL.out] at this;exact this);have HMn:Hid (∀ k,k < n→1≤(brAt xs k).n∧(brAt xs k).n≤3):=uH (fun k hk=>by
   have h1:=brsB_mem hv _ (bfAt_mem (bs:=xs.map Br.dat) (k:=k) (by rw [List.length_map,HL.out];exact hk));rw [brAt_dat (by rw [HL.out];exact hk)] at h1;have h5:=bwB_len (bfB_iff.1 h1).2;have h4:=(H2.out.2.2.2.2 _ (brAt_mem (xs:=xs) (k:=k) (by rw [HL.out];exact hk))).1;exact ⟨by rw [← h4];exact h5.1,by rw [← h4];exact h5.2⟩)
  rw [hv] at HV;clear hv;obtain ⟨i0,hi,hy0,hy1,hy2⟩:=info_parts infoBr;obtain ⟨cs,hcs,hmk⟩ : ∃ cs:Array Value,cs.size=(n+1) * 2∧∀ W,(Instr.makeSlice 26 (.int .i64 0) (.int .i64 ((n:Int)+1))).run Tryz.prog W = .ok (.slice (some ⟨W.heap.size,0,none⟩) 0 (n+1)) (W.alloc (.cells cs 34)):=⟨_,(madeCells_size (Value.agg #[.string { data:=#[] },.slice none 0 0]).cells ((n+1) * 2)),fun W=>by
   have h:=run_make_rowN (P:=Tryz.prog) 26 34 i0 _ Tryz.underlying26 hi hy0 .i64 .i64 0 (n+1) (by omega) (by rw [hy2];omega) (by omega) W;rw [hy1] at h
   push_cast at h
   exact h⟩
  have hw1:IntKind.i64.wrap ((n:Int)+1)=(n:Int)+1:=IntWalk.i64_in _ (by omega);have HCs:=uH hcs;clear hcs;go_enter Tryz.func165,Tryz.ntmps165
  (go_wp2_with fail);rw [← hW];clear hW;refine HV.out.mono ?_;rintro e w1 ⟨rfl,hb1⟩;have b1:=hb1;have HO0:Hid (BrOwn (w1.alloc (.cells cs 34)) W.heap.size (.slice (some ⟨w1.heap.size,0,none⟩) 0 (n+1)) []):=uH ⟨World.ownsRow_made (base:=W.heap.size) (e:=34) (size:=2) w1 cs (n+1) b1.size (by unfold maxLen;omega) HCs.out,by simp⟩;have b2:Below W.heap.size W (w1.alloc (.cells cs 34)):=b1.alloc b1.size _;clear hb1 b1 HV;go_wp2;clear hmk;go_loopw [6,18] (fun s6 s18 wr=>∃ (k:Nat) (zs:List Br) (A6:Option Addr) (c6:Nat),k≤n∧s6 = .slice A6 k c6∧s18 = .int .i64 k∧Hid (zs.length=k)∧Hid (zs.map Br.dat=(xs.map Br.dat).take k)∧Hid (OkBs zs)∧Hid (BrOwn wr W.heap.size (.slice A6 k c6) zs)∧Hid (BrNew W.heap.size zs)∧Below W.heap.size W wr) (fun _ s18 _=>n - (intOf s18).toNat)
  case atStart=>exact ⟨0,[],_,n+1,Nat.zero_le _,rfl,rfl,uH rfl,uH (by simp),uH (by intro x hx;simp at hx),HO0,uH (by intro x hx;simp at hx),b2⟩
  case round =>
   obtain ⟨k,zs,A6,c6,hk,rfl,rfl,HZl,HZd,HZs,HO,HNw,hb⟩:=hrel;have i1:(0:Int)≤(k:Int):=(by omega);have hzw:=hb.size;by_cases hlt:k < n
   ·have i2:(k:Int) < (n:Int):=(by omega);have hkx:k < xs.length:=(by rw [HL.out];exact hlt);obtain ⟨b,off,rfl,hbB,c0,c1,hI⟩:=(H2.out.keep hb).at_ hlt;have hmn:=HMn.out k hlt;have hxm:brAt xs k∈xs++[y]:=List.mem_append_left _ (brAt_mem hkx);have hsm:=HX.out _ hxm;have hdk:=brAt_dat hkx;have HD:Hid ((xs.map Br.dat).take (k+1)=(xs.map Br.dat).take k++[(brAt xs k).dat]):=uH (by
     rw [List.take_succ_eq_append_getElem (by rw [List.length_map];exact hkx),bfAt_get (bs:=xs.map Br.dat) (k:=k) (by rw [List.length_map];exact hkx),hdk])
    have HS:=uH hsm;clear hxm hkx hdk hsm;generalize brAt xs k=x at *;have ba:Below wr.heap.size wr (wr.alloc (.cells #[.string (mkStr x.mark),.slice x.A x.n x.c] 34)):=(Below.refl _ _).alloc (Nat.le_refl _) _;have m0:=newcell wr #[.string (mkStr x.mark),.slice x.A x.n x.c] 34 0 _ rfl;have m1:=newcell wr #[.string (mkStr x.mark),.slice x.A x.n x.c] 34 1 _ rfl;have HCl:=uH (cloneWd1 x.A x.n x.c x.words _ hmn.1 (by omega) (BrIn.keep hI ba.drew));have HO1:=uH (HO.out.keep ba.drew);have HB1:=uH (below_next hb ba.drew);have hza:wr.heap.size < (wr.alloc (.cells #[.string (mkStr x.mark),.slice x.A x.n x.c] 34)).drew.heap.size:=(by show wr.heap.size < (wr.alloc _).heap.size;simp);have HVb:Hid (∀ q,(Value.slice A6 k c6).ownBlock=some q→q < wr.heap.size):=uH (fun q hq=>ownG_lt HO.out.1 hq);have HXl:Hid (x.words.length=x.n):=uH hI.1;have HAdd:Hid (∀ (g5 c5:Nat) (w5:World),w5.ownsRow (wr.alloc (.cells #[.string (mkStr x.mark),.slice x.A x.n x.c] 34)).drew.heap.size 9 1 (.slice (some ⟨g5,0,none⟩) x.n c5) x.n (x.words.map strP)→Below (wr.alloc (.cells #[.string (mkStr x.mark),.slice x.A x.n x.c] 34)).drew.heap.size (wr.alloc (.cells #[.string (mkStr x.mark),.slice x.A x.n x.c] 34)).drew w5 →
      ∃ (A2:Option Addr) (c2:Nat) (w2:World),(appZ #[26,26] 26 #[.slice A6 k c6,.slice (some ⟨w5.heap.size,0,none⟩) 1 1]).run Tryz.prog (w5.alloc (.cells #[.string (mkStr x.mark),.slice (some ⟨g5,0,none⟩) x.n c5] 34)) = .ok (.slice A2 (k+1) c2) w2∧(∀ (p:Addr) (u:Value),w5.cell? p=some u→(Value.slice A6 k c6).ownBlock≠some p.block→w2.cell? p=some u)∧EndAdd W xs k w2 A2 c2):=uH (fun g5 c5 w5 ho5 hb5=>by
     have ho6:WdOwn w5 wr.heap.size (.slice (some ⟨g5,0,none⟩) x.n c5) x.words:=(by unfold WdOwn;rw [HXl.out];exact ownG_mono ho5 (Nat.le_of_lt hza));obtain ⟨A2,c2,w2,r2,o2,b2,k2⟩:=addRun2 (x:=⟨x.mark,some ⟨g5,0,none⟩,x.n,c5,x.words⟩) (below_next HB1.out hb5) (HO1.out.keep hb5) (WdOwn.reads ho6 HXl.out) (fun a ha=>by
      injection ha with ha;subst ha;have e1:=ownG_base ho5 rfl;have e2:=ownG_lt ho5 rfl;exact ⟨fun e=>by have:=HVb.out _ e;omega,e2⟩) (by rw [HZl.out];omega)
     rw [HZl.out] at r2 o2;refine ⟨A2,c2,w2,r2,k2,_,by rw [List.length_append,HZl.out];rfl,by rw [List.map_append,HZd.out,HD.out];rfl,fun z hz=>?_,o2,fun z hz a ha=>?_,b2⟩
     ·rcases List.mem_append.1 hz with h | h
      ·exact HZs.out z h
      ·have h1:=HS.out;rw [List.mem_singleton] at h;rw [h];exact ⟨h1.1,h1.2⟩
     ·rcases List.mem_append.1 hz with h | h
      ·exact HNw.out z h a ha
      ·rw [List.mem_singleton] at h;rw [h] at ha;injection ha with ha;subst ha;have e1:=ownG_base ho5 rfl;omega)
    have HNe:Hid ((Value.slice A6 k c6).ownBlock≠some wr.heap.size):=uH (fun e=>by have:=HVb.out _ e;omega);clear hI HO hb HO1 HB1 HVb HXl HZl HZd HZs HNw HD HS;(go_wp2_with fail);go_region_held3 (fun w'=>w'.cell? ⟨wr.heap.size,0,none⟩=some (.string (mkStr x.mark))∧w'.cell? ⟨wr.heap.size,1,none⟩=some (.slice x.A x.n x.c)) (first | (exact ⟨by assumption,by assumption⟩) | go_keep)
     (first
      | (go_at_call 210;refine HCl.out.mono ?_;rintro e w5 ⟨g5,c5,rfl,ho5,hg5,hb5⟩;have n0:=kcell hb5 m0;have n1:=kcell hb5 m1;obtain ⟨A2,c2,w2,r2,hk2,hE⟩:=HAdd.out g5 c5 w5 ho5 hb5;have p0:=hk2 _ _ n0 HNe.out;have p1:=hk2 _ _ n1 HNe.out))
    all_goals
     obtain ⟨zs2,z1,z2,z3,z4,z5,z6⟩:=hE;have Z1:=uH z1;have Z2:=uH z2;have Z3:=uH z3;have Z4:=uH z4;have Z5:=uH z5;clear z1 z2 z3 z4 z5 r2 hk2 p0 p1 HAdd HCl n0 n1 m0 m1 ba hb5 ho5 hg5 c0 c1;go_wp2;go_roundw
     case rel=>exact ⟨k+1,zs2,A2,c2,by omega,rfl,by go_num,Z1,Z2,Z3,Z4,Z5,z6⟩
     case measure=>simp [intOf] <;> omega
   ·obtain rfl:k=n:=(by omega);have m0:=kcell hb HK0.out;have m1:=kcell hb HK1.out;have hym:y∈xs++[y]:=(by simp);have HS:=uH (HX.out y hym);have HCl:=uH (cloneWd1 y.A y.n y.c y.words _ hm1 (by omega) (BrIn.keep HY2.out (hb.drew)));have HB1:=uH hb.drew;have HO1:Hid (BrOwn wr.drew W.heap.size (.slice A6 k c6) zs):=uH (HO.out.keep (Below.refl _ _).drew);have HVb:Hid (∀ q,(Value.slice A6 k c6).ownBlock=some q→q < wr.heap.size):=uH (fun q hq=>ownG_lt HO.out.1 hq);have HXl:Hid (y.words.length=y.n):=uH HY2.out.1;have HAdd:Hid (∀ (g5 c5:Nat) (w5:World),w5.ownsRow wr.drew.heap.size 9 1 (.slice (some ⟨g5,0,none⟩) y.n c5) y.n (y.words.map strP)→Below wr.drew.heap.size wr.drew w5 →
      ∃ (A2:Option Addr) (c2:Nat) (w2:World),(appZ #[26,26] 26 #[.slice A6 k c6,.slice (some ⟨w5.heap.size,0,none⟩) 1 1]).run Tryz.prog (w5.alloc (.cells #[.string (mkStr y.mark),.slice (some ⟨g5,0,none⟩) y.n c5] 34)) = .ok (.slice A2 (k+1) c2) w2∧(∀ (p:Addr) (u:Value),w5.cell? p=some u→(Value.slice A6 k c6).ownBlock≠some p.block→w2.cell? p=some u)∧EndAdd2 W (xs.map Br.dat++[y.dat]) k w2 A2 c2):=uH (fun g5 c5 w5 ho5 hb5=>by
     have ho6:WdOwn w5 wr.heap.size (.slice (some ⟨g5,0,none⟩) y.n c5) y.words:=(by unfold WdOwn;rw [HXl.out];exact ho5);obtain ⟨A2,c2,w2,r2,o2,b2,k2⟩:=addRun2 (x:=⟨y.mark,some ⟨g5,0,none⟩,y.n,c5,y.words⟩) (below_next HB1.out hb5) (HO1.out.keep hb5) (WdOwn.reads ho6 HXl.out) (fun a ha=>by
      injection ha with ha;subst ha;have e1:=ownG_base ho5 rfl;have e2:=ownG_lt ho5 rfl;exact ⟨fun e=>by have:=HVb.out _ e;have:wr.drew.heap.size=wr.heap.size:=rfl;omega,e2⟩) (by rw [HZl.out];omega)
     rw [HZl.out] at r2 o2;refine ⟨A2,c2,w2,r2,k2,_,by rw [List.length_append,HZl.out];rfl,by rw [List.map_append,HZd.out,List.take_of_length_le (by rw [List.length_map,HL.out];exact Nat.le_refl _)];rfl,fun z hz=>?_,o2,fun z hz a ha=>?_,b2⟩
     ·rcases List.mem_append.1 hz with h | h
      ·exact HZs.out z h
      ·have h1:=HS.out;rw [List.mem_singleton] at h;rw [h];exact ⟨h1.1,h1.2⟩
     ·rcases List.mem_append.1 hz with h | h
      ·exact HNw.out z h a ha
      ·rw [List.mem_singleton] at h;rw [h] at ha;injection ha with ha;subst ha;have e1:=ownG_base ho5 rfl;have:wr.drew.heap.size=wr.heap.size:=rfl;omega)
    have bd:Below wr.heap.size wr wr.drew:=(Below.refl _ _).drew;have HNe:Hid ((Value.slice A6 k c6).ownBlock≠some w.heap.size):=uH (fun e=>by have h1:=ownG_base HO.out.1 e;omega);clear HO hb HO1 HB1 HVb HXl HZl HZd HZs HNw HS hym;(go_wp2_with fail);go_region_held3 (fun w'=>w'.cell? ⟨w.heap.size,0,none⟩=some (.string (mkStr y.mark))∧w'.cell? ⟨w.heap.size,1,none⟩=some (.slice y.A y.n y.c)) (first | (exact ⟨by assumption,by assumption⟩) | go_keep)
     (first
      | (go_at_call 210;refine HCl.out.mono ?_;rintro e w5 ⟨g5,c5,rfl,ho5,hg5,hb5⟩;have n0:=kcell (below_next bd hb5) m0;have n1:=kcell (below_next bd hb5) m1;obtain ⟨A2,c2,w2,r2,hk2,hE⟩:=HAdd.out g5 c5 w5 ho5 hb5;have p0:=hk2 _ _ n0 HNe.out;have p1:=hk2 _ _ n1 HNe.out))
    all_goals
     obtain ⟨zs2,z1,z2,z3,z4,z5,z6⟩:=hE;have Z1:=uH z1;have Z2:=uH z2;have Z4:=uH z4;have Z5:=uH z5;have HVa:=uH (implBriefsValid A2 (k+1) c2 zs2 w2 z3 (z4.reads z1));rw [z2] at HVa;have b3:=below_next b0 z6;have HO3:Hid (∀ w3,Below w2.heap.size w2 w3→BrOwn w3 w.heap.size (.slice A2 (k+1) c2) zs2):=uH (fun w3 h3=>by
      have:=Z4.out.keep h3;exact ⟨ownG_mono this.1 (Nat.le_of_lt hz0),this.2⟩)
     have HNw3:Hid (BrNew w.heap.size zs2):=uH (fun z hz a ha=>by have:=Z5.out z hz a ha;omega);clear z1 z2 z3 z4 z5 r2 hk2 p0 p1 HAdd HCl n0 n1 m0 m1 hb5 ho5 hg5 z6 Z4 Z5;cases hv:brsB (xs.map Br.dat++[y.dat]) with
     | false =>
      have HR:Hid (addO (xs.map Br.dat) y.dat=none):=uH (by unfold addO;rw [hv];rfl);rw [hv] at HVa;clear hv;(go_wp2_with fail);refine HVa.out.mono ?_;rintro e w6 ⟨rfl,hb6⟩;have b6:=below_next b3 hb6;go_wp2;go_returns;exact ⟨.inl ⟨HR.out,_,_,rfl⟩,b6⟩
     | true =>
      have HR:Hid (addO (xs.map Br.dat) y.dat=some (zs2.map Br.dat)):=uH (by unfold addO;rw [hv,Z2.out];rfl);rw [hv] at HVa;clear hv;(go_wp2_with fail);refine HVa.out.mono ?_;rintro e w6 ⟨rfl,hb6⟩;have b6:=below_next b3 hb6;have HFin:Hid (AddAns w6 w.heap.size (addO (xs.map Br.dat) y.dat) (.returned (.tuple #[.slice A2 (k+1) c2,.bool true]))):=uH (.inr ⟨A2,c2,zs2,HR.out,by rw [Z1.out],by rw [Z1.out];exact HO3.out w6 hb6,HNw3.out⟩);go_wp2;go_returns;exact ⟨HFin.out,b6⟩
end Go.Proofs.YtbkhnljaajajiaaGreatDoor
namespace Go.Proofs.YtbkhnljaajajiaaGreatDoor
open Go.ChangeShapes Go.WideShapes Go.ChangeAt Go.RowKit Go.Maps
def cmdV (l:Wd):Value:=.string (mkStr l)
def funV (f:Nat):Value:=.func (.func f) #[] #[]
def cmds (l:List (Wd × Nat)):List (Value × Value):=l.map fun x=>(cmdV x.1,funV x.2)
def tabL:List (Wd × Nat):=[(cSign,98),(cBrief,99),(cSpeech,100),(cWrite,101),(cCopy,102),(cLetters,103),(cProof,104),(cFile,105),(cClear,106),(cCabinet,107)]
theorem lawStr:Keyed Tryz.prog 9:=string_keyed Tryz.underlying9
theorem cmdV_inj {a b:Wd} (h:cmdV a=cmdV b):a=b:=by
 unfold cmdV at h;injection h with h;have:=congrArg (fun s:ByteArray=>s.data.toList) h;simpa [mkStr_data] using this
theorem keyCmd {l:Wd} (h:l.length≤maxLen) : ∃ li,keyOf Tryz.prog 9 (cmdV l)=some li:=⟨_,WideMaps.keyOf_string_mk Tryz.underlying9 (by rw [mkStr_size];exact h)⟩
theorem keysCmd {l:List (Wd × Nat)} (h : ∀ y∈l,y.1.length≤maxLen) : ∀ x∈cmds l,∃ li,keyOf Tryz.prog 9 x.1=some li:=by
 intro x hx;obtain ⟨y,hy,rfl⟩:=List.mem_map.1 hx;exact keyCmd (h y hy)
theorem tabKeys : ∀ y∈tabL,y.1.length≤maxLen:=fun y hy=>by
 have : ∀ y∈tabL,y.1.length≤20:=(by decide);have:=this y hy;unfold maxLen;omega
theorem zeroCmd (w:World):(zeroValue 157).run Tryz.prog w = .ok .nilFunc w:=by kernel_rfl
theorem put_cmd {V:World} {T:Nat} {l:List (Wd × Nat)} (h:MapHas V T (cmds l)) (u:Wd) (f:Nat) (hu:u.length≤maxLen) (hl : ∀ y∈l,y.1.length≤maxLen) (hno : ∀ y∈l,y.1≠u) :
  ∃ w',(Instr.mapUpdate 77 (.map (some T)) (.string (mkStr u)) (.func (.func f) #[] #[])).run Tryz.prog V = .ok () w'∧MapHas w' T (cmds (l++[(u,f)]))∧V.grownBy w' (some T):=by
 obtain ⟨li,hli⟩:=keyCmd hu;obtain ⟨w',h1,h2,h3⟩:=MapHas.put_new (t:=77) (v:=funV f) lawStr Tryz.underlying77 h (keysCmd hl) hli (fun x hx e=>by
  obtain ⟨y,hy,rfl⟩:=List.mem_map.1 hx;exact hno y hy (cmdV_inj e))
 refine ⟨w',h1,?_,h3⟩;unfold cmds at h2 ⊢;rw [List.map_append];exact h2
theorem lookup_mem {u:Wd} {f:Nat} : ∀ {l:List (Wd × Nat)},l.lookup u=some f→(u,f)∈l
 | [],h=>by cases h
 | (a,b)::r,h=>by
  rw [List.lookup_cons] at h;by_cases e:u=a
  ·subst e;simp at h;subst h;simp
  ·have:(u == a)=false:=beq_eq_false_iff_ne.2 e;rw [this] at h;exact List.mem_cons_of_mem _ (lookup_mem h)
theorem tab_one : ∀ y∈tabL,tabL.lookup y.1=some y.2:=by decide
theorem look_cmd {V:World} {T:Nat} {u:Wd} {f:Nat} (h:MapHas V T (cmds tabL)) (hu:u.length≤maxLen) (hf:tabL.lookup u=some f) :
  (Instr.lookup 77 (.map (some T)) (.string (mkStr u)) true).run Tryz.prog V = .ok (.tuple #[.func (.func f) #[] #[],.bool true]) V:=by
 obtain ⟨li,hli⟩:=keyCmd hu;exact MapHas.look_yes (t:=77) (v:=funV f) lawStr Tryz.underlying77 h (keysCmd tabKeys) hli ⟨(cmdV u,funV f),List.mem_map.2 ⟨(u,f),lookup_mem hf,rfl⟩,rfl⟩ (fun x hx e=>by
  obtain ⟨y,hy,rfl⟩:=List.mem_map.1 hx;have h1:=cmdV_inj e;have h2:=tab_one y hy;rw [h1,hf] at h2;injection h2 with h2
  show funV y.2=funV f
  rw [h2])
theorem look_none {V:World} {T:Nat} {u:Wd} (h:MapHas V T (cmds tabL)) (hu:u.length≤maxLen) (hf:tabL.lookup u=none) :
  (Instr.lookup 77 (.map (some T)) (.string (mkStr u)) true).run Tryz.prog V = .ok (.tuple #[.nilFunc,.bool false]) V:=by
 obtain ⟨li,hli⟩:=keyCmd hu;exact MapHas.look_no (t:=77) lawStr Tryz.underlying77 zeroCmd h (keysCmd tabKeys) hli (fun x hx e=>by
  obtain ⟨y,hy,rfl⟩:=List.mem_map.1 hx;have h1:=cmdV_inj e;have h2:=tab_one y hy;rw [h1,hf] at h2;cases h2)
set_option maxHeartbeats 1600000 in
theorem commandTable (w:World):Calls Tryz.prog 46 #[] w fun e w'=>e = .returned (.map (some w.heap.size))∧MapHas w' w.heap.size (cmds tabL)∧Below w.heap.size w w':=by
 have hmk : ∀ V:World,(Instr.makeMap 77 none).run Tryz.prog V = .ok (.map (some V.heap.size)) (V.alloc (.map #[] 0)):=(fun V=>by kernel_rfl);have h0:MapHas (w.alloc (.map #[] 0)) w.heap.size (cmds []):=MapHas.made w;have d : ∀ l:Wd,l.length≤20→l.length≤maxLen:=(fun l h=>by unfold maxLen;omega);have ds : ∀ l:List (Wd × Nat),(∀ y∈l,y.1.length≤20)→∀ y∈l,y.1.length≤maxLen:=fun l h y hy=>d _ (h y hy);obtain ⟨w1,r1,m1,g1⟩:=put_cmd h0 cSign 98 (d _ (by decide)) (ds _ (by decide)) (by decide);obtain ⟨w2,r2,m2,g2⟩:=put_cmd m1 cBrief 99 (d _ (by decide)) (ds _ (by decide)) (by decide);obtain ⟨w3,r3,m3,g3⟩:=put_cmd m2 cSpeech 100 (d _ (by decide)) (ds _ (by decide)) (by decide);obtain ⟨w4,r4,m4,g4⟩:=put_cmd m3 cWrite 101 (d _ (by decide)) (ds _ (by decide)) (by decide);obtain ⟨w5,r5,m5,g5⟩:=put_cmd m4 cCopy 102 (d _ (by decide)) (ds _ (by decide)) (by decide);obtain ⟨w6,r6,m6,g6⟩:=put_cmd m5 cLetters 103 (d _ (by decide)) (ds _ (by decide)) (by decide);obtain ⟨w7,r7,m7,g7⟩:=put_cmd m6 cProof 104 (d _ (by decide)) (ds _ (by decide)) (by decide);obtain ⟨w8,r8,m8,g8⟩:=put_cmd m7 cFile 105 (d _ (by decide)) (ds _ (by decide)) (by decide);obtain ⟨w9,r9,m9,g9⟩:=put_cmd m8 cClear 106 (d _ (by decide)) (ds _ (by decide)) (by decide);obtain ⟨w10,r10,m10,g10⟩:=put_cmd m9 cCabinet 107 (d _ (by decide)) (ds _ (by decide)) (by decide);have HM:Hid (MapHas w10 w.heap.size (cmds tabL)):=uH m10;have hg:=only_next (only_next (only_next (only_next (only_next (only_next (only_next (only_next (only_next g1 g2) g3) g4) g5) g6) g7) g8) g9) g10;have HB:Hid (Below w.heap.size w w10):=uH (((Below.refl w.heap.size w).alloc (Nat.le_refl _) _).grown hg (by simp) (fun q hq=>by injection hq with hq;omega));have e1:mkStr cSign = { data:=#[115,105,103,110] }:=rfl;have e2:mkStr cBrief = { data:=#[98,114,105,101,102] }:=rfl;have e3:mkStr cSpeech = { data:=#[115,112,101,101,99,104] }:=rfl;have e4:mkStr cWrite = { data:=#[119,114,105,116,101] }:=rfl;have e5:mkStr cCopy = { data:=#[99,111,112,121] }:=rfl;have e6:mkStr cLetters = { data:=#[108,101,116,116,101,114,115] }:=rfl;have e7:mkStr cProof = { data:=#[112,114,111,111,102] }:=rfl;have e8:mkStr cFile = { data:=#[102,105,108,101] }:=rfl;have e9:mkStr cClear = { data:=#[99,108,101,97,114] }:=rfl;have e10:mkStr cCabinet = { data:=#[99,97,98,105,110,101,116] }:=rfl;rw [e1] at r1;rw [e2] at r2;rw [e3] at r3;rw [e4] at r4;rw [e5] at r5;rw [e6] at r6;rw [e7] at r7;rw [e8] at r8;rw [e9] at r9;rw [e10] at r10;clear h0 m1 m2 m3 m4 m5 m6 m7 m8 m9 m10 g1 g2 g3 g4 g5 g6 g7 g8 g9 g10 hg d ds e1 e2 e3 e4 e5 e6 e7 e8 e9 e10;go_enter Tryz.func46,Tryz.ntmps46
 go_wp2;go_ret;exact ⟨rfl,HM.out,HB.out⟩
end Go.Proofs.YtbkhnljaajajiaaGreatDoor
