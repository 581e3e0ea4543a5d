/-
  Contracts and plain laws that the proofs lean on. Conditions: as each says.
-/
import Derived.Test.YtbkhnljaajajiaaGreatDoorPX25
import Derived.Test.YtbkhnljaajajiaaGreatDoorPX28
import Derived.Test.YtbkhnljaajajiaaGreatDoorPX31
import Derived.Deep.DeepHandedRow
import Derived.Deep.DeepWitnessRowRef
import Derived.Lib.LaidIn
import Derived.Lib.LaidU8
import Derived.SizedLaws
set_option maxRecDepth 100000
set_option linter.unusedSimpArgs false
set_option linter.unusedVariables false
set_option linter.unnecessarySimpa false
namespace Go.Proofs.YtbkhnljaajajiaaGreatDoor
open Go.ChangeShapes Go.WideShapes Go.ChangeAt Go.RowKit
theorem cutQ_app (d:UInt8) (b:List UInt8) : ∀ (a cur:List UInt8),cutQ d cur (a++d::b)=cutQ d cur a++cutQ d [] b
 | [],cur=>by show cutQ d cur (d::b)=[cur]++cutQ d [] b;rw [cutQ];simp
 | c::r,cur=>by
  rw [List.cons_append,cutQ,cutQ];by_cases h:c=d
  ·rw [if_pos h,if_pos h,cutQ_app d b r []];rfl
  ·rw [if_neg h,if_neg h,cutQ_app d b r (cur++[c])]
theorem cutB_app (d:UInt8) (a b:List UInt8):cutB d (a++d::b)=cutB d a++cutB d b:=cutQ_app d b a []
theorem cutQ_no {d:UInt8} : ∀ (l cur:List UInt8),d ∉ l→cutQ d cur l=[cur++l]
 | [],cur,_=>by rw [cutQ,List.append_nil]
 | c::r,cur,h=>by
  rw [cutQ,if_neg (fun e=>h (by rw [e];exact List.mem_cons_self)),cutQ_no r (cur++[c]) (fun e=>h (List.mem_cons_of_mem _ e)),List.append_assoc];rfl
theorem cutB_no {d:UInt8} {l:List UInt8} (h:d ∉ l):cutB d l=[l]:=cutQ_no l [] h
theorem cutB_nil (d:UInt8):cutB d []=[[]]:=rfl
theorem cutB_ne (d:UInt8) (l:List UInt8):cutB d l≠[]:=by
 unfold cutB;have : ∀ (l cur:List UInt8),cutQ d cur l≠[]:=by
  intro l;induction l with
  | nil=>intro cur;simp [cutQ]
  | cons c r ih=>intro cur;rw [cutQ];split <;> simp [ih]
 exact this l []
def linesOf (l:List UInt8):List (List UInt8):=(cutB 10 l).dropLast
theorem linesOf_app (a b:List UInt8):linesOf (a++10::b)=linesOf (a++[10])++linesOf b:=by
 unfold linesOf;rw [cutB_app,cutB_app,cutB_nil,List.dropLast_append_of_ne_nil (cutB_ne 10 b),List.dropLast_concat]
theorem linesOf_line {a:List UInt8} (h:(10:UInt8) ∉ a):linesOf (a++[10])=[a]:=by
 unfold linesOf;rw [cutB_app,cutB_no h,cutB_nil];rfl
def joinedL (ws:List Wd):Wd:=(ws.map (32::·)).flatten
theorem joinedL_cons (x:Wd) (r:List Wd):joinedL (x::r)=32::(x++joinedL r):=rfl
theorem cutB_joined {c:Wd} (hc:(32:UInt8) ∉ c) : ∀ {ws:List Wd},(∀ l∈ws,(32:UInt8) ∉ l)→cutB 32 (c++joinedL ws)=c::ws:=by
 intro ws;induction ws generalizing c with
 | nil=>intro _;rw [show joinedL []=[] from rfl,List.append_nil,cutB_no hc]
 | cons x r ih =>
  intro h;rw [joinedL_cons,cutB_app,cutB_no hc,ih (h x List.mem_cons_self) (fun l hl=>h l (List.mem_cons_of_mem _ hl))];rfl
theorem joinedL_no {ws:List Wd} (h : ∀ l∈ws,(10:UInt8) ∉ l):(10:UInt8) ∉ joinedL ws:=by
 unfold joinedL;intro hm;obtain ⟨l,hl,hx⟩:=List.mem_flatten.1 hm;obtain ⟨y,hy,rfl⟩:=List.mem_map.1 hl;rcases List.mem_cons.1 hx with h2 | h2
 ·revert h2;decide
 ·exact h y hy h2
theorem runS_app : ∀ (a b:List Wd) (s:St),runS s (a++b)=((runS (runS s a).1 b).1,(runS s a).2++(runS (runS s a).1 b).2)
 | [],_,_=>rfl
 | l::r,b,s=>by
  rw [List.cons_append,runS,runS_app r b,runS];simp only [List.append_assoc]
theorem runS_one (s:St) (l:Wd):runS s [l]=lineS s (cutB 32 l):=by
 rw [runS,runS];simp only [List.append_nil]
theorem runS_ok : ∀ (ls:List Wd) (s:St),s.ok→(runS s ls).1.ok
 | [],_,h=>h
 | l::r,s,h=>by rw [runS];exact runS_ok r _ (lineS_ok _ h)
theorem exec_yes {l:Wd} (h:l.length≤500):exec l=(runS st0 (linesOf l)).2++endS (runS st0 (linesOf l)).1:=by
 unfold exec;rw [if_neg (by omega)];rfl
theorem exec_no {l:Wd} (h:500 < l.length):exec l=sayLong:=by unfold exec;rw [if_pos h]
theorem saidO_len {o:Option Wd} {k:Nat} (h : ∀ l,o=some l→l.length≤k):(saidO o).length≤k+3:=by
 cases o with
 | none=>simp [saidO]
 | some l=>have:=h l rfl;simp [saidO];omega
theorem up_len {α:Type} (s:St) (o:Option α) (f:α→St):(up s o f).2.length≤3:=by
 cases o with
 | none=>simp [up,sayNo]
 | some x=>simp [up,sayOk]
theorem ask_len {h:Hd} (ok:h.st.ok) (ws:List Wd):(ask h.st ws).length≤1000100:=by
 unfold ask;split
 ·refine Nat.le_trans (saidO_len (k:=1000) fun l hl=>?_) (by omega);obtain ⟨L,hL,rfl⟩:=Option.map_eq_some_iff.1 hl;have h1:=lineOf_len20 hL;have h2:=lineText_len9 L;omega
 split
 ·refine Nat.le_trans (saidO_len (k:=1000000) fun l hl=>?_) (by omega);obtain ⟨T,hT,rfl⟩:=Option.map_eq_some_iff.1 hl;have h1:=bestO_len ok.2.1 ok.2.2.1 hT;have h2 : ∀ l∈T,l.length≤600:=by
   have e:bestO h.st.brs h.st.sp=some (bestT h.st.brs h.st.sp):=by
    unfold bestO;rw [ok.2.1,ok.2.2.1];rfl
   rw [e] at hT;injection hT with hT;rw [← hT];exact bestT_small ok
  have h3:=join_len1 (s:=32) h2;omega
 split
 ·have h1:=cost_le ok;have h2:=decN_len (costOf h.st.brs h.st.sp) (by omega);rw [List.length_append,List.length_singleton];omega
 split
 ·refine Nat.le_trans (saidO_len (k:=1000000) fun l hl=>?_) (by omega);obtain ⟨M,hM,rfl⟩:=Option.map_eq_some_iff.1 hl;exact marksText_len9 _ _
 split
 ·rw [cabText_yes (cabB_iff.2 ok.2.2.2)];have:=cabTxt_bd ok.2.2.2 h.st.cab.length;rw [List.take_length] at this;omega
 ·simp [sayWhat]
theorem line_len {h:Hd} (ok:h.st.ok) (ws:List Wd):(lineS h.st ws).2.length≤1000100:=by
 unfold lineS;split
 ·exact Nat.le_trans (up_len _ _ _) (by omega)
 split
 ·exact Nat.le_trans (up_len _ _ _) (by omega)
 split
 ·exact Nat.le_trans (up_len _ _ _) (by omega)
 split
 ·exact Nat.le_trans (up_len _ _ _) (by omega)
 split
 ·exact Nat.le_trans (up_len _ _ _) (by omega)
 ·exact ask_len ok ws
def hdOf (s:St):Hd:=⟨none,0,0,none,0,0,none,0,0,none,0,0,s.sys,s.brs.map fun b=>⟨b.mark,none,0,0,b.words⟩,s.sp,s.cab.map fun ps=>⟨none,0,0,ps⟩⟩
theorem hdOf_st (s:St):(hdOf s).st=s:=by
 unfold hdOf Hd.st;simp only [List.map_map];have e1:(Br.dat ∘ fun b:Bf=>(⟨b.mark,none,0,0,b.words⟩:Br))=id:=(by funext b;rfl);have e2:((fun d:Drawer=>d.ps) ∘ fun ps:List Pad=>(⟨none,0,0,ps⟩:Drawer))=id:=(by funext b;rfl);rw [e1,e2,List.map_id,List.map_id]
theorem lineS_len {s:St} (ok:s.ok) (ws:List Wd):(lineS s ws).2.length≤1000100:=by
 have:=line_len (h:=hdOf s) (by rw [hdOf_st];exact ok) ws
 rwa [hdOf_st] at this
theorem runS_len : ∀ (ls:List Wd) (s:St),s.ok→(runS s ls).2.length≤1000100 * ls.length
 | [],_,_=>by simp [runS]
 | l::r,s,ok=>by
  have h1:=lineS_len ok (cutB 32 l);have h2:=runS_len r _ (lineS_ok (cutB 32 l) ok);rw [runS,List.length_append,List.length_cons];omega
theorem runS_snoc (s:St) (ls:List Wd) (l:Wd):runS s (ls++[l])=((lineS (runS s ls).1 (cutB 32 l)).1,(runS s ls).2++(lineS (runS s ls).1 (cutB 32 l)).2):=by
 rw [runS_app,runS_one]
theorem runS_take {s:St} {ls:List Wd} {k:Nat} (h:k < ls.length):runS s (ls.take (k+1))=((lineS (runS s (ls.take k)).1 (cutB 32 (wdAt ls k))).1,(runS s (ls.take k)).2++(lineS (runS s (ls.take k)).1 (cutB 32 (wdAt ls k))).2):=by
 rw [List.take_succ_eq_append_getElem h,runS_snoc];have:ls[k]=wdAt ls k:=(by unfold wdAt;rw [List.getD_eq_getElem?_getD,List.getElem?_eq_getElem h];rfl);rw [this]
theorem cutB_len (d:UInt8) (l:Wd):(cutB d l).length≤l.length+1:=cutQ_len d [] l
theorem cutB_pos (d:UInt8) (l:Wd):1≤(cutB d l).length:=by
 rcases Nat.lt_or_ge 0 (cutB d l).length with h | h
 ·exact h
 ·exact absurd (List.length_eq_zero_iff.1 (by omega)) (cutB_ne d l)
theorem cutB_bd (d:UInt8) (l:Wd) : ∀ p∈cutB d l,p.length≤l.length:=fun p hp=>by
 have:=cutQ_bd d [] l p hp;simpa using this
theorem cntI_flat {css:List (List Pad)} (h:cabOK css):cntI css=(css.flatten.length:Int):=by
 exact cntI_yes (cabB_iff.2 h)
def BuildS (S:List Nat) (w:World) (b:Nat):Prop :=
 b∈S∧∀ p v,w.heap[b]? = some (.cells #[p,v] 82 (0,0))→∀ r,v.ownBlock=some r→r∈S
theorem BuildS.new (w:World) (S:List Nat) (h:w.heap.size∈S):BuildS S (w.alloc (.cells #[.pointer none,.slice none 0 0] 82)) w.heap.size :=
 ⟨h,fun p v hv r hr=>by
  have:=Blk.new w 82 #[.pointer none,.slice none 0 0];unfold Blk at this;rw [this] at hv;injection hv with hv;injection hv with hv;injection hv with hv;injection hv with _ hv;injection hv with hv;subst hv;cases hr⟩
theorem BuildS.off {S S':List Nat} {w w':World} {b:Nat} (h:BuildS S w b) (ho:Off S' w w') (hb:b < w.heap.size) (hs:b ∉ S'):BuildS S w' b :=
 ⟨h.1,fun p v hv=>h.2 p v (by rw [← ho.block hb hs];exact hv)⟩
theorem BuildS.more {S S':List Nat} {w:World} {b:Nat} (h:BuildS S w b) (hS : ∀ x∈S,x∈S'):BuildS S' w b:=⟨hS _ h.1,fun p v hv r hr=>hS _ (h.2 p v hv r hr)⟩
theorem IsBuilder.off {S:List Nat} {T e:TypeId} {B b:Nat} {bs:List Value} {w w':World} (h:Lib.IsBuilder T e B b bs w) (ho:Off S w w') (hS : ∀ x∈S,x < B):Lib.IsBuilder T e B b bs w':=by
 have key : ∀ p,Lib.BuilderAt T e B b p bs w→Lib.BuilderAt T e B b p bs w':=fun p ⟨hB,v,hk,ho',hne⟩=>by
  refine ⟨hB,v,?_,⟨ho'.1,?_⟩,hne⟩
  ·exact (ho.block (Blk.lt (w:=w) (t:=T) hk) (fun e=>by have:=hS _ e;omega)).trans hk
  ·rcases ho'.2 with h2 | ⟨g,cap,cur,rfl,h1,h2,h3⟩
   ·exact .inl h2
   ·exact .inr ⟨g,cap,cur,rfl,h1,(ho.block (Blk.lt (w:=w) (t:=e) h2) (fun e=>by have:=hS _ e;omega)).trans h2,h3⟩
 rcases h with h | h
 ·exact .inl (key _ h)
 ·exact .inr (key _ h)
theorem copyCheckS (S:List Nat) (B b:Nat) (bs:List Value) (w:World) (h:Lib.IsBuilder 82 5 B b bs w) (hS:BuildS S w b) :
  Calls Tryz.prog 109 #[.pointer (some ⟨b,0,none⟩)] w fun e w'=>e = .returned (.tuple #[])∧Lib.BuilderAt 82 5 B b (.pointer (some ⟨b,0,none⟩)) bs w'∧Below B w w'∧Off S w w'∧BuildS S w' b:=by
 rcases h with h | h
 ·refine (copyCheckFresh b w h.cell0 h.shape h.frozen0).mono ?_;rintro e w' ⟨rfl,rfl⟩;refine ⟨rfl,h.used _,(Below.refl B w).setCell (p:=⟨b,0,none⟩) h.1 _,(Off.refl S w).put hS.1 0 _,hS.1,fun p v hv r hr=>?_⟩;obtain ⟨_,v0,hk,_,_⟩:=h;have K:Blk w b 82 #[.pointer none,v0]:=hk;have K2:=K.set 0 (.pointer (some ⟨b,0,none⟩));unfold Blk at K2;rw [K2] at hv;injection hv with hv;injection hv with hv;have hv2:=congrArg Array.toList hv;simp at hv2;exact hS.2 _ v0 hk r (by rw [hv2.2];exact hr)
 ·refine (copyCheckUsed b w h.cell0).mono ?_;rintro e w' ⟨rfl,rfl⟩;exact ⟨rfl,h,Below.refl B _,Off.refl S _,hS⟩
section
variable {P:Program} (w:World)
theorem run_append_own_stringX (base:Nat) (t u ty e:TypeId) (i:TypeInfo) (ht:P.underlying t=some (.slice e)) (hu:P.underlying u=some .string) (hi:P.info? e=some i) (hz:i.zero=some (.int .u8 0))
  (hsize:i.size=1) (hby:i.bytes=1)
  (v:Value) (n:Nat) (xs:List Value) (hown:w.ownsRow base e 1 v n xs) (s:ByteArray)
  (h63:n+s.size≤maxLen) (hbytes:n+s.size≤140737488355328) (hbase:base≤w.heap.size) :
  ∃ v' w',(Builtin.append_ #[t,u] ty #[v,.string s]).run P w = .ok v' w'∧w'.ownsRow base e 1 v' (n+s.size) (xs++Lib.strCells s)∧w.grownBy w' v.ownBlock ∧
   (v'.ownBlock=v.ownBlock∨∃ q,v'.ownBlock=some q∧w.heap.size≤q):=by
 obtain ⟨v',w',hr,h2,h3,_⟩:=Lib.run_append_own_string (P:=P) w base t u ty e i ht hu hi hz hsize hby v n xs hown s h63 hbytes hbase;refine ⟨v',w',hr,h2,h3,?_⟩;have hsmall:n+s.size≤9223372036854775807:=(by simp only [maxLen] at h63;omega);have hxl:xs.length=n:=(by simpa using hown.1);rcases hown.2 with ⟨rfl,rfl⟩ | ⟨g,cap,cur,rfl,hbg,hg,hnc,hcm,hcs,htake⟩
 ·have hx:xs=[]:=List.eq_nil_of_length_eq_zero hxl;subst hx;obtain ⟨v2,w2,hr2,h22,_⟩:=Lib.run_append_own_string (P:=P) w w.heap.size t u ty e i ht hu hi hz hsize hby (.slice none 0 0) 0 [] (World.ownsRow_nil w w.heap.size e 1) s h63 hbytes (Nat.le_refl _);have hj:=hr.symm.trans hr2;obtain ⟨e1,e2⟩:=Result.ok.inj hj;subst e1 e2;cases hq:v'.ownBlock with
  | none=>exact .inl rfl
  | some q=>exact .inr ⟨q,rfl,ownG_base h22 hq⟩
 ·by_cases hroom:n+s.size≤cap
  ·have hcs':cur.size=cap:=(by simpa using hcs);have hr2:=Lib.run_append_room_string (P:=P) w t u ty e i ht hu hi hsize g n cap cur hg s hroom (by omega);obtain ⟨e1,_⟩:=Result.ok.inj (hr.symm.trans hr2);exact .inl (by rw [e1];rfl)
  ·have holds : ∀ j u,xs[j]? = some u→w.cell? ((⟨g,0,none⟩:Addr).add j)=some u:=hown.cells (g:=g) rfl;have hr2:=Lib.run_append_grow_string (P:=P) w t u ty e i (.int .u8 0) ht hu hi hz ⟨g,0,none⟩ n cap xs (by rw [hsize];simpa using hxl) holds s (by omega) (by omega) (by rw [hby];exact growslice_fits (by omega) (by omega));obtain ⟨e1,_⟩:=Result.ok.inj (hr.symm.trans hr2);exact .inr ⟨w.heap.size,by rw [e1];rfl,Nat.le_refl _⟩
theorem wpList_append_own_stringX {ops:Array Oper} {rest:List Oper} {o:Oper} {a:Act} {Q:Exit→Act→World→Prop} (hgd:o.guard=none) (sl x:Operand) (t u:TypeId)
  (ho:o.op = .call { callee:=.builtin .append,args:=#[sl,x],argTypes:=#[t,u] })
  (base:Nat) (e:TypeId) (i:TypeInfo) (ht:P.underlying t=some (.slice e)) (hu:P.underlying u=some .string) (hi:P.info? e=some i) (hz:i.zero=some (.int .u8 0))
  (hsize:i.size=1) (hby:i.bytes=1)
  (v:Value) (n:Nat) (xs:List Value) (hs:a.eval sl=v) (hown:w.ownsRow base e 1 v n xs) (s:ByteArray) (hx:a.eval x = .string s)
  (h63:n+s.size≤maxLen) (hbytes:n+s.size≤140737488355328) (hbase:base≤w.heap.size)
  (h : ∀ v' w',w'.ownsRow base e 1 v' (n+s.size) (xs++Lib.strCells s)→w.grownBy w' v.ownBlock→(v'.ownBlock=v.ownBlock∨∃ q,v'.ownBlock=some q∧w.heap.size≤q)→wpList P ops Q rest (a.put o.dst v') w'):wpList P ops Q (o::rest) a w:=by
 refine wpList_plain hgd fun K hK=>?_;obtain ⟨v',w',hr,h2,h3,h4⟩:=run_append_own_stringX (P:=P) w base t u o.type e i ht hu hi hz hsize hby v n xs hown s h63 hbytes hbase;unfold Oper.wp execOp;simp only [ho,resolve,invoke,builtin,Sem.run_bind,Sem.run_pure,Result.andThen_ok,List.map_toArray,List.map_cons,List.map_nil,hs,hx,hr];exact hK _ _ (h v' w' h2 h3 h4)
end
set_option maxHeartbeats 1000000 in
theorem writeStringS (S:List Nat) (B b:Nat) (bs:List Value) (s:ByteArray) (w:World) (h:Lib.IsBuilder 82 5 B b bs w) (hS:BuildS S w b) (hlen:bs.length+s.size≤140737488355328) (hBw:B≤w.heap.size) :
  Calls Tryz.prog 48 #[.pointer (some ⟨b,0,none⟩),.string s] w fun e w'=>e = .returned (.tuple #[.int .i64 s.size,.nilIface])∧Lib.IsBuilder 82 5 B b (bs++Lib.strCells s) w'∧Below B w w'∧Off S w w'∧∃ S':List Nat,(∀ x∈S,x∈S')∧(∀ x∈S',x∈S∨(w.heap.size≤x∧x < w'.heap.size))∧BuildS S' w' b:=by
 obtain ⟨i0,hi,hz0,hz1,hz2⟩:=info_parts infoByte;have HC:=uH (copyCheckS S B b bs w h hS);clear h hS;go_enter Tryz.func48,Tryz.ntmps48
 (go_wp2_with fail);refine HC.out.mono ?_;rintro e w1 ⟨rfl,h1,hb1,ho1,hS1⟩;obtain ⟨hB,v,hbk,hown,hne⟩:=h1;have c0:w1.cell? ⟨b,0,none⟩=some (.pointer (some ⟨b,0,none⟩)):=(by rw [Lib.cell_of_heap hbk];rfl);have c1:w1.cell? ⟨b,1,none⟩=some v:=(by rw [Lib.cell_of_heap hbk];rfl);have HvS:Hid (∀ r,v.ownBlock=some r→r∈S):=uH (hS1.2 _ v hbk);have HbS:=uH hS1.1;clear hS1;go_wp2_with (at_builtin;refine wpList_append_own_stringX _ rfl _ _ 22 9 rfl B 5 i0 Tryz.underlying22 Tryz.underlying9 hi hz0 hz1 hz2 _ _ _ rfl hown s rfl ?c3 ?c4 ?c5 ?_)
 case c3=>unfold maxLen;omega
 case c4=>omega
 case c5=>have:=hb1.size;omega
 intro v' w2 hown' hgrow hat;have hlt:b < w1.heap.size:=Blk.lt (w:=w1) (t:=82) hbk;have hb2:w2.heap[b]? = some (.cells #[.pointer (some ⟨b,0,none⟩),v] 82 (0,0)):=by
  rw [hgrow.block b hlt (fun e=>hne e.symm)];exact hbk
 have d0:w2.cell? ⟨b,0,none⟩=some (.pointer (some ⟨b,0,none⟩)):=(by rw [Lib.cell_of_heap hb2];rfl);have d1:w2.cell? ⟨b,1,none⟩=some v:=(by rw [Lib.cell_of_heap hb2];rfl);have f1:w2.frozen? ⟨b,1,none⟩=false:=Lib.frozen_of_heap hb2 1;have ho2:Hid (Off S w1 w2):=uH (by
  refine ⟨hgrow.os,hgrow.tape,hgrow.output,by rw [blanks_size,blanks_size];exact hgrow.size,fun k hk=>?_⟩;rw [blanks_get,blanks_get];by_cases hkS:k∈S
  ·have hk2:k < w2.heap.size:=Nat.lt_of_lt_of_le hk hgrow.size;rw [Array.getElem?_eq_getElem hk,Array.getElem?_eq_getElem hk2];simp [hkS]
  ·rw [hgrow.block k hk (fun e=>hkS (HvS.out k e.symm))])
 have HR:Hid (∃ S':List Nat,(∀ x∈S,x∈S')∧(∀ x∈S',x∈S∨(w.heap.size≤x∧x < w2.heap.size))∧∀ q,v'.ownBlock=some q→q∈S'):=uH (by
  rcases hat with e | ⟨r,e,hr⟩
  ·exact ⟨S,fun x hx=>hx,fun x hx=>.inl hx,fun q hq=>HvS.out q (by rw [← e];exact hq)⟩
  ·exact ⟨r::S,fun x hx=>List.mem_cons_of_mem _ hx,fun x hx=>by
    rcases List.mem_cons.1 hx with rfl | hx
    ·exact .inr ⟨Nat.le_trans ho1.size hr,ownG_lt hown' e⟩
    ·exact .inl hx,fun q hq=>by rw [e] at hq;injection hq with hq;rw [← hq];exact List.mem_cons_self⟩)
 obtain ⟨ao,n',cap,rfl⟩ : ∃ ao n' cap,v' = .slice ao n' cap:=by
  rcases hown'.2 with ⟨hv,_⟩ | ⟨g,cap,cur,hv,_⟩
  ·exact ⟨_,_,_,hv⟩
  ·exact ⟨_,_,_,hv⟩
 have HO:=uH hown';clear hown' hat;go_wp2
 go_ret2
 refine ⟨rfl,.inr ?_,?_,(ho1.trans ho2.out).put HbS.out 1 _,?_⟩
 ·exact Lib.BuilderAt.put (T:=82) (e:=5) hB hb2 (bs':=bs++Lib.strCells s) (by simpa [Lib.strCells_length] using HO.out) (by decide)
 ·exact (hb1.grown hgrow (by have:=hb1.size;omega) (fun k hk=>(hown.lt k hk).1)).setCell (p:=⟨b,1,none⟩) hB _
 ·obtain ⟨S',hs1,hs2,hq⟩:=HR.out;refine ⟨S',hs1,fun x hx=>by
   rcases hs2 x hx with h | ⟨h1,h2⟩
   ·exact .inl h
   ·exact .inr ⟨h1,by simpa [World.setCell] using h2⟩,hs1 _ HbS.out,fun p u hu q hqq=>?_⟩
  have K:Blk w2 b 82 #[.pointer (some ⟨b,0,none⟩),v]:=hb2;have K2:=K.set 1 (.slice ao n' cap);unfold Blk at K2;rw [K2] at hu;injection hu with hu;injection hu with hu;have hv2:=congrArg Array.toList hu;simp at hv2;exact hq q (by rw [hv2.2];exact hqq)
def cellOf:DataW Unit→Value
 | .lit (.int k z)=>.int k z
 | _=>undef
def cellsOf:DataW Unit→Array Value
 | .agg l=>(l.flatMap fun d=>match d with | .agg l2=>l2.map cellOf | d=>[cellOf d]).toArray
 | _=>#[]
abbrev laidL : List (String × DataW Unit) := [("math/bits.deBruijn32tab", Rows.laid_math_bits_deBruijn32tab), ("math/bits.deBruijn64tab", Rows.laid_math_bits_deBruijn64tab), ("internal/strconv.uint64pow10", Rows.laid_internal_strconv_uint64pow10), ("unicode/utf8.acceptRanges", Rows.laid_unicode_utf8_acceptRanges), ("unicode/utf8.first", Rows.laid_unicode_utf8_first)]
noncomputable def laidWorld (os:Os):World :=
 let w0:=World.holding Tryz.prog os ⟨#[],#[],[]⟩
 let put (h:Array Obj) (g:Nat) (cs:Array Value):Array Obj:=h.modify g fun
  | .cells _ t frozen=>.cells cs t frozen
  | o=>o
 { w0 with heap:=put (put (put (put (put w0.heap 4 (cellsOf Rows.laid_math_bits_deBruijn32tab)) 5 (cellsOf Rows.laid_math_bits_deBruijn64tab)) 1 (cellsOf Rows.laid_internal_strconv_uint64pow10)) 3 (cellsOf Rows.laid_unicode_utf8_acceptRanges)) 2 (cellsOf Rows.laid_unicode_utf8_first) }
theorem laid_met (os:Os) (args:Array Value):laidMet Tryz.prog laidL ((laidWorld os).forCall (fun _ _=>0) ⟨#[],args,[]⟩).memory :=
 (LaidIn.of_run (l:=laidL) [4,5,1,3,2] 8 (by kernel_rfl) (by kernel_rfl) (by kernel_rfl) (by kernel_rfl)).met
theorem tabOf {W:World} (hL:laidMet Tryz.prog laidL W):TabP W:=by
 obtain ⟨g', t', cs, fuel, p, hg', ht', hvar, hd⟩ := Lib.laidMet.reads hL (.tail _ (.tail _ (.head _))); obtain rfl := Option.some.inj ((show Tryz.prog.globalNamed "internal/strconv.uint64pow10" = some 1 by kernel_rfl).symm.trans hg'); obtain rfl := Option.some.inj ((show (Tryz.prog.globals[1]?).map (·.type) = some 273 by kernel_rfl).symm.trans ht'); unfold TabP Lib.TabIs; rw [hvar, ← Lib.cells_of_tab (n := 20) (e := 252) (k := .u64) (zs := Lib.pow10Tab) (by kernel_rfl) (by kernel_rfl) (by kernel_rfl) (by kernel_rfl) hd]
theorem endS_len {s:St} (ok:s.ok):15≤(endS s).length∧(endS s).length≤100:=by
 have h1:1≤(Lib.decDigits s.sp.length).length∧1≤(Lib.decDigits s.cab.flatten.length).length:=by
  constructor <;> (rw [Lib.decDigits_length];unfold Lib.nDigits;split <;> omega)
 have h2:=decN_len s.sp.length (by have:=(spB_iff.1 ok.2.2.1).2;omega);have h3:s.cab.flatten.length≤1000000:=by
  have:=(stSz (h:=hdOf s) (by rw [hdOf_st];exact ok)).sz;have h4:=allPads_len (hdOf s).ds;have e:allPads (hdOf s).ds=((hdOf s).ds.map (·.ps)).flatten:=allPads_flat _;have e2:(hdOf s).ds.map (·.ps)=s.cab:=congrArg St.cab (hdOf_st s);rw [e,e2] at h4;omega
 have h4:=decN_len _ h3;unfold endS;simp only [List.length_append,List.length_cons,List.length_nil];omega
theorem exec_len (l:Wd):(exec l).length≤1000000000:=by
 by_cases h:l.length≤500
 ·rw [exec_yes h,List.length_append];have h1:=runS_len (linesOf l) st0 st0_ok;have h2:=(endS_len (runS_ok (linesOf l) st0 st0_ok)).2;have h3:(linesOf l).length≤501:=(by unfold linesOf;rw [List.length_dropLast];have:=cutB_len 10 l;omega);omega
 ·rw [exec_no (by omega)];simp [sayLong]
theorem letter_not {c:UInt8} (h:isLetter c=true):c≠32∧c≠10:=by
 unfold isLetter at h;rw [Bool.and_eq_true,decide_eq_true_iff,decide_eq_true_iff] at h;constructor <;> (rintro rfl;revert h;decide)
def plainW (l:Wd):Prop:=(32:UInt8) ∉ l∧(10:UInt8) ∉ l
theorem plain_all {p:UInt8→Bool} (hp : ∀ c,p c=true→c≠32∧c≠10) {l:Wd} (h:l.all p=true):plainW l:=by
 rw [List.all_eq_true] at h;exact ⟨fun hm=>(hp _ (h _ hm)).1 rfl,fun hm=>(hp _ (h _ hm)).2 rfl⟩
theorem word_plain {l:Wd} (h:wordB l=true):plainW l:=by
 unfold wordB at h;rw [Bool.and_eq_true] at h;exact plain_all (fun c hc=>letter_not hc) h.1
def joinLn (ls:List Wd):Wd:=(ls.map (·++[10])).flatten
theorem joinLn_cons (l:Wd) (r:List Wd):joinLn (l::r)=l++10::joinLn r:=by unfold joinLn;simp
theorem linesOf_join : ∀ {ls:List Wd},(∀ l∈ls,(10:UInt8) ∉ l)→linesOf (joinLn ls)=ls
 | [],_=>rfl
 | l::r,h=>by
  rw [joinLn_cons,linesOf_app,linesOf_line (h l List.mem_cons_self),linesOf_join (fun x hx=>h x (List.mem_cons_of_mem _ hx))];rfl
def cmdL (c:Wd) (ws:List Wd):Wd:=c++joinedL ws
theorem cmdL_cut {c:Wd} {ws:List Wd} (hc:(32:UInt8) ∉ c) (h : ∀ l∈ws,plainW l):cutB 32 (cmdL c ws)=c::ws:=cutB_joined hc fun l hl=>(h l hl).1
theorem cmdL_no {c:Wd} {ws:List Wd} (hc:(10:UInt8) ∉ c) (h : ∀ l∈ws,plainW l):(10:UInt8) ∉ cmdL c ws:=fun hm=>by
 rcases List.mem_append.1 hm with h1 | h1
 ·exact hc h1
 ·exact joinedL_no (fun l hl=>(h l hl).2) h1
end Go.Proofs.YtbkhnljaajajiaaGreatDoor
