/-
  Contracts and plain laws that the proofs lean on. Conditions: as each says.
-/
import Derived.Test.YtbkhnljaajajiaaGreatDoorPX10
import Derived.Test.YtbkhnljaajajiaaGreatDoorPX11
import Derived.BigRegion
set_option maxRecDepth 100000
set_option linter.unusedSimpArgs false
set_option linter.unusedVariables false
set_option linter.unnecessarySimpa false
namespace Go.Proofs.YtbkhnljaajajiaaGreatDoor
open Go.ChangeShapes Go.WideShapes Go.ChangeAt Go.RowKit
def WrOwn (w:World) (B:Nat) (v:Value) (xs:List Wr):Prop:=w.ownsRow B 140 2 v xs.length (xs.flatMap wrC)∧∀ x∈xs,WrIn w w.heap.size x∧∀ a,x.A=some a→v.ownBlock≠some a.block∧a.block < w.heap.size
theorem WrIn.grown {w w':World} {x:Wr} {row:Option Nat} (h:WrIn w w.heap.size x) (hg:w.grownBy w' row) (hne : ∀ a,x.A=some a→row≠some a.block):WrIn w' w'.heap.size x :=
 WrIn.more ⟨⟨h.1.1,h.1.2.1,h.1.2.2.1,h.1.2.2.2.1.grown hg hne,h.1.2.2.2.2⟩,h.2⟩ hg.size
theorem WrOwn.keep {w w':World} {B:Nat} {v:Value} {xs:List Wr} (h:WrOwn w B v xs) (hb:Below w.heap.size w w'):WrOwn w' B v xs :=
 ⟨ownG_keep h.1 hb,fun x hx=>⟨(h.2 x hx).1.keep hb,fun a ha=>⟨((h.2 x hx).2 a ha).1,Nat.lt_of_lt_of_le ((h.2 x hx).2 a ha).2 hb.size⟩⟩⟩
theorem WrOwn.push {w w':World} {B:Nat} {v v':Value} {xs:List Wr} {x:Wr} (h:WrOwn w B v xs) (hx:WrIn w w.heap.size x) (hn : ∀ a,x.A=some a→v.ownBlock≠some a.block∧a.block < w.heap.size)
  (ho:w'.ownsRow B 140 2 v' (xs.length+1) (xs.flatMap wrC++wrC x)) (hg:w.grownBy w' v.ownBlock) (hv:v'.ownBlock=v.ownBlock∨v'.ownBlock=some w.heap.size):WrOwn w' B v' (xs++[x]):=by
 refine ⟨by rw [List.length_append,List.flatMap_append];simpa using ho,fun y hy=>?_⟩;have key:WrIn w w.heap.size y∧∀ a,y.A=some a→v.ownBlock≠some a.block∧a.block < w.heap.size:=by
  rcases List.mem_append.1 hy with hy | hy
  ·exact h.2 y hy
  ·rw [List.mem_singleton] at hy;subst hy;exact ⟨hx,hn⟩
 refine ⟨key.1.grown hg (fun a ha=>(key.2 a ha).1),fun a ha=>⟨fun e=>?_,Nat.lt_of_lt_of_le (key.2 a ha).2 hg.size⟩⟩;rcases hv with e2 | e2
 ·exact (key.2 a ha).1 (e2.symm.trans e)
 ·have:=(key.2 a ha).2;rw [e2] at e;injection e with e;omega
theorem WrOwn.reads {w:World} {B n c:Nat} {A:Option Addr} {xs:List Wr} (h:WrOwn w B (.slice A n c) xs) (hn:xs.length=n):WrsIn w w.heap.size A n c xs:=by
 have h1:=h.1;rw [hn] at h1;obtain ⟨A',c',e,h2,h3⟩:=ownG_form h1;injection e with e1 e2 e3;subst e1 e3;exact ⟨hn,h2,h3,Row.of_own h1,fun x hx=>(h.2 x hx).1⟩
def LinAns (w':World) (o:Option (List Dat)) (e:Ending):Prop :=
 (o=none∧∃ A c,e = .returned (.tuple #[.slice A 0 c,.bool false])∧WrsIn w' w'.heap.size A 0 c []) ∨
 ∃ A c xs,o=some (xs.map Wr.dat)∧e = .returned (.tuple #[.slice A xs.length c,.bool true])∧WrsIn w' w'.heap.size A xs.length c xs
theorem WrsIn.zero (w:World) (B:Nat) (A:Option Addr):WrsIn w B A 0 0 []:=⟨rfl,Nat.le_refl _,by unfold maxLen;omega,⟨rfl,fun h=>absurd h (by omega)⟩,by simp⟩
theorem infoWr:(Tryz.prog.info? 140).map (fun i=>(i.zero,i.size,i.bytes))=some (some (.agg #[.slice none 0 0,.int .i64 0]),2,32):=by kernel_rfl
theorem mkStr_isEmpty {l:List UInt8} (h:l≠[]):(mkStr l).toList.isEmpty=false:=by
 rw [Lib.toList_data,mkStr_data];cases l with
 | nil=>exact absurd rfl h
 | cons _ _=>rfl
end Go.Proofs.YtbkhnljaajajiaaGreatDoor
namespace Go.Proofs.YtbkhnljaajajiaaGreatDoor
instance:DecidableEq Stroke:=fun a b=>decidable_of_iff (a.dir=b.dir∧a.size=b.size) ⟨fun h=>by cases a;cases b;simp_all,fun h=>by subst h;exact ⟨rfl,rfl⟩⟩
def at8 (l:List UInt8) (i:Nat):UInt8:=l.getD i 0
theorem at8_get {l:List UInt8} {i:Nat} (h:i < l.length):l[i]=at8 l i:=by simp [at8,List.getD_eq_getElem?_getD,h]
def isVow (c:UInt8):Bool:=decide (c=97∨c=101∨c=105∨c=111∨c=117)
theorem wordB_iff {l:List UInt8}:wordB l=true ↔ (1≤l.length∧l.length≤12)∧∀ i,i < l.length→isLetter (at8 l i)=true:=by
 unfold wordB;rw [Bool.and_eq_true,Bool.and_eq_true,decide_eq_true_iff,decide_eq_true_iff,List.all_eq_true];constructor
 ·rintro ⟨h1,h2,h3⟩;exact ⟨⟨h2,h3⟩,fun i hi=>by rw [← at8_get hi];exact h1 _ (List.getElem_mem hi)⟩
 ·rintro ⟨⟨h2,h3⟩,h1⟩;refine ⟨fun x hx=>?_,h2,h3⟩;obtain ⟨i,hi,rfl⟩:=List.getElem_of_mem hx;rw [at8_get hi];exact h1 i hi
theorem wordB_size {l:List UInt8} (h : ¬ (1≤l.length∧l.length≤12)):wordB l=false:=by
 rw [Bool.eq_false_iff];intro h2;exact h (wordB_iff.1 h2).1
def barePick (l:List UInt8) (i:Nat):List UInt8:=if isVow (at8 l i)=false∧(i=0∨at8 l (i - 1)≠at8 l i) then [at8 l i] else []
def bareK (l:List UInt8) (k:Nat):List UInt8:=(List.range k).flatMap (barePick l)
theorem bareK_succ (l:List UInt8) (k:Nat):bareK l (k+1)=bareK l k++barePick l k:=by simp [bareK,List.range_succ]
theorem barePick_len (l:List UInt8) (i:Nat):(barePick l i).length≤1:=by unfold barePick;split <;> simp
theorem bareK_len (l:List UInt8) (k:Nat):(bareK l k).length≤k:=by
 induction k with
 | zero=>simp [bareK]
 | succ k ih=>rw [bareK_succ,List.length_append];have:=barePick_len l k;omega
def bareOf (l:List UInt8):List UInt8:=if wordB l=true then bareK l l.length else []
theorem bareOf_yes {l:List UInt8} (h:wordB l=true):bareOf l=bareK l l.length:=if_pos h
theorem bareOf_no {l:List UInt8} (h:wordB l=false):bareOf l=[]:=if_neg (by rw [h];simp)
theorem bareOf_len (l:List UInt8):(bareOf l).length≤12:=by
 cases h:wordB l with
 | true=>rw [bareOf_yes h];have:=bareK_len l l.length;have:=(wordB_iff.1 h).1;omega
 | false=>rw [bareOf_no h];simp
def vowPick (l:List UInt8) (i:Nat):List UInt8:=if isVow (at8 l i)=true then [at8 l i] else []
def vowK (l:List UInt8) (k:Nat):List UInt8:=(List.range k).flatMap (vowPick l)
theorem vowK_succ (l:List UInt8) (k:Nat):vowK l (k+1)=vowK l k++vowPick l k:=by simp [vowK,List.range_succ]
theorem vowK_len (l:List UInt8) (k:Nat):(vowK l k).length≤k:=by
 induction k with
 | zero=>simp [vowK]
 | succ k ih=>rw [vowK_succ,List.length_append];have:(vowPick l k).length≤1:=by { unfold vowPick;split <;> simp };omega
def vowOf (l:List UInt8):List UInt8:=if wordB l=true then vowK l l.length else []
theorem vowOf_yes {l:List UInt8} (h:wordB l=true):vowOf l=vowK l l.length:=if_pos h
theorem vowOf_no {l:List UInt8} (h:wordB l=false):vowOf l=[]:=if_neg (by rw [h];simp)
def posV (v:List UInt8):Int:=match v with | []=>1 | c::_=>if c=97∨c=111 then 0 else if c=101 then 1 else 2
def posOf (l:List UInt8):Int:=if wordB l=true then posV (vowOf l) else -1
theorem posV_bd (v:List UInt8):0≤posV v∧posV v≤2:=by unfold posV;repeat' split <;> omega
theorem posOf_bd (l:List UInt8) : -1≤posOf l∧posOf l≤2:=by have:=posV_bd (vowOf l);unfold posOf;split <;> omega
structure Sg where
 l:List UInt8
 st:Stroke
def sgAt (xs:List Sg) (k:Nat):Sg:=xs.getD k ⟨[],⟨0,0⟩⟩
theorem sgAt_some {xs:List Sg} {k:Nat} (h:k < xs.length):xs[k]? = some (sgAt xs k):=by simp [sgAt,List.getD_eq_getElem?_getD,h]
theorem sgAt_mem {xs:List Sg} {k:Nat} (h:k < xs.length):sgAt xs k∈xs:=List.mem_of_getElem? (sgAt_some h)
def okL (l:List UInt8):Bool:=decide (l.length=1) && (isLetter (at8 l 0) && !isVow (at8 l 0))
def okSg (x:Sg):Bool:=okL x.l && okS x.st
def sysGood (xs:List Sg) (i:Nat):Prop:=okSg (sgAt xs i)=true∧∀ j,j < i→(sgAt xs j).l≠(sgAt xs i).l∧(sgAt xs j).st≠(sgAt xs i).st
instance (xs:List Sg) (i:Nat):Decidable (sysGood xs i):=by unfold sysGood;infer_instance
def sysB (xs:List Sg):Bool:=decide (xs.length≤21∧∀ i,i < xs.length→sysGood xs i)
theorem sysB_iff {xs:List Sg}:sysB xs=true ↔ xs.length≤21∧∀ i,i < xs.length→sysGood xs i:=by unfold sysB;rw [decide_eq_true_iff]
theorem sysB_no {xs:List Sg} {i:Nat} (hi:i < xs.length) (h : ¬ sysGood xs i):sysB xs=false:=by
 rw [Bool.eq_false_iff];intro h2;exact h ((sysB_iff.1 h2).2 i hi)
theorem sysB_all {xs:List Sg} (h : ∀ i,i < xs.length→sysGood xs i):sysB xs=decide (xs.length≤21):=by
 unfold sysB;congr 1;exact propext ⟨fun h=>h.1,fun h2=>⟨h2,h⟩⟩
theorem sysB_long {xs:List Sg} (h:21 < xs.length):sysB xs=false:=by
 rw [Bool.eq_false_iff];intro h2;have:=(sysB_iff.1 h2).1;omega
def strokeOf (xs:List Sg) (l:List UInt8):Option Stroke:=if sysB xs=true then (xs.find? fun x=>decide (x.l=l)).map (·.st) else none
theorem find_at : ∀ {xs:List Sg} {l:List UInt8} {i:Nat},i < xs.length→(∀ j,j < i→(sgAt xs j).l≠l)→(sgAt xs i).l=l→(xs.find? fun x=>decide (x.l=l))=some (sgAt xs i)
 | [],_,_,h,_,_=>by simp at h
 | x::r,l,0,_,_,h=>by
  have h:x.l=l:=h;rw [List.find?_cons,decide_eq_true h];rfl
 | x::r,l,i+1,hi,hj,h=>by
  have h0:x.l≠l:=hj 0 (by omega);rw [List.find?_cons,decide_eq_false h0];have:=find_at (xs:=r) (l:=l) (i:=i) (by simpa using hi) (fun j hj2=>hj (j+1) (by omega)) h;rw [this];rfl
theorem find_no {xs:List Sg} {l:List UInt8} (h : ∀ j,j < xs.length→(sgAt xs j).l≠l):(xs.find? fun x=>decide (x.l=l))=none:=by
 rw [List.find?_eq_none];intro x hx;obtain ⟨i,hi,rfl⟩:=List.getElem_of_mem hx;have:=h i hi;unfold sgAt at this;rw [List.getD_eq_getElem?_getD,List.getElem?_eq_getElem hi] at this;simpa using this
theorem strokeOf_at {xs:List Sg} {l:List UInt8} {i:Nat} (hb:sysB xs=true) (hi:i < xs.length) (hj : ∀ j,j < i→(sgAt xs j).l≠l) (h:(sgAt xs i).l=l):strokeOf xs l=some (sgAt xs i).st:=by
 unfold strokeOf;rw [if_pos hb,find_at hi hj h];rfl
theorem strokeOf_no {xs:List Sg} {l:List UInt8} (h:sysB xs=true→∀ j,j < xs.length→(sgAt xs j).l≠l):strokeOf xs l=none:=by
 unfold strokeOf;split
 ·rename_i hb;rw [find_no (h hb)];rfl
 ·rfl
theorem strokeOf_ok {xs:List Sg} {l:List UInt8} {s:Stroke} (h:strokeOf xs l=some s):sysB xs=true∧okS s=true:=by
 unfold strokeOf at h;split at h
 ·rename_i hb
  obtain ⟨x,hx,rfl⟩:=Option.map_eq_some_iff.1 h;obtain ⟨i,hi,rfl⟩:=List.getElem_of_mem (List.mem_of_find?_eq_some hx);have:=((sysB_iff.1 hb).2 i hi).1;unfold sgAt at this;rw [List.getD_eq_getElem?_getD,List.getElem?_eq_getElem hi] at this;unfold okSg at this;rw [Bool.and_eq_true] at this;exact ⟨hb,this.2⟩
 ·cases h
def outl (xs:List Sg):List UInt8→Option (List Stroke)
 | []=>some []
 | c::r=>(strokeOf xs [c]).bind fun s=>(outl xs r).map (s::·)
theorem outl_snoc (xs:List Sg) (a:List UInt8) (c:UInt8):outl xs (a++[c])=(outl xs a).bind fun L=>(strokeOf xs [c]).map fun s=>L++[s]:=by
 induction a with
 | nil=>simp only [List.nil_append,outl];cases strokeOf xs [c] <;> rfl
 | cons x r ih =>
  simp only [List.cons_append,outl,ih];cases strokeOf xs [x] <;> cases outl xs r <;> cases strokeOf xs [c] <;> rfl
theorem outl_no {xs:List Sg} {a:List UInt8} {c:UInt8} (h:c∈a) (hn:strokeOf xs [c]=none):outl xs a=none:=by
 induction a with
 | nil=>cases h
 | cons x r ih =>
  rcases List.mem_cons.1 h with rfl | h
  ·simp [outl,hn]
  ·simp only [outl,ih h];cases strokeOf xs [x] <;> rfl
def wordOut (xs:List Sg) (l:List UInt8):Option (List Stroke) :=
 if sysB xs=true∧wordB l=true then (outl xs (bareOf l)).bind fun o=>if outB o=true then some o else none else none
theorem wordOut_bad {xs:List Sg} {l:List UInt8} (h:sysB xs=false∨wordB l=false):wordOut xs l=none:=if_neg (by rintro ⟨h1,h2⟩;rcases h with h | h <;> simp_all)
theorem wordOut_eq {xs:List Sg} {l:List UInt8} (h1:sysB xs=true) (h2:wordB l=true):wordOut xs l=(outl xs (bareOf l)).bind fun o=>if outB o=true then some o else none:=if_pos ⟨h1,h2⟩
theorem wordOut_ok {xs:List Sg} {l:List UInt8} {o:List Stroke} (h:wordOut xs l=some o):sysB xs=true∧wordB l=true∧outl xs (bareOf l)=some o∧outB o=true:=by
 unfold wordOut at h;split at h
 ·rename_i hb
  obtain ⟨q,hq,h⟩:=Option.bind_eq_some_iff.1 h;split at h
  ·rename_i ho;injection h with h;subst h;exact ⟨hb.1,hb.2,hq,ho⟩
  ·cases h
 ·cases h
def dicGood (ws:List (List UInt8)) (i:Nat):Prop:=wordB (wdAt ws i)=true∧∀ j,j < i→wdAt ws j≠wdAt ws i
instance (ws:List (List UInt8)) (i:Nat):Decidable (dicGood ws i):=by unfold dicGood;infer_instance
end Go.Proofs.YtbkhnljaajajiaaGreatDoor
namespace Go.Proofs.YtbkhnljaajajiaaGreatDoor
open Go.ChangeShapes Go.WideShapes Go.ChangeAt Go.RowKit
def sgC (x:Sg):List Value:=[.string (mkStr x.l),.int .i64 x.st.dir,.int .i64 x.st.size]
theorem sgC_len (x:Sg):(sgC x).length=3:=rfl
def SgsIn (w:World) (B:Nat) (A:Option Addr) (n c:Nat) (xs:List Sg):Prop :=
 xs.length=n∧n≤c∧c≤maxLen∧Row w B A n 3 (xs.flatMap sgC)∧∀ x∈xs,x.st.good
theorem SgsIn.below {w w':World} {B n c:Nat} {A:Option Addr} {xs:List Sg} (h:SgsIn w B A n c xs) (hb:Below B w w'):SgsIn w' B A n c xs :=
 ⟨h.1,h.2.1,h.2.2.1,h.2.2.2.1.below hb,h.2.2.2.2⟩
theorem SgsIn.more {w:World} {B B' n c:Nat} {A:Option Addr} {xs:List Sg} (h:SgsIn w B A n c xs) (hb:B≤B'):SgsIn w B' A n c xs :=
 ⟨h.1,h.2.1,h.2.2.1,h.2.2.2.1.more hb,h.2.2.2.2⟩
theorem SgsIn.keep {w w':World} {n c:Nat} {A:Option Addr} {xs:List Sg} (h:SgsIn w w.heap.size A n c xs) (hb:Below w.heap.size w w'):SgsIn w' w'.heap.size A n c xs:=(h.below hb).more hb.size
theorem SgsIn.at_ {w:World} {B n c k:Nat} {A:Option Addr} {xs:List Sg} (h:SgsIn w B A n c xs) (hk:k < n) :
  ∃ b off,A=some ⟨b,off,none⟩∧b < B∧w.cell? ⟨b,off+k * 3,none⟩=some (.string (mkStr (sgAt xs k).l))∧w.cell? ⟨b,off+k * 3+1,none⟩=some (.int .i64 (sgAt xs k).st.dir)∧w.cell? ⟨b,off+k * 3+2,none⟩=some (.int .i64 (sgAt xs k).st.size)∧(sgAt xs k).st.good:=by
 obtain ⟨h1,_,_,h4,h5⟩:=h;obtain ⟨b,off,eA,hbB,hc⟩:=h4.2 (by omega);have hs:=sgAt_some (xs:=xs) (k:=k) (by omega);have hm:=sgAt_mem (xs:=xs) (k:=k) (by omega);refine ⟨b,off,eA,hbB,?_,?_,?_,h5 _ hm⟩
 ·have:=hc (k * 3+0) _ (flat_at sgC_len xs k _ 0 (.string (mkStr (sgAt xs k).l)) hs rfl);simpa using this
 ·have:=hc (k * 3+1) _ (flat_at sgC_len xs k _ 1 (.int .i64 (sgAt xs k).st.dir) hs rfl)
  rwa [← Nat.add_assoc] at this
 ·have:=hc (k * 3+2) _ (flat_at sgC_len xs k _ 2 (.int .i64 (sgAt xs k).st.size) hs rfl)
  rwa [← Nat.add_assoc] at this
def SgOwn (w:World) (B:Nat) (v:Value) (xs:List Sg):Prop:=w.ownsRow B 65 3 v xs.length (xs.flatMap sgC)
theorem SgOwn.reads {w:World} {B n c:Nat} {A:Option Addr} {xs:List Sg} (h:SgOwn w B (.slice A n c) xs) (hn:xs.length=n) (hg : ∀ x∈xs,x.st.good):SgsIn w w.heap.size A n c xs:=by
 unfold SgOwn at h;rw [hn] at h;obtain ⟨A',c',e,h2,h3⟩:=ownG_form h;injection e with e1 e2 e3;subst e1 e3;exact ⟨hn,h2,h3,Row.of_own h,hg⟩
theorem infoSg:(Tryz.prog.info? 65).map (fun i=>(i.zero,i.size,i.bytes))=some (some (.agg #[.string { data:=#[] },.int .i64 0,.int .i64 0]),3,32):=by kernel_rfl
theorem at8_str {s:ByteArray} {k:Nat} (h:k < s.size):s[k]=at8 s.data.toList k:=by
 rw [← at8_get (by simpa using h)];simp [ByteArray.getElem_eq_getElem_data]
theorem l2Vowel (c:UInt8) (w:World):Calls Tryz.prog 155 #[.int .u8 (c.toNat:Int)] w fun e w'=>e = .returned (.bool (isVow c))∧w=w':=by
 obtain ⟨n,hn⟩ : ∃ n:Int,n=(c.toNat:Int):=⟨_,rfl⟩;have key : ∀ k:UInt8,c=k ↔ n=(k.toNat:Int):=fun k=>by
  rw [hn];exact ⟨fun h=>by rw [h],fun h=>UInt8.toNat_inj.1 (by omega)⟩
 have HV:Hid (isVow c=decide (n=97∨n=101∨n=105∨n=111∨n=117)):=uH (by
  unfold isVow;exact decide_eq_decide.2 (by rw [key 97,key 101,key 105,key 111,key 117];rfl))
 rw [← hn];clear key hn;by_cases h1:n=97
 ·subst h1;go_enter Tryz.func155,Tryz.ntmps155
  go_wp2;go_ret;exact ⟨ret_bool (by rw [HV.out];rfl),rfl⟩
 ·have e1:(n == 97)=false:=(by simpa using h1);by_cases h2:n=101
  ·subst h2;go_enter Tryz.func155,Tryz.ntmps155
   go_wp2;go_ret;exact ⟨ret_bool (by rw [HV.out];rfl),rfl⟩
  ·have e2:(n == 101)=false:=(by simpa using h2);by_cases h3:n=105
   ·subst h3;go_enter Tryz.func155,Tryz.ntmps155
    go_wp2;go_ret;exact ⟨ret_bool (by rw [HV.out];rfl),rfl⟩
   ·have e3:(n == 105)=false:=(by simpa using h3);by_cases h4:n=111
    ·subst h4;go_enter Tryz.func155,Tryz.ntmps155
     go_wp2;go_ret;exact ⟨ret_bool (by rw [HV.out];rfl),rfl⟩
    ·have e4:(n == 111)=false:=(by simpa using h4);have HV2:Hid (isVow c=(n == 117)):=uH (by rw [HV.out];simp only [h1,h2,h3,h4,false_or];rfl);go_enter Tryz.func155,Tryz.ntmps155
     go_wp2;go_ret;exact ⟨ret_bool (by rw [HV2.out]),rfl⟩
theorem ret_strW {a b:List UInt8} (h:a=b):Ending.returned (.string (mkStr a)) = .returned (.string (mkStr b)):=by rw [h]
set_option maxHeartbeats 800000 in
theorem specWordVowels (s:ByteArray) (w:World) (hs:s.size≤maxLen) :
  Calls Tryz.prog 206 #[.string s] w fun e w'=>e = .returned (.string (mkStr (vowOf s.data.toList)))∧w=w':=by
 have HL:Hid (s.data.toList.length=s.size):=uH (by simp);have HW:=uH (fun w=>specWordValid s w hs);have HV:=uH l2Vowel;by_cases h0:s.size=0
 ·have HR:Hid (vowOf s.data.toList=[]):=uH (vowOf_no (wordB_size (by rw [HL.out];omega)));go_enter Tryz.func206,Tryz.ntmps206
  go_wp2
  go_loop [3,4] (fun o i=>o = .string { data:=#[] }∧i = .int .i64 0) (fun _ _=>0)
  case atStart=>exact ⟨rfl,rfl⟩
  case round =>
   obtain ⟨rfl,rfl⟩:=hrel;go_wp2;go_ret;exact ⟨by rw [HR.out];rfl,rfl⟩
 cases hw:wordB s.data.toList with
 | false =>
  have HR:Hid (vowOf s.data.toList=[]):=uH (vowOf_no hw);have HN:=uH hw;have hp:0 < s.size:=(by omega);clear hw;go_enter Tryz.func206,Tryz.ntmps206
  go_wp2
  go_loop [3,4] (fun o i=>o = .string { data:=#[] }∧i = .int .i64 0) (fun _ _=>0)
  case atStart=>exact ⟨rfl,rfl⟩
  case round =>
   obtain ⟨rfl,rfl⟩:=hrel;(go_wp2_with fail);refine (HW.out _).mono ?_;rintro e w1 ⟨rfl,rfl⟩;rw [HN.out];go_wp2;go_ret;exact ⟨by rw [HR.out];rfl,rfl⟩
 | true =>
  have HR:Hid (vowOf s.data.toList=vowK s.data.toList s.size):=uH (by rw [vowOf_yes hw,HL.out]);have HN:=uH hw;have h12:s.size≤12:=(by have:=(wordB_iff.1 hw).1;rw [HL.out] at this;omega);clear hw;go_enter Tryz.func206,Tryz.ntmps206
  go_wp2
  go_loop [3,4] (fun o i=>∃ k:Nat,k≤s.size∧i = .int .i64 k∧o = .string (mkStr (vowK s.data.toList k))) (fun _ i=>s.size - (intOf i).toNat)
  case atStart=>exact ⟨0,Nat.zero_le _,rfl,rfl⟩
  case round =>
   obtain ⟨k,hk,rfl,rfl⟩:=hrel;by_cases hlt:k < s.size
   ·have he:=at8_str hlt;have HT:Hid (vowK s.data.toList (k+1)=vowK s.data.toList k++if isVow s[k]=true then [s[k]] else []):=uH (by rw [vowK_succ];unfold vowPick;rw [he]);have hl:=vowK_len s.data.toList k;have hx:s.extract k (k+1)=mkStr [s[k]]:=by
     rw [ext_mid,take_snoc s k hlt,List.drop_append_of_le_length (by rw [List.length_take];simp;omega),List.drop_of_length_le (by rw [List.length_take];simp;omega)];rfl
    have i1:(0:Int)≤(k:Int):=(by omega);have i2:(k:Int) < (s.size:Int):=(by omega);clear he;generalize vowK s.data.toList k=t at *;generalize hc:s[k]=c at *;(go_wp2_with fail);refine (HW.out _).mono ?_;rintro e w1 ⟨rfl,rfl⟩;rw [HN.out];(go_wp2_with fail);refine (HV.out _ _).mono ?_;rintro e w1 ⟨rfl,rfl⟩;cases hv:isVow c with
    | true =>
     have HT2:Hid (vowK s.data.toList (k+1)=t++[c]):=uH (by rw [HT.out,if_pos hv]);have hadd:=fun W=>run_add (P:=Tryz.prog) t [c] (by simp;omega) W;go_wp2
     go_round
     case rel=>exact ⟨k+1,by omega,by go_num,by rw [HT2.out]⟩
     case measure=>simp [intOf];omega
    | false =>
     have HT2:Hid (vowK s.data.toList (k+1)=t):=uH (by rw [HT.out,if_neg (by rw [hv];simp),List.append_nil]);go_wp2
     go_round
     case rel=>exact ⟨k+1,by omega,by go_num,by rw [HT2.out]⟩
     case measure=>simp [intOf];omega
   ·obtain rfl:k=s.size:=(by omega);go_wp2;go_ret;exact ⟨ret_strW (by rw [HR.out]),rfl⟩
theorem l2VowelB (c:UInt8) {b:Bool} (h:isVow c=b) (w:World):Calls Tryz.prog 155 #[.int .u8 (c.toNat:Int)] w fun e w'=>e = .returned (.bool b)∧Below w.heap.size w w' :=
 (l2Vowel c w).mono (by rintro e w' ⟨rfl,rfl⟩;exact ⟨by rw [h],Below.refl _ _⟩)
set_option maxHeartbeats 1600000 in
theorem specWordBare (s:ByteArray) (w:World) (hs:s.size≤maxLen) :
  Calls Tryz.prog 200 #[.string s] w fun e w'=>e = .returned (.string (mkStr (bareOf s.data.toList)))∧Below w.heap.size w w':=by
 have HL:Hid (s.data.toList.length=s.size):=uH (by simp);have HW:=uH (fun w=>specWordValid s w hs);by_cases h0:s.size=0
 ·have HR:Hid (bareOf s.data.toList=[]):=uH (bareOf_no (wordB_size (by rw [HL.out];omega)));go_enter Tryz.func200,Tryz.ntmps200
  go_wp2
  go_loop [3,4] (fun o i=>o = .string { data:=#[] }∧i = .int .i64 0) (fun _ _=>0)
  case atStart=>exact ⟨rfl,rfl⟩
  case round =>
   obtain ⟨rfl,rfl⟩:=hrel;go_wp2;go_ret;exact ⟨by rw [HR.out];rfl,Below.refl _ _⟩
 cases hw:wordB s.data.toList with
 | false =>
  have HR:Hid (bareOf s.data.toList=[]):=uH (bareOf_no hw);have HN:=uH hw;have hp:0 < s.size:=(by omega);clear hw;go_enter Tryz.func200,Tryz.ntmps200
  go_wp2
  go_loop [3,4] (fun o i=>o = .string { data:=#[] }∧i = .int .i64 0) (fun _ _=>0)
  case atStart=>exact ⟨rfl,rfl⟩
  case round =>
   obtain ⟨rfl,rfl⟩:=hrel;(go_wp2_with fail);refine (HW.out _).mono ?_;rintro e w1 ⟨rfl,rfl⟩;rw [HN.out];go_wp2;go_ret;exact ⟨by rw [HR.out];rfl,Below.refl _ _⟩
 | true =>
  have HR:Hid (bareOf s.data.toList=bareK s.data.toList s.size):=uH (by rw [bareOf_yes hw,HL.out]);have HN:=uH hw;have h12:s.size≤12:=(by have:=(wordB_iff.1 hw).1;rw [HL.out] at this;omega);clear hw;go_enter Tryz.func200,Tryz.ntmps200
  go_wp2;go_loopw [3,4] (fun o i wr=>∃ k:Nat,k≤s.size∧i = .int .i64 k∧o = .string (mkStr (bareK s.data.toList k))∧Below w.heap.size w wr) (fun _ i _=>s.size - (intOf i).toNat)
  case atStart=>exact ⟨0,Nat.zero_le _,rfl,rfl,Below.refl _ _⟩
  case round =>
   obtain ⟨k,hk,rfl,rfl,hb⟩:=hrel;by_cases hlt:k < s.size
   ·have he:=at8_str hlt;have HT:Hid (bareK s.data.toList (k+1)=bareK s.data.toList k++if isVow s[k]=false∧(k=0∨at8 s.data.toList (k - 1)≠s[k]) then [s[k]] else []):=uH (by rw [bareK_succ];unfold barePick;rw [he]);have hl:=bareK_len s.data.toList k;have hx:s.extract k (k+1)=mkStr [s[k]]:=by
     rw [ext_mid,take_snoc s k hlt,List.drop_append_of_le_length (by rw [List.length_take];simp;omega),List.drop_of_length_le (by rw [List.length_take];simp;omega)];rfl
    have i1:(0:Int)≤(k:Int):=(by omega);have i2:(k:Int) < (s.size:Int):=(by omega);by_cases hk0:k=0
    ·subst hk0;clear he;generalize bareK s.data.toList 0=t at *;generalize hc:s[0]=c at *;(go_wp2_with fail);refine (HW.out _).mono ?_;rintro e w1 ⟨rfl,rfl⟩;rw [HN.out];cases hv:isVow c with
     | true =>
      have HT2:Hid (bareK s.data.toList (0+1)=t):=uH (by rw [HT.out,if_neg (by rw [hv];simp),List.append_nil]);have HV2:=uH (fun w=>l2VowelB c hv w);(go_wp2_with fail);refine region_qb (by kernel_rfl) (by kernel_rfl) ?_;repeat (first | go_big_quiet_step ((go_at_call 155;exact quietB (HV2.out _))) | quiet_step ((go_at_call 155;exact quietB (HV2.out _))))
      refine wpQuiet_nil ?_;intro w1 hb1;have b1:=below_next hb hb1;clear hb1;go_wp2;go_roundw
      case rel=>exact ⟨0+1,by omega,by go_num,by rw [HT2.out],b1⟩
      case measure=>simp [intOf];omega
     | false =>
      have HT2:Hid (bareK s.data.toList (0+1)=t++[c]):=uH (by rw [HT.out,if_pos ⟨hv,Or.inl (by trivial)⟩]);have hadd:=fun W=>run_add (P:=Tryz.prog) t [c] (by simp;omega) W;have HV2:=uH (fun w=>l2VowelB c hv w);(go_wp2_with fail);refine region_qb (by kernel_rfl) (by kernel_rfl) ?_;repeat (first | go_big_quiet_step ((go_at_call 155;exact quietB (HV2.out _))) | quiet_step ((go_at_call 155;exact quietB (HV2.out _))))
      refine wpQuiet_nil ?_;intro w1 hb1;have b1:=below_next hb hb1;clear hb1;go_wp2;go_roundw
      case rel=>exact ⟨0+1,by omega,by go_num,by rw [HT2.out],b1⟩
      case measure=>simp [intOf];omega
    ·obtain ⟨m,rfl⟩ : ∃ m,k=m+1:=⟨k - 1,by omega⟩;have hm:m < s.size:=(by omega);have hem:=at8_str hm;rw [Nat.add_sub_cancel,← hem] at HT;have e0:(((m+1:Nat):Int) == 0)=false:=(by simp;omega);have e1:((m+1:Nat):Int) - 1=(m:Int):=(by omega);have i3:(m:Int) < (s.size:Int):=(by omega);have i4:(0:Int)≤(m:Int):=(by omega);have hwr:IntKind.i64.wrap (m:Int)=(m:Int):=IntWalk.i64_in _ (by omega);have e0':((m:Int)+1 == 0)=false:=(by simp;omega);clear he hem;generalize bareK s.data.toList (m+1)=t at *;have hcc:((s[m].toNat:Int) == (s[m+1].toNat:Int))=decide (s[m]=s[m+1]):=by
      by_cases h:s[m]=s[m+1]
      ·rw [h];simp
      ·rw [decide_eq_false h];exact beq_eq_false_iff_ne.2 (fun e=>h (UInt8.toNat_inj.1 (by omega)))
     generalize hc:s[m+1]=c at *;generalize hd:s[m]=d at *;(go_wp2_with fail);refine (HW.out _).mono ?_;rintro e w1 ⟨rfl,rfl⟩;rw [HN.out];cases hv:isVow c with
     | true =>
      have HT2:Hid (bareK s.data.toList (m+1+1)=t):=uH (by rw [HT.out,if_neg (by rw [hv];simp),List.append_nil]);have HV2:=uH (fun w=>l2VowelB c hv w);(go_wp2_with fail);refine region_qb (by kernel_rfl) (by kernel_rfl) ?_;repeat (first | go_big_quiet_step ((go_at_call 155;exact quietB (HV2.out _))) | quiet_step ((go_at_call 155;exact quietB (HV2.out _))))
      refine wpQuiet_nil ?_;intro w1 hb1;have b1:=below_next hb hb1;clear hb1;go_wp2;go_roundw
      case rel=>exact ⟨m+1+1,by omega,by go_num,by rw [HT2.out],b1⟩
      case measure=>simp [intOf];omega
     | false =>
      have HV2:=uH (fun w=>l2VowelB c hv w);by_cases hdc:d=c
      ·have HT2:Hid (bareK s.data.toList (m+1+1)=t):=uH (by rw [HT.out,if_neg (by rintro ⟨_,h | h⟩;(omega);(exact h hdc)),List.append_nil])
       rw [decide_eq_true hdc] at hcc;(go_wp2_with fail);refine region_qb (by kernel_rfl) (by kernel_rfl) ?_;repeat (first | go_big_quiet_step ((go_at_call 155;exact quietB (HV2.out _))) | quiet_step ((go_at_call 155;exact quietB (HV2.out _))))
       refine wpQuiet_nil ?_;intro w1 hb1;have b1:=below_next hb hb1;clear hb1;go_wp2;go_roundw
       case rel=>exact ⟨m+1+1,by omega,by go_num,by rw [HT2.out],b1⟩
       case measure=>simp [intOf];omega
      ·have HT2:Hid (bareK s.data.toList (m+1+1)=t++[c]):=uH (by rw [HT.out,if_pos ⟨hv,.inr hdc⟩]);rw [decide_eq_false hdc] at hcc;have hadd:=fun W=>run_add (P:=Tryz.prog) t [c] (by simp;omega) W;(go_wp2_with fail);refine region_qb (by kernel_rfl) (by kernel_rfl) ?_;repeat (first | go_big_quiet_step ((go_at_call 155;exact quietB (HV2.out _))) | quiet_step ((go_at_call 155;exact quietB (HV2.out _))))
       refine wpQuiet_nil ?_;intro w1 hb1;have b1:=below_next hb hb1;clear hb1;go_wp2;go_roundw
       case rel=>exact ⟨m+1+1,by omega,by go_num,by rw [HT2.out],b1⟩
       case measure=>simp [intOf];omega
   ·obtain rfl:k=s.size:=(by omega);go_wp2;go_ret;exact ⟨ret_strW (by rw [HR.out]),hb⟩
set_option maxHeartbeats 400000 in
theorem specWordPosition (s:ByteArray) (w:World) (hs:s.size≤maxLen) :
  Calls Tryz.prog 154 #[.string s] w fun e w'=>e = .returned (.int .i64 (posOf s.data.toList))∧w=w':=by
 have HW:=uH (fun w=>specWordValid s w hs);have HV:=uH (fun w=>specWordVowels s w hs);cases hw:wordB s.data.toList with
 | false =>
  have HR:Hid (posOf s.data.toList = -1):=uH (by unfold posOf;rw [if_neg (by rw [hw];simp)]);have HN:=uH hw;clear hw;go_enter Tryz.func154,Tryz.ntmps154
  (go_wp2_with fail);refine (HW.out _).mono ?_;rintro e w1 ⟨rfl,rfl⟩;rw [HN.out];go_wp2;go_ret;exact ⟨ret_int (by rw [HR.out]),rfl⟩
 | true =>
  have HR:Hid (posOf s.data.toList=posV (vowOf s.data.toList)):=uH (by unfold posOf;rw [if_pos hw]);have HN:=uH hw;clear hw;cases hv:vowOf s.data.toList with
  | nil =>
   have HV2:Hid (∀ w,Calls Tryz.prog 206 #[.string s] w fun e w'=>e = .returned (.string (mkStr []))∧w=w'):=uH (fun w=>by rw [← hv];exact HV.out w);have HP:Hid (posOf s.data.toList=1):=uH (by rw [HR.out,hv];rfl);have he:(mkStr []).toList.isEmpty=true:=(by rw [Lib.toList_data,mkStr_data];rfl);clear hv HV HR;go_enter Tryz.func154,Tryz.ntmps154
   (go_wp2_with fail);refine (HW.out _).mono ?_;rintro e w1 ⟨rfl,rfl⟩;rw [HN.out];(go_wp2_with fail);refine (HV2.out _).mono ?_;rintro e w1 ⟨rfl,rfl⟩;go_wp2;go_ret;exact ⟨ret_int (by rw [HP.out]),rfl⟩
  | cons c r =>
   obtain ⟨m,hm⟩ : ∃ m,m=mkStr (c::r):=⟨_,rfl⟩;have HV2:Hid (∀ w,Calls Tryz.prog 206 #[.string s] w fun e w'=>e = .returned (.string m)∧w=w'):=uH (fun w=>by rw [hm,← hv];exact HV.out w);have he:m.toList.isEmpty=false:=(by rw [hm];exact mkStr_isEmpty (by simp));have hz:0 < m.size:=(by rw [hm,mkStr_size];simp);have hz2:(0:Int) < (m.size:Int):=(by omega);obtain ⟨n,hn⟩ : ∃ n:Int,n=(m[0].toNat:Int):=⟨_,rfl⟩;have hg:m[0]=c:=(by subst hm;rfl);have key : ∀ k:UInt8,c=k ↔ n=(k.toNat:Int):=fun k=>by
    rw [hn,hg];exact ⟨fun h=>by rw [h],fun h=>UInt8.toNat_inj.1 (by omega)⟩
   have HP:Hid (posOf s.data.toList=if n=97∨n=111 then 0 else if n=101 then 1 else 2):=uH (by
    rw [HR.out,hv];unfold posV;simp only [key 97,key 111,key 101];rfl)
   clear key hg hv HV HR hm;go_enter Tryz.func154,Tryz.ntmps154
   (go_wp2_with fail);refine (HW.out _).mono ?_;rintro e w1 ⟨rfl,rfl⟩;rw [HN.out];(go_wp2_with fail);refine (HV2.out _).mono ?_;rintro e w1 ⟨rfl,rfl⟩;by_cases h1:n=97
   ·have g1:((m[0].toNat:Int) == 97)=true:=(by rw [← hn,h1];rfl);go_wp2;go_ret;exact ⟨ret_int (by rw [HP.out,if_pos (.inl h1)]),rfl⟩
   ·have g1:((m[0].toNat:Int) == 97)=false:=(by rw [← hn];simpa using h1);by_cases h2:n=111
    ·have g2:((m[0].toNat:Int) == 111)=true:=(by rw [← hn,h2];rfl);go_wp2;go_ret;exact ⟨ret_int (by rw [HP.out,if_pos (.inr h2)]),rfl⟩
    ·have g2:((m[0].toNat:Int) == 111)=false:=(by rw [← hn];simpa using h2);by_cases h3:n=101
     ·have g3:((m[0].toNat:Int) == 101)=true:=(by rw [← hn,h3];rfl);go_wp2;go_ret;exact ⟨ret_int (by rw [HP.out,if_neg (by rintro (h | h);exact h1 h;exact h2 h),if_pos h3]),rfl⟩
     ·have g3:((m[0].toNat:Int) == 101)=false:=(by rw [← hn];simpa using h3);go_wp2;go_ret;exact ⟨ret_int (by rw [HP.out,if_neg (by rintro (h | h);exact h1 h;exact h2 h),if_neg h3]),rfl⟩
theorem okL_one {l:List UInt8} (h:l.length=1):okL l=(wordB l && !isVow (at8 l 0)):=by
 unfold okL;rw [decide_eq_true h,Bool.true_and];congr 1
 rw [Bool.eq_iff_iff,wordB_iff];exact ⟨fun h2=>⟨by omega,fun i hi=>by rw [show i=0 from by omega];exact h2⟩,fun h2=>h2.2 0 (by omega)⟩
theorem okL_not {l:List UInt8} (h:l.length≠1):okL l=false:=by unfold okL;rw [decide_eq_false h];rfl
def sysK (xs:List Sg) (k:Nat):Prop:=∀ i,i < k→sysGood xs i
theorem sysK_succ {xs:List Sg} {k:Nat} (h:sysK xs k) (h2:sysGood xs k):sysK xs (k+1):=fun i hi=>by
 rcases Nat.lt_succ_iff_lt_or_eq.1 hi with h3 | rfl
 ·exact h i h3
 ·exact h2
def sysJ (xs:List Sg) (k j:Nat):Prop:=∀ i,i < j→(sgAt xs i).l≠(sgAt xs k).l∧(sgAt xs i).st≠(sgAt xs k).st
theorem sysJ_succ {xs:List Sg} {k j:Nat} (h:sysJ xs k j) (h2:(sgAt xs j).l≠(sgAt xs k).l∧(sgAt xs j).st≠(sgAt xs k).st):sysJ xs k (j+1):=fun i hi=>by
 rcases Nat.lt_succ_iff_lt_or_eq.1 hi with h3 | rfl
 ·exact h i h3
 ·exact h2
theorem eqlStrokeRun (d z d' z':Int) (w:World) :
  (binOp .eql 63 (.agg #[.int .i64 d,.int .i64 z]) (.agg #[.int .i64 d',.int .i64 z'])).run Tryz.prog w = .ok (.bool (decide ((⟨d,z⟩:Stroke)=⟨d',z'⟩))) w:=by
 have u3:=Tryz.underlying3;have a3:=Tryz.isAgg3;have z3:=Tryz.sizeOf3;have hS:Tryz.prog.underlying 63=some (.struct (Tryz.prog.fieldsOf 63)):=(by kernel_rfl);have hp:Tryz.prog.stoodInHeld 63=false:=(by kernel_rfl);rw [run_eql_struct,show (10000:Nat)=9999+1 from rfl,run_equalIn_agg w 9999 63 _ _ hS hp];simp only [Program.fieldsOf,Tryz.underlying63];go_simp;by_cases h1:d=d' <;> by_cases h2:z=z' <;> simp [h1,h2]
set_option maxHeartbeats 1600000 in
theorem specSystemValid (A:Option Addr) (n c:Nat) (xs:List Sg) (w:World) (h:SgsIn w w.heap.size A n c xs) :
  Calls Tryz.prog 89 #[.slice A n c] w fun e w'=>e = .returned (.bool (sysB xs))∧Below w.heap.size w w':=by
 have hm:=h.2.2.1;have hnc:=h.2.1;unfold maxLen at hm;have HL:=uH h.1;have H:=uH h;have hg0:Tryz.prog.eqGuardType Tryz.prog.depth 63=false:=(by kernel_rfl);have HN:Hid (∀ k,k < n→¬ sysGood xs k→sysB xs=false):=uH (fun k hk hn=>sysB_no (by rw [HL.out];exact hk) hn);have HY:Hid (sysK xs n→sysB xs=decide ((n:Int)≤21)):=uH (fun h=>by
  rw [sysB_all (fun i hi=>h i (by rw [HL.out] at hi;exact hi)),HL.out];exact decide_eq_decide.2 (by omega))
 clear h;go_enter Tryz.func89,Tryz.ntmps89
 go_wp2;go_loopw [3] (fun i wr=>∃ k:Nat,k≤n∧i = .int .i64 k∧Hid (sysK xs k)∧Below w.heap.size w wr) (fun i _=>n - (intOf i).toNat)
 case atStart=>exact ⟨0,Nat.zero_le _,rfl,uH (fun i hi=>by omega),Below.refl _ _⟩
 case round =>
  obtain ⟨k,hk,rfl,HK,hb⟩:=hrel;by_cases hlt:k < n
  ·obtain ⟨b,off,rfl,hbB,c0,c1,c2,hg⟩:=(H.out.keep hb).at_ hlt;have HNk:=uH (HN.out k hlt);have HO:Hid (okSg (sgAt xs k)=false→sysB xs=false):=uH (fun h=>HNk.out (fun h2=>by rw [h2.1] at h;cases h));have hz:=hb.size;obtain ⟨x,hx⟩ : ∃ x,x=sgAt xs k:=⟨_,rfl⟩;rw [← hx] at c0 c1 c2 hg HO;have HX:=uH hx;clear hx;obtain ⟨l,⟨d,z⟩⟩:=x;dsimp only at c0 c1 c2 hg;have i1:(0:Int)≤(k:Int):=(by omega);have i2:(k:Int) < (n:Int):=(by omega);have K:=Blk.new wr 65 #[.string (mkStr l),.int .i64 d,.int .i64 z];have k0:=K.cell 0;have k1:=K.cell 1;have k2:=K.cell 2;have hb2:Below w.heap.size w (wr.alloc (.cells #[.string (mkStr l),.int .i64 d,.int .i64 z] 65)):=hb.alloc hz _;have HSv:=uH (fun W=>specStrokeValid d z W);by_cases hl:l.length=1
   ·have HOL:Hid (okSg ⟨l,⟨d,z⟩⟩=(wordB l && !isVow (at8 l 0) && okS ⟨d,z⟩)):=uH (by unfold okSg;rw [okL_one hl]);obtain ⟨s,hs⟩ : ∃ s,s=mkStr l:=⟨_,rfl⟩;have hs1:s.size=1:=(by rw [hs,mkStr_size];exact hl);have e1:(s.size:Int)=1:=(by omega);have h01:0 < s.size:=(by omega);have HWv:Hid (∀ W,Calls Tryz.prog 135 #[.string s] W fun e w'=>e = .returned (.bool (wordB l))∧W=w'):=uH (fun W=>by have:=specWordValid s W (by unfold maxLen;omega);rw [hs,mkStr_data] at this;rw [hs];exact this);have HVw:Hid (∀ W,Calls Tryz.prog 155 #[.int .u8 (s[0].toNat:Int)] W fun e w'=>e = .returned (.bool (isVow (at8 l 0)))∧W=w'):=uH (fun W=>by
     have:=l2Vowel s[0] W;have e2:s[0]=at8 l 0:=(by rw [at8_str h01,hs,mkStr_data]);rw [e2] at this ⊢;exact this)
    rw [← hs] at c0 k0 K hb2;have HS:=uH hs;clear hs;cases hw:wordB l with
    | false =>
     have HF:=uH (HO.out (by rw [HOL.out,hw];rfl));(go_wp2_with fail);refine (HWv.out _).mono ?_;rintro e w1 ⟨rfl,rfl⟩;rw [hw];go_wp2;go_ret;exact ⟨ret_bool (by rw [HF.out]),hb2⟩
    | true =>
     (go_wp2_with fail);refine (HWv.out _).mono ?_;rintro e w1 ⟨rfl,rfl⟩;rw [hw];(go_wp2_with fail);refine (HVw.out _).mono ?_;rintro e w1 ⟨rfl,rfl⟩;cases hv:isVow (at8 l 0) with
     | true =>
      have HF:=uH (HO.out (by rw [HOL.out,hv,Bool.not_true,Bool.and_false];rfl));go_wp2;go_ret;exact ⟨ret_bool (by rw [HF.out]),hb2⟩
     | false =>
      (go_wp2_with fail);refine (HSv.out _).mono ?_;rintro e w1 ⟨rfl,hb1⟩;have hb3:=below_next hb2 hb1;have k0':=(K.below hb1).cell 0;have k1':=(K.below hb1).cell 1;have k2':=(K.below hb1).cell 2;cases ho:okS ⟨d,z⟩ with
      | false =>
       have HF:=uH (HO.out (by rw [HOL.out,ho,Bool.and_false]));go_wp2;go_ret;exact ⟨ret_bool (by rw [HF.out]),hb3⟩
      | true =>
       have HOk:Hid (okSg (sgAt xs k)=true):=uH (by rw [← HX.out,HOL.out,hw,hv,ho];rfl);have HK1:=uH (K.below hb1);go_wp2;go_loopw [5] (fun i wr2=>∃ j:Nat,j≤k∧i = .int .i64 j∧Hid (sysJ xs k j)∧Below w1.heap.size w1 wr2) (fun i _=>k - (intOf i).toNat)
       case atStart=>exact ⟨0,Nat.zero_le _,rfl,uH (fun i hi=>by omega),Below.refl _ _⟩
       case round =>
        obtain ⟨j,hj,rfl,HJ,hb4⟩:=hrel;by_cases hlj:j < k
        ·obtain ⟨b',off',eA,hbB',a0,a1,a2,hg'⟩:=(H.out.keep (hb3.trans (hb4.mono hb3.size))).at_ (k:=j) (by omega);injection eA with eA;injection eA with eA1 eA2;subst eA1 eA2;have K4:=HK1.out.below hb4;have m0:=K4.cell 0;have m1:=K4.cell 1;have m2:=K4.cell 2;have j1:(0:Int)≤(j:Int):=(by omega);have j2:(j:Int) < (n:Int):=(by omega);have r0:=qcell a0;have r1:=qcell a1;have r2:=qcell a2;have q0:=qcell m0;have q1:=qcell m1;have q2:=qcell m2;have HSl:Hid (l=(sgAt xs k).l∧(⟨d,z⟩:Stroke)=(sgAt xs k).st):=uH (by rw [← HX.out];exact ⟨rfl,rfl⟩);have HFj:Hid (((sgAt xs j).l=l∨(sgAt xs j).st=⟨d,z⟩)→sysB xs=false):=uH (fun h=>HN.out k hlt (fun h2=>by
          have h3:=h2.2 j hlj;rw [← HSl.out.1,← HSl.out.2] at h3;exact h.elim h3.1 h3.2))
         have HJ2:Hid ((sgAt xs j).l≠l→(sgAt xs j).st≠⟨d,z⟩→sysJ xs k (j+1)):=uH (fun h1 h2=>sysJ_succ HJ.out (by rw [← HSl.out.1,← HSl.out.2];exact ⟨h1,h2⟩));generalize sgAt xs j=y at *;obtain ⟨lj,⟨dj,zj⟩⟩:=y;dsimp only at r0 r1 r2 HFj HJ2;have hq:((mkStr lj).toList == s.toList)=decide (lj=l):=by
          rw [HS.out,Lib.toList_data,Lib.toList_data,mkStr_data,mkStr_data];by_cases h:lj=l
          ·rw [h,decide_eq_true rfl];exact beq_self_eq_true _
          ·rw [decide_eq_false h];exact beq_eq_false_iff_ne.2 h
         by_cases hel:lj=l
         ·rw [decide_eq_true hel] at hq;have HF:=uH (HFj.out (.inl hel));clear hel;(go_wp2_with fail);refine region_qb (by kernel_rfl) (by kernel_rfl) ?_;repeat (first | go_big_quiet_step (fail) | quiet_step (fail))
          refine wpQuiet_nil ?_;intro w5 hb5;have b5:=below_next hb4 hb5;have b6:=below_next hb3 b5;go_wp2;go_ret;exact ⟨ret_bool (by rw [HF.out]),b6⟩
         ·rw [decide_eq_false hel] at hq;by_cases hes:(⟨dj,zj⟩:Stroke)=⟨d,z⟩
          ·have hE : ∀ W,(binOp .eql 63 (.agg #[.int .i64 dj,.int .i64 zj]) (.agg #[.int .i64 d,.int .i64 z])).run Tryz.prog W = .ok (.bool true) W:=(fun W=>by rw [eqlStrokeRun,decide_eq_true hes]);have HF:=uH (HFj.out (.inr hes));clear hes;(go_wp2_with fail);refine region_qb (by kernel_rfl) (by kernel_rfl) ?_;repeat (first | go_big_quiet_step (fail) | quiet_step (fail))
           refine wpQuiet_nil ?_;intro w5 hb5;have b5:=below_next hb4 hb5;have b6:=below_next hb3 b5;go_wp2;go_ret;exact ⟨ret_bool (by rw [HF.out]),b6⟩
          have hE : ∀ W,(binOp .eql 63 (.agg #[.int .i64 dj,.int .i64 zj]) (.agg #[.int .i64 d,.int .i64 z])).run Tryz.prog W = .ok (.bool false) W:=(fun W=>by rw [eqlStrokeRun,decide_eq_false hes]);have hes:=uH hes;(go_wp2_with fail);refine region_qb (by kernel_rfl) (by kernel_rfl) ?_;repeat (first | go_big_quiet_step (fail) | quiet_step (fail))
          refine wpQuiet_nil ?_;intro w5 hb5;have b5:=below_next hb4 hb5;clear hb5 hb4;go_wp2;go_roundw
          case rel=>exact ⟨j+1,by omega,by go_num,uH (HJ2.out hel hes.out),b5⟩
          case measure=>simp [intOf];omega
        ·obtain rfl:j=k:=(by omega);have b5:=below_next hb3 hb4;go_wp2;go_roundw
         case rel=>exact ⟨j+1,by omega,by go_num,uH (sysK_succ HK.out ⟨HOk.out,HJ.out⟩),b5⟩
         case measure=>simp [intOf];omega
   ·have e1:(((mkStr l).size:Int) != 1)=true:=(by rw [mkStr_size];simp;omega);have HF:=uH (HO.out (by unfold okSg;rw [okL_not hl];rfl));go_wp2;go_ret;exact ⟨ret_bool (by rw [HF.out]),hb2⟩
  ·obtain rfl:k=n:=(by omega);have HF:=uH (HY.out HK.out);go_wp2;go_ret;exact ⟨ret_bool (by rw [HF.out]),hb⟩
def stAns (o:Option Stroke):Value:=match o with
 | some s=>.tuple #[.agg #[.int .i64 s.dir,.int .i64 s.size],.bool true]
 | none=>.tuple #[.agg #[.int .i64 0,.int .i64 0],.bool false]
def noneTo (xs:List Sg) (l:List UInt8) (k:Nat):Prop:=∀ j,j < k→(sgAt xs j).l≠l
theorem noneTo_succ {xs:List Sg} {l:List UInt8} {k:Nat} (h:noneTo xs l k) (h2:(sgAt xs k).l≠l):noneTo xs l (k+1):=fun j hj=>by
 rcases Nat.lt_succ_iff_lt_or_eq.1 hj with h3 | rfl
 ·exact h j h3
 ·exact h2
set_option maxHeartbeats 800000 in
theorem specSystemStroke (A:Option Addr) (n c:Nat) (xs:List Sg) (l:List UInt8) (w:World) (h:SgsIn w w.heap.size A n c xs) :
  Calls Tryz.prog 201 #[.slice A n c,.string (mkStr l)] w fun e w'=>e = .returned (stAns (strokeOf xs l))∧Below w.heap.size w w':=by
 have hm:=h.2.2.1;have hnc:=h.2.1;unfold maxLen at hm;have HL:=uH h.1;have H:=uH h;have HV:Hid (∀ W,Below w.heap.size w W→Calls Tryz.prog 89 #[.slice A n c] W fun e w'=>e = .returned (.bool (sysB xs))∧Below W.heap.size W w'):=uH (fun W hW=>specSystemValid A n c xs W (H.out.keep hW));clear h;cases hb:sysB xs with
 | false =>
  have HR:Hid (strokeOf xs l=none):=uH (strokeOf_no (fun h=>by rw [hb] at h;cases h));rw [hb] at HV;clear hb;have B1:Below w.heap.size w (w.alloc (.cells #[.int .i64 0,.int .i64 0] 63)):=(Below.refl _ _).alloc (Nat.le_refl _) _;have K:=Blk.new w 63 #[.int .i64 0,.int .i64 0];by_cases h0:n=0
  ·subst h0;go_enter Tryz.func201,Tryz.ntmps201
   go_wp2;go_loopw [6] (fun i wr=>i = .int .i64 0∧wr=(w.alloc (.cells #[.int .i64 0,.int .i64 0] 63))) (fun _ _=>0)
   case atStart=>exact ⟨rfl,rfl⟩
   case round =>
    obtain ⟨rfl,rfl⟩:=hrel;obtain ⟨k0,k1,kf0,kf1⟩:=K.two;go_wp2;refine bodyPost_ret (v:=.tuple #[.agg #[.int .i64 0,.int .i64 0],.bool false]) (by simp [results,Tryz.results201,go_sem,k0,k1]) rfl ?_;exact ⟨by rw [HR.out];rfl,B1⟩
  ·have hp:0 < n:=(by omega);go_enter Tryz.func201,Tryz.ntmps201
   go_wp2;go_loopw [6] (fun i wr=>i = .int .i64 0∧wr=(w.alloc (.cells #[.int .i64 0,.int .i64 0] 63))) (fun _ _=>0)
   case atStart=>exact ⟨rfl,rfl⟩
   case round =>
    obtain ⟨rfl,rfl⟩:=hrel;(go_wp2_with fail);refine (HV.out _ B1).mono ?_;rintro e w1 ⟨rfl,hb1⟩;have B2:=below_next B1 hb1;obtain ⟨k0,k1,kf0,kf1⟩:=(K.below hb1).two;go_wp2;refine bodyPost_ret (v:=.tuple #[.agg #[.int .i64 0,.int .i64 0],.bool false]) (by simp [results,Tryz.results201,go_sem,k0,k1]) rfl ?_;exact ⟨by rw [HR.out];rfl,(B2.setCell (Nat.le_refl _) _).setCell (Nat.le_refl _) _⟩
 | true =>
  rw [hb] at HV;have HB:=uH hb;clear hb;have HN:Hid (noneTo xs l n→strokeOf xs l=none):=uH (fun h=>strokeOf_no (fun _ j hj=>h j (by rw [HL.out] at hj;exact hj)));have HY:Hid (∀ k,k < n→noneTo xs l k→(sgAt xs k).l=l→strokeOf xs l=some (sgAt xs k).st):=uH (fun k hk h1 h2=>strokeOf_at HB.out (by rw [HL.out];exact hk) h1 h2);go_enter Tryz.func201,Tryz.ntmps201
  go_wp2;go_loopw [6] (fun i wr=>∃ k:Nat,k≤n∧i = .int .i64 k∧Hid (noneTo xs l k)∧Below (w.alloc (.cells #[.int .i64 0,.int .i64 0] 63)).heap.size (w.alloc (.cells #[.int .i64 0,.int .i64 0] 63)) wr) (fun i _=>n - (intOf i).toNat)
  case atStart=>exact ⟨0,Nat.zero_le _,rfl,uH (fun j hj=>absurd hj (by omega)),Below.refl _ _⟩
  case round =>
   obtain ⟨k,hk,rfl,HK,hb⟩:=hrel;have B1:Below w.heap.size w (w.alloc (.cells #[.int .i64 0,.int .i64 0] 63)):=(Below.refl _ _).alloc (Nat.le_refl _) _;have B2:=below_next B1 hb;have K:=(Blk.new w 63 #[.int .i64 0,.int .i64 0]).below hb;by_cases hlt:k < n
   ·have i1:(0:Int)≤(k:Int):=(by omega);have i2:(k:Int) < (n:Int):=(by omega);have HYk:=uH (HY.out k hlt HK.out);have HK2:Hid ((sgAt xs k).l≠l→noneTo xs l (k+1)):=uH (fun h=>noneTo_succ HK.out h);(go_wp2_with fail);refine (HV.out _ B2).mono ?_;rintro e w1 ⟨rfl,hb1⟩;have B3:=below_next B2 hb1;have K3:=K.below hb1;have HC3:=below_next hb hb1;obtain ⟨b,off,rfl,hbB,c0,c1,c2,hg⟩:=(H.out.below B3).at_ hlt;obtain ⟨k0,k1,kf0,kf1⟩:=K3.two;generalize sgAt xs k=x at *;obtain ⟨lx,⟨d,z⟩⟩:=x;dsimp only at c0 c1 c2 hg HYk HK2;have hq:((mkStr lx).toList == (mkStr l).toList)=decide (lx=l):=by
     rw [Lib.toList_data,Lib.toList_data,mkStr_data,mkStr_data];by_cases h:lx=l
     ·rw [h,decide_eq_true rfl];exact beq_self_eq_true _
     ·rw [decide_eq_false h];exact beq_eq_false_iff_ne.2 h
    by_cases he:lx=l
    ·rw [decide_eq_true he] at hq;have HF:=uH (HYk.out he);clear he;go_wp2;refine bodyPost_ret (v:=.tuple #[.agg #[.int .i64 d,.int .i64 z],.bool true]) (by simp [results,Tryz.results201,go_sem,k0,k1]) rfl ?_;exact ⟨by rw [HF.out];rfl,(B3.setCell (Nat.le_refl _) _).setCell (Nat.le_refl _) _⟩
    ·rw [decide_eq_false he] at hq;have HK3:=uH (HK2.out he);clear he;go_wp2;go_roundw
     case rel=>exact ⟨k+1,by omega,by go_num,HK3,HC3⟩
     case measure=>simp [intOf];omega
   ·obtain rfl:k=n:=(by omega);have HF:=uH (HN.out HK.out);obtain ⟨k0,k1,kf0,kf1⟩:=K.two;go_wp2;refine bodyPost_ret (v:=.tuple #[.agg #[.int .i64 0,.int .i64 0],.bool false]) (by simp [results,Tryz.results201,go_sem,k0,k1]) rfl ?_;exact ⟨by rw [HF.out];rfl,(B2.setCell (Nat.le_refl _) _).setCell (Nat.le_refl _) _⟩
end Go.Proofs.YtbkhnljaajajiaaGreatDoor
namespace Go.Proofs.YtbkhnljaajajiaaGreatDoor
open Go.ChangeShapes Go.WideShapes Go.ChangeAt Go.RowKit
theorem sgC_one {xs:List Sg} : ∀ u∈xs.flatMap sgC,u.oneCell'=true:=by
 intro u hu;obtain ⟨s,_,h⟩:=List.mem_flatMap.1 hu;simp [sgC] at h;rcases h with rfl | rfl | rfl <;> rfl
theorem rowNewSg (w:World) (u1 u2 u3:Value) (t:TypeId):Row (w.alloc (.cells #[u1,u2,u3] t)) (w.heap.size+1) (some ⟨w.heap.size,0,none⟩) 1 3 [u1,u2,u3]:=by
 refine ⟨rfl,fun _=>⟨w.heap.size,0,rfl,by omega,fun j x hj=>?_⟩⟩;rw [World.cell?_alloc_at _ t w.heap.size (0+j) rfl];simpa using hj
theorem SgOwn.made (w:World):SgOwn (w.alloc (.cells #[] 65)) w.heap.size (.slice (some ⟨w.heap.size,0,none⟩) 0 0) []:=World.ownsRow_made w #[] 0 (Nat.le_refl _) (by simp) (by simp)
def SysAns (w':World) (B:Nat) (ys:List Sg) (e:Ending):Prop :=
 (sysB ys=false∧∃ A c,e = .returned (.tuple #[.slice A 0 c,.bool false])∧SgOwn w' B (.slice A 0 c) []) ∨
 (sysB ys=true∧∃ A c,e = .returned (.tuple #[.slice A ys.length c,.bool true])∧SgOwn w' B (.slice A ys.length c) ys)
theorem add_one {w V:World} {p n c:Nat} {A:Option Addr} {xs:List Sg} (hV:Below w.heap.size w V) (hown:V.ownsRow (w.heap.size+1) 65 3 (.slice (some ⟨p,0,none⟩) 0 0) 0 []) (h:SgsIn w w.heap.size A n c xs) (hn:n≤1000) (hz:w.heap.size+1≤V.heap.size) :
  ∃ v1 w1,(appZ #[55,55] 55 #[.slice (some ⟨p,0,none⟩) 0 0,.slice A n c]).run Tryz.prog V = .ok v1 w1∧w1.ownsRow (w.heap.size+1) 65 3 v1 n (xs.flatMap sgC)∧Below w.heap.size w w1∧V.grownBy w1 (some p):=by
 obtain ⟨i0,hi,hz0,hz1,hz2⟩:=info_parts infoSg;have hm:=h.2.2.1;obtain ⟨v1,w1,h1,h2,h3,h4⟩:=run_append_any (P:=Tryz.prog) (w:=V) (w.heap.size+1) 55 55 65 i0 _ 3 32 Tryz.underlying55 hi hz0 hz1 hz2 rfl (by omega) _ 0 [] hown w.heap.size A n c (xs.flatMap sgC) (h.below hV).2.2.2.1 sgC_one (by unfold maxLen;omega) (by omega) hz;rw [Nat.zero_add,List.nil_append] at h2;have hb:w.heap.size+1≤p:=ownG_base hown rfl;exact ⟨v1,w1,h1,h2,hV.grown h3 (by omega) (fun q hq=>by have e:some p=some q:=hq;injection e with e;omega),h3⟩
theorem add_two {w V:World} {p n B:Nat} {v1:Value} {xs:List Sg} {x:Sg} (hV:Below w.heap.size w V) (hown:V.ownsRow (w.heap.size+1) 65 3 v1 n (xs.flatMap sgC)) (hr:Row V B (some ⟨p,0,none⟩) 1 3 (sgC x)) (hl:xs.length=n) (hn:n≤1000) (hz:w.heap.size+1≤V.heap.size) :
  ∃ A2 c2 w2,(appZ #[55,55] 55 #[v1,.slice (some ⟨p,0,none⟩) 1 1]).run Tryz.prog V = .ok (.slice A2 (n+1) c2) w2∧SgOwn w2 w.heap.size (.slice A2 (n+1) c2) (xs++[x])∧Below w.heap.size w w2:=by
 obtain ⟨i0,hi,hz0,hz1,hz2⟩:=info_parts infoSg;obtain ⟨v2,w2,h1,h2,h3,h4⟩:=run_append_any (P:=Tryz.prog) (w:=V) (w.heap.size+1) 55 55 65 i0 _ 3 32 Tryz.underlying55 hi hz0 hz1 hz2 rfl (by omega) _ n _ hown B (some ⟨p,0,none⟩) 1 1 (sgC x) hr (by simp [sgC,Value.oneCell']) (by unfold maxLen;omega) (by omega) hz;have hb:Below w.heap.size w w2:=hV.grown h3 (by omega) (fun q hq=>by have:=ownG_base hown hq;omega);have hL:(xs++[x]).length=n+1:=(by simp [hl]);obtain ⟨A2,c2,rfl,_,_⟩:=ownG_form h2;refine ⟨A2,c2,w2,h1,?_,hb⟩;unfold SgOwn;rw [hL,List.flatMap_append];exact ownG_mono (by simpa using h2) (by omega)
def AddEnd (w:World) (ys:List Sg) (v:Value) (W:World):Prop:=SgOwn W w.heap.size v ys∧Below w.heap.size w W
attribute [local go_sem ↓] appZ_eq
set_option maxHeartbeats 1600000 in
theorem specSystemAdd (A:Option Addr) (n c:Nat) (xs:List Sg) (l:List UInt8) (d z:Int) (w:World) (hn1:n≤1000) (hg : ∀ x∈xs++[⟨l,⟨d,z⟩⟩],x.st.good) (h:SgsIn w w.heap.size A n c xs) :
  Calls Tryz.prog 175 #[.slice A n c,.agg #[.string (mkStr l),.int .i64 d,.int .i64 z]] w fun e w'=>SysAns w' w.heap.size (xs++[⟨l,⟨d,z⟩⟩]) e∧Below w.heap.size w w':=by
 obtain ⟨W,eW⟩ : ∃ W,W=w.alloc (.cells #[.string (mkStr l),.int .i64 d,.int .i64 z] 65):=⟨_,rfl⟩;have B1:Below w.heap.size w W:=(by rw [eW];exact (Below.refl _ _).alloc (Nat.le_refl _) _);have K:Blk W w.heap.size 65 #[.string (mkStr l),.int .i64 d,.int .i64 z]:=(by rw [eW];exact Blk.new _ _ _);have z1:w.heap.size+1≤W.heap.size:=(by rw [eW];simp);have hl:=h.1;have hne:w.heap.size≠W.heap.size:=(by omega);have ba:Below w.heap.size w (W.alloc (.cells #[] 65)).drew:=(B1.alloc B1.size _).drew;have bb:Below w.heap.size w ((W.alloc (.cells #[] 65)).alloc (.cells #[.string (mkStr l),.int .i64 d,.int .i64 z] 65)).drew:=((B1.alloc B1.size _).alloc (by simp;omega) _).drew;have bc:Below w.heap.size w ((W.alloc (.cells #[.string (mkStr l),.int .i64 d,.int .i64 z] 65)).alloc (.cells #[] 65)).drew:=((B1.alloc B1.size _).alloc (by simp;omega) _).drew;have Ka:Blk (W.alloc (.cells #[] 65)).drew w.heap.size 65 #[.string (mkStr l),.int .i64 d,.int .i64 z]:=K.alloc _;obtain ⟨va,wa,ra,oa,ba1,ga⟩:=add_one ba (ownG_mono (SgOwn.made W) z1) h hn1 (by simp;omega);have ka:=Ka.only ga hne;have a0:=ka.cell 0;have a1:=ka.cell 1;have a2:=ka.cell 2;obtain ⟨Aa2,ca2,wa2,ra2,oa2,ba2⟩:=add_two (x:=⟨l,⟨d,z⟩⟩) (p:=wa.heap.size) (ba1.alloc ba1.size (.cells #[.string (mkStr l),.int .i64 d,.int .i64 z] 65)) (oa.alloc _) (rowNewSg wa _ _ _ _) hl hn1 (by have:=ga.size;simp at this ⊢;omega);obtain ⟨vb,wb,rb,ob,bb1,gb⟩:=add_one bb (ownG_mono (World.ownsRow.alloc (SgOwn.made W) _) z1) h hn1 (by simp;omega);have rb0:=rowNewSg (W.alloc (.cells #[] 65)) (.string (mkStr l)) (.int .i64 d) (.int .i64 z) 65;simp only [World.size_alloc] at rb0;have rowb:Row wb (W.heap.size+2) (some ⟨W.heap.size+1,0,none⟩) 1 3 (sgC ⟨l,⟨d,z⟩⟩):=Row.grown (w:=((W.alloc (.cells #[] 65)).alloc (.cells #[.string (mkStr l),.int .i64 d,.int .i64 z] 65)).drew) rb0 gb (fun a ha e=>by injection ha with ha;subst ha;injection e with e;simp at e);obtain ⟨Ab2,cb2,wb2,rb2,ob2,bb2⟩:=add_two bb1 ob rowb hl hn1 (by have:=gb.size;simp at this;omega);have oc0:=SgOwn.made (W.alloc (.cells #[.string (mkStr l),.int .i64 d,.int .i64 z] 65));simp only [World.size_alloc] at oc0;obtain ⟨vc,wc,rc,oc,bc1,gc⟩:=add_one (p:=W.heap.size+1) bc (ownG_mono oc0 (by omega)) h hn1 (by simp;omega);have rowc:Row wc (W.heap.size+1) (some ⟨W.heap.size,0,none⟩) 1 3 (sgC ⟨l,⟨d,z⟩⟩):=Row.grown (w:=((W.alloc (.cells #[.string (mkStr l),.int .i64 d,.int .i64 z] 65)).alloc (.cells #[] 65)).drew) ((rowNewSg W (.string (mkStr l)) (.int .i64 d) (.int .i64 z) 65).keep (fun p hp=>World.cell?_alloc_lt _ _ _ (by simp;omega))) gc (fun a ha e=>by injection ha with ha;subst ha;injection e with e;simp at e);obtain ⟨Ac2,cc2,wc2,rc2,oc2,bc2⟩:=add_two bc1 oc rowc hl hn1 (by have:=gc.size;simp at this;omega);have k0:=K.cell 0;have k1:=K.cell 1;have k2:=K.cell 2;have m0:(W.alloc (.cells #[] 65)).cell? ⟨w.heap.size,0,none⟩=some (.string (mkStr l)):=(K.alloc _).cell 0;have m1:(W.alloc (.cells #[] 65)).cell? ⟨w.heap.size,1,none⟩=some (.int .i64 d):=(K.alloc _).cell 1;have m2:(W.alloc (.cells #[] 65)).cell? ⟨w.heap.size,2,none⟩=some (.int .i64 z):=(K.alloc _).cell 2;have HFa:Hid (AddEnd w (xs++[⟨l,⟨d,z⟩⟩]) (.slice Aa2 (n+1) ca2) wa2):=uH ⟨oa2,ba2⟩;have HFb:Hid (AddEnd w (xs++[⟨l,⟨d,z⟩⟩]) (.slice Ab2 (n+1) cb2) wb2):=uH ⟨ob2,bb2⟩;have HFc:Hid (AddEnd w (xs++[⟨l,⟨d,z⟩⟩]) (.slice Ac2 (n+1) cc2) wc2):=uH ⟨oc2,bc2⟩;have HG:=uH hg;have HH:=uH h;have HN:Hid (∀ V:World,Below w.heap.size w V→SgOwn (V.alloc (.cells #[] 65)) w.heap.size (.slice (some ⟨V.heap.size,0,none⟩) 0 0) []):=uH (fun V hV=>ownG_mono (SgOwn.made V) hV.size);have HLn:Hid ((xs++[(⟨l,⟨d,z⟩⟩:Sg)]).length=n+1):=uH (by simp [hl]);clear oa ba1 ga ka oa2 ba2 ob bb1 gb rowb ob2 bb2 oc bc1 gc rowc oc2 bc2 rb0 oc0 hg h hl ba bb bc Ka K;generalize xs++[(⟨l,⟨d,z⟩⟩:Sg)]=ys at *;go_enter Tryz.func175,Tryz.ntmps175
 (go_wp2_with fail);rw [← eW];clear eW;go_region
 ·have HS:=uH (specSystemValid Aa2 (n+1) ca2 _ wa2 (SgOwn.reads HFa.out.1 HLn.out HG.out));have b4:=HFa.out.2;cases hb:sysB ys with
  | false =>
   rw [hb] at HS;have HB:=uH hb;clear hb;(go_wp2_with fail);refine HS.out.mono ?_;rintro e w5 ⟨rfl,hb5⟩;have b5:=below_next b4 hb5;go_wp2;go_returns;exact ⟨.inl ⟨HB.out,_,_,rfl,HN.out _ b5⟩,b5.alloc b5.size _⟩
  | true =>
   rw [hb] at HS;have HB:=uH hb;clear hb;(go_wp2_with fail);refine HS.out.mono ?_;rintro e w5 ⟨rfl,hb5⟩;have b5:=below_next b4 hb5;have HO5:=uH (ownG_keep HFa.out.1 hb5);go_wp2;go_returns;exact ⟨.inr ⟨HB.out,Aa2,ca2,by rw [HLn.out];rfl,by rw [HLn.out];exact HO5.out⟩,b5⟩
 ·have HS:=uH (specSystemValid Ab2 (n+1) cb2 _ wb2 (SgOwn.reads HFb.out.1 HLn.out HG.out));have b4:=HFb.out.2;cases hb:sysB ys with
  | false =>
   rw [hb] at HS;have HB:=uH hb;clear hb;(go_wp2_with fail);refine HS.out.mono ?_;rintro e w5 ⟨rfl,hb5⟩;have b5:=below_next b4 hb5;go_wp2;go_returns;exact ⟨.inl ⟨HB.out,_,_,rfl,HN.out _ b5⟩,b5.alloc b5.size _⟩
  | true =>
   rw [hb] at HS;have HB:=uH hb;clear hb;(go_wp2_with fail);refine HS.out.mono ?_;rintro e w5 ⟨rfl,hb5⟩;have b5:=below_next b4 hb5;have HO5:=uH (ownG_keep HFb.out.1 hb5);go_wp2;go_returns;exact ⟨.inr ⟨HB.out,Ab2,cb2,by rw [HLn.out];rfl,by rw [HLn.out];exact HO5.out⟩,b5⟩
 ·have HS:=uH (specSystemValid Ac2 (n+1) cc2 _ wc2 (SgOwn.reads HFc.out.1 HLn.out HG.out));have b4:=HFc.out.2;cases hb:sysB ys with
  | false =>
   rw [hb] at HS;have HB:=uH hb;clear hb;(go_wp2_with fail);refine HS.out.mono ?_;rintro e w5 ⟨rfl,hb5⟩;have b5:=below_next b4 hb5;go_wp2;go_returns;exact ⟨.inl ⟨HB.out,_,_,rfl,HN.out _ b5⟩,b5.alloc b5.size _⟩
  | true =>
   rw [hb] at HS;have HB:=uH hb;clear hb;(go_wp2_with fail);refine HS.out.mono ?_;rintro e w5 ⟨rfl,hb5⟩;have b5:=below_next b4 hb5;have HO5:=uH (ownG_keep HFc.out.1 hb5);go_wp2;go_returns;exact ⟨.inr ⟨HB.out,Ac2,cc2,by rw [HLn.out];rfl,by rw [HLn.out];exact HO5.out⟩,b5⟩
end Go.Proofs.YtbkhnljaajajiaaGreatDoor
namespace Go.Proofs.YtbkhnljaajajiaaGreatDoor
open Go.ChangeShapes Go.WideShapes Go.ChangeAt Go.RowKit
theorem okS_good {s:Stroke} (h:okS s=true):s.good:=by
 have:=okS_iff.1 h;exact ⟨WalkArith.wf_i64 (by omega),WalkArith.wf_i64 (by omega)⟩
theorem outB_good {ss:List Stroke} (h:outB ss=true) : ∀ s∈ss,s.good:=fun _ hs=>okS_good (outB_ok h hs)
def OutAns (w':World) (B:Nat) (o:Option (List Stroke)) (e:Ending):Prop :=
 (o=none∧∃ A c,e = .returned (.tuple #[.slice A 0 c,.bool false])∧StrOwn w' B (.slice A 0 c) []) ∨
 ∃ A c ss,o=some ss∧e = .returned (.tuple #[.slice A ss.length c,.bool true])∧StrOwn w' B (.slice A ss.length c) ss
theorem outl_take_succ {xs:List Sg} {t:List UInt8} {k:Nat} {L:List Stroke} {s:Stroke} (hk:k < t.length) (h:outl xs (t.take k)=some L) (hs:strokeOf xs [at8 t k]=some s):outl xs (t.take (k+1))=some (L++[s]):=by
 rw [List.take_succ_eq_append_getElem hk,outl_snoc,h,at8_get hk,hs];rfl
theorem outl_ok {xs:List Sg} : ∀ {a:List UInt8} {o:List Stroke},outl xs a=some o→∀ s∈o,s.good
 | [],o,h=>by simp [outl] at h;subst h;simp
 | c::r,o,h=>by
  simp only [outl] at h;obtain ⟨s,hs,h⟩:=Option.bind_eq_some_iff.1 h;obtain ⟨q,hq,rfl⟩:=Option.map_eq_some_iff.1 h;intro x hx;rcases List.mem_cons.1 hx with rfl | hx
  ·exact okS_good (strokeOf_ok hs).2
  ·exact outl_ok hq x hx
theorem ext_one {t:List UInt8} {k:Nat} (hk:k < t.length):(mkStr t).extract k (k+1)=mkStr [at8 t k]:=by
 rw [ext_mid,mkStr_data,List.take_succ_eq_append_getElem hk,List.drop_append_of_le_length (by rw [List.length_take];omega),List.drop_of_length_le (by rw [List.length_take];omega),at8_get hk];rfl
set_option maxHeartbeats 1600000 in
theorem specWordOutline (A:Option Addr) (n c:Nat) (xs:List Sg) (s:ByteArray) (w:World) (hs:s.size≤maxLen) (h:SgsIn w w.heap.size A n c xs) :
  Calls Tryz.prog 150 #[.slice A n c,.string s] w fun e w'=>OutAns w' w.heap.size (wordOut xs s.data.toList) e∧Below w.heap.size w w':=by
 obtain ⟨i0,hi,hz0,hz1,hz2⟩:=info_parts infoSt;have H:=uH h;have hal:Below w.heap.size w (w.alloc (.cells #[] 63)):=(Below.refl _ _).alloc (Nat.le_refl _) _;have HO0:Hid (StrOwn (w.alloc (.cells #[] 63)) w.heap.size (.slice (some ⟨w.heap.size,0,none⟩) 0 0) []):=uH (StrOwn.made w);have HV:=uH (specSystemValid A n c xs _ (h.keep hal));have HN:Hid (∀ W,Below w.heap.size w W→StrOwn (W.alloc (.cells #[] 63)) w.heap.size (.slice (some ⟨W.heap.size,0,none⟩) 0 0) []):=uH (fun W hW=>ownG_mono (StrOwn.made W) hW.size);clear h;cases hb:sysB xs with
 | false =>
  rw [hb] at HV;have HR:Hid (wordOut xs s.data.toList=none):=uH (wordOut_bad (.inl hb));clear hb;go_enter Tryz.func150,Tryz.ntmps150
  (go_wp2_with fail);refine HV.out.mono ?_;rintro e w1 ⟨rfl,hb1⟩;have b1:=below_next hal hb1;have HO1:=uH (ownG_keep HO0.out hb1);go_wp2;go_returns;exact ⟨.inl ⟨HR.out,_,_,rfl,HO1.out⟩,b1⟩
 | true =>
 rw [hb] at HV;have HB:=uH hb;have HW:=uH (fun W=>specWordValid s W hs);clear hb;cases hw:wordB s.data.toList with
 | false =>
  rw [hw] at HW;have HR:Hid (wordOut xs s.data.toList=none):=uH (wordOut_bad (.inr hw));clear hw;go_enter Tryz.func150,Tryz.ntmps150
  (go_wp2_with fail);refine HV.out.mono ?_;rintro e w1 ⟨rfl,hb1⟩;have b1:=below_next hal hb1;have HO1:=uH (ownG_keep HO0.out hb1);(go_wp2_with fail);refine (HW.out _).mono ?_;rintro e w2 ⟨rfl,rfl⟩;go_wp2;go_returns;exact ⟨.inl ⟨HR.out,_,_,rfl,HO1.out⟩,b1⟩
 | true =>
 rw [hw] at HW;have HBr:=uH (fun W=>specWordBare s W hs);have HR:Hid (wordOut xs s.data.toList=(outl xs (bareOf s.data.toList)).bind fun o=>if outB o=true then some o else none):=uH (wordOut_eq HB.out hw);have hl12:=bareOf_len s.data.toList;clear hw;generalize wordOut xs s.data.toList=R at *;generalize bareOf s.data.toList=t at *;have HNo:Hid (∀ k,k < t.length→strokeOf xs [at8 t k]=none→R=none):=uH (fun k hk h=>by
  rw [HR.out,outl_no (c:=at8 t k) (by rw [← at8_get hk];exact List.getElem_mem hk) h];rfl)
 have HOV:=uH (fun (W:World) (AA:Option Addr) (nn cc:Nat) (ss:List Stroke) (h:StrokesIn W W.heap.size AA nn cc ss)=>specOutlineValid AA nn cc ss W h);obtain ⟨st,hst⟩ : ∃ st,st=mkStr t:=⟨_,rfl⟩;rw [← hst] at HBr;have hts:st.size≤12:=(by rw [hst,mkStr_size];exact hl12);have HT:Hid (st.size=t.length):=uH (by rw [hst,mkStr_size]);have HX:Hid (∀ k,k < t.length→st.extract k (k+1)=mkStr [at8 t k]):=uH (fun k hk=>by rw [hst];exact ext_one hk);clear hst hl12;go_enter Tryz.func150,Tryz.ntmps150
 (go_wp2_with fail);refine HV.out.mono ?_;rintro e w1 ⟨rfl,hb1⟩;have b1:=below_next hal hb1;have HO1:=uH (ownG_keep HO0.out hb1);clear hb1 HO0 hal HV;(go_wp2_with fail);refine (HW.out _).mono ?_;rintro e w2 ⟨rfl,rfl⟩;(go_wp2_with fail);refine (HBr.out _).mono ?_;rintro e w2 ⟨rfl,hb2⟩;have b2:=below_next b1 hb2;have HO2:=uH (ownG_keep HO1.out hb2);clear hb2 HO1 HBr HW;go_wp2;go_loopw [6,8] (fun o i wr=>∃ (k:Nat) (v:Value) (L:List Stroke),k≤st.size∧i = .int .i64 k∧v=o∧L.length=k∧Hid (StrOwn wr w.heap.size v L)∧Hid (outl xs (t.take k)=some L)∧Below w.heap.size w wr) (fun _ i _=>st.size - (intOf i).toNat)
 case atStart=>exact ⟨0,_,[],Nat.zero_le _,rfl,rfl,rfl,HO2,uH rfl,b2⟩
 case round =>
  obtain ⟨k,v,L,hk,rfl,rfl,hL,HO,HL,hb⟩:=hrel;have hz:=hb.size;have hL12:L.length≤12:=(by omega);have HLk:=uH hL;clear hL;by_cases hlt:k < st.size
  ·have hkt:k < t.length:=(by rw [← HT.out];exact hlt);have i1:(0:Int)≤(k:Int):=(by omega);have i2:(k:Int) < (st.size:Int):=(by omega);have hx:=HX.out k hkt;cases hsk:strokeOf xs [at8 t k] with
   | none =>
    have HSt:Hid (Calls Tryz.prog 201 #[.slice A n c,.string (mkStr [at8 t k])] wr fun e w'=>e = .returned (.tuple #[.agg #[.int .i64 0,.int .i64 0],.bool false])∧Below wr.heap.size wr w'):=uH (by
     have:=specSystemStroke A n c xs [at8 t k] wr (H.out.keep hb);rw [hsk] at this;exact this)
    have HRn:=uH (HNo.out k hkt hsk);clear hsk;generalize mkStr [at8 t k]=u at *;(go_wp2_with fail);refine HSt.out.mono ?_;rintro e w3 ⟨rfl,hb3⟩;have b3:=below_next hb hb3;go_wp2;go_returns;exact ⟨.inl ⟨HRn.out,_,_,rfl,by have h:=HN.out (w3.alloc (.cells #[.int .i64 0,.int .i64 0] 63)) (b3.alloc b3.size _);simp only [World.size_alloc] at h;exact h⟩,(b3.alloc b3.size _).alloc (by have:=b3.size;simp;omega) _⟩
   | some s =>
    obtain ⟨d,z⟩:=s;have HSt:Hid (Calls Tryz.prog 201 #[.slice A n c,.string (mkStr [at8 t k])] wr fun e w'=>e = .returned (.tuple #[.agg #[.int .i64 d,.int .i64 z],.bool true])∧Below wr.heap.size wr w'):=uH (by
     have:=specSystemStroke A n c xs [at8 t k] wr (H.out.keep hb);rw [hsk] at this;exact this)
    have HL2:=uH (outl_take_succ hkt HL.out hsk);clear hsk;generalize mkStr [at8 t k]=u at *;(go_wp2_with fail);refine HSt.out.mono ?_;rintro e w3 ⟨rfl,hb3⟩;have b3:=below_next hb hb3;have z3:=b3.size;have HO3:Hid (∀ o o',(((w3.alloc o).alloc o')).ownsRow w.heap.size 63 2 v L.length (L.flatMap stC)):=uH (fun o o'=>ownG_keep HO.out ((hb3.alloc hb3.size o).alloc (by have:=hb3.size;simp;omega) o'));have HRow:Hid (∀ o,Row ((w3.alloc o).alloc (.cells #[.int .i64 d,.int .i64 z] 63)) (w3.heap.size+2) (some ⟨w3.heap.size+1,0,none⟩) 1 2 [.int .i64 d,.int .i64 z]):=uH (fun o=>by have h:=rowNewSt (w3.alloc o) (.int .i64 d) (.int .i64 z) 63;simp only [World.size_alloc] at h;exact h);clear hb3 HSt hx;go_wp2_with (at_builtin;refine wpList_append_any _ rfl (.tmp 42) (.tmp 44) _ rfl w.heap.size 63 i0 _ 2 16 Tryz.underlying138 hi hz0 hz1 hz2 rfl (by omega) _ L.length (L.flatMap stC) rfl (HO3.out _ _) (w3.heap.size+2) (some ⟨w3.heap.size+1,0,none⟩) 1 1 [.int .i64 d,.int .i64 z] rfl (HRow.out _) (by simp [Value.oneCell']) (by unfold maxLen;omega) (by omega) (by simp;omega) ?_;intro v4 w4 hown4 hg4 hat4)
    have HO4:Hid (StrOwn w4 w.heap.size v4 (L++[⟨d,z⟩])):=uH (by unfold StrOwn;rw [List.length_append,List.flatMap_append];exact hown4);have b4:=((b3.alloc z3 _).alloc (by simp;omega) _).grown hg4 (by simp;omega) (fun q hq=>ownG_base (HO3.out default default) hq);clear hown4 hg4 hat4;go_wp2;go_roundw
    case rel=>exact ⟨k+1,_,_,by omega,by go_num,rfl,by rw [List.length_append,HLk.out];rfl,HO4,HL2,b4⟩
    case measure=>simp [intOf];omega
  ·obtain rfl:k=st.size:=(by omega);have HLt:Hid (outl xs t=some L):=uH (by have:=HL.out;rw [HT.out,List.take_of_length_le (Nat.le_refl _)] at this;exact this);obtain ⟨A6,c6,rfl,hc6,hm6⟩:=ownG_form HO.out;have HO6:Hid (StrOwn wr w.heap.size (.slice A6 L.length c6) L):=HO;have HOVk:=uH (HOV.out wr A6 L.length c6 L (StrOwn.reads HO6.out rfl (outl_ok HLt.out)));have HR2:Hid (R=if outB L=true then some L else none):=uH (by rw [HR.out,HLt.out];rfl);generalize hM:L.length=M at *;have HM:=uH hM;clear hM;cases ho:outB L with
   | false =>
    rw [ho] at HOVk;have HRn:Hid (R=none):=uH (by rw [HR2.out,ho];rfl);clear ho;(go_wp2_with fail);refine HOVk.out.mono ?_;rintro e w3 ⟨rfl,hb3⟩;have b3:=below_next hb hb3;go_wp2;go_returns;exact ⟨.inl ⟨HRn.out,_,_,rfl,HN.out _ b3⟩,b3.alloc b3.size _⟩
   | true =>
    rw [ho] at HOVk;have HRn:Hid (R=some L):=uH (by rw [HR2.out,ho];rfl);clear ho;(go_wp2_with fail);refine HOVk.out.mono ?_;rintro e w3 ⟨rfl,hb3⟩;have b3:=below_next hb hb3;have HO7:=uH (ownG_keep HO6.out hb3);go_wp2;go_returns;exact ⟨.inr ⟨A6,c6,L,HRn.out,by rw [HM.out];rfl,by rw [HM.out];exact HO7.out⟩,b3⟩

set_option maxHeartbeats 800000 in
theorem specWrittenOf (A:Option Addr) (n c:Nat) (xs:List Sg) (l:List UInt8) (w:World) (hl:l.length≤maxLen) (h:SgsIn w w.heap.size A n c xs) :
  Calls Tryz.prog 88 #[.slice A n c,.string (mkStr l)] w fun e w'=>WrAns w' w.heap.size ((wordOut xs l).map fun o=>(o,posOf l)) e∧Below w.heap.size w w':=by
 have hal : ∀ o,Below w.heap.size w (w.alloc o):=fun o=>(Below.refl _ _).alloc (Nat.le_refl _) o;have HO:=uH (fun o=>specWordOutline A n c xs (mkStr l) (w.alloc o) (by rw [mkStr_size];exact hl) (h.keep (hal o)));have HP:=uH (fun W=>specWordPosition (mkStr l) W (by rw [mkStr_size];exact hl));rw [mkStr_data] at HO HP;have HG:=uH (fun ss (h:wordOut xs l=some ss)=>outB_good (wordOut_ok h).2.2.2);generalize wordOut xs l=R at *;generalize posOf l=p at *;clear h;go_enter Tryz.func88,Tryz.ntmps88
 (go_wp2_with fail);refine (HO.out _).mono ?_;rintro e w1 ⟨hA,hb1⟩;have K1:=(Blk.new w _ _).below hb1;have b1:=below_next (hal _) hb1;rcases hA with ⟨hn,A1,c1,rfl,_⟩ | ⟨A1,c1,ss,hn,rfl,hO1⟩
 ·subst hn;obtain ⟨k0,k1,kf0,kf1⟩:=K1.two;clear HG HO HP hb1;go_wp2;refine bodyPost_ret (v:=.tuple #[.agg #[.slice none 0 0,.int .i64 0],.bool false]) (by simp [results,Tryz.results88,go_sem,k0,k1]) rfl ?_;exact ⟨.inl ⟨rfl,rfl⟩,(b1.setCell (Nat.le_refl _) _).setCell (Nat.le_refl _) _⟩
 ·subst hn;have HG2:=uH (HG.out ss rfl);have HO1:Hid (StrOwn w1 (w.heap.size+1) (.slice A1 ss.length c1) ss):=uH (by simpa using hO1);obtain ⟨k0,k1,kf0,kf1⟩:=K1.two;generalize hM:ss.length=M at *;have HM:=uH hM;clear hM;clear HG HO hb1 hO1;(go_wp2_with fail);refine (HP.out _).mono ?_;rintro e w2 ⟨rfl,rfl⟩;have HO2:=uH ((StrOwn.far HO1.out (p:=⟨w.heap.size,0,none⟩) (by simp) (.slice A1 M c1)).far (p:=⟨w.heap.size,1,none⟩) (by simp) (.int .i64 p));have HO3:=uH (own_mono0 HO2.out (show w.heap.size≤w.heap.size+1 by omega));go_wp2;refine bodyPost_ret (v:=.tuple #[.agg #[.slice A1 M c1,.int .i64 p],.bool true]) (by simp [results,Tryz.results88,go_sem,k0,k1]) rfl ?_;exact ⟨.inr ⟨A1,c1,ss,p,rfl,by rw [HM.out],by rw [HM.out];exact HO3.out,HG2.out⟩,(b1.setCell (Nat.le_refl _) _).setCell (Nat.le_refl _) _⟩
end Go.Proofs.YtbkhnljaajajiaaGreatDoor
