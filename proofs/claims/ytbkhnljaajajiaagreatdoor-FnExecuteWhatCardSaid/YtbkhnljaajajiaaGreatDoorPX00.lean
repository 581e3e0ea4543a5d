/-
  Contracts and plain laws that the proofs lean on. Conditions: as each says.
-/
import Derived.WalkKit
import Derived.Laws.Concat
import Derived.Test.YtbkhnljaajajiaaGreatDoorRows
set_option maxRecDepth 100000
set_option linter.unusedSimpArgs false
set_option linter.unusedVariables false
set_option linter.unnecessarySimpa false
namespace Go.Proofs.YtbkhnljaajajiaaGreatDoor
open Go.RowKit
def mkStr (l:List UInt8):ByteArray:=⟨l.toArray⟩
theorem mkStr_data (l:List UInt8):(mkStr l).data.toList=l:=rfl
theorem mkStr_size (l:List UInt8):(mkStr l).size=l.length:=rfl
theorem mkStr_self (s:ByteArray):mkStr s.data.toList=s:=by cases s;rfl
theorem mkStr_append (a b:List UInt8):mkStr a++mkStr b=mkStr (a++b):=by
 apply ByteArray.ext;apply Array.toList_inj.1;simp [mkStr]
theorem run_add {P:Program} (a b:List UInt8) (h:a.length+b.length≤9223372036854775807) (w:World):(Op.stringOp .add (mkStr a) (mkStr b)).run P w = .ok (.string (mkStr (a++b))) w:=by
 rw [run_string_add_sum w (mkStr a) (mkStr b) (by rw [mkStr_size,mkStr_size];exact h),mkStr_append]
end Go.Proofs.YtbkhnljaajajiaaGreatDoor
namespace Go.Proofs.YtbkhnljaajajiaaGreatDoor
abbrev Wd:=List UInt8
def dst:List Wd→List Wd→Nat
 | [],b=>b.length
 | x::a,[]=>(x::a).length
 | x::a,y::b=>if x=y then dst a b else 1+min (dst a (y::b)) (dst (x::a) b)
termination_by a b=>a.length+b.length
theorem dst_nil (b:List Wd):dst [] b=b.length:=by rw [dst]
theorem dst_nil' (a:List Wd):dst a []=a.length:=by cases a <;> rw [dst]
theorem dst_cons (x y:Wd) (a b:List Wd):dst (x::a) (y::b)=if x=y then dst a b else 1+min (dst a (y::b)) (dst (x::a) b):=by rw [dst]
theorem dst_le (a b:List Wd):dst a b≤a.length+b.length:=by
 induction a,b using dst.induct with
 | case1 b=>rw [dst_nil];simp
 | case2 x a=>rw [dst_nil'];simp
 | case3 x a b ih=>rw [dst_cons,if_pos rfl];simp only [List.length_cons];omega
 | case4 x a y b h ih1 ih2=>rw [dst_cons,if_neg h];simp only [List.length_cons] at *;omega
theorem dst_lip (a b:List Wd):(∀ x,dst (x::a) b≤dst a b+1∧dst a b≤dst (x::a) b+1)∧(∀ y,dst a (y::b)≤dst a b+1∧dst a b≤dst a (y::b)+1):=by
 generalize hn:a.length+b.length=n;induction n using Nat.strongRecOn generalizing a b with
 | _ n ih =>
 have hA : ∀ x,dst (x::a) b≤dst a b+1∧dst a b≤dst (x::a) b+1:=by
  intro x;cases b with
  | nil=>rw [dst_nil',dst_nil'];simp;omega
  | cons y b =>
   rw [dst_cons];have h1:=(ih (a.length+b.length) (by rw [← hn];simp) a b rfl).2 y;split
   ·omega
   ·have h2:=(ih (a.length+b.length) (by rw [← hn];simp) a b rfl).1 x;omega
 have hB : ∀ y,dst a (y::b)≤dst a b+1∧dst a b≤dst a (y::b)+1:=by
  intro y;cases a with
  | nil=>rw [dst_nil,dst_nil];simp;omega
  | cons x a =>
   rw [dst_cons];have h1:=(ih (a.length+b.length) (by rw [← hn];simp) a b rfl).1 x;split
   ·omega
   ·have h2:=(ih (a.length+b.length) (by rw [← hn];simp) a b rfl).2 y;omega
 exact ⟨hA,hB⟩
theorem dst_step (x:Wd) (a b:List Wd):dst a b < dst (x::a) b ↔ 1+dst a b=dst (x::a) b:=by
 have:=(dst_lip a b).1 x;omega
structure Mk where
 at_:Nat
 cut:Nat
 put:List Wd
deriving DecidableEq
def curOf (i:Nat) (cur:Option Mk):Mk:=cur.getD ⟨i,0,[]⟩
def mkGo:List Wd→List Wd→Nat→Option Mk→List Mk
 | [],[],_,cur=>cur.toList
 | x::a,[],i,cur=>mkGo a [] (i+1) (some ⟨(curOf i cur).at_,(curOf i cur).cut+1,(curOf i cur).put⟩)
 | [],y::b,i,cur=>mkGo [] b i (some ⟨(curOf i cur).at_,(curOf i cur).cut,(curOf i cur).put++[y]⟩)
 | x::a,y::b,i,cur =>
  if x=y then cur.toList++mkGo a b (i+1) none
  else if dst a (y::b) < dst (x::a) (y::b) then mkGo a (y::b) (i+1) (some ⟨(curOf i cur).at_,(curOf i cur).cut+1,(curOf i cur).put⟩)
  else mkGo (x::a) b i (some ⟨(curOf i cur).at_,(curOf i cur).cut,(curOf i cur).put++[y]⟩)
termination_by a b=>a.length+b.length
def mkAll (a b:List Wd):List Mk:=mkGo a b 0 none
theorem mkGo_done (i:Nat) (cur:Option Mk):mkGo [] [] i cur=cur.toList:=by rw [mkGo]
theorem mkGo_same {a b:List Wd} {x:Wd} {i:Nat} {cur:Option Mk}:mkGo (x::a) (x::b) i cur=cur.toList++mkGo a b (i+1) none:=by rw [mkGo,if_pos rfl]
theorem mkGo_cut {a b:List Wd} {x:Wd} {i:Nat} {cur:Option Mk} (h : ∀ y r,b=y::r→x≠y) (hd:dst a b < dst (x::a) b) :
  mkGo (x::a) b i cur=mkGo a b (i+1) (some ⟨(curOf i cur).at_,(curOf i cur).cut+1,(curOf i cur).put⟩):=by
 cases b with
 | nil=>rw [mkGo]
 | cons y b=>rw [mkGo,if_neg (h y b rfl),if_pos hd]
theorem mkGo_put {a b:List Wd} {y:Wd} {i:Nat} {cur:Option Mk} (h : ∀ x r,a=x::r→x≠y∧¬ dst r (y::b) < dst (x::r) (y::b)) :
  mkGo a (y::b) i cur=mkGo a b i (some ⟨(curOf i cur).at_,(curOf i cur).cut,(curOf i cur).put++[y]⟩):=by
 cases a with
 | nil=>rw [mkGo]
 | cons x a=>rw [mkGo,if_neg (h x a rfl).1,if_neg (h x a rfl).2]
theorem dst_end (x:Wd) (a:List Wd):dst a [] < dst (x::a) []:=by rw [dst_nil',dst_nil'];simp
theorem mkGo_bd {N M:Nat} : ∀ (a b:List Wd) (i:Nat) (cur:Option Mk),i+a.length≤N→(∀ m,cur=some m→m.at_+m.cut≤i∧m.put.length+b.length≤M)→b.length≤M →
  ∀ m∈mkGo a b i cur,m.at_+m.cut≤N∧m.put.length≤M:=by
 intro a b i cur;induction a,b,i,cur using mkGo.induct with
 | case1 i cur =>
  intro h1 h2 h3 m hm;rw [mkGo_done] at hm;cases cur with
  | none=>cases hm
  | some m' =>
   have e:m=m':=(by simpa using hm);have:=h2 m' rfl;rw [e];simp at *;omega
 | case2 x a i cur ih =>
  intro h1 h2 h3 m hm;rw [mkGo_cut (fun y r h=>by cases h) (dst_end x a)] at hm;refine ih (by simp at h1;omega) (fun m' e=>?_) h3 m hm;injection e with e;subst e;cases cur with
  | none=>simp [curOf]
  | some c=>have:=h2 c rfl;simp [curOf] at *;omega
 | case3 y b i cur ih =>
  intro h1 h2 h3 m hm;rw [mkGo_put (fun x r h=>by cases h)] at hm;refine ih h1 (fun m' e=>?_) (by simp at h3;omega) m hm;injection e with e;subst e;cases cur with
  | none=>simp [curOf] at *;omega
  | some c=>have:=h2 c rfl;simp [curOf] at *;omega
 | case4 x a b i cur ih =>
  intro h1 h2 h3 m hm;rw [mkGo_same] at hm;rcases List.mem_append.1 hm with hm | hm
  ·cases cur with
   | none=>cases hm
   | some m' =>
    have e:m=m':=(by simpa using hm);have:=h2 m' rfl;rw [e];simp at *;omega
  ·exact ih (by simp at h1;omega) (fun m' e=>by cases e) (by simp at h3;omega) m hm
 | case5 x a y b i cur hne hd ih =>
  intro h1 h2 h3 m hm;rw [mkGo_cut (fun y' r h=>by injection h with h _;rw [← h];exact hne) hd] at hm;refine ih (by simp at h1;omega) (fun m' e=>?_) h3 m hm;injection e with e;subst e;cases cur with
  | none=>simp [curOf] at *;omega
  | some c=>have:=h2 c rfl;simp [curOf] at *;omega
 | case6 x a y b i cur hne hd ih =>
  intro h1 h2 h3 m hm;rw [mkGo_put (fun x' r h=>by injection h with h1 h2;rw [← h1,← h2];exact ⟨hne,hd⟩)] at hm;refine ih h1 (fun m' e=>?_) (by simp at h3;omega) m hm;injection e with e;subst e;cases cur with
  | none=>simp [curOf] at *;omega
  | some c=>have:=h2 c rfl;simp [curOf] at *;omega
structure Stroke where
 dir:Int
 size:Int
def okS (s:Stroke):Bool:=decide (0≤s.dir∧s.dir≤7) && decide (1≤s.size∧s.size≤3)
def leadB (a b:Stroke):Bool:=decide ((b.dir - a.dir) % 4≠0)
def linkB:List Stroke→Bool
 | []=>true
 | [a]=>okS a
 | a::b::r=>okS a && leadB a b && linkB (b::r)
def outB (l:List Stroke):Bool:=decide (l.length≤8) && linkB l
def strokeAt (l:List Stroke) (i:Nat):Stroke:=l.getD i ⟨0,0⟩
def goodS (l:List Stroke) (i:Nat):Prop:=okS (strokeAt l i)=true∧(0 < i→leadB (strokeAt l (i - 1)) (strokeAt l i)=true)
theorem okS_iff {s:Stroke}:okS s=true ↔ 0≤s.dir∧s.dir≤7∧1≤s.size∧s.size≤3:=by unfold okS;simp;omega
theorem okS_not {s:Stroke}:okS s=false ↔ ¬ (0≤s.dir∧s.dir≤7∧1≤s.size∧s.size≤3):=by rw [← okS_iff];simp
theorem linkB_cons {a:Stroke} {r:List Stroke}:linkB (a::r)=true ↔ okS a=true∧(0 < r.length→leadB a (strokeAt r 0)=true)∧linkB r=true:=by
 cases r with
 | nil=>simp [linkB]
 | cons b r=>simp [linkB,strokeAt,and_assoc]
theorem strokeAt_cons (a:Stroke) (r:List Stroke) (i:Nat):strokeAt (a::r) (i+1)=strokeAt r i:=rfl
theorem strokeAt_zero (a:Stroke) (r:List Stroke):strokeAt (a::r) 0=a:=rfl
theorem linkB_iff : ∀ {l:List Stroke},linkB l=true ↔ ∀ i,i < l.length→goodS l i
 | []=>by simp [linkB]
 | a::r=>by
  rw [linkB_cons,linkB_iff];constructor
  ·rintro ⟨h1,h2,h3⟩ i hi;cases i with
   | zero=>exact ⟨by rw [strokeAt_zero];exact h1,fun h=>absurd h (by omega)⟩
   | succ i =>
    have h4:=h3 i (by simpa using hi);refine ⟨by rw [strokeAt_cons];exact h4.1,fun _=>?_⟩;cases i with
    | zero=>rw [Nat.add_sub_cancel,strokeAt_zero,strokeAt_cons];exact h2 (by simpa using hi)
    | succ j=>rw [Nat.add_sub_cancel,strokeAt_cons,strokeAt_cons];simpa using h4.2 (by omega)
  ·intro h;refine ⟨by have:=(h 0 (by simp)).1;rwa [strokeAt_zero] at this,fun h0=>?_,fun i hi=>?_⟩
   ·have:=(h 1 (by simpa using h0)).2 (by omega);simpa [strokeAt_cons,strokeAt_zero] using this
   ·have:=h (i+1) (by simpa using hi);refine ⟨by have:=this.1;rwa [strokeAt_cons] at this,fun hi0=>?_⟩;have h2:=this.2 (by omega);obtain ⟨j,rfl⟩ : ∃ j,i=j+1:=⟨i - 1,by omega⟩;rw [strokeAt_cons] at h2;simpa [strokeAt_cons] using h2
theorem outB_iff {l:List Stroke}:outB l=true ↔ l.length≤8∧∀ i,i < l.length→goodS l i:=by
 unfold outB;rw [Bool.and_eq_true,decide_eq_true_iff,linkB_iff]
theorem outB_no {l:List Stroke} {i:Nat} (hi:i < l.length) (h : ¬ goodS l i):outB l=false:=by
 rw [Bool.eq_false_iff];intro h2;exact h ((outB_iff.1 h2).2 i hi)
theorem outB_long {l:List Stroke} (h:8 < l.length):outB l=false:=by
 rw [Bool.eq_false_iff];intro h2;have:=(outB_iff.1 h2).1;omega
theorem linkB_ok {l:List Stroke} (h:linkB l=true) {s:Stroke} (hs:s∈l):okS s=true:=by
 obtain ⟨i,hi,rfl⟩:=List.getElem_of_mem hs;have:=(linkB_iff.1 h i hi).1;unfold strokeAt at this
 rwa [List.getD_eq_getElem?_getD,List.getElem?_eq_getElem hi] at this
theorem outB_ok {l:List Stroke} (h:outB l=true) {s:Stroke} (hs:s∈l):okS s=true:=linkB_ok (by unfold outB at h;rw [Bool.and_eq_true] at h;exact h.2) hs
theorem outB_link {l:List Stroke} (h:outB l=true):linkB l=true:=by unfold outB at h;rw [Bool.and_eq_true] at h;exact h.2
theorem outB_len {l:List Stroke} (h:outB l=true):l.length≤8:=(outB_iff.1 h).1
theorem linkB_append {a b:List Stroke} (h:linkB (a++b)=true):linkB a=true∧linkB b=true:=by
 induction a with
 | nil=>exact ⟨rfl,h⟩
 | cons x a ih =>
  rw [List.cons_append,linkB_cons] at h;have:=ih h.2.2;refine ⟨linkB_cons.2 ⟨h.1,fun h0=>?_,this.1⟩,this.2⟩;have h3:=h.2.1 (by simp;omega);cases a with
  | nil=>simp at h0
  | cons y a=>simpa [strokeAt] using h3
def sizeL (z:Int):UInt8:=if z=1 then 115 else if z=2 then 109 else 108
def sText (s:Stroke):List UInt8:=[UInt8.ofNat (48+s.dir).toNat,sizeL s.size]
theorem sText_len (s:Stroke):(sText s).length=2:=rfl
def textS (l:List Stroke):List UInt8:=l.flatMap sText
def outText (l:List Stroke):List UInt8:=if outB l=true then textS l else []
theorem outText_yes {l:List Stroke} (h:outB l=true):outText l=textS l:=if_pos h
theorem outText_no {l:List Stroke} (h:outB l=false):outText l=[]:=if_neg (by rw [h];simp)
theorem textS_len : ∀ l:List Stroke,(textS l).length=2 * l.length
 | []=>rfl
 | s::l=>by have:=textS_len l;unfold textS at this ⊢;rw [List.flatMap_cons,List.length_append,this,sText_len,List.length_cons];omega
def sizeN (c:UInt8):Int:=if c=115 then 1 else if c=109 then 2 else if c=108 then 3 else 0
def pairsS:List UInt8→List Stroke
 | a::b::r=>⟨(a.toNat:Int) - 48,sizeN b⟩::pairsS r
 | _=>[]
theorem pairsS_len : ∀ l:List UInt8,(pairsS l).length=l.length / 2
 | []=>rfl
 | [_]=>by simp [pairsS]
 | a::b::r=>by rw [pairsS,List.length_cons,pairsS_len r,List.length_cons,List.length_cons];omega
def fromS (l:List UInt8):Option (List Stroke):=if l.length % 2=0∧outB (pairsS l)=true then some (pairsS l) else none
theorem fromS_yes {l:List UInt8} (h:l.length % 2=0) (h2:outB (pairsS l)=true):fromS l=some (pairsS l):=if_pos ⟨h,h2⟩
theorem fromS_no {l:List UInt8} (h:l.length % 2=1∨outB (pairsS l)=false):fromS l=none:=if_neg (by rintro ⟨h1,h2⟩;rcases h with h | h;(omega);(rw [h2] at h;cases h))
end Go.Proofs.YtbkhnljaajajiaaGreatDoor
