/-
  Contracts and plain laws that the proofs lean on. Conditions: as each says.
-/
import Derived.Test.YtbkhnljaajajiaaGreatDoorRows
import Derived.WalkKit
import Derived.ProofKit
import Derived.OpenShut
import Derived.ShutString
import Derived.Outline
import Derived.WalkLawsBesides
import Derived.WalkSpells
import Derived.BigQuiet
import Derived.Deep.QuietTactic
import Derived.Lib.Hide
import Derived.Deep.DeepMust
import Derived.Deep.LoopGhost
import Derived.Deep.RegionWith
import Derived.Handy
import Derived.Lib.QuietBelow
import Derived.Deep.Slices
import Derived.Lib.SmallJoins
import Derived.ChangeOld
import Derived.Laws.OwnMore
import Derived.Deep.AppendLies
import Derived.Deep.Draws
import Derived.Laws.Rows
import Derived.StillTailTactics
import Derived.Lib.Bytealg
import Derived.Sort.Walk0
import Derived.Laws.StructEq
import Derived.Maps.AppendAt
import Derived.RegionTactic
import Derived.OwnWalk
set_option maxRecDepth 100000
set_option linter.unusedSimpArgs false
set_option linter.unusedVariables false
set_option linter.unnecessarySimpa false
namespace Go.Proofs.YtbkhnljaajajiaaGreatDoor
theorem uH {p:Prop} (h:p):RowKit.Hid p:=Lib.hid h
open Go.ChangeShapes Go.WideShapes Go.ChangeAt Go.RowKit
def isLetter (c:UInt8):Bool:=97≤c.toNat && c.toNat≤122
def wordB (l:List UInt8):Bool:=l.all isLetter && (1≤l.length && l.length≤12)
theorem take_snoc (s:ByteArray) (k:Nat) (h:k < s.size):s.data.toList.take (k+1)=s.data.toList.take k++[s[k]]:=by
 rw [List.take_succ_eq_append_getElem (by simpa using h)];rfl
theorem all_step (s:ByteArray) (k:Nat) (h:k < s.size) (ha:(s.data.toList.take k).all isLetter=true) (h1:97≤(s[k].toNat:Int)) (h2:(s[k].toNat:Int)≤122) :
  (s.data.toList.take (k+1)).all isLetter=true:=by
 rw [take_snoc s k h,List.all_append,ha];simp [isLetter];omega
theorem all_bad (s:ByteArray) (k:Nat) (h:k < s.size) (h1:(s[k].toNat:Int) < 97∨122 < (s[k].toNat:Int)):wordB s.data.toList=false:=by
 have hm:s[k]∈s.data.toList:=by
  have:s[k]=s.data.toList[k]'(by simpa using h):=rfl;rw [this];exact List.getElem_mem _
 have hb:isLetter s[k]=false:=(by simp [isLetter];omega);have:s.data.toList.all isLetter=false:=by
  rw [List.all_eq_false];exact ⟨_,hm,by simp [hb]⟩
 simp [wordB,this]
theorem all_done (s:ByteArray) (k:Nat) (hk : ¬ k < s.size) (ha:(s.data.toList.take k).all isLetter=true):wordB s.data.toList=decide ((1:Int)≤s.size∧(s.size:Int)≤12):=by
 have e:s.data.toList.take k=s.data.toList:=List.take_of_length_le (by simp;omega);have l:s.data.toList.length=s.size:=(by simp);rw [e] at ha;unfold wordB;rw [ha,l];rw [Bool.eq_iff_iff];simp;omega
theorem kcell {w w':World} {a:Addr} {v:Value} (hb:Below w.heap.size w w') (h:w.cell? a=some v):w'.cell? a=some v:=(hb.cell (World.block_lt_of_cell? _ _ h)).trans h
theorem kfree {w w':World} {a:Addr} {v:Value} (hb:Below w.heap.size w w') (h:w.cell? a=some v) (hf:w.frozen? a=false):w'.frozen? a=false:=(hb.frozen (World.block_lt_of_cell? _ _ h)).trans hf
theorem newcell (w:World) (cs:Array Value) (t:TypeId) (i:Nat) (v:Value) (h:cs[i]? = some v):(w.alloc (.cells cs t)).cell? ⟨w.heap.size,i,none⟩=some v:=by
 rw [World.cell?_alloc_at cs t w.heap.size i rfl];exact h
theorem below_next {W w1 w2:World} (h:Below W.heap.size W w1) (h2:Below w1.heap.size w1 w2):Below W.heap.size W w2:=h.trans (h2.mono h.size)
theorem below_step {B:Nat} {w w1 w2:World} (h:Below B w w1) (hB:B≤w1.heap.size) (h2:Below w1.heap.size w1 w2):Below B w w2:=h.trans (h2.mono hB)
theorem ret_bool {a b:Bool} (h:a=b):Ending.returned (.bool a) = .returned (.bool b):=by rw [h]
theorem ret_int {k:IntKind} {a b:Int} (h:a=b):Ending.returned (.int k a) = .returned (.int k b):=by rw [h]
theorem l6In_any (n a b:Int) (w:World):Calls Tryz.prog 134 #[.int .i64 n,.int .i64 a,.int .i64 b] w fun e w'=>e = .returned (.bool (decide (a≤n∧n≤b)))∧w=w':=by
 by_cases h1:a≤n
 ·by_cases h2:n≤b
  ·go_enter Tryz.func134,Tryz.ntmps134
   go_wp2;go_ret;exact ⟨by simp;omega,rfl⟩
  ·go_enter Tryz.func134,Tryz.ntmps134
   go_wp2;go_ret;exact ⟨by simp;omega,rfl⟩
 ·go_enter Tryz.func134,Tryz.ntmps134
  go_wp2;go_ret;exact ⟨by simp;omega,rfl⟩
theorem specWordValid (s:ByteArray) (w:World) (hs:s.size≤maxLen):Calls Tryz.prog 135 #[.string s] w fun e w'=>e = .returned (.bool (wordB s.data.toList))∧w=w':=by
 unfold maxLen at hs;go_enter Tryz.func135,Tryz.ntmps135
 go_wp2
 go_loop [3] (fun i=>∃ k:Nat,k≤s.size∧i = .int .i64 k∧Hid ((s.data.toList.take k).all isLetter=true)) (fun i=>s.size - (intOf i).toNat)
 case atStart=>exact ⟨0,Nat.zero_le _,rfl,uH rfl⟩
 case round =>
  obtain ⟨k,hk,rfl,hall⟩:=hrel;by_cases hlt:k < s.size
  ·go_wp2
   ·go_ret;exact ⟨ret_bool (by rw [all_bad s k hlt (by omega)]),rfl⟩
   ·go_round
    case rel=>exact ⟨k+1,by omega,by go_num,uH (all_step s k hlt hall.out (by omega) (by omega))⟩
    case measure=>simp [intOf];omega
   ·go_ret;exact ⟨ret_bool (by rw [all_bad s k hlt (by omega)]),rfl⟩
  ·go_wp2_with (go_at_call 134;refine (l6In_any _ _ _ _).mono ?_;rintro e w' ⟨rfl,rfl⟩)
   go_ret;exact ⟨ret_bool (by rw [all_done s k hlt hall.out];simp),rfl⟩
theorem implWordValid (s:ByteArray) (w:World) (hs:s.size≤maxLen):Calls Tryz.prog 129 #[.string s] w fun e w'=>e = .returned (.bool (wordB s.data.toList))∧w=w':=by
 unfold maxLen at hs;by_cases hb:1≤s.size∧s.size≤12
 ·obtain ⟨hb1,hb2⟩:=hb;go_enter Tryz.func129,Tryz.ntmps129
  go_wp2
  go_loop [14] (fun i=>∃ k:Nat,k≤s.size∧i = .int .i64 k∧Hid ((s.data.toList.take k).all isLetter=true)) (fun i=>s.size - (intOf i).toNat)
  case atStart=>exact ⟨0,Nat.zero_le _,rfl,uH rfl⟩
  case round =>
   obtain ⟨k,hk,rfl,hall⟩:=hrel;by_cases hlt:k < s.size
   ·go_wp2
    ·go_ret;exact ⟨ret_bool (by rw [all_bad s k hlt (by omega)]),rfl⟩
    ·go_round
     case rel=>exact ⟨k+1,by omega,by go_num,uH (all_step s k hlt hall.out (by omega) (by omega))⟩
     case measure=>simp [intOf];omega
    ·go_ret;exact ⟨ret_bool (by rw [all_bad s k hlt (by omega)]),rfl⟩
   ·go_wp2;go_ret;exact ⟨ret_bool (by rw [all_done s k hlt hall.out];simp;omega),rfl⟩
 ·have hf:wordB s.data.toList=false:=by
   have l:s.data.toList.length=s.size:=(by simp);rw [Bool.eq_false_iff];intro h;simp [wordB] at h;omega
  have HF:=uH hf;clear hf;go_enter Tryz.func129,Tryz.ntmps129
  go_wp2;all_goals (go_ret;exact ⟨ret_bool (by rw [HF.out]),rfl⟩)
theorem region_qb {P:Program} {id:Nat} {Q:Exit→Act→World→Prop} {a:Act} {w:World} {l:List Oper} (hm:P.follows .mixedOrders=true) (hB:Region.lexB .any l.toArray=true)
  (h:wpQuiet P l.toArray (fun w'=>∃ p:Regrown,w'=Go.Sort.grow (redrawn w p.d) p.os) (fun a'=>∀ w',Below w.heap.size w w'→Q .normal a' w') l a):(Code.region id l.toArray true).wp P Q a w:=by
 refine wp_region_quiet_below hm hB ?_;have e:(fun a':Act=>∀ w',(∃ p:Regrown,w'=Go.Sort.grow (redrawn w p.d) p.os)→Q .normal a' w')=(fun a'=>∀ w',Below w.heap.size w w'→Q .normal a' w'):=by
  funext a'
  apply propext;constructor
  ·intro h w' hb;exact h w' (regrown_of_below hb)
  ·rintro h w' ⟨p,rfl⟩;exact h _ (below_regrown w p.d p.os)
 rw [e];exact h
theorem quietB {P:Program} {f:FuncId} {args:Array Value} {w:World} {d:Nat} {os:Array Obj} {v:Value}
  (h:Calls P f args (Go.Sort.grow (redrawn w d) os) fun e w'=>e = .returned v∧Below (Go.Sort.grow (redrawn w d) os).heap.size (Go.Sort.grow (redrawn w d) os) w'):Calls P f args (Go.Sort.grow (redrawn w d) os) fun e w''=>e = .returned v∧∃ p:Regrown,w''=Go.Sort.grow (redrawn w p.d) p.os:=Calls.regrown_of h
theorem qcell {w:World} {a:Addr} {v:Value} (h:w.cell? a=some v) (d:Nat) (os:Array Obj):(Go.Sort.grow (redrawn w d) os).cell? a=some v:=cell_regrown h d os
end Go.Proofs.YtbkhnljaajajiaaGreatDoor
namespace Go.Proofs.YtbkhnljaajajiaaGreatDoor
open Go.ChangeShapes Go.WideShapes Go.ChangeAt Go.RowKit Go.Joins
theorem own:ownKnob Tryz.prog.godebug=none:=by kernel_rfl
theorem laidOut:laidOutB Tryz.prog=true:=by kernel_rfl
def Row (w:World) (B:Nat) (A:Option Addr) (n sz:Nat) (xs:List Value):Prop :=
 xs.length=n * sz∧(0 < n→∃ b off,A=some ⟨b,off,none⟩∧b < B∧∀ (j:Nat) u,xs[j]? = some u→w.cell? ⟨b,off+j,none⟩=some u)
section
variable {w w':World} {B B' n sz:Nat} {A:Option Addr} {xs:List Value}
theorem Row.keep (h:Row w B A n sz xs) (hk : ∀ p:Addr,p.block < B→w'.cell? p=w.cell? p):Row w' B A n sz xs :=
 ⟨h.1,fun hn=>by
  obtain ⟨b,off,e,hb,hc⟩:=h.2 hn;exact ⟨b,off,e,hb,fun j u hu=>(hk ⟨b,off+j,none⟩ hb).trans (hc j u hu)⟩⟩
theorem Row.more (h:Row w B A n sz xs) (hB:B≤B'):Row w B' A n sz xs :=
 ⟨h.1,fun hn=>by
  obtain ⟨b,off,e,hb,hc⟩:=h.2 hn;exact ⟨b,off,e,by omega,hc⟩⟩
theorem Row.below (h:Row w B A n sz xs) (hb:Below B w w'):Row w' B A n sz xs:=h.keep fun _ hp=>hb.cell hp
theorem Row.of_own {base:Nat} {e:TypeId} {c:Nat} (h:w.ownsRow base e sz (.slice A n c) n xs):Row w w.heap.size A n sz xs:=by
 refine ⟨h.1,fun hn=>?_⟩;obtain ⟨g,cap,hv,_,hlt⟩:=h.form hn;have hA:A=some ⟨g,0,none⟩:=(by injection hv);subst hA;refine ⟨g,0,rfl,hlt,fun j u hu=>?_⟩;have:=h.cells (g:=g) rfl j u hu;by_cases hj:j=0
 ·subst hj;simpa [Addr.add] using this
 ·simpa [Addr.add,hj] using this
end
section
variable {α:Type} {ea:α→List Value} {sz:Nat}
theorem flat_len (hl : ∀ a,(ea a).length=sz) : ∀ l:List α,(l.flatMap ea).length=l.length * sz
 | []=>by simp
 | y::l=>by simp only [List.flatMap_cons,List.length_append,flat_len hl l,hl,List.length_cons,Nat.add_mul];omega
theorem flat_get (hl : ∀ a,(ea a).length=sz) : ∀ (l:List α) (j:Nat) (u:Value),(l.flatMap ea)[j]? = some u→∃ (i:Nat) (q:α) (k:Nat),l[i]? = some q∧(ea q)[k]? = some u∧j=i * sz+k
 | [],j,u,hu=>by simp at hu
 | y::l,j,u,hu=>by
  rw [List.flatMap_cons] at hu;by_cases hj:j < (ea y).length
  ·rw [List.getElem?_append_left hj] at hu;exact ⟨0,y,j,by simp,hu,by simp⟩
  ·rw [List.getElem?_append_right (by omega)] at hu;obtain ⟨i,q,k,e1,e2,e3⟩:=flat_get hl l _ _ hu;refine ⟨i+1,q,k,by simpa using e1,e2,?_⟩;rw [hl] at hj e3;rw [Nat.add_mul];omega
theorem flat_at (hl : ∀ a,(ea a).length=sz) : ∀ (l:List α) (i:Nat) (q:α) (k:Nat) (u:Value),l[i]? = some q→(ea q)[k]? = some u→(l.flatMap ea)[i * sz+k]? = some u
 | [],i,q,k,u,h,_=>by simp at h
 | y::l,0,q,k,u,h,hk=>by
  simp at h;subst h;rw [List.flatMap_cons,List.getElem?_append_left (by have:=(List.getElem?_eq_some_iff.1 hk).1;omega)];simpa using hk
 | y::l,i+1,q,k,u,h,hk=>by
  rw [List.flatMap_cons,List.getElem?_append_right (by rw [hl,Nat.add_mul];omega)];have:=flat_at hl l i q k u (by simpa using h) hk;rw [hl,show (i+1) * sz+k - sz=i * sz+k by rw [Nat.add_mul];omega];exact this
theorem rows_key {good:α→Prop} {W:World} {a:Addr} : ∀ len:Nat,(∀ i:Nat,i < len→∃ q:α,good q∧∀ (j:Nat) u,(ea q)[j]? = some u→W.cell? ((a.add (i * sz)).add j)=some u) →
  ∃ l:List α,l.length=len∧(∀ q∈l,good q)∧∀ (i:Nat) q,l[i]? = some q→∀ (j:Nat) u,(ea q)[j]? = some u→W.cell? ((a.add (i * sz)).add j)=some u
 | 0,_=>⟨[],rfl,by simp,by simp⟩
 | k+1,key=>by
  obtain ⟨l,h1,h2,h3⟩:=rows_key k (fun i hi=>key i (by omega));obtain ⟨q,hq1,hq2⟩:=key k (by omega);refine ⟨l++[q],by simp [h1],?_,?_⟩
  ·intro q' hq';rcases List.mem_append.1 hq' with h | h
   ·exact h2 _ h
   ·simp at h;subst h;exact hq1
  ·intro i q' hi';by_cases hik:i < l.length
   ·rw [List.getElem?_append_left hik] at hi';exact h3 i q' hi'
   ·rw [List.getElem?_append_right (by omega)] at hi';have:i=k:=by
     have:=(List.getElem?_eq_some_iff.1 hi').1;simp at this;omega
    subst this;simp [h1] at hi';subst hi';exact hq2
end
section
variable {H:Type} {enc:TypeId × Value→H} {W:World} {base:Nat} {v:Value} {d:DataW H} {p:List MemPlace}
theorem openRows {α:Type} (sz:Nat) (ea:α→List Value) (good:α→Prop) {t e:TypeId} (ht:Tryz.prog.underlying t=some (.slice e)) (hC:Tryz.prog.cellsOf e=sz)
  (hR : ∀ (fuel:Nat) (cs:List Value) (x:DataW H × List MemPlace),cs.length=sz→DataW.trod enc Tryz.prog W 0 (fun _=>true) true fuel e cs=some x→∃ a,cs=ea a∧good a)
  (hl : ∀ a,(ea a).length=sz) (hsz0:sz≠0)
  {fuel:Nat} {cs:List Value} {x:DataW H × List MemPlace} (h:DataW.trod enc Tryz.prog W 0 (fun _=>true) true fuel t cs=some x) :
  ∃ (A:Option Addr) (n c:Nat) (l:List α),cs=[.slice A n c]∧l.length=n∧n≤c∧c≤maxLen∧Row W W.heap.size A n sz (l.flatMap ea)∧∀ a∈l,good a:=by
 rcases Go.Deep.open_slice ht h with ⟨rfl,_⟩ | ⟨a,len,cap,m,n,D,Pl,rfl,hb,hlen,hm,hmm,_,hx⟩
 ·exact ⟨none,0,0,[],rfl,rfl,Nat.le_refl _,Nat.zero_le _,⟨by simp,fun h=>absurd h (by omega)⟩,by simp⟩
 have hmm':m=cap:=(by simpa using hmm);have key : ∀ i:Nat,i < len→∃ q:α,good q∧∀ (j:Nat) u,(ea q)[j]? = some u→W.cell? ((a.add (i * sz)).add j)=some u:=by
  intro i hi;obtain ⟨cs',h1,h2⟩:=hx i (by omega);rw [hC] at h1;obtain ⟨_,hcl,hat⟩:=World.cells?_some h1;obtain ⟨q,rfl,hg⟩:=hR _ _ _ hcl h2;refine ⟨q,hg,fun j u hu=>?_⟩;have hj:j < sz:=by
   have:=(List.getElem?_eq_some_iff.1 hu).1;rw [hl] at this;exact this
  rw [hat j hj,hu]
 obtain ⟨l,h1,h2,h3⟩:=rows_key (ea:=ea) len key;refine ⟨some a,len,cap,l,rfl,h1,hlen,hm,⟨by rw [flat_len hl,h1],fun hn=>?_⟩,h2⟩;obtain ⟨b,off,spot⟩:=a;have hcell : ∀ (j:Nat) u,(l.flatMap ea)[j]? = some u→W.cell? ((⟨b,off,spot⟩:Addr).add j)=some u:=by
  intro j u hu;obtain ⟨i,q,k,e1,e2,rfl⟩:=flat_get hl l j u hu;have:=h3 i q e1 k u e2
  rwa [Go.Deep.add_add] at this
 have hpos:0 < (l.flatMap ea).length:=(by rw [flat_len hl,h1];exact Nat.mul_pos hn (by omega));obtain ⟨u,hu⟩ : ∃ u,(l.flatMap ea)[0]? = some u:=⟨_,List.getElem?_eq_getElem hpos⟩;have h00:=hcell 0 u hu;have hsp:spot=none:=(by simpa [Addr.add] using World.cell?_spot h00);subst hsp;refine ⟨b,off,rfl,by simpa [Addr.add] using World.block_lt_of_cell? _ _ h00,fun j u hu=>?_⟩;have:=hcell j u hu;by_cases hj0:j=0
 ·subst hj0;simpa [Addr.add] using this
 ·simpa [Addr.add,hj0] using this
theorem okSlice {e t:TypeId} (ht:Tryz.prog.underlying t=some (.slice e)) (hv:Value.okWide Tryz.prog W .any base t v) (h:DataW.Trod enc Tryz.prog W 0 (fun _=>true) true t v d p) :
  ∃ fuel,DataW.trod enc Tryz.prog W 0 (fun _=>true) true fuel t [v]=some (d,p):=by
 obtain ⟨a,len,cap,rfl⟩:=okWide_slice ht hv;obtain ⟨fuel,hf⟩:=h;exact ⟨fuel,by simpa [Value.cells] using hf⟩
structure Pad where
 day:Int
 case:ByteArray
def Pad.good (p:Pad):Prop:=(Lit.int .i64 p.day).wf=true∧p.case.size≤maxLen
def padC (p:Pad):List Value:=[.int .i64 p.day,.string p.case]
theorem padC_len (p:Pad):(padC p).length=2:=rfl
def PadsIn (w:World) (B:Nat) (A:Option Addr) (n c:Nat) (ps:List Pad):Prop :=
 ps.length=n∧n≤c∧c≤maxLen∧Row w B A n 2 (ps.flatMap padC)∧∀ p∈ps,p.good
structure Drawer where
 A:Option Addr
 n:Nat
 c:Nat
 ps:List Pad
def drawerC (d:Drawer):List Value:=[.slice d.A d.n d.c]
theorem drawerC_len (d:Drawer):(drawerC d).length=1:=rfl
def DrawersIn (w:World) (B:Nat) (A:Option Addr) (n c:Nat) (ds:List Drawer):Prop :=
 ds.length=n∧n≤c∧c≤maxLen∧Row w B A n 1 (ds.flatMap drawerC)∧∀ d∈ds,PadsIn w B d.A d.n d.c d.ps
def BytesIn (w:World) (B:Nat) (A:Option Addr) (n c:Nat) (bs:List Int):Prop :=
 bs.length=n∧n≤c∧c≤maxLen∧Row w B A n 1 (bs.flatMap fun z=>[.int .u8 z])∧∀ z∈bs,0≤z∧z≤255
theorem openBytes (hv:Value.okWide Tryz.prog W .any base 22 v) (h:DataW.Trod enc Tryz.prog W 0 (fun _=>true) true 22 v d p) :
  ∃ A n c bs,v = .slice A n c∧BytesIn W W.heap.size A n c bs:=by
 obtain ⟨fuel,hf⟩:=okSlice Tryz.underlying22 hv h;obtain ⟨A,n,c,l,h1,h2,h3,h4,h5,h6⟩:=openRows 1 (fun z:Int=>[Value.int .u8 z]) (fun z=>0≤z∧z≤255) Tryz.underlying22 (by kernel_rfl) (fun fuel cs x _ hx=>by
  obtain ⟨z,e,_,wz⟩:=DataW.trod_int Tryz.underlying5 hx;exact ⟨z,e,by simpa [Lit.wf,IntKind.min,IntKind.max,IntKind.signed,IntKind.bits] using wz⟩) (fun _=>rfl) (by omega) hf
 exact ⟨A,n,c,l,by simpa using h1,h2,h3,h4,h5,h6⟩
end
end Go.Proofs.YtbkhnljaajajiaaGreatDoor
namespace Go.Proofs.YtbkhnljaajajiaaGreatDoor
open Go.ChangeShapes Go.WideShapes Go.ChangeAt Go.RowKit
theorem only_next {w w1 w2:World} {row:Option Nat} (h:w.grownBy w1 row) (h2:w1.grownBy w2 row):w.grownBy w2 row :=
 ⟨h2.os.trans h.os,h2.tape.trans h.tape,h2.output.trans h.output,Nat.le_trans h.size h2.size,fun i hi hne=>(h2.block i (Nat.lt_of_lt_of_le hi h.size) hne).trans (h.block i hi hne)⟩
theorem only_alloc {a w:World} {row:Option Nat} (h:a.grownBy w row) (o:Obj):a.grownBy (w.alloc o) row :=
 ⟨h.os,h.tape,h.output,Nat.le_trans h.size (by simp),fun i hi hne=>(Below.heap_alloc w o i (Nat.lt_of_lt_of_le hi h.size)).trans (h.block i hi hne)⟩
def Blk (w:World) (b:Nat) (t:TypeId) (cs:Array Value):Prop:=w.heap[b]? = some (.cells cs t (0,0))
theorem Blk.lt {w:World} {b:Nat} {t:TypeId} {cs:Array Value} (h:Blk w b t cs):b < w.heap.size:=by
 rcases Nat.lt_or_ge b w.heap.size with hlt | hge
 ·exact hlt
 ·unfold Blk at h;rw [Array.getElem?_eq_none hge] at h;cases h
theorem Blk.cell {w:World} {b:Nat} {t:TypeId} {cs:Array Value} (h:Blk w b t cs) (i:Nat):w.cell? ⟨b,i,none⟩=cs[i]? := cell_of_row w b i cs t (0,0) h
theorem Blk.free {w:World} {b:Nat} {t:TypeId} {cs:Array Value} (h:Blk w b t cs) (i:Nat):w.frozen? ⟨b,i,none⟩=false:=by
 unfold Blk at h;simp [World.frozen?,h]
theorem Blk.new (w:World) (t:TypeId) (cs:Array Value):Blk (w.alloc (.cells cs t)) w.heap.size t cs:=heap_alloc_new w _
theorem Blk.alloc {w:World} {b:Nat} {t:TypeId} {cs:Array Value} (h:Blk w b t cs) (o:Obj):Blk (w.alloc o) b t cs:=(Below.heap_alloc w o b h.lt).trans h
theorem Blk.only {w w':World} {b g:Nat} {t:TypeId} {cs:Array Value} (h:Blk w b t cs) (hg:w.grownBy w' (some g)) (hne:b≠g):Blk w' b t cs:=(hg.block b h.lt (fun e=>hne (by injection e))).trans h
theorem Blk.below {w w':World} {b:Nat} {t:TypeId} {cs:Array Value} (h:Blk w b t cs) (hb:Below w.heap.size w w'):Blk w' b t cs:=(hb.block b h.lt).trans h
theorem Blk.far {w:World} {b:Nat} {t:TypeId} {cs:Array Value} (h:Blk w b t cs) {p:Addr} (hp:b≠p.block) (u:Value):Blk (w.setCell p u) b t cs:=(Below.heap_setCell w p u b hp).trans h
theorem Blk.set {w:World} {b:Nat} {t:TypeId} {cs:Array Value} (h:Blk w b t cs) (i:Nat) (u:Value):Blk (w.setCell ⟨b,i,none⟩ u) b t (cs.setIfInBounds i u):=by
 unfold Blk at h ⊢;simp [World.setCell,Array.getElem?_modify,h]
theorem Blk.two {w:World} {b:Nat} {t:TypeId} {x y:Value} (h:Blk w b t #[x,y]) :
  w.cell? ⟨b,0,none⟩=some x∧w.cell? ⟨b,1,none⟩=some y∧w.frozen? ⟨b,0,none⟩=false∧w.frozen? ⟨b,1,none⟩=false :=
 ⟨h.cell 0,h.cell 1,h.free 0,h.free 1⟩
def padB (d:Int) (c:List UInt8):Bool:=decide (0≤d∧d≤9999) && wordB c
theorem specPadValid (d:Int) (c:ByteArray) (w:World) (hc:c.size≤maxLen):Calls Tryz.prog 75 #[.agg #[.int .i64 d,.string c]] w fun e w'=>e = .returned (.bool (padB d c.data.toList))∧Below w.heap.size w w':=by
 by_cases hd:0≤d∧d≤9999
 ·have hr:padB d c.data.toList=wordB c.data.toList:=(by unfold padB;rw [decide_eq_true hd];rfl);have HR:=uH hr;clear hr;obtain ⟨hd1,hd2⟩:=hd;go_enter Tryz.func75,Tryz.ntmps75
  go_wp2_with (first | (go_at_call 134;refine (l6In_any _ _ _ _).mono ?_;rintro e w' ⟨rfl,rfl⟩) | (go_at_call 135;refine (specWordValid _ _ hc).mono ?_;rintro e w' ⟨rfl,rfl⟩))
  go_returns;exact ⟨ret_bool (by rw [HR.out]),by go_grown⟩
 ·have hr:padB d c.data.toList=false:=(by unfold padB;rw [decide_eq_false hd];rfl);have HR:=uH hr;clear hr;have hdd:decide (0≤d∧d≤9999)=false:=decide_eq_false hd;go_enter Tryz.func75,Tryz.ntmps75
  go_wp2_with (first | (go_at_call 134;refine (l6In_any _ _ _ _).mono ?_;rintro e w' ⟨rfl,rfl⟩) | (go_at_call 135;refine (specWordValid _ _ hc).mono ?_;rintro e w' ⟨rfl,rfl⟩))
  go_returns;exact ⟨ret_bool (by rw [HR.out]),by go_grown⟩
theorem implPadValid (d:Int) (c:ByteArray) (w:World) (hc:c.size≤maxLen):Calls Tryz.prog 76 #[.agg #[.int .i64 d,.string c]] w fun e w'=>e = .returned (.bool (padB d c.data.toList))∧Below w.heap.size w w':=by
 by_cases hd1:0≤d
 ·by_cases hd2:d≤9999
  ·have hr:padB d c.data.toList=wordB c.data.toList:=(by unfold padB;rw [decide_eq_true ⟨hd1,hd2⟩];rfl);have HR:=uH hr;clear hr;go_enter Tryz.func76,Tryz.ntmps76
   go_wp2_with (go_at_call 129;refine (implWordValid _ _ hc).mono ?_;rintro e w' ⟨rfl,rfl⟩)
   go_returns;exact ⟨ret_bool (by rw [HR.out]),by go_grown⟩
  ·have hr:padB d c.data.toList=false:=(by unfold padB;rw [decide_eq_false (by omega)];rfl);have HR:=uH hr;clear hr;go_enter Tryz.func76,Tryz.ntmps76
   go_wp2;go_returns;exact ⟨ret_bool (by rw [HR.out]),by go_grown⟩
 ·have hr:padB d c.data.toList=false:=(by unfold padB;rw [decide_eq_false (by omega)];rfl);have HR:=uH hr;clear hr;go_enter Tryz.func76,Tryz.ntmps76
  go_wp2;go_returns;exact ⟨ret_bool (by rw [HR.out]),by go_grown⟩
theorem bytealgCompare (a b:ByteArray) (w:World):Calls Tryz.prog 233 #[.string a,.string b] w fun e w'=>e = .returned (.int .i64 (Lib.compareBytes a.data.toList b.data.toList))∧w=w':=by
 go_enter Tryz.func233,Tryz.ntmps233
 go_wp2;rw [run_callFunc_extern Tryz.func256 (by kernel_rfl) (by kernel_rfl) (by kernel_rfl) (e:=Extern.BytealgCompare.compare) (by kernel_rfl),Lib.run_compareString];simp only [Result.andThen];rw [Oper.upon_value];go_wp2;go_ret;exact ⟨rfl,rfl⟩
theorem stringsCompare (a b:ByteArray) (w:World):Calls Tryz.prog 197 #[.string a,.string b] w fun e w'=>e = .returned (.int .i64 (Lib.compareBytes a.data.toList b.data.toList))∧w=w':=by
 go_enter Tryz.func197,Tryz.ntmps197
 go_wp2_with (go_at_call 233;refine (bytealgCompare _ _ _).mono ?_;rintro e w' ⟨rfl,rfl⟩)
 go_ret;exact ⟨rfl,rfl⟩
def cmpI (x y:Int):Int:=if x < y then -1 else if y < x then 1 else 0
theorem cmpCompare (x y:Int) (w:World):Calls Tryz.prog 196 #[.int .i64 x,.int .i64 y] w fun e w'=>e = .returned (.int .i64 (cmpI x y))∧w=w':=by
 rcases Int.lt_trichotomy x y with h | h | h
 ·have HR:Hid (cmpI x y = -1):=uH (by unfold cmpI;rw [if_pos h]);go_enter Tryz.func196,Tryz.ntmps196
  go_wp2;go_ret;exact ⟨ret_int HR.out.symm,rfl⟩
 ·subst h;have HR:Hid (cmpI x x=0):=uH (by unfold cmpI;rw [if_neg (by omega),if_neg (by omega)]);go_enter Tryz.func196,Tryz.ntmps196
  go_wp2;go_ret;exact ⟨ret_int HR.out.symm,rfl⟩
 ·have HR:Hid (cmpI x y=1):=uH (by unfold cmpI;rw [if_neg (by omega),if_pos h]);go_enter Tryz.func196,Tryz.ntmps196
  go_wp2;go_ret;exact ⟨ret_int HR.out.symm,rfl⟩
def orI (x y:Int):Int:=if x=0 then y else x
theorem cmpOr (b:Nat) (x y:Int) (w:World) (h0:w.cell? ⟨b,0,none⟩=some (.int .i64 x)) (h1:w.cell? ⟨b,1,none⟩=some (.int .i64 y)) :
  Calls Tryz.prog 195 #[.slice (some ⟨b,0,none⟩) 2 2] w fun e w'=>e = .returned (.int .i64 (orI x y))∧w=w':=by
 by_cases hx:x=0
 ·subst hx;have HR:Hid (orI 0 y=y):=uH (by unfold orI;rw [if_pos rfl]);by_cases hy:y=0
  ·subst hy;go_enter Tryz.func195,Tryz.ntmps195
   go_wp2
   go_rounds 3
   go_ret;exact ⟨ret_int HR.out.symm,rfl⟩
  ·have hy1:(y != 0)=true:=(by rw [bne_iff_ne];exact hy);go_enter Tryz.func195,Tryz.ntmps195
   go_wp2
   go_rounds 3
   go_ret;exact ⟨ret_int HR.out.symm,rfl⟩
 ·have HR:Hid (orI x y=x):=uH (by unfold orI;rw [if_neg hx]);have hx1:(x != 0)=true:=(by rw [bne_iff_ne];exact hx);go_enter Tryz.func195,Tryz.ntmps195
  go_wp2
  go_rounds 3
  go_ret;exact ⟨ret_int HR.out.symm,rfl⟩
theorem region_still_tail {P:Program} {id:Nat} {Q:Exit→Act→World→Prop} {a:Act} {w:World} {l:List Oper} (n:Nat) (hm:P.follows .mixedOrders=true) (hB:Region.lexTailB .any l.toArray n=true)
  (h:wpStill P l.toArray w.drew (fun a'=>wpList P l.toArray Q (l.drop n) a' w.drew) (l.take n) a):(Code.region id l.toArray true).wp P Q a w:=wp_region_still_tail n hm hB h
def ordP (d:Int) (c:List UInt8) (d':Int) (c':List UInt8):Int:=orI (cmpI d d') (Lib.compareBytes c c')
theorem comparePads (d:Int) (c:ByteArray) (d':Int) (c':ByteArray) (w:World) :
  Calls Tryz.prog 146 #[.agg #[.int .i64 d,.string c],.agg #[.int .i64 d',.string c']] w fun e w'=>e = .returned (.int .i64 (ordP d c.data.toList d' c'.data.toList))∧Below w.heap.size w w':=by
 go_enter Tryz.func146,Tryz.ntmps146
 go_wp2;refine region_still_tail 10 (by kernel_rfl) (by kernel_rfl) ?_;simp only [List.take_succ_cons,List.take_zero,List.drop_succ_cons,List.drop_zero];repeat still_step
 still_call ((cmpCompare _ _ _).mono fun _ _ h=>⟨h.1,h.2.symm⟩)
 repeat still_step
 still_call ((stringsCompare _ _ _).mono fun _ _ h=>⟨h.1,h.2.symm⟩)
 refine wpStill_nil ?_;(go_wp2_with fail);refine (cmpOr _ (cmpI d d') (Lib.compareBytes c.data.toList c'.data.toList) _ (by go_simp) (by go_simp)).mono ?_;rintro e w1 ⟨rfl,rfl⟩;go_wp2;go_ret;exact ⟨rfl,by go_grown⟩
theorem cb_spec : ∀ a b:List UInt8,Lib.compareBytes a b=if Op.bytesLess a b=true then -1 else if a=b then 0 else 1
 | [],[]=>rfl
 | [],_::_=>by simp [Lib.compareBytes,Op.bytesLess]
 | _::_,[]=>by simp [Lib.compareBytes,Op.bytesLess]
 | x::a,y::b=>by
  have ih:=cb_spec a b;unfold Lib.compareBytes Op.bytesLess;rw [ih];by_cases h1:x < y
  ·simp [h1]
  ·by_cases h2:y < x
   ·have hne:x≠y:=(by rintro rfl;exact h1 h2);simp [h1,h2,hne]
   ·have he:x=y:=by
     apply UInt8.toNat_inj.1;have a1 : ¬ x.toNat < y.toNat:=fun h=>h1 (UInt8.lt_iff_toNat_lt.2 h);have a2 : ¬ y.toNat < x.toNat:=fun h=>h2 (UInt8.lt_iff_toNat_lt.2 h);omega
    subst he;simp [h1]
theorem cmpI_lt {d d':Int} (h:d < d'):cmpI d d' = -1:=by unfold cmpI;rw [if_pos h]
theorem cmpI_gt {d d':Int} (h:d' < d):cmpI d d'=1:=by unfold cmpI;rw [if_neg (by omega),if_pos h]
theorem cmpI_eq (d:Int):cmpI d d=0:=by unfold cmpI;rw [if_neg (by omega),if_neg (by omega)]
theorem ordP_lt {d d':Int} {c c':List UInt8} (h:d < d'):ordP d c d' c' = -1:=by unfold ordP;rw [cmpI_lt h];rfl
theorem ordP_gt {d d':Int} {c c':List UInt8} (h:d' < d):ordP d c d' c'=1:=by unfold ordP;rw [cmpI_gt h];rfl
theorem ordP_eq {d:Int} {c c':List UInt8}:ordP d c d c'=Lib.compareBytes c c':=by unfold ordP;rw [cmpI_eq];rfl
theorem toL (s:ByteArray):s.toList=s.data.toList:=Lib.toList_data s
theorem eqPadRun (d:Int) (c:ByteArray) (d':Int) (c':ByteArray) (w:World) :
  (binOp .eql 53 (.agg #[.int .i64 d,.string c]) (.agg #[.int .i64 d',.string c'])).run Tryz.prog w = .ok (.bool (d == d' && c.toList == c'.toList)) w:=by
 have u3:=Tryz.underlying3;have a3:=Tryz.isAgg3;have z3:=Tryz.sizeOf3;have u9:=Tryz.underlying9;have a9:=Tryz.isAgg9;have z9:=Tryz.sizeOf9;have hS:Tryz.prog.underlying 53=some (.struct (Tryz.prog.fieldsOf 53)):=(by kernel_rfl);have hp:Tryz.prog.stoodInHeld 53=false:=(by kernel_rfl);rw [run_eql_struct,show (10000:Nat)=9999+1 from rfl,run_equalIn_agg w 9999 53 _ _ hS hp];simp only [Program.fieldsOf,Tryz.underlying53];go_simp;by_cases h1:d=d' <;> by_cases h2:c.toList=c'.toList <;> simp [h1,h2]
theorem l8Order (d:Int) (c:ByteArray) (d':Int) (c':ByteArray) (w:World) :
  Calls Tryz.prog 143 #[.agg #[.int .i64 d,.string c],.agg #[.int .i64 d',.string c']] w fun e w'=>e = .returned (.int .i64 (ordP d c.data.toList d' c'.data.toList))∧Below w.heap.size w w':=by
 have hg:Tryz.prog.eqGuardType Tryz.prog.depth 53=false:=(by kernel_rfl);rcases Int.lt_trichotomy d d' with h | h | h
 ·have HR:=uH (ordP_lt (c:=c.data.toList) (c':=c'.data.toList) h);go_enter Tryz.func143,Tryz.ntmps143
  go_wp2;go_ret;exact ⟨ret_int HR.out.symm,by go_grown⟩
 ·subst h;have hE:=fun w=>eqPadRun d c d c' w;have HR:=uH ((ordP_eq (d:=d) (c:=c.data.toList) (c':=c'.data.toList)).trans (cb_spec _ _));by_cases hl:Op.bytesLess c.toList c'.toList=true
  ·go_enter Tryz.func143,Tryz.ntmps143
   go_wp2;go_ret;exact ⟨ret_int (by rw [HR.out,← toL,← toL,if_pos hl]),by go_grown⟩
  ·have hl':Op.bytesLess c.toList c'.toList=false:=(by simpa using hl);by_cases he:c.toList=c'.toList
   ·have HL:=uH hl';have HE:=uH he;have hb:(c.toList == c'.toList)=true:=(by simpa using he);clear hl he;go_enter Tryz.func143,Tryz.ntmps143
    go_wp2;go_ret;exact ⟨ret_int (by rw [HR.out,← toL,← toL,if_neg (by rw [HL.out];simp),if_pos HE.out]),by go_grown⟩
   ·have hb:(c.toList == c'.toList)=false:=(by simpa using he);have HL:=uH hl';have HE:=uH he;clear hl he;go_enter Tryz.func143,Tryz.ntmps143
    go_wp2;go_ret;exact ⟨ret_int (by rw [HR.out,← toL,← toL,if_neg (by rw [HL.out];simp),if_neg HE.out]),by go_grown⟩
 ·have HR:=uH (ordP_gt (c:=c.data.toList) (c':=c'.data.toList) h);have hE:=fun w=>eqPadRun d c d' c' w;have hd:(d == d')=false:=(by simp;omega);go_enter Tryz.func143,Tryz.ntmps143
  go_wp2;go_ret;exact ⟨ret_int HR.out.symm,by go_grown⟩

section
variable {P:Program} (w:World)
theorem run_append_of_nil (base:Nat) (t ty e:TypeId) (i:TypeInfo) (size:Nat) (ht:P.underlying t=some (.slice e)) (hi:P.info? e=some i)
  (v:Value) (n:Nat) (xs:List Value) (hown:w.ownsRow base e size v n xs) (c:Nat):(Builtin.append_ #[t,t] ty #[v,.slice none 0 c]).run P w = .ok v w:=by
 rcases hown.2 with ⟨rfl,rfl⟩ | ⟨g,cap,cur,rfl,_,_,hnc,_⟩
 ·simp [Builtin.append_,run_underlying ht,sizeOf,typeInfo,hi,Builtin.lenOf,Builtin.firstCells]
 ·simp [Builtin.append_,run_underlying ht,sizeOf,typeInfo,hi,Builtin.lenOf,Builtin.firstCells,hnc,storeCells]
theorem run_append_any (base:Nat) (t ty e:TypeId) (i:TypeInfo) (z:Value) (size bytes:Nat) (ht:P.underlying t=some (.slice e)) (hi:P.info? e=some i) (hz:i.zero=some z)
  (hsize:i.size=size) (hby:i.bytes=bytes) (hzs:z.cells.size=size) (hsz:0 < size)
  (v:Value) (n:Nat) (xs:List Value) (hown:w.ownsRow base e size v n xs)
  (B:Nat) (A:Option Addr) (m c:Nat) (news:List Value) (hr:Row w B A m size news) (h1 : ∀ u∈news,u.oneCell'=true)
  (h63:n+m≤maxLen) (hbytes:(n+m) * bytes≤140737488355328) (hbase:base≤w.heap.size) :
  ∃ v' w',(Builtin.append_ #[t,t] ty #[v,.slice A m c]).run P w = .ok v' w'∧w'.ownsRow base e size v' (n+m) (xs++news)∧w.grownBy w' v.ownBlock ∧
   (v'.ownBlock=v.ownBlock∨v'.ownBlock=some w.heap.size):=by
 rcases A with _ | ad
 ·have hm:m=0:=by
   rcases Nat.eq_zero_or_pos m with h0 | h0
   ·exact h0
   ·obtain ⟨_,_,h,_⟩:=hr.2 h0;cases h
  subst hm;have hn:news=[]:=List.eq_nil_of_length_eq_zero (by simpa using hr.1);subst hn;exact ⟨v,w,run_append_of_nil w base t ty e i size ht hi v n xs hown c,by simpa using hown,World.grownBy.refl w _,.inl rfl⟩
 ·have hcells : ∀ j u,news[j]? = some u→w.cell? (ad.add j)=some u:=by
   intro j u hu;rcases Nat.eq_zero_or_pos m with h0 | h0
   ·subst h0;have hn:news=[]:=List.eq_nil_of_length_eq_zero (by simpa using hr.1);subst hn;simp at hu
   ·obtain ⟨b,off,h,_,hc⟩:=hr.2 h0;injection h with h;subst h;have:=hc j u hu;by_cases hj:j=0
    ·subst hj;simpa [Addr.add] using this
    ·simpa [Addr.add,hj] using this
  obtain ⟨v',w',hrun,h2,h3,_,h5⟩:=run_append_own_at (P:=P) w base t ty e i z size bytes ht hi hz hsize hby hzs hsz v n xs hown ad m c news hr.1 hcells h1 h63 hbytes hbase;exact ⟨v',w',hrun,h2,h3,h5⟩
theorem wp_append_any {o:Oper} {a:Act} {K:Act→World→Prop} {Q:Exit→Act→World→Prop} (s x:Operand) (t:TypeId)
  (ho:o.op = .call { callee:=.builtin .append,args:=#[s,x],argTypes:=#[t,t] })
  (base:Nat) (e:TypeId) (i:TypeInfo) (z:Value) (size bytes:Nat) (ht:P.underlying t=some (.slice e)) (hi:P.info? e=some i) (hz:i.zero=some z)
  (hsize:i.size=size) (hby:i.bytes=bytes) (hzs:z.cells.size=size) (hsz:0 < size)
  (v:Value) (n:Nat) (xs:List Value) (hs:a.eval s=v) (hown:w.ownsRow base e size v n xs)
  (B:Nat) (A:Option Addr) (m c:Nat) (news:List Value) (hx:a.eval x = .slice A m c) (hr:Row w B A m size news) (h1 : ∀ u∈news,u.oneCell'=true)
  (h63:n+m≤maxLen) (hbytes:(n+m) * bytes≤140737488355328) (hbase:base≤w.heap.size)
  (h : ∀ v' w',w'.ownsRow base e size v' (n+m) (xs++news)→w.grownBy w' v.ownBlock→(v'.ownBlock=v.ownBlock∨v'.ownBlock=some w.heap.size)→K (a.put o.dst v') w'):o.wp P a w K Q:=by
 obtain ⟨v',w',hrun,h2,h3,h4⟩:=run_append_any (P:=P) w base t o.type e i z size bytes ht hi hz hsize hby hzs hsz v n xs hown B A m c news hr h1 h63 hbytes hbase;unfold Oper.wp execOp;simp only [ho,resolve,invoke,builtin,Sem.run_bind,Sem.run_pure,Result.andThen_ok,List.map_toArray,List.map_cons,List.map_nil,hs,hx,hrun];exact h v' w' h2 h3 h4
theorem wpList_append_any {ops:Array Oper} {rest:List Oper} {o:Oper} {a:Act} {Q:Exit→Act→World→Prop} (hgd:o.guard=none) (s x:Operand) (t:TypeId)
  (ho:o.op = .call { callee:=.builtin .append,args:=#[s,x],argTypes:=#[t,t] })
  (base:Nat) (e:TypeId) (i:TypeInfo) (z:Value) (size bytes:Nat) (ht:P.underlying t=some (.slice e)) (hi:P.info? e=some i) (hz:i.zero=some z)
  (hsize:i.size=size) (hby:i.bytes=bytes) (hzs:z.cells.size=size) (hsz:0 < size)
  (v:Value) (n:Nat) (xs:List Value) (hs:a.eval s=v) (hown:w.ownsRow base e size v n xs)
  (B:Nat) (A:Option Addr) (m c:Nat) (news:List Value) (hx:a.eval x = .slice A m c) (hr:Row w B A m size news) (h1 : ∀ u∈news,u.oneCell'=true)
  (h63:n+m≤maxLen) (hbytes:(n+m) * bytes≤140737488355328) (hbase:base≤w.heap.size)
  (h : ∀ v' w',w'.ownsRow base e size v' (n+m) (xs++news)→w.grownBy w' v.ownBlock→(v'.ownBlock=v.ownBlock∨v'.ownBlock=some w.heap.size)→wpList P ops Q rest (a.put o.dst v') w'):wpList P ops Q (o::rest) a w :=
 wpList_plain hgd fun _ hK=>wp_append_any w s x t ho base e i z size bytes ht hi hz hsize hby hzs hsz v n xs hs hown B A m c news hx hr h1 h63 hbytes hbase fun v' w' h2 h3 h4=>hK _ _ (h v' w' h2 h3 h4)
theorem step_append_any {ops:Array Oper} {o:Oper} {a:Act} {K:Act→World→Prop} {Q:Exit→Act→World→Prop} {E:Prop} (hgd:o.guard=none) (s x:Operand) (t:TypeId)
  (ho:o.op = .call { callee:=.builtin .append,args:=#[s,x],argTypes:=#[t,t] })
  (base:Nat) (e:TypeId) (i:TypeInfo) (z:Value) (size bytes:Nat) (ht:P.underlying t=some (.slice e)) (hi:P.info? e=some i) (hz:i.zero=some z)
  (hsize:i.size=size) (hby:i.bytes=bytes) (hzs:z.cells.size=size) (hsz:0 < size)
  (v:Value) (n:Nat) (xs:List Value) (hs:a.eval s=v) (hown:w.ownsRow base e size v n xs)
  (B:Nat) (A:Option Addr) (m c:Nat) (news:List Value) (hx:a.eval x = .slice A m c) (hr:Row w B A m size news) (h1 : ∀ u∈news,u.oneCell'=true)
  (h63:n+m≤maxLen) (hbytes:(n+m) * bytes≤140737488355328) (hbase:base≤w.heap.size)
  (h : ∀ v' w',w'.ownsRow base e size v' (n+m) (xs++news)→w.grownBy w' v.ownBlock→(v'.ownBlock=v.ownBlock∨v'.ownBlock=some w.heap.size)→K (a.put o.dst v') w') :
  if Region.wanted o (yielded ops a.tmps)=true then Oper.wp P o a w K Q else E:=by
 have hw:Region.wanted o (yielded ops a.tmps)=true:=(by simp [Region.wanted,hgd]);rw [if_pos hw];exact wp_append_any w s x t ho base e i z size bytes ht hi hz hsize hby hzs hsz v n xs hs hown B A m c news hx hr h1 h63 hbytes hbase h
end
end Go.Proofs.YtbkhnljaajajiaaGreatDoor
