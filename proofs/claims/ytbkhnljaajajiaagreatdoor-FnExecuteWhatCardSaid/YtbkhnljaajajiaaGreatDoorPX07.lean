/-
  Contracts and plain laws that the proofs lean on. Conditions: as each says.
-/
import Derived.Test.YtbkhnljaajajiaaGreatDoorPX06
import Derived.Laws.BitsAllLaws
import Derived.Laws.BitsLemmas
import Derived.Maps.Range
set_option maxRecDepth 100000
set_option linter.unusedSimpArgs false
set_option linter.unusedVariables false
set_option linter.unnecessarySimpa false
namespace Go.Proofs.YtbkhnljaajajiaaGreatDoor
open Go.ChangeShapes Go.WideShapes Go.ChangeAt Go.RowKit
def RdIn (w:World) (B g lim:Nat):Prop :=
 ∃ (A:Option Addr) (n c:Nat) (bs:List Int) (p:Nat),w.heap[g]? = some (.cells #[.slice A n c,.int .i64 p] 150 (0,0))∧p≤lim∧n≤2000∧BytesIn w B A n c bs∧B≤g
theorem bytesAt {w:World} {B n c:Nat} {A:Option Addr} {bs:List Int} (h:BytesIn w B A n c bs) (hn:0 < n) :
  ∃ b off,A=some ⟨b,off,none⟩∧b < B∧∀ k:Nat,k < n→w.cell? ⟨b,off+k,none⟩=some (.int .u8 (bs.getD k 0))∧0≤bs.getD k 0∧bs.getD k 0≤255:=by
 obtain ⟨h1,h2,h3,h4,h5⟩:=h;obtain ⟨b,off,e,hb,hc⟩:=h4.2 hn;refine ⟨b,off,e,hb,fun k hk=>?_⟩;have hk':k < bs.length:=(by omega);have hg:bs.getD k 0=bs[k]:=(by simp [List.getD,List.getElem?_eq_getElem hk']);refine ⟨hc k _ ?_,?_⟩
 ·have:=flat_at (ea:=fun z:Int=>[Value.int .u8 z]) (sz:=1) (fun _=>rfl) bs k bs[k] 0 (.int .u8 bs[k]) (List.getElem?_eq_getElem hk') rfl;rw [hg];simpa using this
 ·rw [hg];exact h5 _ (List.getElem_mem _)
theorem ofInt_i64 (a:Nat) (ha:a < 9223372036854775808):(BitVec.ofInt 64 (a:Int)).toNat=a:=by
 rw [BitVec.ofInt_natCast,BitVec.toNat_ofNat];exact Nat.mod_eq_of_lt (by omega)
theorem i64_xor_nat (a b:Nat) (ha:a < 9223372036854775808) (hb:b < 9223372036854775808):bits .xor .i64 (a:Int) (b:Int)=((a ^^^ b:Nat):Int):=by
 have hx:a ^^^ b < 2 ^ 63:=Nat.xor_lt_two_pow (by omega) (by omega)
 show IntKind.i64.wrap ((BitVec.ofInt 64 (a:Int) ^^^ BitVec.ofInt 64 (b:Int)).toNat:Int)=_
 rw [BitVec.toNat_xor,ofInt_i64 a ha,ofInt_i64 b hb,IntKind.wrap_i64];omega
theorem only_setCell {a w:World} {g:Nat} (h:a.grownBy w (some g)) {p:Addr} (hp:p.block=g∨a.heap.size≤p.block) (u:Value):a.grownBy (w.setCell p u) (some g) :=
 ⟨h.os,h.tape,h.output,by simpa [World.setCell] using h.size,fun i hi hne=>(Below.heap_setCell w p u i (by
  rintro rfl;rcases hp with hp | hp
  ·exact hne (by rw [hp])
  ·omega)).trans (h.block i hi hne)⟩
theorem only_drewN {a w:World} {row:Option Nat} (h:a.grownBy w row) (n:Nat):a.grownBy (w.drewN n) row:=⟨h.os,h.tape,h.output,h.size,h.block⟩
theorem BytesIn.keep {w w':World} {B n c:Nat} {A:Option Addr} {bs:List Int} (h:BytesIn w B A n c bs) (hk : ∀ p:Addr,p.block < B→w'.cell? p=w.cell? p):BytesIn w' B A n c bs :=
 ⟨h.1,h.2.1,h.2.2.1,h.2.2.2.1.keep hk,h.2.2.2.2⟩
theorem rd_step {w:World} {B g lim n c p:Nat} {A:Option Addr} {bs:List Int} (hblk:w.heap[g]? = some (.cells #[.slice A n c,.int .i64 p] 150 (0,0))) (hp:p≤lim) (hn:n≤2000) (hbs:BytesIn w B A n c bs) (hB:B≤g) (k:Nat) :
  w.grownBy ((w.setCell ⟨g,1,none⟩ (.int .i64 ((p:Int)+1))).drewN k) (some g)∧RdIn ((w.setCell ⟨g,1,none⟩ (.int .i64 ((p:Int)+1))).drewN k) B g (lim+1):=by
 refine ⟨only_drewN (only_setCell (World.grownBy.refl w _) (.inl rfl) _) k,A,n,c,bs,p+1,?_,by omega,hn,?_,hB⟩
 ·show (w.setCell ⟨g,1,none⟩ (.int .i64 ((p:Int)+1))).heap[g]? = _
  simp [World.setCell,Array.getElem?_modify,hblk]
 ·exact hbs.keep fun q hq=>World.cell?_setCell_other w _ q _ (fun e=>by subst e;simp at hq;omega)
def Picked (n:Int) (g B lim:Nat) (w:World) (e:Ending) (w':World):Prop :=
 ∃ m:Int,e = .returned (.int .i64 m)∧0≤m∧(m < n∨m=0)∧w.grownBy w' (some g)∧RdIn w' B g (lim+1)
theorem mix_nonneg (x:Int) (h0:0≤x) (h1:x≤1000000000000) : ∃ y:Nat,bits .xor .i64 x (x / 64)=(y:Int):=by
 obtain ⟨a,rfl⟩:=Int.eq_ofNat_of_zero_le h0;refine ⟨a ^^^ (a / 64),?_⟩;rw [show ((a:Int) / 64)=((a / 64:Nat):Int) by omega];exact i64_xor_nat a (a / 64) (by omega) (by omega)
theorem pick (n:Int) (g B lim:Nat) (w:World) (hn0:0≤n) (hn:n≤1000000) (hl:lim≤1000000000) (hr:RdIn w B g lim) :
  Calls Tryz.prog 43 #[.pointer (some ⟨g,0,none⟩),.int .i64 n] w (Picked n g B lim w):=by
 obtain ⟨A,len,cap,bs,p,hblk,hp,hlen,hbs,hB⟩:=hr;have hg0:w.cell? ⟨g,0,none⟩=some (.slice A len cap):=(by simp [World.cell?,hblk]);have hg1:w.cell? ⟨g,1,none⟩=some (.int .i64 p):=(by simp [World.cell?,hblk]);have hf1:w.frozen? ⟨g,1,none⟩=false:=(by simp [World.frozen?,hblk]);have HR:Hid (∀ k,w.grownBy ((w.setCell ⟨g,1,none⟩ (.int .i64 ((p:Int)+1))).drewN k) (some g)∧RdIn ((w.setCell ⟨g,1,none⟩ (.int .i64 ((p:Int)+1))).drewN k) B g (lim+1)) :=
  uH (fun k=>rd_step hblk hp hlen hbs hB k)
 by_cases hn1:n < 1
 ·clear hblk hbs;go_enter Tryz.func43,Tryz.ntmps43
  go_wp2;go_ret;exact ⟨0,rfl,by omega,.inr rfl,HR.out 0⟩
 by_cases hl0:len=0
 ·subst hl0;clear hblk hbs;go_enter Tryz.func43,Tryz.ntmps43
  go_wp2;go_ret;exact ⟨0,rfl,by omega,.inr rfl,HR.out 0⟩
 have hpos:0 < len:=(by omega);have hle0:((len:Int) == 0)=false:=(by simp;omega);have hn1':1≤n:=(by omega);clear hn1 hl0;obtain ⟨b,off,rfl,hb,hcell⟩:=bytesAt hbs hpos;have HC:Hid (∀ k:Nat,k < len→(w.setCell ⟨g,1,none⟩ (.int .i64 ((p:Int)+1))).cell? ⟨b,off+k,none⟩=some (.int .u8 (bs.getD k 0))∧0≤bs.getD k 0∧bs.getD k 0≤255):=uH (fun k hk=>by
  rw [World.cell?_setCell_other w _ _ _ (fun e=>by injection e with e1;omega)];exact hcell k hk)
 clear hblk hbs hcell;by_cases hk:p < len
 ·obtain ⟨hc,h0,h1⟩:=HC.out p hk;generalize bs.getD p 0=z at *;go_enter Tryz.func43,Tryz.ntmps43
  go_wp2;go_ret;exact ⟨z % n,rfl,Int.emod_nonneg _ (by omega),.inl (Int.emod_lt_of_pos _ (by omega)),HR.out 0⟩
 ·have hq1:p % len < len:=Nat.mod_lt _ hpos;have hq2:(p * 7+3) % len < len:=Nat.mod_lt _ hpos;obtain ⟨hc,h0,h1⟩:=HC.out _ hq1;obtain ⟨hc',h0',h1'⟩:=HC.out _ hq2;generalize bs.getD (p % len) 0=z at *;generalize bs.getD ((p * 7+3) % len) 0=z' at *;go_enter Tryz.func43,Tryz.ntmps43
  go_wp2;have e1:IntKind.i64.wrap ((p:Int) * 7)=(p:Int) * 7:=IntWalk.i64_in _ (by omega);have e2:IntKind.i64.wrap ((p:Int) * 7+3)=(p:Int) * 7+3:=IntWalk.i64_in _ (by omega);have f1:0≤((p:Int) * 7+3) % (len:Int):=Int.emod_nonneg _ (by omega);have f2:((p:Int) * 7+3) % (len:Int) < (len:Int):=Int.emod_lt_of_pos _ (by omega);have f3:(((p:Int) * 7+3) % (len:Int)).toNat=(p * 7+3) % len:=by
   rw [show ((p:Int) * 7+3)=((p * 7+3:Nat):Int) by omega,← Int.natCast_emod];rfl
  have d0:0≤(p:Int) / (len:Int):=Int.ediv_nonneg (by omega) (by omega);have d1:(p:Int) / (len:Int)≤1000000000:=by
   have:=Int.ediv_le_self (a:=(p:Int)) (len:Int) (by omega);omega
  refine wp_region_quiet_lit (by kernel_rfl) (by kernel_rfl) ?_;repeat (first | go_big_quiet_step (fail) | quiet_step (fail))
  refine wpQuiet_nil ?_;intro _ hw';obtain ⟨nq,hw''⟩:=hw';subst hw'';clear e1 e2 f1 f2 f3 hc hc';obtain ⟨x,ex⟩ : ∃ x:Int,x=z * 131+z' * 1117+↑p * 29+(↑p / ↑len) * 53:=⟨_,rfl⟩;rw [← ex];have x0:0≤x:=(by omega);have x1:x≤1000000000000:=(by omega);clear ex d0 d1 h0 h1 h0' h1';obtain ⟨y,hy⟩:=mix_nonneg x x0 x1;go_wp2;go_ret;exact ⟨(y:Int) % n,rfl,Int.emod_nonneg _ (by omega),.inl (Int.emod_lt_of_pos _ (by omega)),HR.out nq⟩
theorem ocell {w w':World} {g:Nat} {a:Addr} {v:Value} (h:w.grownBy w' (some g)) (hc:w.cell? a=some v) (hne:a.block≠g):w'.cell? a=some v:=by
 rw [World.cell?_of_block (h.block a.block (World.block_lt_of_cell? _ _ hc) (fun e=>hne (by injection e)))];exact hc
theorem RdIn.lt {w:World} {B g lim:Nat} (h:RdIn w B g lim):g < w.heap.size:=by
 obtain ⟨A,n,c,bs,p,h,_⟩:=h;rcases Nat.lt_or_ge g w.heap.size with hlt | hge
 ·exact hlt
 ·rw [Array.getElem?_eq_none hge] at h;cases h
theorem RdIn.more {w:World} {B g lim lim':Nat} (h:RdIn w B g lim) (hl:lim≤lim'):RdIn w B g lim':=by
 obtain ⟨A,n,c,bs,p,h1,h2,h3⟩:=h;exact ⟨A,n,c,bs,p,h1,by omega,h3⟩
theorem RdIn.below {w w':World} {B g lim:Nat} (h:RdIn w B g lim) (hb:Below w.heap.size w w'):RdIn w' B g lim:=by
 have hlt:=h.lt;obtain ⟨A,n,c,bs,p,h1,h2,h3,h4,h5⟩:=h;exact ⟨A,n,c,bs,p,(hb.block g hlt).trans h1,h2,h3,h4.keep (fun q hq=>hb.cell (by omega)),h5⟩
def StrsAt (w:World) (b:Nat) (ss:List ByteArray):Prop:=∀ (k:Nat) s,ss[k]? = some s→w.cell? ⟨b,k,none⟩=some (.string s)
theorem StrsAt.new (w:World) (l:List ByteArray) (cs:Array Value) (t:TypeId) (h:cs=(l.map Value.string).toArray):StrsAt (w.alloc (.cells cs t)) w.heap.size l:=by
 intro k s hk;subst h;exact newcell w _ t k _ (by simp [hk])
def OneOf (ss:List ByteArray) (B g lim:Nat) (w:World) (e:Ending) (w':World):Prop :=
 ∃ s,s∈ss∧e = .returned (.string s)∧w.grownBy w' (some g)∧RdIn w' B g (lim+1)
theorem pickOf (b g B lim n c:Nat) (ss:List ByteArray) (w:World) (hn:n=ss.length) (hn0:0 < n) (hn1:n≤1000) (hl:lim≤1000000000) (hr:RdIn w B g lim) (hs:StrsAt w b ss) (hne:b≠g) :
  Calls Tryz.prog 96 #[.pointer (some ⟨g,0,none⟩),.slice (some ⟨b,0,none⟩) n c] w (OneOf ss B g lim w):=by
 have HS:=uH hs;clear hs;have HN:=uH hn;clear hn;go_enter Tryz.func96,Tryz.ntmps96
 (go_wp2_with fail);refine (pick (n:Int) g B lim _ (by omega) (by omega) hl hr).mono ?_;rintro e w1 ⟨m,rfl,hm0,hm1,hg1,hr1⟩;obtain ⟨k,rfl⟩:=Int.eq_ofNat_of_zero_le hm0;have hk:k < n:=(by omega);have hk':k < ss.length:=(by have:=HN.out;omega);obtain ⟨s,hs⟩ : ∃ s,ss[k]? = some s:=⟨_,List.getElem?_eq_getElem hk'⟩;have hmem:s∈ss:=List.mem_of_getElem? hs;have hc:w1.cell? ⟨b,k,none⟩=some (.string s):=ocell hg1 (HS.out k s hs) hne;have HG:=uH hg1;have HR:=uH hr1;have HM:=uH hmem;clear hs hg1 hr1 hmem hm1 hk';go_wp2;go_ret;exact ⟨s,HM.out,rfl,HG.out,HR.out⟩
theorem BytesIn.take {w:World} {B n c:Nat} {A:Option Addr} {bs:List Int} (h:BytesIn w B A n c bs) {m:Nat} (hm:m≤n):BytesIn w B A m c (bs.take m):=by
 obtain ⟨h1,h2,h3,h4,h5⟩:=h;refine ⟨by rw [List.length_take];omega,by omega,h3,⟨by rw [flat_len (sz:=1) (fun _=>rfl),List.length_take];omega,fun hp=>?_⟩,fun z hz=>h5 z (List.mem_of_mem_take hz)⟩;obtain ⟨b,off,e,hb,hc⟩:=h4.2 (by omega);refine ⟨b,off,e,hb,fun j u hu=>hc j u ?_⟩;obtain ⟨i,q,k,e1,e2,rfl⟩:=flat_get (sz:=1) (fun _=>rfl) _ j u hu;refine flat_at (sz:=1) (fun _=>rfl) bs i q k u ?_ e2;rw [List.getElem?_take] at e1;split at e1
 ·exact e1
 ·cases e1
theorem l6Open (A:Option Addr) (n c:Nat) (bs:List Int) (B:Nat) (w:World) (hB:B≤w.heap.size) (hb:BytesIn w B A n c bs) :
  Calls Tryz.prog 42 #[.slice A n c] w fun e w'=>e = .returned (.pointer (some ⟨w.heap.size,0,none⟩))∧Below w.heap.size w w'∧RdIn w' B w.heap.size 0:=by
 have hm:=hb.2.2.1;have hnc:=hb.2.1;unfold maxLen at hm;by_cases hn:n≤2000
 ·have HB:=uH hb;clear hb;go_enter Tryz.func42,Tryz.ntmps42
  go_wp2;go_ret;refine ⟨rfl,by go_grown,A,n,c,bs,0,heap_alloc_new _ _,Nat.le_refl _,hn,HB.out.keep (fun q hq=>World.cell?_alloc_lt _ _ _ (by omega)),hB⟩
 ·have HB:=uH hb;clear hb;go_enter Tryz.func42,Tryz.ntmps42
  go_wp2;go_ret;exact ⟨rfl,by go_grown,A,2000,c,bs.take 2000,0,heap_alloc_new _ _,Nat.le_refl _,Nat.le_refl _,(HB.out.take (by omega)).keep (fun q hq=>World.cell?_alloc_lt _ _ _ (by omega)),hB⟩
theorem RdIn.alloc {w:World} {B g lim:Nat} (h:RdIn w B g lim) (o:Obj):RdIn (w.alloc o) B g lim:=h.below ((Below.refl _ _).alloc (Nat.le_refl _) o)
theorem RdIn.setCell {w:World} {B g lim:Nat} (h:RdIn w B g lim) {p:Addr} (hp:p.block≠g) (hB:B≤p.block) (u:Value):RdIn (w.setCell p u) B g lim:=by
 obtain ⟨A,n,c,bs,q,h1,h2,h3,h4,h5⟩:=h;exact ⟨A,n,c,bs,q,(Below.heap_setCell w p u g (Ne.symm hp)).trans h1,h2,h3,h4.keep (fun x hx=>World.cell?_setCell_other w _ x _ (fun e=>by subst e;omega)),h5⟩
theorem RdIn.ne_own {w:World} {B g lim:Nat} (h:RdIn w B g lim) {B' n sz:Nat} {e:TypeId} {v:Value} {xs:List Value} (ho:w.ownsRow B' e sz v n xs) (hne:e≠150) : ∀ b,v.ownBlock=some b→some g≠some b:=by
 intro b hb e;injection e with e;subst e;obtain ⟨A,n,c,bs,p,h1,_⟩:=h;obtain ⟨cur,h2⟩:=own_obj ho hb;rw [h1] at h2;injection h2 with h2;injection h2 with _ h2;exact hne h2.symm
theorem RdIn.only {w w':World} {B g lim:Nat} {row:Option Nat} (h:RdIn w B g lim) (hg:w.grownBy w' row) (h1 : ∀ q,row=some q→some g≠some q) (h2 : ∀ q,row=some q→B≤q) (hB:B≤w.heap.size):RdIn w' B g lim:=by
 obtain ⟨A,n,c,bs,p,e1,e2,e3,e4,e5⟩:=h;refine ⟨A,n,c,bs,p,?_,e2,e3,e4.keep (fun q hq=>?_),e5⟩
 ·have hlt:g < w.heap.size:=by
   rcases Nat.lt_or_ge g w.heap.size with hlt | hge
   ·exact hlt
   ·rw [Array.getElem?_eq_none hge] at e1;cases e1
  exact (hg.block g hlt (fun e=>h1 g e.symm rfl)).trans e1
 ·exact World.cell?_of_block (hg.block q.block (by omega) (fun e=>by have:=h2 q.block e.symm;omega))
theorem CabOwn.only {w w':World} {B:Nat} {v:Value} {ds:List Drawer} {row:Option Nat} (h:CabOwn w B v ds) (hg:w.grownBy w' row) (h0 : ∀ b,v.ownBlock=some b→row≠some b) (h1 : ∀ d∈ds,∀ b,d.v.ownBlock=some b→row≠some b):CabOwn w' B v ds :=
 h.congr (fun b hb=>hg.block b (own_lt h.1 hb) (fun e=>h0 b hb e.symm)) fun d hd b hb=>hg.block b (own_lt (h.2.1 d hd).2.1 hb) (fun e=>h1 d hd b hb e.symm)
theorem RdIn.cab {w w':World} {B B' g lim:Nat} {v:Value} {ds:List Drawer} (hr:RdIn w B g lim) (h:CabOwn w B' v ds) (hg:w.grownBy w' (some g)):CabOwn w' B' v ds :=
 h.only hg (fun b hb=>hr.ne_own h.1 (by decide) b hb) (fun d hd b hb=>hr.ne_own (h.2.1 d hd).2.1 (by decide) b hb)
theorem CabOwn.head {w:World} {B:Nat} {v:Value} {d:Drawer} {r:List Drawer} (h:CabOwn w B v (d::r)):(∀ d'∈r,∀ b,d'.v.ownBlock=some b→d.v.ownBlock≠some b):=by
 intro d' hd' b hb e;have h3:=h.2.2;rw [List.filterMap_cons,e] at h3;exact (List.nodup_cons.1 h3).1 (List.mem_filterMap.2 ⟨d',hd',hb⟩)

end Go.Proofs.YtbkhnljaajajiaaGreatDoor
