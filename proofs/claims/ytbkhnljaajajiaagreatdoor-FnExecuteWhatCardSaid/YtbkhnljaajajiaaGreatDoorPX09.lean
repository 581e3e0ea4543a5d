/-
  Contracts and plain laws that the proofs lean on. Conditions: as each says.
-/
import Derived.Test.YtbkhnljaajajiaaGreatDoorPX05
import Derived.Test.YtbkhnljaajajiaaGreatDoorPX08
import Derived.Lib.ItoaLen
import Derived.Shelf.Abstract
import Derived.Laws.IdiomCopy
import Derived.Lib.SliceRun
import Derived.Lib.Overlaps
import Derived.Lib.AppendZerosOnto
import Derived.Laws.CopyRow
import Derived.Laws.CopyOwn
import Derived.Shelf.Spec.SlicesInsert
set_option maxRecDepth 100000
set_option linter.unusedSimpArgs false
set_option linter.unusedVariables false
set_option linter.unnecessarySimpa false
namespace Go.Proofs.YtbkhnljaajajiaaGreatDoor
open Go.ChangeShapes Go.WideShapes Go.ChangeAt Go.RowKit
theorem dec_step {n:Nat} (h : ¬ n < 10):Lib.decDigits n=Lib.decDigits (n / 10)++[UInt8.ofNat (48+n % 10)]:=by rw [Lib.decDigits,dif_neg h]
theorem dec_len {n:Nat} (h:n≤9223372036854775807):(Lib.decDigits n).length≤20:=by
 rw [Lib.decDigits_length];exact Lib.nDigits_le20 n (by omega)
theorem convAt (w:World) (l:List UInt8) (b n:Nat) (hn:l.length=n) (h : ∀ j (hj:j < l.length),w.cell? ⟨b,j,none⟩=some (.int .u8 (l[j].toNat:Int))) :
  (convert 22 9 (.slice (some ⟨b,0,none⟩) n n)).run Tryz.prog w = .ok (.string (mkStr l)) w:=by
 subst hn;refine run_convert_bytes_back (P:=Tryz.prog) w 22 9 5 ⟨b,0,none⟩ l.length l Tryz.underlying22 Tryz.underlying5 Tryz.underlying9 (fun j hj=>?_);by_cases h0:j=0
 ·subst h0;simpa [Addr.add] using h 0 hj
 ·simpa [Addr.add,h0] using h j hj
end Go.Proofs.YtbkhnljaajajiaaGreatDoor
namespace Go.Proofs.YtbkhnljaajajiaaGreatDoor
open Go.ChangeShapes Go.WideShapes Go.ChangeAt Go.RowKit Go.Shelf
def padV (p:Pad):Value:=.agg #[.int .i64 p.day,.string p.case]
def PredPad (g:Nat) (cb:Array Value) (p:Pad→Bool) (w:World) (row:Option Nat):Prop :=
 ∀ (W:World) (x:Pad),w.grownBy W row→x.good→Calls Tryz.prog g (#[padV x]++cb) W fun e w'=>e = .returned (.bool (p x))∧Below W.heap.size W w'
def IdxP {α:Type} (p:α→Bool) (n:Nat) (at_:Nat→α) (r:Int):Prop :=
 (r = -1∧∀ j,j < n→p (at_ j)=false)∨∃ k:Nat,r=k∧k < n∧p (at_ k)=true∧∀ j,j < k→p (at_ j)=false
theorem idxFuncPad (g:Nat) (cb:Array Value) (p:Pad→Bool) (row:Option Nat) (eg : ∀ args w,(callFunc g args).run Tryz.prog w = .ok (.enter g args) w) (A:Option Addr) (n c:Nat) (ps:List Pad) (w:World) (hp:PredPad g cb p w row) (h:PadsIn w w.heap.size A n c ps) :
  Calls Tryz.prog 259 #[.slice A n c,.func (.func g) #[] cb] w fun e w'=>∃ r,e = .returned (.int .i64 r)∧IdxP p n (padAt ps) r∧Below w.heap.size w w':=by
 have hm:=h.2.2.1;have hnc:=h.2.1;unfold maxLen at hm;have H:=uH h;clear h;have HP:=uH hp;clear hp;go_enter Tryz.func259,Tryz.ntmps259
 go_wp2;go_loopw [5,8] (fun _ i wr=>∃ (k:Nat),k≤n∧i = .int .i64 k∧Hid (∀ j,j < k→p (padAt ps j)=false)∧Below w.heap.size w wr) (fun _ i _=>n - (intOf i).toNat)
 case atStart=>exact ⟨0,Nat.zero_le _,rfl,uH (fun j hj=>absurd hj (by omega)),Below.refl _ _⟩
 case round =>
  obtain ⟨k,hk,rfl,hF,hb⟩:=hrel;by_cases hlt:k < n
  ·obtain ⟨b,off,eA,hbB,c0,c1,hg⟩:=(H.out.below hb).at_ hlt;have hcall:=HP.out wr (padAt ps k) (Below.only hb) hg;subst eA;unfold padV at hcall;cases hq:p (padAt ps k) with
   | true =>
    rw [hq] at hcall;have HA:Hid (IdxP p n (padAt ps) k):=uH (.inr ⟨k,rfl,hlt,hq,hF.out⟩);have HC:=uH hcall;clear hcall hq;generalize padAt ps k=x at *;go_wp2_with (go_at_fn g;refine HC.out.mono ?_;rintro e w1 ⟨rfl,hb1⟩)
    have b1:=hb.trans (hb1.mono hb.size);go_ret;exact ⟨_,rfl,HA.out,b1⟩
   | false =>
    rw [hq] at hcall;have HF:Hid (∀ j,j < k+1→p (padAt ps j)=false):=uH (fun j hj=>by
     by_cases hjk:j < k
     ·exact hF.out j hjk
     ·obtain rfl:j=k:=(by omega);exact hq)
    have HC:=uH hcall;clear hcall hq;generalize padAt ps k=x at *;go_wp2_with (go_at_fn g;refine HC.out.mono ?_;rintro e w1 ⟨rfl,hb1⟩)
    have b1:=hb.trans (hb1.mono hb.size);go_roundw
    case rel=>exact ⟨k+1,by omega,by go_num,HF,b1⟩
    case measure=>simp [intOf];omega
  ·obtain rfl:k=n:=(by omega);have HA:Hid (IdxP p k (padAt ps) (-1)):=uH (.inl ⟨rfl,hF.out⟩);go_wp2;go_ret;exact ⟨_,rfl,HA.out,hb⟩
section
variable {α:Type} {enc:α→List Value} {sz:Nat}
def DelInv (enc:α→List Value) (sz:Nat) (keep:α→Bool) (xs:List α) (cur:Array Value) (cap i j:Nat):Prop :=
 cur.size=cap * sz∧cur.toList.take (i * sz)=((xs.take j).filter keep).flatMap enc∧((xs.take j).filter keep).length=i ∧
  ∀ (t:Nat) (x:α),j≤t→xs[t]? = some x→∀ q,q < sz→cur[t * sz+q]? = (enc x)[q]?
theorem DelInv.start (hl : ∀ a,(enc a).length=sz) {keep:α→Bool} {xs:List α} {cur:Array Value} {cap k:Nat} (hs:cur.size=cap * sz) (ht:cur.toList.take (xs.length * sz)=xs.flatMap enc) (hk:k≤xs.length) (hkeep : ∀ x∈xs.take k,keep x=true) :
  DelInv enc sz keep xs cur cap k k:=by
 have hf:(xs.take k).filter keep=xs.take k:=List.filter_eq_self.2 hkeep;have hsp:xs.flatMap enc=(xs.take k).flatMap enc++(xs.drop k).flatMap enc:=(by rw [← List.flatMap_append,List.take_append_drop]);have hlen:((xs.take k).flatMap enc).length=k * sz:=(by rw [flat_len hl,List.length_take,Nat.min_eq_left hk]);refine ⟨hs,?_,by rw [hf,List.length_take,Nat.min_eq_left hk],?_⟩
 ·rw [hf];have h1:(cur.toList.take (xs.length * sz)).take (k * sz)=(xs.flatMap enc).take (k * sz):=(by rw [ht]);rw [List.take_take,Nat.min_eq_left (Nat.mul_le_mul_right _ hk)] at h1;rw [h1,hsp,List.take_append_of_le_length (by omega),List.take_of_length_le (by omega)]
 ·intro t x _ hx q hq;have hlt:t < xs.length:=(List.getElem?_eq_some_iff.1 hx).1;have hex:(enc x)[q]? = some ((enc x)[q]'(by rw [hl];exact hq)):=List.getElem?_eq_getElem _;have h1:=flat_at hl xs t x q _ hx hex;rw [← ht] at h1;have hm:t * sz+q < xs.length * sz:=by
   have:(t+1) * sz≤xs.length * sz:=Nat.mul_le_mul_right _ hlt;rw [Nat.succ_mul] at this;omega
  rw [List.getElem?_take_of_lt hm,Array.getElem?_toList] at h1;rw [h1,hex]
theorem DelInv.skip {keep:α→Bool} {xs:List α} {cur:Array Value} {cap i j:Nat} {x:α} (h:DelInv enc sz keep xs cur cap i j) (hx:xs[j]? = some x) (hk:keep x=false):DelInv enc sz keep xs cur cap i (j+1):=by
 have he:(xs.take (j+1)).filter keep=(xs.take j).filter keep:=(by rw [take_step hx,List.filter_append];simp [hk]);exact ⟨h.1,by rw [he];exact h.2.1,by rw [he];exact h.2.2.1,fun t y ht=>h.2.2.2 t y (by omega)⟩
theorem DelInv.put (hl : ∀ a,(enc a).length=sz) {keep:α→Bool} {xs:List α} {cur cur':Array Value} {cap i j:Nat} {x:α} (h:DelInv enc sz keep xs cur cap i j) (hij:i≤j) (hx:xs[j]? = some x) (hk:keep x=true) (hc:xs.length≤cap)
  (h1:cur'.size=cur.size) (h2 : ∀ q,q < sz→cur'[i * sz+q]? = (enc x)[q]?) (h3 : ∀ m,m < i * sz∨(i+1) * sz≤m→cur'[m]? = cur[m]?):DelInv enc sz keep xs cur' cap (i+1) (j+1):=by
 have he:(xs.take (j+1)).filter keep=(xs.take j).filter keep++[x]:=(by rw [take_step hx,List.filter_append];simp [hk]);have hlt:j < xs.length:=(List.getElem?_eq_some_iff.1 hx).1;have hsz:(i+1) * sz≤cur'.size:=(by rw [h1,h.1];exact Nat.mul_le_mul_right _ (by omega));have hmul:(i+1) * sz=i * sz+sz:=Nat.succ_mul i sz;refine ⟨by rw [h1,h.1],?_,by rw [he,List.length_append,h.2.2.1];rfl,?_⟩
 ·rw [he,List.flatMap_append,← h.2.1];have hl1:(cur.toList.take (i * sz)).length=i * sz:=(by rw [List.length_take,Array.length_toList];omega);have hl2:([x].flatMap enc)=enc x:=(by simp);rw [hl2];apply List.ext_getElem?;intro m;rcases Nat.lt_or_ge m (i * sz) with hm | hm
  ·rw [List.getElem?_append_left (by omega),List.getElem?_take_of_lt hm,List.getElem?_take_of_lt (by omega),Array.getElem?_toList,Array.getElem?_toList,h3 m (.inl hm)]
  ·rw [List.getElem?_append_right (by omega),hl1];rcases Nat.lt_or_ge m ((i+1) * sz) with hm2 | hm2
   ·rw [List.getElem?_take_of_lt hm2,Array.getElem?_toList,← h2 (m - i * sz) (by omega)];congr 1;omega
   ·rw [List.getElem?_eq_none (by rw [List.length_take];omega),List.getElem?_eq_none (by rw [hl];omega)]
 ·intro t y ht hy q hq;rw [h3 _ (.inr (by
   have:(i+1) * sz≤t * sz:=Nat.mul_le_mul_right _ (by omega);omega))]
  exact h.2.2.2 t y (by omega) hy q hq
end
theorem Blk.cells {b:Nat} {t:TypeId} : ∀ (vs:List Value) (o:Nat) {w:World} {cs:Array Value},Blk w b t cs→∃ cs',Blk (w.setCells b o vs) b t cs'∧cs'.size=cs.size∧∀ j,j < o→cs'[j]? = cs[j]?
 | [],_,_,cs,h=>⟨cs,h,rfl,fun _ _=>rfl⟩
 | v::r,o,_,_,h=>by
  obtain ⟨cs',h1,h2,h3⟩:=Blk.cells r (o+1) (h.set o v);refine ⟨cs',h1,by rw [h2];simp,fun j hj=>?_⟩;rw [h3 j (by omega),Array.getElem?_setIfInBounds_ne (by omega)]
theorem only_setCells {a:World} {g:Nat} : ∀ (vs:List Value) (o:Nat) {w:World},a.grownBy w (some g)→a.grownBy (w.setCells g o vs) (some g)
 | [],_,_,h=>h
 | v::r,o,_,h=>only_setCells r (o+1) (only_set h rfl v)
theorem run_clear_any {P:Program} (w:World) (n:Nat) (t e ty:TypeId) (z:Value) (ht:P.underlying t=some (.slice e)) (hv : ∀ w,(zeroValue e).run P w = .ok z w) (h1 : ∀ v∈(Builtin.zeroCells z.cells n).toList,v.oneCell'=true) (b o c:Nat) (hn:0 < n)
  (hc : ∀ j,j < (Builtin.zeroCells z.cells n).toList.length→(w.cell? ⟨b,o+j,none⟩).isSome=true) (hf : ∀ j,w.frozen? ⟨b,o+j,none⟩=false) :
  (Builtin.clear_ #[t] ty #[.slice (some ⟨b,o,none⟩) n c]).run P w = .ok (.tuple #[]) (w.setCells b o (Builtin.zeroCells z.cells n).toList):=by
 have hst:=run_storeCells_cells (P:=P) b o (Builtin.zeroCells z.cells n).toList 0 w (by simpa using hc) (by intro j _;simpa using hf j) h1;simp only [Nat.add_zero] at hst;obtain ⟨m,rfl⟩ : ∃ m,n=m+1:=⟨n - 1,by omega⟩;simp [Builtin.clear_,run_underlying ht,hv,hst]
theorem zeroPad : ∀ w,(zeroValue 53).run Tryz.prog w = .ok (.agg #[.int .i64 0,.string ByteArray.empty]) w:=fun w=>by kernel_rfl
def zPad:Value:=.agg #[.int .i64 0,.string ByteArray.empty]
theorem zPad_len (n:Nat):(Builtin.zeroCells zPad.cells n).toList.length=n * 2:=by simp [Builtin.zeroCells,zPad,Value.cells]
theorem zPad_one (n:Nat) : ∀ v∈(Builtin.zeroCells zPad.cells n).toList,v.oneCell'=true:=by
 intro v hv;simp only [Builtin.zeroCells,zPad,Value.cells,Array.toList_map,List.mem_map] at hv;obtain ⟨i,_,rfl⟩:=hv;have:i % 2=0∨i % 2=1:=(by omega);rcases this with h | h <;> simp [h,Value.oneCell']
def DelAns (w w':World) (B:Nat) (v:Value) (ps:List Pad) (e:Ending):Prop :=
 ∃ A c,e = .returned (.slice A ps.length c)∧PadsOwn w' B (.slice A ps.length c) ps∧(Value.slice A ps.length c).ownBlock=v.ownBlock∧w.grownBy w' v.ownBlock
theorem delPads (g:Nat) (cb:Array Value) (p:Pad→Bool) (eg : ∀ args w,(callFunc g args).run Tryz.prog w = .ok (.enter g args) w) (A:Option Addr) (n c B:Nat) (ps:List Pad) (w:World) (hn:ps.length=n) (hn1:n≤1048576)
  (hgood : ∀ x∈ps,x.good) (hp:PredPad g cb p w (Value.slice A n c).ownBlock) (h:PadsOwn w B (.slice A n c) ps) :
  Calls Tryz.prog 240 #[.slice A n c,.func (.func g) #[] cb] w fun e w'=>DelAns w w' B (.slice A n c) (ps.filter fun x=>!p x) e:=by
 have hR:=h.reads hn hgood;have HI:=uH (idxFuncPad g cb p (Value.slice A n c).ownBlock eg A n c ps w hp hR);have HG:=uH hgood;clear hgood;have HPd:=uH hp;clear hp;have HO:=uH h;have hcm:=hR.2.2.1;have hnc:=hR.2.1;unfold maxLen at hcm;have HN:=uH hn;clear hn;clear hR;go_enter Tryz.func240,Tryz.ntmps240
 (go_wp2_with fail);refine HI.out.mono ?_;rintro e w1 ⟨r,rfl,hr,b1⟩;rcases hr with ⟨rfl,hno⟩ | ⟨k,rfl,hkn,hyes,hno⟩
 ·have HF:Hid (ps.filter (fun x=>!p x)=ps):=uH (List.filter_eq_self.2 (fun x hx=>by
   obtain ⟨i,hi,rfl⟩:=List.getElem_of_mem hx;have:=hno i (by rw [← HN.out];exact hi);rw [show padAt ps i=ps[i] by unfold padAt;simp [List.getD,List.getElem?_eq_getElem hi]] at this;simp [this]))
  have HW:=uH (HO.out.keep b1);clear hno;go_wp2;go_ret;rw [HF.out];exact ⟨A,c,by rw [HN.out];rfl,by rw [HN.out];exact HW.out,by rw [HN.out],Below.only b1⟩
 ·unfold PadsOwn at h;rw [HN.out] at h;rcases h.2 with ⟨e,e0⟩ | ⟨gb,cap,cur,e,hg,hB,_,_,hcs,ht⟩
  ·omega
  injection e with e1 e2 e3;subst e1 e3;have hD0:DelInv padC 2 (fun x=>!p x) ps cur c k k:=DelInv.start padC_len hcs (by rw [HN.out];exact ht) (by rw [HN.out];omega) (fun x hx=>by
   obtain ⟨i,hi,rfl⟩:=List.getElem_of_mem hx;simp only [List.length_take] at hi;have:=hno i (by omega);rw [List.getElem_take];rw [show padAt ps i=ps[i] by unfold padAt;simp [List.getD,List.getElem?_eq_getElem (show i < ps.length by omega)]] at this;simp [this])
  have hD1:=uH (hD0.skip (padAt_some (by rw [HN.out];exact hkn)) (by simp [hyes]));have hB1:=uH (Blk.below (show Blk w gb 53 cur from hB) b1);have hG1:=uH (Below.only (row:=some gb) b1);have HP:Hid (PredPad g cb p w (some gb)):=uH HPd.out;have hk1:((k:Int) == -1)=false:=(by simp);clear h hD0 hB ht hcs hno hyes HPd HI;go_wp2;go_loopw [5,6] (fun a i wr=>∃ (q j:Nat) (cs:Array Value),q < j∧j≤n∧a = .int .i64 q∧i = .int .i64 j∧Hid (Blk wr gb 53 cs)∧Hid (DelInv padC 2 (fun x=>!p x) ps cs c q j)∧Hid (w.grownBy wr (some gb))) (fun _ i _=>n - (intOf i).toNat)
  case atStart=>exact ⟨k,k+1,cur,by omega,by omega,rfl,by go_num,hB1,hD1,hG1⟩
  case round =>
   obtain ⟨q,j,cs,hqj,hj,rfl,rfl,hC,hD,hG⟩:=hrel;by_cases hlt:j < n
   ·have hjl:j < ps.length:=(by rw [HN.out];exact hlt);have hx:=padAt_some hjl;have c0:wr.cell? ⟨gb,j * 2,none⟩=some (.int .i64 (padAt ps j).day):=by
     rw [hC.out.cell];exact hD.out.2.2.2 j _ (Nat.le_refl _) hx 0 (by omega)
    have c1:wr.cell? ⟨gb,j * 2+1,none⟩=some (.string (padAt ps j).case):=by
     rw [hC.out.cell];exact hD.out.2.2.2 j _ (Nat.le_refl _) hx 1 (by omega)
    have hgx:=HG.out _ (padAt_mem hjl);have hal:wr.grownBy (wr.alloc (.cells #[.int .i64 (padAt ps j).day,.string (padAt ps j).case] 53)) (some gb):=Below.only ((Below.refl _ _).alloc (Nat.le_refl _) _);have hcall:=HP.out _ (padAt ps j) (only_next hG.out hal) hgx;unfold padV at hcall;cases hq:p (padAt ps j) with
    | true =>
     rw [hq] at hcall;have HC:=uH hcall;have HD:=uH (hD.out.skip hx (by simp [hq]));have HB:=uH (hC.out.alloc (.cells #[.int .i64 (padAt ps j).day,.string (padAt ps j).case] 53));have HGr:=uH (only_next hG.out hal);clear hcall hq hx hgx hjl hC hD hG hal;generalize padAt ps j=x at *;go_wp2_with (go_at_fn g;refine HC.out.mono ?_;rintro e w2 ⟨rfl,hb2⟩)
     have HB2:=uH (HB.out.below hb2);have HG2:=uH (only_next HGr.out (Below.only hb2));go_roundw
     case rel=>exact ⟨q,j+1,cs,by omega,by omega,rfl,by go_num,HB2,HD,HG2⟩
     case measure=>simp [intOf];omega
    | false =>
     rw [hq] at hcall;have HC:=uH hcall;have HB:=uH (hC.out.alloc (.cells #[.int .i64 (padAt ps j).day,.string (padAt ps j).case] 53));have HGr:=uH (only_next hG.out hal);have hsz:=hD.out.1;have HDD:=uH hD.out;have HXX:=uH hx;have HQ:=uH hq;obtain ⟨v0,hv0⟩ : ∃ u,cs[q * 2]? = some u:=⟨_,Array.getElem?_eq_getElem (by omega)⟩;obtain ⟨v1,hv1⟩ : ∃ u,cs[q * 2+1]? = some u:=⟨_,Array.getElem?_eq_getElem (by omega)⟩;clear hcall hq hx hgx hjl hC hD hG hal hsz;have HV0:=uH hv0;have HV1:=uH hv1;clear hv0 hv1;generalize padAt ps j=x at *;go_wp2_with (go_at_fn g;refine HC.out.mono ?_;rintro e w2 ⟨rfl,hb2⟩;have hB2:=HB.out.below hb2;have f0:=(hB2.cell (q * 2)).trans HV0.out;have f1:=(hB2.cell (q * 2+1)).trans HV1.out;have z0:=hB2.free (q * 2);have z1:=hB2.free (q * 2+1);have l0:=kcell hb2 (newcell wr #[.int .i64 x.day,.string x.case] 53 0 _ rfl);have l1:=kcell hb2 (newcell wr #[.int .i64 x.day,.string x.case] 53 1 _ rfl))
     have HB3:=uH ((hB2.set (q * 2) (.int .i64 x.day)).set (q * 2+1) (.string x.case));have HG3:=uH (only_set (only_set (only_next HGr.out (Below.only hb2)) rfl (.int .i64 x.day) (p:=⟨gb,q * 2,none⟩)) rfl (.string x.case) (p:=⟨gb,q * 2+1,none⟩));have HD3:Hid (DelInv padC 2 (fun x=>!p x) ps ((cs.setIfInBounds (q * 2) (.int .i64 x.day)).setIfInBounds (q * 2+1) (.string x.case)) c (q+1) (j+1)):=uH (by
      have hsz:=HDD.out.1;refine HDD.out.put padC_len (by omega) HXX.out (by simp [HQ.out]) (by rw [HN.out];exact hnc) (by simp) (fun r hr=>?_) (fun m hm=>?_)
      ·rcases r with _ | _ | r
       ·show ((cs.setIfInBounds (q * 2) (.int .i64 x.day)).setIfInBounds (q * 2+1) (.string x.case))[q * 2]? = _
        rw [Array.getElem?_setIfInBounds_ne (by omega),Array.getElem?_setIfInBounds_self_of_lt (by omega)];rfl
       ·rw [Array.getElem?_setIfInBounds_self_of_lt (by simp;omega)];rfl
       ·omega
      ·rw [Array.getElem?_setIfInBounds_ne (by omega),Array.getElem?_setIfInBounds_ne (by omega)])
     go_roundw
     case rel=>exact ⟨q+1,j+1,_,by omega,by omega,by go_num,by go_num,HB3,HD3,HG3⟩
     case measure=>simp [intOf];omega
   ·obtain rfl:j=n:=(by omega);have hsz:=hD.out.1;have hlenf:=hD.out.2.2.1;have hfull:ps.take j=ps:=List.take_of_length_le (by rw [HN.out];exact Nat.le_refl _);have HT:Hid (cs.toList.take (q * 2)=(ps.filter fun x=>!p x).flatMap padC∧(ps.filter fun x=>!p x).length=q):=uH (by
     have h1:=hD.out.2.1;have h2:=hD.out.2.2.1;rw [hfull] at h1 h2;exact ⟨h1,h2⟩)
    have hcl:=run_clear_any (P:=Tryz.prog) wr (j - q) 46 53 0 zPad Tryz.underlying46 zeroPad (zPad_one _) gb (q * 2) (c - q) (by omega) (fun m hm=>by
     rw [zPad_len] at hm;obtain ⟨u,hu⟩ : ∃ u,cs[q * 2+m]? = some u:=⟨_,Array.getElem?_eq_getElem (by omega)⟩;rw [hC.out.cell,hu];rfl) (fun m=>hC.out.free _)
    generalize (Builtin.zeroCells zPad.cells (j - q)).toList=zs at hcl;obtain ⟨cs',hB',hs',hk'⟩:=Blk.cells zs (q * 2) hC.out;have HG3:=uH (only_setCells zs (q * 2) hG.out);have HF:Hid (PadsOwn (wr.setCells gb (q * 2) zs) B (.slice (some ⟨gb,0,none⟩) (ps.filter fun x=>!p x).length c) (ps.filter fun x=>!p x)):=uH (by
     refine ⟨by rw [flat_len padC_len],.inr ⟨gb,c,cs',rfl,hg,hB',by rw [HT.out.2];omega,by unfold maxLen;omega,by rw [hs',hsz],?_⟩⟩;rw [HT.out.2,← HT.out.1];apply List.ext_getElem?;intro m;rcases Nat.lt_or_ge m (q * 2) with hm | hm
     ·rw [List.getElem?_take_of_lt hm,List.getElem?_take_of_lt hm,Array.getElem?_toList,Array.getElem?_toList,hk' m hm]
     ·rw [List.getElem?_eq_none (by rw [List.length_take];omega),List.getElem?_eq_none (by rw [List.length_take];omega)])
    clear hlenf hfull hB' hk' hs';go_wp2;go_ret;exact ⟨_,c,by rw [HT.out.2];rfl,HF.out,rfl,HG3.out⟩
def noPads (l:Leaf):Bool:=l.ps.length == 0
def ptrC (l:Leaf):List Value:=[l.ptr]
theorem ptrC_len (l:Leaf):(ptrC l).length=1:=rfl
theorem ptrC_map (ls:List Leaf):ls.map Leaf.ptr=ls.flatMap ptrC:=by
 induction ls with
 | nil=>rfl
 | cons l r ih=>simp [ih,ptrC]
def LeafRd (w:World) (l:Leaf):Prop:=∃ A c,Blk w l.g 192 #[.slice A l.ps.length c]
theorem emptyLeaf (l:Leaf) (w:World) (h:LeafRd w l):Calls Tryz.prog 242 #[l.ptr] w fun e w'=>e = .returned (.bool (noPads l))∧Below w.heap.size w w':=by
 obtain ⟨A,c,hB⟩:=h;have c0:=hB.cell 0;unfold Leaf.ptr;have HN:Hid (noPads l=(((l.ps.length:Nat):Int) == 0)):=uH (by
  unfold noPads;rw [Bool.eq_iff_iff,beq_iff_eq,beq_iff_eq];omega)
 generalize l.ps.length=n at *;go_enter Tryz.func242,Tryz.ntmps242
 go_wp2;go_ret;exact ⟨ret_bool HN.out.symm,Below.refl _ _⟩
theorem idxFuncLeaf (A:Option Addr) (n c:Nat) (ls:List Leaf) (w:World) (hn:ls.length=n) (hcm:n≤1048576) (hl : ∀ l∈ls,LeafRd w l) (h:Row w w.heap.size A n 1 (ls.flatMap ptrC)) :
  Calls Tryz.prog 260 #[.slice A n c,.func (.func 242) #[] #[]] w fun e w'=>∃ r,e = .returned (.int .i64 r)∧IdxP noPads n (leafAt ls) r∧Below w.heap.size w w':=by
 have eg : ∀ args w,(callFunc 242 args).run Tryz.prog w = .ok (.enter 242 args) w:=enters_of Tryz.func242 (by kernel_rfl) rfl;have H:=uH h;clear h;have HP:=uH hl;clear hl;have HN:=uH hn;clear hn;go_enter Tryz.func260,Tryz.ntmps260
 go_wp2;go_loopw [5,8] (fun _ i wr=>∃ (k:Nat),k≤n∧i = .int .i64 k∧Hid (∀ j,j < k→noPads (leafAt ls j)=false)∧Below w.heap.size w wr) (fun _ i _=>n - (intOf i).toNat)
 case atStart=>exact ⟨0,Nat.zero_le _,rfl,uH (fun j hj=>absurd hj (by omega)),Below.refl _ _⟩
 case round =>
  obtain ⟨k,hk,rfl,hF,hb⟩:=hrel;by_cases hlt:k < n
  ·obtain ⟨b,off,eA,hbB,hcs⟩:=(H.out.below hb).2 (by omega);have hkl:k < ls.length:=(by rw [HN.out];exact hlt);have c0:=hcs (k * 1+0) _ (flat_at ptrC_len ls k _ 0 _ (leafAt_some hkl) rfl);rw [show off+(k * 1+0)=off+k by omega] at c0;have hcall:=emptyLeaf (leafAt ls k) wr (by
    obtain ⟨A,c,hB⟩:=HP.out _ (leafAt_mem hkl);exact ⟨A,c,hB.below hb⟩)
   unfold Leaf.ptr at hcall c0;subst eA;clear hcs hkl;cases hq:noPads (leafAt ls k) with
   | true =>
    rw [hq] at hcall;have HA:Hid (IdxP noPads n (leafAt ls) k):=uH (.inr ⟨k,rfl,hlt,hq,hF.out⟩);have HC:=uH hcall;clear hcall hq;generalize leafAt ls k=x at *;go_wp2_with (go_at_fn 242;refine HC.out.mono ?_;rintro e w1 ⟨rfl,hb1⟩)
    have b1:=hb.trans (hb1.mono hb.size);go_ret;exact ⟨_,rfl,HA.out,b1⟩
   | false =>
    rw [hq] at hcall;have HF:Hid (∀ j,j < k+1→noPads (leafAt ls j)=false):=uH (fun j hj=>by
     by_cases hjk:j < k
     ·exact hF.out j hjk
     ·obtain rfl:j=k:=(by omega);exact hq)
    have HC:=uH hcall;clear hcall hq;generalize leafAt ls k=x at *;go_wp2_with (go_at_fn 242;refine HC.out.mono ?_;rintro e w1 ⟨rfl,hb1⟩)
    have b1:=hb.trans (hb1.mono hb.size);go_roundw
    case rel=>exact ⟨k+1,by omega,by go_num,HF,b1⟩
    case measure=>simp [intOf];omega
  ·obtain rfl:k=n:=(by omega);have HA:Hid (IdxP noPads k (leafAt ls) (-1)):=uH (.inl ⟨rfl,hF.out⟩);go_wp2;go_ret;exact ⟨_,rfl,HA.out,hb⟩
def DelLeafAns (w w':World) (B:Nat) (v:Value) (ls:List Leaf) (e:Ending):Prop :=
 ∃ A c,e = .returned (.slice A ls.length c)∧w'.ownsRow B 134 1 (.slice A ls.length c) ls.length (ls.flatMap ptrC)∧(Value.slice A ls.length c).ownBlock=v.ownBlock∧w.grownBy w' v.ownBlock
theorem zeroLeafP : ∀ w,(zeroValue 134).run Tryz.prog w = .ok (.pointer none) w:=fun w=>by kernel_rfl
theorem zPtr_len (n:Nat):(Builtin.zeroCells (Value.pointer none).cells n).toList.length=n * 1:=by simp [Builtin.zeroCells,Value.cells]
theorem zPtr_one (n:Nat) : ∀ v∈(Builtin.zeroCells (Value.pointer none).cells n).toList,v.oneCell'=true:=by
 intro v hv;simp only [Builtin.zeroCells,Value.cells,Array.toList_map,List.mem_map] at hv;obtain ⟨i,_,rfl⟩:=hv;have:i % 1=0:=(by omega);simp [this,Value.oneCell']
set_option maxHeartbeats 1000000 in
theorem delLeaf (A:Option Addr) (n c B:Nat) (ps:List Leaf) (w:World) (hn:ps.length=n) (hn1:n≤1048576)
  (hrd : ∀ l∈ps,LeafRd w l) (h:w.ownsRow B 134 1 (.slice A n c) n (ps.flatMap ptrC)) :
  Calls Tryz.prog 241 #[.slice A n c,.func (.func 242) #[] #[]] w fun e w'=>DelLeafAns w w' B (.slice A n c) (ps.filter fun x=>!noPads x) e:=by
 have eg : ∀ args w,(callFunc 242 args).run Tryz.prog w = .ok (.enter 242 args) w:=enters_of Tryz.func242 (by kernel_rfl) rfl;have HI:=uH (idxFuncLeaf A n c ps w hn hn1 hrd (Row.of_own h));obtain ⟨A0,cc0,e0,hnc,hcm⟩:=own_form h;injection e0 with e1 e2 e3;subst e1 e3;clear e2;unfold maxLen at hcm;have HRd:=uH hrd;clear hrd;have HNe:Hid (∀ l∈ps,(Value.slice A n c).ownBlock≠some l.g):=uH (fun l hl=>by
  obtain ⟨A,c,hB⟩:=HRd.out l hl;exact hB.ne_own h (by decide))
 have HO:=uH h;have HN:=uH hn;clear hn;go_enter Tryz.func241,Tryz.ntmps241
 (go_wp2_with fail);refine HI.out.mono ?_;rintro e w1 ⟨r,rfl,hr,b1⟩;rcases hr with ⟨rfl,hno⟩ | ⟨k,rfl,hkn,hyes,hno⟩
 ·have HF:Hid (ps.filter (fun x=>!noPads x)=ps):=uH (List.filter_eq_self.2 (fun x hx=>by
   obtain ⟨i,hi,rfl⟩:=List.getElem_of_mem hx;have:=hno i (by rw [← HN.out];exact hi);rw [show leafAt ps i=ps[i] by unfold leafAt;simp [List.getD,List.getElem?_eq_getElem hi]] at this;simp [this]))
  have HW:=uH (own_congr HO.out (fun b hv=>b1.block b (own_lt HO.out hv)));clear hno;go_wp2;go_ret;rw [HF.out];exact ⟨A,c,by rw [HN.out];rfl,by rw [HN.out];exact HW.out,by rw [HN.out],Below.only b1⟩
 ·rcases h.2 with ⟨e,e0⟩ | ⟨gb,cap,cur,e,hg,hB,_,_,hcs,ht⟩
  ·omega
  injection e with e1 e2 e3;subst e1 e3;have hD0:DelInv ptrC 1 (fun x=>!noPads x) ps cur c k k:=DelInv.start ptrC_len hcs (by rw [HN.out];exact ht) (by rw [HN.out];omega) (fun x hx=>by
   obtain ⟨i,hi,rfl⟩:=List.getElem_of_mem hx;simp only [List.length_take] at hi;have:=hno i (by omega);rw [List.getElem_take];rw [show leafAt ps i=ps[i] by unfold leafAt;simp [List.getD,List.getElem?_eq_getElem (show i < ps.length by omega)]] at this;simp [this])
  have hD1:=uH (hD0.skip (leafAt_some (by rw [HN.out];exact hkn)) (by simp [hyes]));have hB1:=uH (Blk.below (show Blk w gb 134 cur from hB) b1);have hG1:=uH (Below.only (row:=some gb) b1);have hk1:((k:Int) == -1)=false:=(by simp);have HNg:Hid (∀ l∈ps,gb≠l.g):=uH (fun l hl e=>HNe.out l hl (by rw [e];rfl));clear h hD0 hB ht hcs hno hyes HI HNe;go_wp2;go_loopw [5,6] (fun a i wr=>∃ (q j:Nat) (cs:Array Value),q < j∧j≤n∧a = .int .i64 q∧i = .int .i64 j∧Hid (Blk wr gb 134 cs)∧Hid (DelInv ptrC 1 (fun x=>!noPads x) ps cs c q j)∧Hid (w.grownBy wr (some gb))) (fun _ i _=>n - (intOf i).toNat)
  case atStart=>exact ⟨k,k+1,cur,by omega,by omega,rfl,by go_num,hB1,hD1,hG1⟩
  case round =>
   obtain ⟨q,j,cs,hqj,hj,rfl,rfl,hC,hD,hG⟩:=hrel;by_cases hlt:j < n
   ·have hjl:j < ps.length:=(by rw [HN.out];exact hlt);have hx:=leafAt_some hjl;have c0:wr.cell? ⟨gb,j,none⟩=some (leafAt ps j).ptr:=by
     rw [hC.out.cell];have:=hD.out.2.2.2 j _ (Nat.le_refl _) hx 0 (by omega);rw [show j * 1+0=j by omega] at this;exact this
    have hrd:LeafRd wr (leafAt ps j):=by
     obtain ⟨A1,c1,hB⟩:=HRd.out _ (leafAt_mem hjl);exact ⟨A1,c1,hB.only hG.out (fun e=>HNg.out _ (leafAt_mem hjl) e.symm)⟩
    have hcall:=emptyLeaf (leafAt ps j) wr hrd;cases hq:noPads (leafAt ps j) with
    | true =>
     rw [hq] at hcall;have HC:=uH hcall;have HD:=uH (hD.out.skip hx (by simp [hq]));clear hcall hq hx hjl hD hrd;unfold Leaf.ptr at HC c0;generalize leafAt ps j=x at *;go_wp2_with (go_at_fn 242;refine HC.out.mono ?_;rintro e w2 ⟨rfl,hb2⟩)
     have HB2:=uH (hC.out.below hb2);have HG2:=uH (only_next hG.out (Below.only hb2));go_roundw
     case rel=>exact ⟨q,j+1,cs,by omega,by omega,rfl,by go_num,HB2,HD,HG2⟩
     case measure=>simp [intOf];omega
    | false =>
     rw [hq] at hcall;have HC:=uH hcall;have hsz:=hD.out.1;have HDD:=uH hD.out;have HXX:=uH hx;have HQ:=uH hq;obtain ⟨v0,hv0⟩ : ∃ u,cs[q]? = some u:=⟨_,Array.getElem?_eq_getElem (by omega)⟩;clear hcall hq hx hjl hD hrd hsz;have HV0:=uH hv0;clear hv0;unfold Leaf.ptr at HC c0;generalize leafAt ps j=x at *;go_wp2_with (go_at_fn 242;refine HC.out.mono ?_;rintro e w2 ⟨rfl,hb2⟩;have hB2:=hC.out.below hb2;have f0:=(hB2.cell q).trans HV0.out;have z0:=hB2.free q)
     have HB3:=uH (hB2.set q x.ptr);have HG3:=uH (only_set (only_next hG.out (Below.only hb2)) rfl x.ptr (p:=⟨gb,q,none⟩));have HD3:Hid (DelInv ptrC 1 (fun x=>!noPads x) ps (cs.setIfInBounds q x.ptr) c (q+1) (j+1)):=uH (by
      have hsz:=HDD.out.1;refine HDD.out.put ptrC_len (by omega) HXX.out (by simp [HQ.out]) (by rw [HN.out];exact hnc) (by simp) (fun r hr=>?_) (fun m hm=>?_)
      ·obtain rfl:r=0:=(by omega);rw [show q * 1+0=q by omega,Array.getElem?_setIfInBounds_self_of_lt (by omega)];rfl
      ·rw [Array.getElem?_setIfInBounds_ne (by omega)])
     unfold Leaf.ptr at HB3 HG3 HD3;go_roundw
     case rel=>exact ⟨q+1,j+1,_,by omega,by omega,by go_num,by go_num,HB3,HD3,HG3⟩
     case measure=>simp [intOf];omega
   ·obtain rfl:j=n:=(by omega);have hsz:=hD.out.1;have hlenf:=hD.out.2.2.1;have hfull:ps.take j=ps:=List.take_of_length_le (by rw [HN.out];exact Nat.le_refl _);have HT:Hid (cs.toList.take q=(ps.filter fun x=>!noPads x).flatMap ptrC∧(ps.filter fun x=>!noPads x).length=q):=uH (by
     have h1:=hD.out.2.1;have h2:=hD.out.2.2.1;rw [hfull] at h1 h2;rw [Nat.mul_one] at h1;exact ⟨h1,h2⟩)
    have hcl:=run_clear_any (P:=Tryz.prog) wr (j - q) 126 134 0 (.pointer none) Tryz.underlying126 zeroLeafP (zPtr_one _) gb q (c - q) (by omega) (fun m hm=>by
     rw [zPtr_len] at hm;obtain ⟨u,hu⟩ : ∃ u,cs[q+m]? = some u:=⟨_,Array.getElem?_eq_getElem (by omega)⟩;rw [hC.out.cell,hu];rfl) (fun m=>hC.out.free _)
    generalize (Builtin.zeroCells (Value.pointer none).cells (j - q)).toList=zs at hcl;obtain ⟨cs',hB',hs',hk'⟩:=Blk.cells zs q hC.out;have HG3:=uH (only_setCells zs q hG.out);have HF:Hid ((wr.setCells gb q zs).ownsRow B 134 1 (.slice (some ⟨gb,0,none⟩) (ps.filter fun x=>!noPads x).length c) (ps.filter fun x=>!noPads x).length ((ps.filter fun x=>!noPads x).flatMap ptrC)):=uH (by
     refine ⟨by rw [flat_len ptrC_len],.inr ⟨gb,c,cs',rfl,hg,hB',by rw [HT.out.2];omega,by unfold maxLen;omega,by rw [hs',hsz],?_⟩⟩;rw [HT.out.2,← HT.out.1,Nat.mul_one];apply List.ext_getElem?;intro m;rcases Nat.lt_or_ge m q with hm | hm
     ·rw [List.getElem?_take_of_lt hm,List.getElem?_take_of_lt hm,Array.getElem?_toList,Array.getElem?_toList,hk' m hm]
     ·rw [List.getElem?_eq_none (by rw [List.length_take];omega),List.getElem?_eq_none (by rw [List.length_take];omega)])
    clear hlenf hfull hB' hk' hs';go_wp2;go_ret;exact ⟨_,c,by rw [HT.out.2];rfl,HF.out,rfl,HG3.out⟩
def PredB (g:Nat) (cb:Array Value) (p:Pad→Bool) (B:Nat) (w:World):Prop :=
 ∀ (W:World) (x:Pad),Below B w W→x.good→Calls Tryz.prog g (#[padV x]++cb) W fun e w'=>e = .returned (.bool (p x))∧Below W.heap.size W w'
theorem keepNot (g:Nat) (cb:Array Value) (p:Pad→Bool) (eg : ∀ args w,(callFunc g args).run Tryz.prog w = .ok (.enter g args) w) (B b3:Nat) (w w1:World) (row:Option Nat) (hp:PredB g cb p B w) (hb:Below B w w1) (hB:B≤w1.heap.size)
  (hrow : ∀ k,row=some k→B≤k) (h3:Blk w1 b3 124 #[.func (.func g) #[] cb]) (hne:row≠some b3) :
  PredPad 239 #[.pointer (some ⟨b3,0,none⟩)] (fun x=>!p x) w1 row:=by
 intro W x hg hx;have hbW:Below B w W:=hb.grown hg hB hrow;have h3W:Blk W b3 124 #[.func (.func g) #[] cb]:=(hg.block b3 h3.lt (fun e=>hne e.symm)).trans h3;have c3:W.cell? ⟨b3,0,none⟩=some (.func (.func g) #[] cb):=h3W.cell 0;have c3':(W.alloc (.cells #[.int .i64 x.day,.string x.case] 53)).cell? ⟨b3,0,none⟩=some (.func (.func g) #[] cb):=Lib.cell?_alloc_some _ c3;have hcall:=fun W2 (h:Below B W W2)=>hp W2 x (hbW.trans h) hx;have hBW:B≤W.heap.size:=Nat.le_trans hB hg.size;have HC:=uH hcall;clear hcall;unfold padV at HC ⊢;clear hp hb hB hrow h3 hne hg hx hbW h3W
 show Calls Tryz.prog 239 #[.agg #[.int .i64 x.day,.string x.case],.pointer (some ⟨b3,0,none⟩)] W _
 go_enter Tryz.func239,Tryz.ntmps239
 go_wp2_with (go_at_fn g;refine (HC.out _ ((Below.refl _ _).alloc hBW _)).mono ?_;rintro e w2 ⟨rfl,hb2⟩)
 go_ret;exact ⟨rfl,below_next ((Below.refl _ _).alloc (Nat.le_refl _) _) hb2⟩
def Thin (p:Pad→Bool) (l l':Leaf):Prop:=l'.g=l.g∧l'.ps=l.ps.filter p∧l'.v.ownBlock=l.v.ownBlock
def ThinTo (p:Pad→Bool) (k:Nat) (ls ls':List Leaf):Prop:=ls'.length=ls.length∧(∀ j,j < k→j < ls.length→Thin p (leafAt ls j) (leafAt ls' j))∧∀ j,k≤j→leafAt ls' j=leafAt ls j
theorem ThinTo.step {p:Pad→Bool} {k:Nat} {ls ls':List Leaf} {l l2:Leaf} (h:ThinTo p k ls ls') (hk:k < ls.length) (hl:ls'[k]? = some l) (hold:l=leafAt ls k) (h1:l2.g=l.g) (h2:l2.ps=l.ps.filter p) (h3:l2.v.ownBlock=l.v.ownBlock):ThinTo p (k+1) ls (ls'.set k l2):=by
 have hset : ∀ j,leafAt (ls'.set k l2) j=if j=k then l2 else leafAt ls' j:=fun j=>by
  by_cases hj:j=k
  ·subst hj;rw [if_pos rfl];unfold leafAt;rw [List.getD,List.getElem?_set_self (by rw [h.1];exact hk)];rfl
  ·rw [if_neg hj];unfold leafAt;rw [List.getD,List.getD,List.getElem?_set_ne (fun e=>hj e.symm)]
 refine ⟨by rw [List.length_set];exact h.1,fun j hj hjl=>?_,fun j hj=>?_⟩
 ·rw [hset];by_cases hjk:j=k
  ·subst hjk;rw [if_pos rfl,← hold];exact ⟨h1,h2,h3⟩
  ·rw [if_neg hjk];exact h.2.1 j (by omega) hjl
 ·rw [hset,if_neg (by omega)];exact h.2.2 j (by omega)
theorem ThinTo.ends {p:Pad→Bool} {k:Nat} {ls ls':List Leaf} (h:ThinTo p k ls ls') (hk:k=ls.length):(ls'.filter fun x=>!noPads x).map (·.ps)=(ls.map (·.ps.filter p)).filter (fun ps=>!(ps.length == 0)):=by
 have h1:ls'.map (·.ps)=ls.map (·.ps.filter p):=by
  apply List.ext_getElem?;intro j;rw [List.getElem?_map,List.getElem?_map];rcases Nat.lt_or_ge j ls.length with hj | hj
  ·rw [leafAt_some (ls:=ls') (by rw [h.1];exact hj),leafAt_some hj];have:=(h.2.1 j (by omega) hj).2.1;simp [this]
  ·rw [List.getElem?_eq_none (by rw [h.1];exact hj),List.getElem?_eq_none hj];rfl
 rw [← h1,List.filter_map];rfl
theorem TreeIn.thin {w w1:World} {B t:Nat} {v v3:Value} {ls:List Leaf} {f:Leaf→Bool} (h:TreeIn w B t v ls) (hg:w.grownBy w1 v.ownBlock) (hO:w1.ownsRow B 134 1 v3 (ls.filter f).length ((ls.filter f).flatMap ptrC)) {cs:Array Value} (hB1:Blk w1 t 128 cs) (hcs:cs.size=1:=by rfl) :
  TreeIn (w1.setCell ⟨t,0,none⟩ v3) B t v3 (ls.filter f):=by
 have hL:LeavesIn w1 B v3 (ls.filter f):=by
  refine ⟨by rw [ptrC_map];exact hO,fun l hl=>?_,?_,?_⟩
  ·have hI:=h.2.2.2.1 l (List.mem_filter.1 hl).1;refine hI.congr (hg.block _ hI.2.1.lt (fun e=>hI.2.1.ne_own h.2.2.1 (by decide) e.symm)) (fun b hb=>hg.block b (own_lt hI.2.2.1 hb) (fun e=>?_));obtain ⟨cur,h1⟩:=own_obj hI.2.2.1 hb;exact (show Blk w b 53 cur from h1).ne_own h.2.2.1 (by decide) e.symm
  ·exact h.2.2.2.2.1.sublist ((List.filter_sublist).map _)
  ·exact h.2.2.2.2.2.sublist ((List.filter_sublist).filterMap _)
 refine ⟨h.1,?_,hL.root hB1 v3⟩;have h2:=hB1.set 0 v3;rcases cs with ⟨l⟩
 match l,hcs with
 | [x],_=>exact h2
theorem keep (g:Nat) (cb:Array Value) (p:Pad→Bool) (eg : ∀ args w,(callFunc g args).run Tryz.prog w = .ok (.enter g args) w) (B t:Nat) (v:Value) (ls:List Leaf) (w:World) (hB:B≤w.heap.size) (hn:ls.length≤1048576) (hps:(leafPads ls).length≤1048576)
  (hp:PredB g cb p B w) (h:TreeIn w B t v ls) :
  Calls Tryz.prog 211 #[.pointer (some ⟨t,0,none⟩),.func (.func g) #[] cb] w fun e w'=>e = .returned (.tuple #[])∧Below B w w'∧∃ v' ls',TreeIn w' B t v' ls'∧ls'.map (·.ps)=(ls.map (·.ps.filter p)).filter (fun ps=>!(ps.length == 0)):=by
 obtain ⟨A,c,rfl,hnc,hcm⟩:=own_form h.2.2.1;have hc0:w.cell? ⟨t,0,none⟩=some (.slice A ls.length c):=h.2.1.cell 0;have HT:=uH h;have htl:=h.2.1.lt;unfold maxLen at hcm;have HP:=uH hp;clear hp h;have H3:Hid (Blk (w.alloc (.cells #[.func (.func g) #[] cb] 124)) w.heap.size 124 #[.func (.func g) #[] cb]):=uH (Blk.new _ _ _);go_enter Tryz.func211,Tryz.ntmps211
 go_wp2;go_loopw [13] (fun i wr=>∃ (k:Nat) (ls':List Leaf),k≤ls.length∧i = .int .i64 k∧Hid (TreeIn wr B t (.slice A ls.length c) ls')∧Hid (ThinTo p k ls ls')∧Hid (Blk wr w.heap.size 124 #[.func (.func g) #[] cb])∧Below B w wr) (fun i _=>ls.length - (intOf i).toNat)
 case atStart=>exact ⟨0,ls,Nat.zero_le _,rfl,uH (HT.out.below ((Below.refl _ _).alloc (Nat.le_refl _) _)),uH ⟨rfl,fun j hj=>absurd hj (by omega),fun _ _=>rfl⟩,H3,(Below.refl _ _).alloc hB _⟩
 case round =>
  obtain ⟨k,ls',hk,rfl,hT,hth,hb3,hb⟩:=hrel;by_cases hlt:k < ls.length
  ·have hlen:ls'.length=ls.length:=hth.out.1;have hlk:=leafAt_some (ls:=ls') (k:=k) (by omega);obtain ⟨b,off,eA,hbB,c0,hgl,c1,f1,hBg,hPo,hgd⟩:=hT.out.2.2.at_ hlen (by omega:k < ls.length);obtain ⟨A2,c2,e2,hnc2,hcm2⟩:=own_form hPo;have hold:leafAt ls' k=leafAt ls k:=hth.out.2.2 k (Nat.le_refl _);have hml:(leafAt ls' k).ps.length≤1048576:=by
    have h1:=leafPads_step (ls:=ls) (k:=k) hlt;have h2:=leafPads_split (ls:=ls) (k:=k+1);rw [h1,List.length_append,← hold] at h2;omega
   have hlI:=hT.out.2.2.2.1 _ (leafAt_mem (ls:=ls') (k:=k) (by omega));have hPo2:=hPo;rw [e2] at c1 hPo2;have eg77 : ∀ args w,(callFunc 239 args).run Tryz.prog w = .ok (.enter 239 args) w:=enters_of Tryz.func239 (by kernel_rfl) rfl;have hpn:=keepNot g cb p eg B w.heap.size w wr (Value.slice A2 (leafAt ls' k).ps.length c2).ownBlock HP.out hb (Nat.le_trans hB hb.size) (fun q hq=>own_base hPo2 hq) hb3.out (hb3.out.ne_own hPo2 (by decide));have HD:=uH (delPads 239 #[.pointer (some ⟨w.heap.size,0,none⟩)] (fun x=>!p x) eg77 A2 (leafAt ls' k).ps.length c2 B (leafAt ls' k).ps wr rfl hml hgd hpn hPo2);have HPo:=uH hPo2;have HE:=uH e2;have HLI:=uH hlI;have HLK:=uH hlk;have HOld:=uH hold;have HGd:=uH hgd;subst eA;clear hpn hPo hPo2 e2 hlI hlk hold eg77 hgd hml hlen;generalize leafAt ls' k=l at *;(go_wp2_with fail);refine HD.out.mono ?_;rintro e w1 ⟨A3,c3,rfl,hO3,hv3,hg3⟩;have hB1:Blk w1 l.g 192 #[l.v]:=(hg3.block _ HLI.out.2.1.lt (fun e=>HLI.out.2.1.ne_own HPo.out (by decide) e.symm)).trans HLI.out.2.1;have hff:(fun x=>!(fun x=>!p x) x)=p:=(by funext x;simp);rw [hff] at hO3 hv3;rw [← HE.out] at hg3 hv3;have hT2:=TreeIn.turn hT.out HLK.out hg3 hO3 hv3 (fun x hx=>HGd.out x (List.mem_filter.1 hx).1);have hb2:Below B w (w1.setCell ⟨l.g,0,none⟩ (.slice A3 (l.ps.filter p).length c3)):=(hb.grown hg3 (Nat.le_trans hB hb.size) (fun q hq=>own_base HLI.out.2.2.1 hq)).setCell hBg _;have HB3:Hid (Blk (w1.setCell ⟨l.g,0,none⟩ (.slice A3 (l.ps.filter p).length c3)) w.heap.size 124 #[.func (.func g) #[] cb]):=uH (by
    have h1:Blk w1 w.heap.size 124 #[.func (.func g) #[] cb]:=(hg3.block _ hb3.out.lt (fun e=>hb3.out.ne_own HLI.out.2.2.1 (by decide) e.symm)).trans hb3.out;exact h1.far (h1.ne_blk hB1 (by decide)) _)
   have HTh:Hid (ThinTo p (k+1) ls (ls'.set k ⟨l.g,.slice A3 (l.ps.filter p).length c3,l.ps.filter p⟩)):=uH (hth.out.step hlt HLK.out HOld.out rfl rfl hv3);have HT2:=uH hT2;have d1:w1.cell? ⟨l.g,0,none⟩=some l.v:=hB1.cell 0;have d2:=hB1.free 0;clear hT2 hff hO3 hv3 hg3 hB1 hT hth hb3 HD HPo HLI HLK;rw [show (fun x=>!(fun x=>!p x) x)=p by funext x;simp];go_wp2;go_roundw
   case rel=>exact ⟨k+1,_,by omega,by go_num,HT2,HTh,HB3,hb2⟩
   case measure=>simp [intOf];omega
  ·have hkl:k=ls.length:=(by omega);have hlen:ls'.length=ls.length:=hth.out.1;have hrd : ∀ l∈ls',LeafRd wr l:=fun l hl=>by
    obtain ⟨_,h2,h3,_⟩:=hT.out.2.2.2.1 l hl;obtain ⟨A1,c1,e1,_⟩:=own_form h3;exact ⟨A1,c1,by rw [← e1];exact h2⟩
   have hro:=hT.out.2.2.1;rw [hlen,ptrC_map] at hro;have HD:=uH (delLeaf A ls.length c B ls' wr hlen hn hrd hro);have HR:=uH hro;have HB0:=uH hT.out.2.1;have k0:wr.cell? ⟨t,0,none⟩=some (.slice A ls.length c):=hT.out.2.1.cell 0;have HL:=uH hlen;clear hrd hro hlen;(go_wp2_with fail);refine HD.out.mono ?_;rintro e w1 ⟨A3,c3,rfl,hO3,hv3,hg3⟩;have hB1:Blk w1 t 128 #[.slice A ls.length c]:=(hg3.block _ HB0.out.lt (fun e=>HB0.out.ne_own HR.out (by decide) e.symm)).trans HB0.out;have HT2:=uH (TreeIn.thin hT.out hg3 hO3 hB1);have HM:Hid ((ls'.filter fun x=>!noPads x).map (·.ps)=(ls.map (·.ps.filter p)).filter (fun ps=>!(ps.length == 0))):=uH (hth.out.ends hkl);have b4:Below B w (w1.setCell ⟨t,0,none⟩ (.slice A3 (ls'.filter fun x=>!noPads x).length c3)):=(hb.grown hg3 (Nat.le_trans hB hb.size) (fun q hq=>own_base HR.out hq)).setCell hT.out.1 _;have d1:w1.cell? ⟨t,0,none⟩=some (.slice A ls.length c):=hB1.cell 0;have d2:=hB1.free 0;clear hB1 hO3 hv3 hg3;go_wp2;go_returns;exact ⟨rfl,b4,_,_,HT2.out,HM.out⟩
theorem flat_filter (p:Pad→Bool) : ∀ css:List (List Pad),((css.map (·.filter p)).filter (fun ps=>!(ps.length == 0))).flatten=css.flatten.filter p
 | []=>rfl
 | ps::r=>by
  rw [List.flatten_cons,List.filter_append,← flat_filter p r,List.map_cons,List.filter_cons];by_cases h:(ps.filter p).length=0
  ·have e:ps.filter p=[]:=List.eq_nil_of_length_eq_zero h;rw [if_neg (by simp [e]),e,List.nil_append]
  ·rw [if_pos (by simpa using h),List.flatten_cons]
end Go.Proofs.YtbkhnljaajajiaaGreatDoor
namespace Go.Proofs.YtbkhnljaajajiaaGreatDoor
open Go.ChangeShapes Go.WideShapes Go.ChangeAt Go.RowKit
theorem StrokesIn.fromS {w:World} {B n c k:Nat} {A:Option Addr} {ss:List Stroke} (h:StrokesIn w B A n c ss) (hk:k≤n):StrokesIn w B (fromB A k c 2) (n - k) (c - k) (ss.drop k) :=
 ⟨by rw [List.length_drop,h.1],by have:=h.2.1;omega,by have:=h.2.2.1;omega,by rw [← flat_drop stC_len];exact h.2.2.2.1.fromS hk h.2.1,fun p hp=>h.2.2.2.2 p (List.mem_of_mem_drop hp)⟩
end Go.Proofs.YtbkhnljaajajiaaGreatDoor
namespace Go.Proofs.YtbkhnljaajajiaaGreatDoor
open Go.ChangeShapes Go.WideShapes Go.ChangeAt Go.RowKit Go.Shelf
def putAt (cur:Array Value) (o:Nat) (cs:List Value):Array Value:=(cur.toList.take o++cs++cur.toList.drop (o+cs.length)).toArray
theorem run_copy_any {P:Program} (sz:Nat) (w:World) (dT sT ty elem:TypeId) (g o dLen dCap:Nat) (a:Addr) (sLen sCap:Nat) (cur:Array Value) (t:TypeId) (cs:List Value)
  (hu:P.underlying dT=some (.slice elem)) (hs:(P.info? elem).map (·.size)=some sz)
  (hg:w.heap[g]? = some (.cells cur t (0,0))) (k:Nat) (hk:Nat.min sLen dLen=k) (hn:cs.length=k * sz)
  (hsrc : ∀ j v,cs[j]? = some v→w.cell? (a.add j)=some v) (hfit:o+cs.length≤cur.size) (h1 : ∀ v∈cs,v.oneCell'=true) :
  (Builtin.copy_ #[dT,sT] ty #[.slice (some ⟨g,o,none⟩) dLen dCap,.slice (some a) sLen sCap]).run P w = .ok (goInt k) (w.setRow g (putAt cur o cs)):=by
 have hl:=run_loadCells_list (P:=P) w a cs hsrc;have hst:=run_storeCells_at P g o t cs 0 cur w hg (by simpa using hfit) h1;rw [hn] at hl;unfold putAt;cases hq:P.info? elem with
 | none=>simp [hq] at hs
 | some i =>
  have hi:i.size=sz:=(by simpa [hq] using hs);simp only [Nat.add_zero] at hst;simp [Builtin.copy_,run_underlying hu,Builtin.lenOf,Builtin.firstCells,sizeOf,typeInfo,hq,hi,hk,hl,hst]
theorem putAt_size {cur:Array Value} {o:Nat} {cs:List Value} (h:o+cs.length≤cur.size):(putAt cur o cs).size=cur.size:=by
 unfold putAt;simp only [List.size_toArray,List.length_append,List.length_take,List.length_drop,Array.length_toList];omega
theorem own_of_row {W:World} {B g n cap sz:Nat} {E:TypeId} {R:Array Value} {T rest:List Value} (hB:B≤g) (h:W.heap[g]? = some (.cells R E (0,0))) (hn:n≤cap) (hc:cap≤maxLen) (hs:R.size=cap * sz) (ht:T.length=n * sz) (hr:R.toList=T++rest) :
  W.ownsRow B E sz (.slice (some ⟨g,0,none⟩) n cap) n T :=
 ⟨ht,.inr ⟨g,cap,R,rfl,hB,h,hn,hc,hs,by rw [hr,← ht];exact List.take_left⟩⟩
theorem put_shift {cur:Array Value} {xs vs:List Value} {n i sz:Nat} (ht:cur.toList.take (n * sz)=xs) (hv:vs.length=sz) (hi:i≤n) (hc:(n+1) * sz≤cur.size) :
  ∃ rest,(putAt (putAt cur ((i+1) * sz) (xs.drop (i * sz))) (i * sz) vs).toList=(xs.take (i * sz)++vs++xs.drop (i * sz))++rest:=by
 have e1:(i+1) * sz=i * sz+sz:=(by rw [Nat.add_mul,Nat.one_mul]);have hin:i * sz≤n * sz:=Nat.mul_le_mul_right _ hi;have e3:(n+1) * sz=n * sz+sz:=(by rw [Nat.add_mul,Nat.one_mul]);rw [e3] at hc;have hcl:cur.toList.length=cur.size:=Array.length_toList;have hcx:cur.toList=xs++cur.toList.drop (n * sz):=(by rw [← ht];exact (List.take_append_drop _ _).symm);unfold putAt;simp only [e1];generalize i * sz=a at *;generalize n * sz=b at *;have hk:(cur.toList.take (a+sz)).length=a+sz:=(by rw [List.length_take];omega);have t1:(cur.toList.take (a+sz)++xs.drop a++cur.toList.drop (a+sz+(xs.drop a).length)).take a=xs.take a:=by
  rw [List.append_assoc,List.take_append_of_le_length (by omega),List.take_take,Nat.min_eq_left (by omega),← ht,List.take_take,Nat.min_eq_left hin]
 have t2:(cur.toList.take (a+sz)++xs.drop a++cur.toList.drop (a+sz+(xs.drop a).length)).drop (a+vs.length)=xs.drop a++cur.toList.drop (a+sz+(xs.drop a).length):=by
  rw [hv,List.append_assoc];exact List.drop_left' hk
 refine ⟨cur.toList.drop (a+sz+(xs.drop a).length),?_⟩;rw [t1,t2,← List.append_assoc]
theorem put_grow {R:Array Value} {xs vs rest:List Value} {n i sz:Nat} (hR:R.toList=xs.take (i * sz)++rest) (hx:xs.length=n * sz) (hv:vs.length=sz) (hi:i≤n) :
  ∃ rest,(putAt (putAt R (i * sz) vs) ((i+1) * sz) (xs.drop (i * sz))).toList=(xs.take (i * sz)++vs++xs.drop (i * sz))++rest:=by
 have e1:(i+1) * sz=i * sz+sz:=(by rw [Nat.add_mul,Nat.one_mul]);have hin:i * sz≤n * sz:=Nat.mul_le_mul_right _ hi;unfold putAt;simp only [e1];generalize i * sz=a at *;generalize n * sz=b at *;have hl:(xs.take a).length=a:=(by rw [List.length_take];omega);have t0:R.toList.take a=xs.take a:=(by rw [hR];exact List.take_left' hl);have hl2:(xs.take a++vs).length=a+sz:=(by rw [List.length_append,hl,hv]);have t1:(xs.take a++vs++R.toList.drop (a+vs.length)).take (a+sz)=xs.take a++vs:=List.take_left' hl2;refine ⟨(xs.take a++vs++R.toList.drop (a+vs.length)).drop (a+sz+(xs.drop a).length),?_⟩;rw [t0,t1]
theorem only_setRow {w W:World} {g:Nat} (h:w.grownBy W (some g)) (cs:Array Value):w.grownBy (W.setRow g cs) (some g) :=
 ⟨h.os,h.tape,h.output,by simpa using h.size,fun k hk hne=>(setRow_other W g k cs (fun e=>hne (by rw [e]))).trans (h.block k hk hne)⟩
theorem from_at (g k c sz:Nat) (h:c≠k):fromA (some ⟨g,0,none⟩) k c sz=some ⟨g,k * sz,none⟩:=by
 unfold fromA;rw [if_neg h];simp [Addr.add_lit]
end Go.Proofs.YtbkhnljaajajiaaGreatDoor
namespace Go.Proofs.YtbkhnljaajajiaaGreatDoor
open Go.ChangeShapes Go.WideShapes Go.ChangeAt Go.RowKit
theorem turn_nodup {ls:List Leaf} {l':Leaf} {k S:Nat} (h:(ls.filterMap (·.v.ownBlock)).Nodup) (hb : ∀ m∈ls,∀ b,m.v.ownBlock=some b→b < S) (hn : ∀ b,l'.v.ownBlock=some b→S≤b):((ls.set k l').filterMap (·.v.ownBlock)).Nodup:=by
 have h1:=List.pairwise_filterMap.1 h;refine List.pairwise_filterMap.2 (List.pairwise_iff_getElem.2 fun i j hi hj hij b e b' e'=>?_);rw [List.length_set] at hi hj;rw [List.getElem_set] at e e';split at e
 ·split at e'
  ·omega
  ·have:=hn b e;have:=hb _ (List.getElem_mem hj) b' e';omega
 ·split at e'
  ·have:=hn b' e';have:=hb _ (List.getElem_mem hi) b e;omega
  ·exact List.pairwise_iff_getElem.1 h1 i j hi hj hij b e b' e'
theorem TreeIn.turn2 {w w1:World} {B t k:Nat} {v v2:Value} {ls:List Leaf} {l:Leaf} {ps2:List Pad} (h:TreeIn w B t v ls) (hl:ls[k]? = some l) (hg:w.grownBy w1 l.v.ownBlock) (hO:PadsOwn w1 B v2 ps2) (hv : ∀ b,v2.ownBlock=some b→w.heap.size≤b) (hgood : ∀ p∈ps2,p.good) :
  TreeIn (w1.setCell ⟨l.g,0,none⟩ v2) B t v (ls.set k ⟨l.g,v2,ps2⟩):=by
 have hlm:=List.mem_of_getElem? hl;have hlI:=h.2.2.2.1 l hlm;have hkl:k < ls.length:=(List.getElem?_eq_some_iff.1 hl).1;have hty : ∀ {b:Nat} {cs:Array Value} {ty:TypeId},Blk w b ty cs→ty≠53→Blk w1 b ty cs:=fun {b cs ty} hb hne =>
  (hg.block b hb.lt (fun e=>hb.ne_own hlI.2.2.1 (fun e=>hne e.symm) e.symm)).trans hb
 have hleaf1:Blk w1 l.g 192 #[l.v]:=hty hlI.2.1 (by decide);have hrow : ∀ b,v.ownBlock=some b→(w1.setCell ⟨l.g,0,none⟩ v2).heap[b]? = w.heap[b]? := fun b hb=>by
  obtain ⟨cur,h1⟩:=own_obj h.2.2.1 hb;have h2:Blk w1 b 134 cur:=hty h1 (by decide);rw [Below.heap_setCell w1 _ v2 b (h2.ne_blk hleaf1 (by decide))];exact h2.trans h1.symm
 refine ⟨h.1,?_,own_congr ?_ hrow,?_,?_,?_⟩
 ·have h2:=hty h.2.1 (by decide);exact (Below.heap_setCell w1 _ v2 t (h2.ne_blk hleaf1 (by decide))).trans h2
 ·rw [List.length_set,set_map_same Leaf.ptr ls k l ⟨l.g,v2,ps2⟩ hl rfl];exact h.2.2.1
 ·intro m hm;obtain ⟨j,hj⟩:=List.getElem?_of_mem hm;by_cases hjk:j=k
  ·subst hjk;rw [List.getElem?_set_self hkl] at hj;injection hj with hj;subst hj;refine ⟨hlI.1,by simpa using hleaf1.set 0 v2,own_congr hO (fun b hb=>Below.heap_setCell w1 _ v2 b ?_),hgood⟩;rintro rfl;exact hleaf1.ne_own hO (by decide) hb
  ·rw [List.getElem?_set_ne (fun e=>hjk e.symm)] at hj;have hmI:=h.2.2.2.1 m (List.mem_of_getElem? hj);have hm1:=hty hmI.2.1 (by decide);refine hmI.congr ?_ (fun b hb=>?_)
   ·rw [Below.heap_setCell w1 _ v2 m.g (g_apart h.2.2.2.2.1 hj hl hjk)];exact hm1.trans hmI.2.1.symm
   ·obtain ⟨cur,h1⟩:=own_obj hmI.2.2.1 hb;have h2:w1.heap[b]? = w.heap[b]? := hg.block b (own_lt hmI.2.2.1 hb) (fun e=>own_apart h.2.2.2.2.2 hj hl hjk hb e.symm);rw [Below.heap_setCell w1 _ v2 b (by rintro rfl;exact (show Blk w1 l.g 53 cur from h2.trans h1).ne_blk hleaf1 (by decide) rfl)];exact h2
 ·rw [set_map_same (·.g) ls k l ⟨l.g,v2,ps2⟩ hl rfl];exact h.2.2.2.2.1
 ·exact turn_nodup h.2.2.2.2.2 (fun m hm b hb=>own_lt (h.2.2.2.1 m hm).2.2.1 hb) hv
end Go.Proofs.YtbkhnljaajajiaaGreatDoor
