/-
  Contracts and plain laws that the proofs lean on. Conditions: as each says.
-/
import Derived.Test.YtbkhnljaajajiaaGreatDoorPExecuteProof08
set_option maxRecDepth 100000
set_option linter.unusedSimpArgs false
set_option linter.unusedVariables false
set_option linter.unnecessarySimpa false
namespace Go.Proofs.YtbkhnljaajajiaaGreatDoor
open Go.ChangeShapes Go.WideShapes Go.ChangeAt Go.RowKit
def MzIn (w:World) (B:Nat) (A:Option Addr) (n c:Nat) (D:List Mr) (neg:Bool):Prop :=
 D.length=n∧(neg=true→0 < n)∧n≤c∧c≤maxLen∧Row w B A n 3 (mkZ D neg)∧∀ x∈D,MrIn w B x
section
variable {w w':World} {B n c k:Nat} {A:Option Addr} {D:List Mr} {neg:Bool}
theorem MzOwn.reads (h:MzOwn w B (.slice A n c) D neg) (hn:D.length=n):MzIn w w.heap.size A n c D neg:=by
 have h1:=h.2.1;rw [hn] at h1;obtain ⟨A',c',e,h2,h3⟩:=ownG_form h1;injection e with e1 e2 e3;subst e1 e3;exact ⟨hn,fun e=>by have:=h.1 e;omega,h2,h3,Row.of_own h1,fun x hx=>(h.2.2 x hx).1⟩
theorem MzIn.keep (h:MzIn w w.heap.size A n c D neg) (hb:Below w.heap.size w w'):MzIn w' w'.heap.size A n c D neg :=
 ⟨h.1,h.2.1,h.2.2.1,h.2.2.2.1,(h.2.2.2.2.1.below hb).more hb.size,fun x hx=>(h.2.2.2.2.2 x hx).keep hb⟩
theorem MzIn.far {row:Option Nat} (h:MzIn w w.heap.size A n c D neg) (hg:w.grownBy w' row) (h1 : ∀ a,A=some a→row≠some a.block) (h2 : ∀ x∈D,0 < x.n→∀ a,x.A=some a→row≠some a.block):MzIn w' w'.heap.size A n c D neg:=by
 refine ⟨h.1,h.2.1,h.2.2.1,h.2.2.2.1,?_,fun x hx=>WdsIn.grown (h.2.2.2.2.2 x hx) hg (h2 x hx)⟩;by_cases hp:0 < n
 ·exact (h.2.2.2.2.1.grown hg h1).more hg.size
 ·exact ⟨h.2.2.2.2.1.1,fun h3=>absurd h3 hp⟩
theorem MzIn.toM (h:MzIn w B A n c D false):MrsIn w B A n c D:=⟨h.1,h.2.2.1,h.2.2.2.1,by have:=h.2.2.2.2.1;rwa [mkZ_no] at this,h.2.2.2.2.2⟩
theorem mkZ_take (h:0 < k):(mkZ D neg).take (k * 3)=mkZ (D.take k) neg:=by
 have e:(D.flatMap mkC).take (k * 3)=(D.take k).flatMap mkC:=flat_take mkC_len D k;unfold mkZ;split
 ·rw [List.take_set,e]
 ·exact e
theorem mkZ_drop0:(mkZ D neg).drop (0 * 3)=mkZ (D.drop 0) neg:=by simp
theorem mkZ_drop (h:0 < k):(mkZ D neg).drop (k * 3)=mkZ (D.drop k) false:=by
 have e:(D.flatMap mkC).drop (k * 3)=(D.drop k).flatMap mkC:=flat_drop mkC_len D k;rw [mkZ_no,← e];unfold mkZ;split
 ·rw [List.drop_set_of_lt (by omega)]
 ·rfl
theorem MzIn.upto (h:MzIn w B A n c D neg) (hk:k≤n) (h0:0 < k):MzIn w B A k c (D.take k) neg :=
 ⟨by rw [List.length_take,h.1];omega,fun _=>h0,by have:=h.2.2.1;omega,h.2.2.2.1,by have:=h.2.2.2.2.1.take hk;rwa [mkZ_take h0] at this,fun x hx=>h.2.2.2.2.2 x (List.mem_of_mem_take hx)⟩
theorem MzIn.fromS (h:MzIn w B A n c D neg) (hk:k < n) : ∃ neg',MzIn w B (fromB A k c 3) (n - k) (c - k) (D.drop k) neg':=by
 refine ⟨if k=0 then neg else false,by rw [List.length_drop,h.1],fun _=>by omega,by have:=h.2.2.1;omega,by have:=h.2.2.2.1;omega,?_,fun x hx=>h.2.2.2.2.2 x (List.mem_of_mem_drop hx)⟩;have:=h.2.2.2.2.1.fromS (Nat.le_of_lt hk) h.2.2.1;by_cases h0:k=0
 ·subst h0;rw [if_pos rfl]
  rwa [mkZ_drop0] at this
 ·rw [if_neg h0]
  rwa [mkZ_drop (by omega)] at this
end
def SomeWds (w:World) (e:Ending) (w':World):Prop :=
 ∃ (A:Option Addr) (n c:Nat) (ws:List Wd) (p:Bool),e = .returned (.tuple #[.slice A n c,.bool p])∧ws.length=n∧WdOwn w' w.heap.size (.slice A n c) ws∧(∀ l∈ws,l.length≤maxLen)∧Below w.heap.size w w'
theorem mem_doK {ws:List Wd} {l:Wd} : ∀ (ms:List Mk) (i:Nat),l∈doK ws ms i→l∈ws∨∃ m∈ms,l∈m.put:=by
 intro ms;induction ms with
 | nil=>intro i h;rw [doK] at h;exact .inl (List.mem_of_mem_drop h)
 | cons m r ih =>
  intro i h;rw [doK] at h;rcases List.mem_append.1 h with h | h
  ·exact .inl (List.mem_of_mem_drop (List.mem_of_mem_take h))
  ·rcases List.mem_append.1 h with h | h
   ·exact .inr ⟨m,by simp,h⟩
   ·rcases ih _ h with h | ⟨m',hm,h⟩
    ·exact .inl h
    ·exact .inr ⟨m',by simp [hm],h⟩
theorem l6In_neg (n:Nat) (w:World):Calls Tryz.prog 134 #[.int .i64 (-1),.int .i64 0,.int .i64 (n:Int)] w fun e w'=>e = .returned (.bool false)∧w=w' :=
 (l6In_any _ _ _ _).mono fun e w' ⟨he,hw⟩=>⟨by rw [he];exact ret_bool (decide_eq_false (by omega)),hw⟩
set_option maxHeartbeats 1600000 in
theorem marksValidNeg (A:Option Addr) (n c:Nat) (ws:List Wd) (A':Option Addr) (n' c':Nat) (D:List Mr) (w:World) (hW : ∀ l∈ws,l.length≤maxLen) (h:WdsIn w w.heap.size A n c ws) (h':MzIn w w.heap.size A' n' c' D true) (hX:OkMs D) :
  Calls Tryz.prog 188 #[.slice A n c,.slice A' n' c'] w fun e w'=>e = .returned (.bool false)∧Below w.heap.size w w':=by
 have HS:=uH (specSpeechValid A n c ws w hW h);have hn0:0 < n':=h'.2.1 rfl;have HL:=uH h.1;obtain ⟨b,off,eA,hbB,hc⟩:=h'.2.2.2.2.1.2 hn0;subst eA;obtain ⟨x,r,hD⟩ : ∃ x r,D=x::r:=by
  cases D with
  | nil=>have:=h'.1;simp at this;omega
  | cons x r=>exact ⟨x,r,rfl⟩
 have c0:=hc 0 (.int .i64 (-1)) (by rw [hD];simp [mkZ,mkC]);have c1:=hc 1 (.int .i64 (x.cut:Int)) (by rw [hD];simp [mkZ,mkC]);have c2:=hc 2 (.slice x.A x.n x.c) (by rw [hD];simp [mkZ,mkC]);rw [Nat.add_zero] at c0;clear hc hD h h' hX hW;cases hA:spB ws with
 | false =>
  rw [hA] at HS;clear hA c0 c1 c2;go_enter Tryz.func188,Tryz.ntmps188
  (go_wp2_with fail);refine HS.out.mono ?_;rintro e w1 ⟨rfl,rfl⟩;go_wp2;go_ret;exact ⟨rfl,Below.refl _ _⟩
 | true =>
  have h20:n≤20:=(by have:=(spB_iff.1 hA).2;rw [HL.out] at this;exact this);rw [hA] at HS;clear hA;by_cases hm:20 < n'
  ·clear c0 c1 c2;go_enter Tryz.func188,Tryz.ntmps188
   (go_wp2_with fail);refine HS.out.mono ?_;rintro e w1 ⟨rfl,rfl⟩;go_wp2;go_ret;exact ⟨rfl,Below.refl _ _⟩
  ·have i2:(0:Int) < (n':Int):=(by omega);have HM:Hid (∀ W,Calls Tryz.prog 227 #[.int .i64 (n:Int),.agg #[.int .i64 (-1),.int .i64 (x.cut:Int),.slice x.A x.n x.c]] W fun e w'=>e = .returned (.bool false)∧Below W.heap.size W w'):=uH (fun W=>by
    have HI:=uH (l6In_neg n (W.alloc (.cells #[.int .i64 (-1),.int .i64 (x.cut:Int),.slice x.A x.n x.c] 116)));have hb:Below W.heap.size W (W.alloc (.cells #[.int .i64 (-1),.int .i64 (x.cut:Int),.slice x.A x.n x.c] 116)):=(Below.refl _ _).alloc (Nat.le_refl _) _;go_enter Tryz.func227,Tryz.ntmps227
    (go_wp2_with fail);refine HI.out.mono ?_;rintro e w1 ⟨rfl,rfl⟩;go_wp2;go_ret;exact ⟨rfl,hb⟩)
   have d0:=qcell c0;have d1:=qcell c1;have d2:=qcell c2;have HC:=uH (And.intro c0 (And.intro c1 c2));clear c0 c1 c2 d0 d1 d2;go_enter Tryz.func188,Tryz.ntmps188
   (go_wp2_with fail);refine HS.out.mono ?_;rintro e w1 ⟨rfl,rfl⟩;go_wp2;go_loopw [6] (fun s6 wr=>s6 = .int .i64 ((0:Nat):Int)∧Below w.heap.size w wr) (fun i _=>n' - (intOf i).toNat)
   case atStart=>exact ⟨rfl,Below.refl _ _⟩
   case round =>
    obtain ⟨rfl,hb⟩:=hrel;have c0:=kcell hb HC.out.1;have c1:=kcell hb HC.out.2.1;have c2:=kcell hb HC.out.2.2;have d0:=qcell c0;have d1:=qcell c1;have d2:=qcell c2;(go_wp2_with fail);refine region_qb (by kernel_rfl) (by kernel_rfl) ?_;repeat (first | go_big_quiet_step ((go_at_call 227;exact quietB (HM.out _))) | quiet_step ((go_at_call 227;exact quietB (HM.out _))))
    refine wpQuiet_nil ?_;intro w5 hb5;go_wp2;go_ret;exact ⟨rfl,hb.trans (hb5.mono hb.size)⟩
theorem specMarksDoAny (A:Option Addr) (n c:Nat) (ws:List Wd) (A':Option Addr) (n' c':Nat) (D:List Mr) (neg:Bool) (w:World) (hW : ∀ l∈ws,l.length≤maxLen) (h:WdsIn w w.heap.size A n c ws) (h':MzIn w w.heap.size A' n' c' D neg) (hX:OkMs D) :
  Calls Tryz.prog 128 #[.slice A n c,.slice A' n' c'] w (SomeWds w):=by
 have HNo:Hid (∀ W,Below w.heap.size w W→SomeWds w (.returned (.tuple #[.slice (some ⟨W.heap.size,0,none⟩) 0 0,.bool false])) (W.alloc (.cells #[] 9))):=uH (fun W hb=>⟨_,0,0,[],false,rfl,rfl,ownG_mono (WdOwn.made W) hb.size,by simp,hb.alloc hb.size _⟩);cases neg with
 | true =>
  have HV:=uH (marksValidNeg A n c ws A' n' c' D w hW h h' hX);clear h h' hX hW;go_enter Tryz.func128,Tryz.ntmps128
  (go_wp2_with fail);refine HV.out.mono ?_;rintro e w1 ⟨rfl,hb⟩;have HF:=uH (HNo.out w1 hb);clear HV HNo;go_wp2
  go_ret2
  exact HF.out
 | false =>
  have hm:=h'.toM;have HV:=uH (specMarksValid A n c ws A' n' c' D w hW hX h hm);cases hv:marksB ws (D.map Mr.dat) with
  | false =>
   rw [hv] at HV;clear h h' hX hW hv hm;go_enter Tryz.func128,Tryz.ntmps128
   (go_wp2_with fail);refine HV.out.mono ?_;rintro e w1 ⟨rfl,hb⟩;have HF:=uH (HNo.out w1 hb);clear HV HNo;go_wp2
   go_ret2
   exact HF.out
  | true =>
   have HD:Hid (∀ W,Below w.heap.size w W→Calls Tryz.prog 189 #[.slice A n c,.slice A' n' c'] W fun e w'=>WdsAns w' W.heap.size (doK ws (D.map Mr.dat) 0) e∧Below W.heap.size W w'):=uH (fun W hb=>specL7Do A n c ws A' n' c' D W hW hX hv (h.keep hb) (hm.keep hb));have HSh:Hid (∀ l∈doK ws (D.map Mr.dat) 0,l.length≤maxLen):=uH (fun l hl=>by
    rcases mem_doK _ _ hl with h2 | ⟨m,hm2,h2⟩
    ·exact hW l h2
    ·obtain ⟨x,hx,rfl⟩:=List.mem_map.1 hm2;exact (hX x hx).2 l h2)
   rw [hv] at HV;clear h h' hX hW hv hm HNo;generalize doK ws (D.map Mr.dat) 0=R at *;go_enter Tryz.func128,Tryz.ntmps128
   (go_wp2_with fail);refine HV.out.mono ?_;rintro e w1 ⟨rfl,hb⟩;have HD1:=uH (HD.out w1 hb);clear HV HD;(go_wp2_with fail);refine HD1.out.mono ?_;rintro e w2 ⟨⟨A2,c2,rfl,ho⟩,hb2⟩;have HF:Hid (SomeWds w (.returned (.tuple #[.slice A2 R.length c2,.bool true])) w2):=uH ⟨A2,R.length,c2,R,true,rfl,rfl,ownG_mono ho hb.size,HSh.out,below_next hb hb2⟩;clear HD1 ho;generalize R.length=N at *;go_wp2
   go_ret2
   exact HF.out
theorem MzOwn.mono {w:World} {B B':Nat} {v:Value} {D:List Mr} {neg:Bool} (h:MzOwn w B v D neg) (hB:B'≤B):MzOwn w B' v D neg:=⟨h.1,ownG_mono h.2.1 hB,h.2.2⟩
theorem okShort {D:List Mr} {K:Nat} (h : ∀ x∈D,ShortM x∧(0 < x.n→∀ p,x.A=some p→K≤p.block)):OkMs D:=fun x hx=>by
 have h1:=(h x hx).1;exact ⟨⟨by have:=h1.1;omega,by have:=h1.2.1;omega,by have:=h1.2.2.1;omega⟩,fun l hl=>by have:=h1.2.2.2 l hl;unfold maxLen;omega⟩
theorem MzOwn.rd {w w':World} {B g:Nat} {v:Value} {D:List Mr} {neg:Bool} (h:MzOwn w B v D neg) (hg:w.grownBy w' (some g)) (hB:g < B) (hW : ∀ x∈D,0 < x.n→∀ a,x.A=some a→some g≠some a.block):MzOwn w' B v D neg :=
 ⟨h.1,ownG_only h.2.1 hg hB,fun x hx=>⟨WdsIn.grown (h.2.2 x hx).1 hg (hW x hx),fun hp a ha=>⟨((h.2.2 x hx).2 hp a ha).1,Nat.lt_of_lt_of_le ((h.2.2 x hx).2 hp a ha).2 hg.size⟩⟩⟩
def DrawnMs (B g lim:Nat) (w:World) (e:Ending) (w':World):Prop :=
 ∃ (A:Option Addr) (n c:Nat) (ws:List Wd) (A':Option Addr) (n' c':Nat) (D:List Mr) (neg:Bool),e = .returned (.tuple #[.slice A n c,.slice A' n' c'])∧ws.length=n∧n≤8∧(∀ l∈ws,l.length≤40)∧WdOwn w' w.heap.size (.slice A n c) ws∧D.length=n'∧n'≤200 ∧
  (∀ x∈D,ShortM x∧(0 < x.n→∀ p,x.A=some p→w.heap.size≤p.block))∧MzOwn w' w.heap.size (.slice A' n' c') D neg∧w.grownBy w' (some g)∧RdIn w' B g (lim+6030)
theorem l92Marks (g B lim:Nat) (w:World) (hl:lim≤600000000) (hr:RdIn w B g lim) (hBw:B≤w.heap.size) :
  Calls Tryz.prog 127 #[.pointer (some ⟨g,0,none⟩)] w (DrawnMs B g lim w):=by
 have hg0:=hr.lt;have HSp:=uH (l91Speech g B lim 8 w (by omega) (by omega) hr hBw);clear hr;go_enter Tryz.func127,Tryz.ntmps127
 (go_wp2_with fail);refine HSp.out.mono ?_;rintro e w1 ⟨v1,ws,rfl,hl1,hs1,ho1,hg1,hr1⟩;obtain ⟨A1,c1,rfl,_,_⟩:=ownG_form ho1;have hz1:=hg1.size;obtain ⟨N,hN⟩ : ∃ N,N=ws.length:=⟨_,rfl⟩;rw [← hN] at hl1;have HW:Hid (∀ w2,w1.grownBy w2 (some g)→WdOwn w2 w.heap.size (.slice A1 ws.length c1) ws):=uH (fun w2 h2=>ownG_only ho1 h2 hg0);rw [← hN] at HW ⊢;have HS:=uH hs1;have HG:=uH hg1;have HN:=uH hN.symm;have HM:=uH (l92Some g B (lim+30) A1 N c1 w1 (by omega) (by omega) hr1 (by omega));clear hs1 ho1 hg1 hr1 hN HSp;(go_wp2_with fail);refine HM.out.mono ?_;rintro e w2 ⟨v2,D,neg,rfl,hD,hX,hO,hg2,hr2⟩;obtain ⟨A2,c2,rfl,_,_⟩:=ownG_form hO.2.1;have HF:Hid (DrawnMs B g lim w (.returned (.tuple #[.slice A1 N c1,.slice A2 D.length c2])) w2):=uH ⟨A1,N,c1,ws,A2,D.length,c2,D,neg,rfl,HN.out,hl1,HS.out,HW.out w2 hg2,rfl,hD,fun x hx=>⟨(hX x hx).1,fun hp p hpA=>by have:=(hX x hx).2 hp p hpA;omega⟩,hO.mono hz1,only_next HG.out hg2,hr2.more (by omega)⟩;clear hD hX hO hg2 hr2 HM HW HS HG HN;generalize D.length=M at *;go_wp2
 go_ret2
 exact HF.out
end Go.Proofs.YtbkhnljaajajiaaGreatDoor
