/-
  Contracts and plain laws that the proofs lean on. Conditions: as each says.
-/
import Derived.Test.YtbkhnljaajajiaaGreatDoorPExecuteWrite07
import Derived.Test.YtbkhnljaajajiaaGreatDoorPX36
set_option maxRecDepth 100000
set_option linter.unusedSimpArgs false
set_option linter.unusedVariables false
set_option linter.unnecessarySimpa false
namespace Go.Proofs.YtbkhnljaajajiaaGreatDoor
open Go.ChangeShapes Go.WideShapes Go.ChangeAt Go.RowKit
theorem sText_plain {s:Stroke} (h:okS s=true):plainW (sText s):=by
 unfold okS at h;rw [Bool.and_eq_true,decide_eq_true_iff,decide_eq_true_iff] at h;obtain ⟨⟨h0,h7⟩,h1,h3⟩:=h;obtain ⟨d,hd⟩:=Int.eq_ofNat_of_zero_le h0;have hd8:d < 8:=(by omega);have e:(48+s.dir).toNat=48+d:=(by omega);have k : ∀ d,d < 8→∀ z:UInt8,z=115∨z=109∨z=108→plainW [UInt8.ofNat (48+d),z]:=by
  intro d hd z hz;have:d=0∨d=1∨d=2∨d=3∨d=4∨d=5∨d=6∨d=7:=(by omega);rcases hz with rfl | rfl | rfl <;> rcases this with rfl | rfl | rfl | rfl | rfl | rfl | rfl | rfl <;> exact ⟨by decide,by decide⟩
 unfold sText;rw [e];refine k d hd8 _ ?_;unfold sizeL;split
 ·exact .inl rfl
 split
 ·exact .inr (.inl rfl)
 ·exact .inr (.inr rfl)
theorem one_letter {l:Wd} (h:okL l=true):plainW l:=by
 unfold okL at h;rw [Bool.and_eq_true,decide_eq_true_iff,Bool.and_eq_true] at h;match l,h with
 | [c],⟨_,h2,_⟩ =>
  have:=letter_not (c:=c) h2;exact ⟨fun hm=>by rw [List.mem_singleton] at hm;exact this.1 hm.symm,fun hm=>by rw [List.mem_singleton] at hm;exact this.2 hm.symm⟩
def signL (x:Sg):Wd:=cmdL cSign [x.l,sText x.st]
theorem sys_mem {xs:List Sg} (h:sysB xs=true) {x:Sg} (hx:x∈xs):okSg x=true:=by
 obtain ⟨i,hi,rfl⟩:=List.mem_iff_getElem.1 hx;have:=((sysB_iff.1 h).2 i hi).1;have e:sgAt xs i=xs[i]:=by unfold sgAt;rw [List.getD_eq_getElem?_getD,List.getElem?_eq_getElem hi];rfl
 rwa [e] at this
theorem sysB_take {xs:List Sg} (h:sysB xs=true) (k:Nat):sysB (xs.take k)=true:=by
 by_cases hk:k≤xs.length
 ·obtain ⟨h1,h2⟩:=sysB_iff.1 h;refine sysB_iff.2 ⟨by rw [List.length_take];omega,fun i hi=>?_⟩;rw [List.length_take] at hi;have e : ∀ j,j < k→sgAt (xs.take k) j=sgAt xs j:=(fun j hj=>by unfold sgAt;rw [List.getD_eq_getElem?_getD,List.getElem?_take,if_pos hj,List.getD_eq_getElem?_getD]);have:=h2 i (by omega);unfold sysGood at *;rw [e i (by omega)];exact ⟨this.1,fun j hj=>by rw [e j (by omega)];exact this.2 j hj⟩
 ·rw [List.take_of_length_le (by omega)];exact h
theorem sign_plain {x:Sg} (h:okSg x=true) : ∀ l∈[x.l,sText x.st],plainW l:=fun l hl=>by
 unfold okSg at h;rw [Bool.and_eq_true] at h;simp only [List.mem_cons,List.not_mem_nil,or_false] at hl;rcases hl with rfl | rfl
 ·exact one_letter h.1
 ·exact sText_plain h.2
theorem one_out {s:Stroke} (h:okS s=true):outB [s]=true:=by
 unfold outB linkB;simp [h]
theorem sign_step {xs:List Sg} (h:sysB xs=true) (k:Nat) (hk:k < xs.length):lineS { st0 with sys:=xs.take k } (cutB 32 (signL xs[k]))=({ st0 with sys:=xs.take (k+1) },sayOk):=by
 have hx:=sys_mem h (List.getElem_mem hk);have hs:okS xs[k].st=true:=(by unfold okSg at hx;rw [Bool.and_eq_true] at hx;exact hx.2);unfold signL;rw [cmdL_cut (by decide) (sign_plain hx),line_sign (by rfl)]
 show up _ (signO (xs.take k) xs[k].l (sText xs[k].st)) _=_
 have ht:=sysB_take h (k+1);rw [List.take_succ_eq_append_getElem hk] at ht ⊢;have hf:fromS (sText xs[k].st)=some [xs[k].st]:=by
  have:=from_text (one_out hs);unfold textS at this
  rwa [List.flatMap_cons,List.flatMap_nil,List.append_nil] at this
 have e:(⟨xs[k].l,xs[k].st⟩:Sg)=xs[k]:=rfl;unfold signO;rw [hf];simp only [e,ht,if_true];rfl
theorem run_signs {xs:List Sg} (h:sysB xs=true):runS st0 (xs.map signL)=({ st0 with sys:=xs },okN xs.length) :=
 run_all signL (fun x=>{ st0 with sys:=x }) xs (sign_step h)
theorem allW_words {xs:List Sg} : ∀ {ws:List Wd} {L:List Dat},allW xs ws=some L→∀ l∈ws,wordB l=true
 | [],_,_,l,hl=>by cases hl
 | x::r,L,h,l,hl=>by
  obtain ⟨d,hd,h2⟩:=Option.bind_eq_some_iff.1 h;obtain ⟨L',h3,_⟩:=Option.map_eq_some_iff.1 h2;rcases List.mem_cons.1 hl with rfl | hl
  ·unfold wof at hd;obtain ⟨o,ho,_⟩:=Option.map_eq_some_iff.1 hd;exact (wordOut_ok ho).2.1
  ·exact allW_words h3 l hl
theorem line_parts {xs:List Sg} {ws:List Wd} {L:List Dat} (h:lineOf xs ws=some L):sysB xs=true∧spB ws=true:=by
 unfold lineOf at h;split at h
 ·rename_i hc
  exact ⟨hc.1,spB_iff.2 ⟨allW_words h,hc.2⟩⟩
 ·cases h
theorem exec_write {xs:List Sg} {ws:List Wd} {L:List Dat} (h:lineOf xs ws=some L) (hl:(joinLn (xs.map signL++[speechL ws,cWrite])).length≤500) :
  exec (joinLn (xs.map signL++[speechL ws,cWrite]))=okN (xs.length+1)++(lineText L++[10])++endS { st0 with sys:=xs,sp:=ws }:=by
 obtain ⟨hx,hs⟩:=line_parts h;have hno : ∀ l∈xs.map signL++[speechL ws,cWrite],(10:UInt8) ∉ l:=fun l hl=>by
  rcases List.mem_append.1 hl with h | h
  ·obtain ⟨b,hb2,rfl⟩:=List.mem_map.1 h;exact cmdL_no (by decide) (sign_plain (sys_mem hx hb2))
  ·simp only [List.mem_cons,List.not_mem_nil,or_false] at h;rcases h with rfl | rfl
   ·exact cmdL_no (by decide) (fun l hl=>word_plain ((spB_iff.1 hs).1 l hl))
   ·decide
 have h1:cutB 32 cWrite=[cWrite]:=rfl;have hc:lineS { st0 with sys:=xs,sp:=ws } (cutB 32 cWrite)=({ st0 with sys:=xs,sp:=ws },lineText L++[10]):=by
  rw [h1,line_write (by rfl)]
  show (_,saidO ((lineOf xs ws).map lineText))=_
  rw [h];rfl
 rw [exec_yes hl,linesOf_join hno,runS_app,run_signs hx];rw [runS,speech_step hs,runS_one,hc];simp only [okN_succ,List.append_assoc]
theorem okLines (n:Nat) (w:World) (hn:n≤1000):Calls Tryz.prog 21 #[.int .i64 (n:Int)] w fun e w'=>e = .returned (.string (mkStr (okN n)))∧w=w':=by
 go_enter Tryz.func21,Tryz.ntmps21
 go_wp2;go_loopw [3,4] (fun v3 v4 wr=>∃ k:Nat,k≤n∧v3 = .string (mkStr (okN k))∧v4 = .int .i64 k∧w=wr) (fun _ v4 _=>n - (intOf v4).toNat)
 case atStart=>exact ⟨0,Nat.zero_le _,rfl,rfl,by first | trivial | rfl⟩
 case round =>
  obtain ⟨k,hk,rfl,rfl,rfl⟩:=hrel;by_cases hlt:k < n
  ·have i4:(k:Int) < (n:Int):=(by omega);have hl:(okN k).length≤3 * k:=by
    have : ∀ k,(okN k).length=3 * k:=fun k=>by
     induction k with
     | zero=>rfl
     | succ k ih=>rw [okN_succ,List.length_append,ih];show 3 * k+3=_;omega
    rw [this k];exact Nat.le_refl _
   have a1 : ∀ W',(Op.stringOp .add (mkStr (okN k)) { data:=#[111,107,10] }).run Tryz.prog W' = .ok (.string (mkStr (okN (k+1)))) W':=fun W'=>by
    rw [okN_succ];exact run_add _ [111,107,10] (by simp only [List.length_cons,List.length_nil];omega) W'
   clear hl;go_wp2;go_roundw
   case rel=>exact ⟨k+1,by omega,rfl,by go_num,by first | trivial | rfl⟩
   case measure=>simp [intOf];omega
  ·obtain rfl:k=n:=(by omega);have i4 : ¬ (k:Int) < (k:Int):=(by omega);go_wp2;go_ret;exact ⟨rfl,rfl⟩
set_option maxHeartbeats 800000 in
theorem joinedC (A:Option Addr) (n c:Nat) (ws:List Wd) (w:World) (hn:n≤1000) (hl : ∀ l∈ws,l.length≤1000) (h:WdsIn w w.heap.size A n c ws) :
  Calls Tryz.prog 20 #[.slice A n c] w fun e w'=>e = .returned (.string (mkStr (joinedL ws)))∧w=w':=by
 have HL:=uH h.1;have H:=uH h;have HT:=uH hl;clear h hl;go_enter Tryz.func20,Tryz.ntmps20
 go_wp2;go_loopw [3,4] (fun v3 v4 wr=>∃ k:Nat,k≤n∧v3 = .string (mkStr (joinedL (ws.take k)))∧v4 = .int .i64 k∧w=wr) (fun _ v4 _=>n - (intOf v4).toNat)
 case atStart=>exact ⟨0,Nat.zero_le _,by rw [List.take_zero];rfl,rfl,by first | trivial | rfl⟩
 case round =>
  obtain ⟨k,hk,rfl,rfl,rfl⟩:=hrel;have i3:(0:Int)≤(k:Int):=(by omega);by_cases hlt:k < n
  ·have i4:(k:Int) < (n:Int):=(by omega);obtain ⟨b,off,rfl,hbB,e0⟩:=H.out.at_ hlt;have hkl:k < ws.length:=(by rw [HL.out];exact hlt);have hu:=HT.out _ (wdAt_mem hkl);have hj:=joinedL_len (ws:=ws.take k) (k:=1000) (fun l hl=>HT.out l (List.mem_of_mem_take hl));rw [List.length_take,Nat.min_eq_left (by omega)] at hj;have HNx:Hid (joinedL (ws.take (k+1))=joinedL (ws.take k)++32::wdAt ws k):=uH (by
    rw [List.take_succ_eq_append_getElem hkl,joinedL_snoc];have:ws[k]=wdAt ws k:=(by unfold wdAt;rw [List.getD_eq_getElem?_getD,List.getElem?_eq_getElem hkl];rfl);rw [this])
   obtain ⟨x1,a1,a2⟩ : ∃ x1:ByteArray,(∀ W',(Op.stringOp .add (mkStr (joinedL (ws.take k))) { data:=#[32] }).run Tryz.prog W' = .ok (.string x1) W')∧(∀ W',(Op.stringOp .add x1 (mkStr (wdAt ws k))).run Tryz.prog W' = .ok (.string (mkStr (joinedL (ws.take (k+1))))) W') :=
    ⟨mkStr (joinedL (ws.take k)++[32]),fun W'=>run_add _ [32] (by simp only [List.length_cons,List.length_nil];omega) W',fun W'=>by
     rw [HNx.out,show joinedL (ws.take k)++32::wdAt ws k=(joinedL (ws.take k)++[32])++wdAt ws k by simp];exact run_add _ _ (by simp only [List.length_append,List.length_cons,List.length_nil];omega) W'⟩
   clear hu hj HNx;go_wp2;go_roundw
   case rel=>exact ⟨k+1,by omega,rfl,by go_num,by first | trivial | rfl⟩
   case measure=>simp [intOf];omega
  ·obtain rfl:k=n:=(by omega);have HF:Hid (ws.take k=ws):=uH (List.take_of_length_le (by rw [HL.out];exact Nat.le_refl _));have i4 : ¬ (k:Int) < (k:Int):=(by omega);go_wp2;go_ret;exact ⟨by have e:=HF.out;rw [e];rfl,rfl⟩
end Go.Proofs.YtbkhnljaajajiaaGreatDoor
