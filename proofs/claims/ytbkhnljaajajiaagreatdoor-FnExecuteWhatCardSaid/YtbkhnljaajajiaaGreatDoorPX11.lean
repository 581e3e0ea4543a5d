/-
  Contracts and plain laws that the proofs lean on. Conditions: as each says.
-/
import Derived.Test.YtbkhnljaajajiaaGreatDoorPX02
import Derived.Test.YtbkhnljaajajiaaGreatDoorPX03
import Derived.Test.YtbkhnljaajajiaaGreatDoorPX08
import Derived.Lib.ItoaLen
import Derived.Lib.Walk
import Derived.Deep.RegionHeld3
import Derived.Lib.IndexBytes
import Derived.WalkSmall
set_option maxRecDepth 100000
set_option linter.unusedSimpArgs false
set_option linter.unusedVariables false
set_option linter.unnecessarySimpa false
namespace Go.Proofs.YtbkhnljaajajiaaGreatDoor
def dayT (p:Pad):List UInt8:=Lib.decDigits p.day.toNat++([58]++p.case.data.toList)
def drawT (ps:List Pad):List UInt8:=Lib.join (ps.map dayT) [32]
def cabTxt (css:List (List Pad)):List UInt8:=css.flatMap fun ps=>drawT ps++[10]
noncomputable def cabText (css:List (List Pad)):List UInt8:=if cabB css=true then cabTxt css else []
theorem cabText_yes {css:List (List Pad)} (h:cabB css=true):cabText css=cabTxt css:=if_pos h
theorem cabText_no {css:List (List Pad)} (h:cabB css=false):cabText css=[]:=if_neg (by rw [h];simp)
def drawK (ps:List Pad) (k:Nat):List UInt8:=drawT (ps.take k)
theorem padTake {ps:List Pad} {k:Nat} (h:k < ps.length):ps.take (k+1)=ps.take k++[padAt ps k]:=by
 rw [List.take_succ_eq_append_getElem h];have:=padAt_some h;rw [List.getElem?_eq_getElem h] at this;injection this with this;rw [this]
theorem drawK_all {ps:List Pad} {k:Nat} (h:ps.length≤k):drawK ps k=drawT ps:=by unfold drawK;rw [List.take_of_length_le h]
theorem join_len {n:Nat} {L:List (List UInt8)} (h : ∀ l∈L,l.length≤n):(Lib.join L [32]).length≤(n+1) * L.length:=by
 cases L with
 | nil=>simp [Lib.join_nil]
 | cons x r =>
  rw [Lib.join_cons,List.length_append];have h1:=h x (by simp);have h2:(Lib.joinTail [32] r).length≤(n+1) * r.length:=by
   unfold Lib.joinTail;have h0 : ∀ l∈r,l.length≤n:=fun l hl=>h l (by simp [hl]);clear h;induction r with
   | nil=>simp
   | cons y r ih =>
    have h3:=h0 y (by simp);have h4:=ih (fun l hl=>h0 l (by simp [hl]));simp only [List.map_cons,List.flatten_cons,List.length_append,List.length_cons,List.length_nil] at h4 ⊢;rw [Nat.mul_add];omega
  rw [List.length_cons,Nat.mul_add];omega
theorem ok_case {p:Pad} (h:okP p=true):0≤p.day∧p.day≤9999∧p.case.data.toList.length≤12:=by
 unfold okP padB wordB at h;rw [Bool.and_eq_true,Bool.and_eq_true,Bool.and_eq_true] at h;obtain ⟨h1,_,_,h4⟩:=h;have h1:=of_decide_eq_true h1;have h4:=of_decide_eq_true h4;exact ⟨h1.1,h1.2,h4⟩
theorem dayT_len {p:Pad} (h:okP p=true):(dayT p).length≤33:=by
 obtain ⟨h1,h2,h3⟩:=ok_case h;unfold dayT;rw [List.length_append,List.length_append,List.length_singleton,Lib.decDigits_length];have:=Lib.nDigits_le20 p.day.toNat (by omega);omega
theorem drawK_len {ps:List Pad} (h : ∀ p∈ps,okP p=true) (k:Nat):(drawK ps k).length≤34 * ps.length:=by
 unfold drawK drawT;have h1:=join_len (n:=33) (L:=(ps.take k).map dayT) (fun l hl=>by
  obtain ⟨p,hp,rfl⟩:=List.mem_map.1 hl;exact dayT_len (h p (List.mem_of_mem_take hp)))
 rw [List.length_map,List.length_take] at h1;have:min k ps.length≤ps.length:=Nat.min_le_right _ _;have:=Nat.mul_le_mul_left 34 this;omega
theorem drawT_len {ps:List Pad} (h : ∀ p∈ps,okP p=true):(drawT ps).length≤34 * ps.length:=by
 have:=drawK_len h ps.length
 rwa [drawK_all (Nat.le_refl _)] at this
theorem cabTxt_len : ∀ {css:List (List Pad)},(∀ ps∈css,(∀ p∈ps,okP p=true)∧ps.length≤4)→(cabTxt css).length≤137 * css.length
 | [],_=>by simp [cabTxt]
 | ps::r,h=>by
  obtain ⟨h1,h2⟩:=h ps (by simp);have h3:=drawT_len h1;have h4:=cabTxt_len (css:=r) (fun x hx=>h x (by simp [hx]));unfold cabTxt at h4 ⊢;rw [List.flatMap_cons,List.length_append,List.length_append,List.length_singleton,List.length_cons];omega
theorem cab_all {css:List (List Pad)} (h:cabOK css) : ∀ ps∈css,(∀ p∈ps,okP p=true)∧ps.length≤4:=fun ps hps =>
 ⟨fun _ hp=>sorted_okP h.2.2 (List.mem_flatten.2 ⟨ps,hps,hp⟩),(h.2.1 ps hps).2⟩
theorem cabTxt_app (a b:List (List Pad)):cabTxt (a++b)=cabTxt a++cabTxt b:=by unfold cabTxt;rw [List.flatMap_append]
end Go.Proofs.YtbkhnljaajajiaaGreatDoor
namespace Go.Proofs.YtbkhnljaajajiaaGreatDoor
open Go.ChangeShapes Go.WideShapes Go.ChangeAt Go.RowKit
theorem implLineValid (A:Option Addr) (n c:Nat) (xs:List Wr) (w:World) (h:WrsIn w w.heap.size A n c xs) :
  Calls Tryz.prog 94 #[.slice A n c] w fun e w'=>e = .returned (.bool (lineB (xs.map Wr.dat)))∧Below w.heap.size w w':=by
 have hnc:=h.2.1;have hm:=h.2.2.1;unfold maxLen at hm;have HL:=uH h.1;have H:=uH h;clear h;by_cases h20:20 < n
 ·have HN:Hid (lineB (xs.map Wr.dat)=false):=uH (lineB_long (by rw [List.length_map,HL.out];exact h20));go_enter Tryz.func94,Tryz.ntmps94
  go_wp2;go_returns;exact ⟨ret_bool HN.out.symm,Below.refl _ _⟩
 go_enter Tryz.func94,Tryz.ntmps94
 go_wp2;go_loopw [10] (fun i wr=>∃ k:Nat,k≤n∧i = .int .i64 k∧Hid (∀ j,j < k→datB (wrAt xs j).dat=true)∧Below w.heap.size w wr) (fun i _=>n - (intOf i).toNat)
 case atStart=>exact ⟨0,Nat.zero_le _,rfl,uH (fun j hj=>by omega),Below.refl _ _⟩
 case round =>
  obtain ⟨k,hk,rfl,HG,hb⟩:=hrel;by_cases hlt:k < n
  ·have hkl:k < xs.length:=(by rw [HL.out];exact hlt);obtain ⟨b,off,eA,hbB,q0,q1,hW⟩:=(H.out.keep hb).at_ hlt;have hal:Below wr.heap.size wr (wr.alloc (.cells #[.slice (wrAt xs k).A (wrAt xs k).n (wrAt xs k).c,.int .i64 (wrAt xs k).pos] 140)):=(Below.refl _ _).alloc (Nat.le_refl _) _;have HV:=uH (implWrittenValid _ _ _ _ (wrAt xs k).pos _ (hW.1.keep hal));have HNo:=uH (fun h=>lineB_no (dat_mem hkl) h);have HNx:=uH (fun (h:datB (wrAt xs k).dat=true) j (hj:j < k+1)=>if e:j=k then e ▸ h else HG.out j (by omega));have HD:Hid (datB (wrAt xs k).dat=wrB (wrAt xs k).ss (wrAt xs k).pos):=uH rfl;have bA:=below_next hb hal;subst eA;clear hW hkl HG hal;generalize wrAt xs k=x at *;cases hv:wrB x.ss x.pos with
   | false =>
    have HN:=uH (HNo.out (by rw [HD.out];exact hv));rw [hv] at HV;clear hv HNo HNx HD;(go_wp2_with fail);refine HV.out.mono ?_;rintro e w1 ⟨rfl,hb1⟩;have b1:=below_next bA hb1;go_wp2;go_returns;exact ⟨ret_bool HN.out.symm,b1⟩
   | true =>
    have HN:=uH (HNx.out (by rw [HD.out];exact hv));rw [hv] at HV;clear hv HNo HNx HD;(go_wp2_with fail);refine HV.out.mono ?_;rintro e w1 ⟨rfl,hb1⟩;have b1:=below_next bA hb1;clear hb1 q0 q1;go_wp2;go_roundw
    case rel=>exact ⟨k+1,by omega,by go_num,HN,b1⟩
    case measure=>simp [intOf];omega
  ·obtain rfl:n=k:=(by omega);have HR:Hid (lineB (xs.map Wr.dat)=true):=uH (by
    rw [lineB_iff,List.length_map,HL.out];refine ⟨by omega,fun d hd=>?_⟩;obtain ⟨x,hx,rfl⟩:=List.mem_map.1 hd;obtain ⟨j,hj,e⟩:=List.getElem_of_mem hx;have:=HG.out j (by rw [← HL.out];exact hj);unfold wrAt at this;rw [List.getD_eq_getElem?_getD,List.getElem?_eq_getElem hj] at this;simp only [Option.getD_some] at this;rw [e] at this;exact this)
   go_wp2;go_returns;exact ⟨ret_bool (by rw [HR.out]),hb⟩
theorem infoStr:(Tryz.prog.info? 9).map (fun i=>(i.zero,i.size,i.bytes))=some (some (.string ByteArray.empty),1,16):=by kernel_rfl
theorem rowStr (w:World) (u:Value) (t:TypeId):Row (w.alloc (.cells #[u] t)) (w.heap.size+1) (some ⟨w.heap.size,0,none⟩) 1 1 [u] :=
 ⟨rfl,fun _=>⟨w.heap.size,0,rfl,by omega,fun j x hx=>by
  rcases j with _ | j
  ·simp at hx;subst hx;exact newcell w #[u] t 0 u rfl
  ·simp at hx⟩⟩
def strV (d:Dat):Value:=.string (mkStr (datT d))
set_option maxHeartbeats 800000 in
theorem implLineText (A:Option Addr) (n c:Nat) (xs:List Wr) (w:World) (h:WrsIn w w.heap.size A n c xs) :
  Calls Tryz.prog 41 #[.slice A n c] w fun e w'=>e = .returned (.string (mkStr (lineText (xs.map Wr.dat))))∧Below w.heap.size w w':=by
 have hnc:=h.2.1;have hm:=h.2.2.1;unfold maxLen at hm;have HL:=uH h.1;have HV:=uH (implLineValid A n c xs w h);have H:=uH h;clear h;obtain ⟨i0,hi,hz0,hz1,hz2⟩:=info_parts infoStr;cases hv:lineB (xs.map Wr.dat) with
 | false =>
  have HR:=uH (lineText_no hv);rw [hv] at HV;clear hv;go_enter Tryz.func41,Tryz.ntmps41
  (go_wp2_with fail);refine HV.out.mono ?_;rintro e w1 ⟨rfl,b1⟩;go_wp2;go_returns;exact ⟨ret_str (a:=[]) HR.out.symm,b1⟩
 | true =>
  have HR:=uH (lineText_yes hv);have h20:=(lineB_iff.1 hv).1;rw [List.length_map,HL.out] at h20;rw [hv] at HV;clear hv;go_enter Tryz.func41,Tryz.ntmps41
  (go_wp2_with fail);refine HV.out.mono ?_;rintro e w1 ⟨rfl,b1⟩;go_wp2;go_loopw [3,12] (fun v i wr=>∃ k:Nat,k≤n∧i = .int .i64 k∧Hid (wr.ownsRow w1.heap.size 9 1 v k (((xs.take k).map Wr.dat).map strV))∧Below w1.heap.size w1 wr) (fun _ i _=>n - (intOf i).toNat)
  case atStart =>
   refine ⟨0,Nat.zero_le _,rfl,uH ?_,(Below.refl _ _).alloc (Nat.le_refl _) _⟩;exact World.ownsRow_made w1 #[] 0 (Nat.le_refl _) (by simp) (by simp)
  case round =>
   obtain ⟨k,hk,rfl,HO,hb⟩:=hrel;have b2:=below_next b1 hb;have hz:=hb.size;by_cases hlt:k < n
   ·have hkl:k < xs.length:=(by rw [HL.out];exact hlt);obtain ⟨b,off,eA,hbB,q0,q1,hX⟩:=(H.out.keep b2).at_ hlt;have hal:Below wr.heap.size wr (wr.alloc (.cells #[.slice (wrAt xs k).A (wrAt xs k).n (wrAt xs k).c,.int .i64 (wrAt xs k).pos] 140)):=(Below.refl _ _).alloc (Nat.le_refl _) _;have HT:=uH (implWrittenText _ _ _ _ (wrAt xs k).pos _ (hX.1.keep hal));have HSt:Hid (((xs.take (k+1)).map Wr.dat).map strV=((xs.take k).map Wr.dat).map strV++[.string (mkStr (wrText (wrAt xs k).ss (wrAt xs k).pos))]):=uH (by
     have e:xs.take (k+1)=xs.take k++[wrAt xs k]:=by
      rw [List.take_succ_eq_append_getElem hkl];have:xs[k]=wrAt xs k:=(by unfold wrAt;rw [List.getD_eq_getElem?_getD,List.getElem?_eq_getElem hkl];rfl);rw [this]
     rw [e,List.map_append,List.map_append];rfl)
    have bA:=hb.alloc hz (.cells #[.slice (wrAt xs k).A (wrAt xs k).n (wrAt xs k).c,.int .i64 (wrAt xs k).pos] 140);have HOA:=uH (HO.out.alloc (.cells #[.slice (wrAt xs k).A (wrAt xs k).n (wrAt xs k).c,.int .i64 (wrAt xs k).pos] 140));subst eA;clear hX hkl hal HO;generalize wrAt xs k=x at *;generalize mkStr (wrText x.ss x.pos)=t at *;generalize ((xs.take k).map Wr.dat).map strV=L at *;(go_wp2_with fail);refine HT.out.mono ?_;rintro e w3 ⟨rfl,hb3⟩;have b3:=bA.trans (hb3.mono (by simp;omega));have HO3:=uH (ownG_keep HOA.out hb3);have hz3:=b3.size;clear hb3 HOA q0 q1;go_wp2_with (at_builtin;refine wpList_append_any _ rfl (.tmp 16) (.tmp 19) _ rfl w1.heap.size 9 i0 _ 1 16 Tryz.underlying27 hi hz0 hz1 hz2 rfl (by omega) _ k L rfl (HO3.out.alloc _) (w3.heap.size+1) (some ⟨w3.heap.size,0,none⟩) 1 1 [.string t] rfl (rowStr _ _ _) (by simp [Value.oneCell']) (by unfold maxLen;omega) (by omega) (by simp;omega) ?_;intro v4 w4 hown4 hg4 hat4)
    have HO4:Hid (w4.ownsRow w1.heap.size 9 1 v4 (k+1) (((xs.take (k+1)).map Wr.dat).map strV)):=uH (by rw [HSt.out];exact hown4);have b4:Below w1.heap.size w1 w4:=(b3.alloc hz3 _).grown hg4 (by simp;omega) (fun z hz=>ownG_base HO3.out hz);clear hown4 hg4 hat4 HO3;go_wp2;go_roundw
    case rel=>exact ⟨k+1,by omega,by go_num,HO4,b4⟩
    case measure=>simp [intOf];omega
   ·obtain rfl:n=k:=(by omega);rw [List.take_of_length_le (by rw [HL.out];exact Nat.le_refl _)] at HO;obtain ⟨A4,c4,rfl,hc4,hm4⟩:=ownG_form HO.out;have HJ:Hid (Calls Tryz.prog 73 #[.slice A4 n c4,.string { data:=#[32] }] wr fun e w'=>e = .returned (.string (mkStr (lineT (xs.map Wr.dat))))∧Below wr.heap.size wr w'):=uH (by
     have hO:=HO.out;have hle:(xs.map Wr.dat).length=n:=(by rw [List.length_map];exact HL.out);generalize xs.map Wr.dat=D at *;by_cases h0:n=0
     ·subst h0;have hD:D=[]:=List.length_eq_zero_iff.1 hle;subst hD;exact (Tryz.strings_Join_none A4 c4 _ wr).mono fun e w' ⟨he,hw⟩=>⟨he,by rw [hw];exact Below.refl _ _⟩
     ·obtain ⟨g,cap,hv,_,hlt⟩:=hO.form (by omega);have hA:A4=some ⟨g,0,none⟩:=(by injection hv);subst hA;have hS:(D.map fun d=>mkStr (datT d)).length=n:=(by rw [List.length_map];exact hle);have hJ:=Tryz.strings_Join g 0 c4 (D.map fun d=>mkStr (datT d)) { data:=#[32] } wr (fun j x hx=>by
       rw [List.getElem?_map] at hx;cases hd:D[j]? with
       | none=>rw [hd] at hx;cases hx
       | some d =>
        rw [hd] at hx;injection hx with hx;subst hx;have:wr.cell? (Addr.add ⟨g,0,none⟩ j)=some (.string (mkStr (datT d))):=hO.cells (g:=g) rfl j (strV d) (by rw [List.getElem?_map,hd];rfl);by_cases hj0:j=0
        ·subst hj0;simpa [Addr.add] using this
        ·simpa [Addr.add,hj0] using this) hlt (by rw [hS];omega) (by rw [hS];exact hc4) (by
       have:=lineT_len D;unfold lineT at this;rw [show (D.map fun d=>mkStr (datT d)).map (·.data.toList)=D.map datT by rw [List.map_map];rfl]
       show (Lib.join (D.map datT) [32]).length≤_
       omega)
      rw [hS] at hJ;rw [show (D.map fun d=>mkStr (datT d)).map (·.data.toList)=D.map datT by rw [List.map_map];rfl] at hJ;exact hJ)
    have HR2:Hid (lineT (xs.map Wr.dat)=lineText (xs.map Wr.dat)):=uH HR.out.symm;clear HO;(go_wp2_with fail);refine HJ.out.mono ?_;rintro e w3 ⟨rfl,hb3⟩;have b3:=below_next b2 hb3;go_wp2;go_returns;exact ⟨ret_str HR2.out,b3⟩
theorem pairs_at : ∀ {l:List UInt8} {j:Nat} (h:2 * j+1 < l.length),(pairsS l)[j]? = some ⟨(l[2 * j].toNat:Int) - 48,sizeN l[2 * j+1]⟩
 | [],j,h=>by simp at h
 | [_],j,h=>by simp at h
 | a::b::r,0,h=>rfl
 | a::b::r,j+1,h=>by
  have h2:2 * j+1 < r.length:=(by simp at h;omega);have:=pairs_at (l:=r) (j:=j) h2;rw [pairsS,List.getElem?_cons_succ,this];rfl
theorem pairs_take {l:List UInt8} {j:Nat} (h:2 * j+1 < l.length):(pairsS l).take (j+1)=(pairsS l).take j++[⟨(l[2 * j].toNat:Int) - 48,sizeN l[2 * j+1]⟩]:=by
 rw [List.take_add_one,pairs_at h];rfl
theorem sizeN_bd (c:UInt8):0≤sizeN c∧sizeN c≤3:=by unfold sizeN;split <;> (try split) <;> (try split) <;> omega
theorem pairs_good {l:List UInt8} : ∀ s∈pairsS l,s.good:=by
 intro s hs;obtain ⟨j,hj,e⟩:=List.getElem_of_mem hs;rw [pairsS_len] at hj;have h1:=pairs_at (l:=l) (j:=j) (by omega);rw [List.getElem?_eq_getElem (by rw [pairsS_len];exact hj),e] at h1;injection h1 with h1;subst h1;have h2:=sizeN_bd l[2 * j+1];have h3:=l[2 * j].toNat_lt;exact ⟨WalkArith.wf_i64 (by simp only;omega),WalkArith.wf_i64 (by simp only;omega)⟩
theorem index_size (c:UInt8):Lib.indexByte [115,109,108] c+1=sizeN c:=by
 unfold sizeN;by_cases h1:c=115
 ·subst h1;decide
 ·by_cases h2:c=109
  ·subst h2;decide
  ·by_cases h3:c=108
   ·subst h3;decide
   ·rw [if_neg h1,if_neg h2,if_neg h3];have e1 : ¬ (115:UInt8)=c:=fun h=>h1 h.symm;have e2 : ¬ (109:UInt8)=c:=fun h=>h2 h.symm;have e3 : ¬ (108:UInt8)=c:=fun h=>h3 h.symm;simp [Lib.indexByte,e1,e2,e3]
theorem StrOwn.reads {w:World} {B n c:Nat} {A:Option Addr} {ss:List Stroke} (h:StrOwn w B (.slice A n c) ss) (hn:ss.length=n) (hg : ∀ s∈ss,s.good):StrokesIn w w.heap.size A n c ss:=by
 unfold StrOwn at h;rw [hn] at h;obtain ⟨A',c',e,h1,h2⟩:=ownG_form h;injection e with e1 e2 e3;subst e1 e3;exact ⟨hn,h1,h2,Row.of_own h,hg⟩
def FromAns (w':World) (B:Nat) (o:Option (List Stroke)) (e:Ending):Prop :=
 (o=none∧∃ A c,e = .returned (.tuple #[.slice A 0 c,.bool false])∧StrOwn w' B (.slice A 0 c) []) ∨
 ∃ A c ss,o=some ss∧e = .returned (.tuple #[.slice A ss.length c,.bool true])∧StrOwn w' B (.slice A ss.length c) ss∧∀ s∈ss,s.good
theorem FromAns.no {w':World} {B:Nat} {o:Option (List Stroke)} {e:Ending} {A:Option Addr} {c:Nat} (h:o=none) (he:e = .returned (.tuple #[.slice A 0 c,.bool false])) (hc:StrOwn w' B (.slice A 0 c) []):FromAns w' B o e:=.inl ⟨h,A,c,he,hc⟩
theorem FromAns.yes {w':World} {B:Nat} {o:Option (List Stroke)} {e:Ending} {v:Value} {ss:List Stroke} (h:o=some ss) (he:e = .returned (.tuple #[v,.bool true])) (hc:StrOwn w' B v ss) (hg : ∀ s∈ss,s.good):FromAns w' B o e:=by
 obtain ⟨A,c,rfl,_⟩:=ownG_form hc;exact .inr ⟨A,c,ss,h,he,hc,hg⟩
theorem infoSt:(Tryz.prog.info? 63).map (fun i=>(i.zero,i.size,i.bytes))=some (some (.agg #[.int .i64 0,.int .i64 0]),2,16):=by kernel_rfl
theorem rowNewSt (w:World) (u1 u2:Value) (t:TypeId):Row (w.alloc (.cells #[u1,u2] t)) (w.heap.size+1) (some ⟨w.heap.size,0,none⟩) 1 2 [u1,u2]:=by
 refine ⟨rfl,fun _=>⟨w.heap.size,0,rfl,by omega,fun j x hx=>?_⟩⟩;rcases j with _ | _ | j
 ·simp at hx;subst hx;exact newcell w #[u1,u2] t 0 u1 rfl
 ·simp at hx;subst hx;exact newcell w #[u1,u2] t 1 u2 rfl
 ·simp at hx
theorem StrOwn.made (w:World):StrOwn (w.alloc (.cells #[] 63)) w.heap.size (.slice (some ⟨w.heap.size,0,none⟩) 0 0) []:=World.ownsRow_made w #[] 0 (Nat.le_refl _) (by simp) (by simp)
set_option maxHeartbeats 800000 in
theorem implOutlineFrom (s:ByteArray) (w:World) (hs:s.size≤4096) :
  Calls Tryz.prog 163 #[.string s] w fun e w'=>FromAns w' w.heap.size (fromS s.data.toList) e∧Below w.heap.size w w':=by
 obtain ⟨i0,hi,hz0,hz1,hz2⟩:=info_parts infoSt;have HSz:Hid (s.data.toList.length=s.size):=uH (by simp);by_cases hodd:s.size % 2=1
 ·have HN:Hid (fromS s.data.toList=none):=uH (fromS_no (.inl (by rw [HSz.out];exact hodd)));have ho:(((s.size:Int) % 2) != 0)=true:=bne_iff_ne.2 (by omega);clear hodd;go_enter Tryz.func163,Tryz.ntmps163
  go_wp2;go_returns;exact ⟨.no HN.out rfl (World.ownsRow_nil _ _ _ _),Below.refl _ _⟩
 have ho:(((s.size:Int) % 2) != 0)=false:=bne_eq_false_iff_eq.2 (by omega);by_cases h16:16 < s.size
 ·have HN:Hid (fromS s.data.toList=none):=uH (fromS_no (.inr (outB_long (by rw [pairsS_len,HSz.out];omega))));clear hodd;go_enter Tryz.func163,Tryz.ntmps163
  go_wp2;go_returns;exact ⟨.no HN.out rfl (World.ownsRow_nil _ _ _ _),Below.refl _ _⟩
 have HE:=uH (show s.size % 2=0 by omega);clear hodd;go_enter Tryz.func163,Tryz.ntmps163
 go_wp2;go_loopw [4,5] (fun v i wr=>∃ (k j:Nat),Hid (k=2 * j)∧k≤s.size∧i = .int .i64 k∧Hid (StrOwn wr w.heap.size v ((pairsS s.data.toList).take j))∧Below w.heap.size w wr) (fun _ i _=>s.size - (intOf i).toNat)
 case atStart=>exact ⟨0,0,uH rfl,Nat.zero_le _,rfl,uH (StrOwn.made w),(Below.refl _ _).alloc (Nat.le_refl _) _⟩
 case round =>
  obtain ⟨k,j,HK,hk,rfl,HO,hb⟩:=hrel;have hz:=hb.size;by_cases hlt:k < s.size
  ·have hlt1:k+1 < s.size:=(by have:=HK.out;have:=HE.out;omega);have i1:(0:Int)≤(k:Int):=(by omega);have i2:(k:Int) < (s.size:Int):=(by omega);have i3:(0:Int)≤(k:Int)+1:=(by omega);have i4:(k:Int)+1 < (s.size:Int):=(by omega);have w1:IntKind.i64.wrap ((k:Int)+1)=(k:Int)+1:=IntWalk.i64_in _ (by omega);have hc7:=s[k].toNat_lt;have w2:IntKind.i64.wrap (s[k].toNat:Int)=(s[k].toNat:Int):=IntWalk.i64_in _ (by omega);have w3:IntKind.i64.wrap ((s[k].toNat:Int) - 48)=(s[k].toNat:Int) - 48:=IntWalk.i64_in _ (by omega);obtain ⟨z1,z2⟩:=sizeN_bd s[k+1];have HIx:Hid (∀ W,Calls Tryz.prog 209 #[.string { data:=#[115,109,108] },.int .u8 (s[k+1].toNat:Int)] W fun e w'=>e = .returned (.int .i64 (sizeN s[k+1] - 1))∧w'=W):=uH (fun W=>(Tryz.strings_IndexByte { data:=#[115,109,108] } (s[k+1].toNat:Int) W).mono fun e w' ⟨he,hw⟩=>⟨by
    rw [he];have e1:((s[k+1].toNat:Int).toNat.toUInt8)=s[k+1]:=(by rw [Int.toNat_natCast];simp);rw [e1];exact ret_int (by have:=index_size s[k+1];show Lib.indexByte [115,109,108] s[k+1]=_;omega),hw⟩)
   have w4:IntKind.i64.wrap (sizeN s[k+1])=sizeN s[k+1]:=IntWalk.i64_in _ (by omega);have HTk:Hid ((pairsS s.data.toList).take (j+1)=(pairsS s.data.toList).take j++[⟨(s[k].toNat:Int) - 48,sizeN s[k+1]⟩]):=uH (by
    have hk2:=HK.out;subst hk2;exact pairs_take (by rw [HSz.out];omega))
   have hlj:((pairsS s.data.toList).take j).length≤8:=(by rw [List.length_take,pairsS_len,HSz.out];omega);have hlz:((pairsS s.data.toList).take (j+1)).length=((pairsS s.data.toList).take j).length+1:=(by rw [HTk.out,List.length_append];rfl);clear hlz;generalize (pairsS s.data.toList).take j=L at *;generalize hln:L.length=Ln at *;have HLn:=uH hln;clear hln;have HO2:Hid (wr.drew.ownsRow w.heap.size 63 2 u4 Ln (L.flatMap stC)):=uH (by have h:=HO.out;unfold StrOwn at h;rw [HLn.out] at h;exact h);generalize sizeN s[k+1]=z at *;(go_wp2_with fail);go_region_held3 (fun _=>True) (trivial) (first
    | (go_at_call 209;refine (HIx.out _).mono ?_;rintro e w2 ⟨rfl,rfl⟩)
    | ((refine step_append_any _ rfl (.tmp 22) (.tmp 35) _ rfl w.heap.size 63 i0 _ 2 16 Tryz.underlying138 hi hz0 hz1 hz2 rfl (by omega) _ Ln (L.flatMap stC) rfl (HO2.out.alloc _) (wr.heap.size+1) (some ⟨wr.heap.size,0,none⟩) 1 1 [.int .i64 ((s[k].toNat:Int) - 48),.int .i64 z] rfl (rowNewSt _ _ _ _) (by simp [Value.oneCell']) (by unfold maxLen;omega) (by omega) (by simp;omega) ?_;intro v4 w4 hown4 hg4 hat4)))
   all_goals (
    have HO4:Hid (StrOwn w4 w.heap.size v4 ((pairsS s.data.toList).take (j+1))):=uH (by rw [HTk.out];unfold StrOwn;rw [List.length_append,List.flatMap_append,HLn.out];exact hown4);have b4:Below w.heap.size w w4:=Below.grown (w:=(wr.alloc (.cells #[.int .i64 ((s[k].toNat:Int) - 48),.int .i64 z] 63)).drew) (hb.alloc hz _).drew hg4 (by show w.heap.size≤(wr.alloc _).heap.size;simp;omega) (fun z hz=>ownG_base HO2.out hz);clear hown4 hg4 hat4 HO HO2 HIx;go_wp2;go_roundw
    case rel=>exact ⟨k+2,j+1,uH (by have:=HK.out;omega),by omega,by go_num,HO4,b4⟩
    case measure=>simp [intOf];omega)
  ·have hj:(pairsS s.data.toList).take j=pairsS s.data.toList:=List.take_of_length_le (by rw [pairsS_len,HSz.out];have:=HK.out;omega);rw [hj] at HO;obtain ⟨A5,c5,rfl,_,_⟩:=ownG_form HO.out;have HR5:=HO.out.reads rfl pairs_good;have HV:=uH (implOutlineValid _ _ _ _ wr HR5);clear hj HR5;cases ho2:outB (pairsS s.data.toList) with
   | false =>
    have HN:Hid (fromS s.data.toList=none):=uH (fromS_no (.inr ho2));rw [ho2] at HV;clear ho2;(go_wp2_with fail);refine HV.out.mono ?_;rintro e w3 ⟨rfl,hb3⟩;have b3:=below_next hb hb3;go_wp2;go_returns;exact ⟨.no HN.out rfl (World.ownsRow_nil _ _ _ _),b3⟩
   | true =>
    have HY:Hid (fromS s.data.toList=some (pairsS s.data.toList)):=uH (fromS_yes (by rw [HSz.out];exact HE.out) ho2);rw [ho2] at HV;clear ho2;(go_wp2_with fail);refine HV.out.mono ?_;rintro e w3 ⟨rfl,hb3⟩;have b3:=below_next hb hb3;have HO3:=uH (ownG_keep HO.out hb3);go_wp2;go_returns;exact ⟨.yes HY.out rfl HO3.out pairs_good,b3⟩
theorem own_mono0 {w:World} {B B':Nat} {v:Value} {ss:List Stroke} (h:StrOwn w B v ss) (hB:B'≤B):StrOwn w B' v ss:=ownG_mono h hB
def WrAns (w':World) (B:Nat) (o:Option (List Stroke × Int)) (e:Ending):Prop :=
 (o=none∧e = .returned (.tuple #[.agg #[.slice none 0 0,.int .i64 0],.bool false])) ∨
 ∃ A c ss p,o=some (ss,p)∧e = .returned (.tuple #[.agg #[.slice A ss.length c,.int .i64 p],.bool true])∧StrOwn w' B (.slice A ss.length c) ss∧∀ s∈ss,s.good
theorem StrOwn.far {w:World} {B:Nat} {v:Value} {ss:List Stroke} (h:StrOwn w B v ss) {p:Addr} (hp:p.block < B) (u:Value):StrOwn (w.setCell p u) B v ss :=
 ownG_congr h fun b hb=>Below.heap_setCell w p u b (by have:=ownG_base h hb;omega)
theorem ext_mid (s:ByteArray) (f k:Nat):s.extract f k=mkStr ((s.data.toList.take k).drop f):=by
 apply ByteArray.ext;apply Array.toList_inj.1;simp [mkStr,List.extract_eq_take_drop,List.drop_take]
theorem ext_end (s:ByteArray) (f:Nat):s.extract f s.size=mkStr (s.data.toList.drop f):=by
 rw [ext_mid];congr 2
 exact List.take_of_length_le (by simp)
def cutQ (d:UInt8):List UInt8→List UInt8→List (List UInt8)
 | cur,[]=>[cur]
 | cur,c::r=>if c=d then cur::cutQ d [] r else cutQ d (cur++[c]) r
def cutB (d:UInt8) (l:List UInt8):List (List UInt8):=cutQ d [] l
theorem cutQ_len (d:UInt8) (cur l:List UInt8):(cutQ d cur l).length≤l.length+1:=by
 induction l generalizing cur with
 | nil=>simp [cutQ]
 | cons c r ih =>
  unfold cutQ;split
  ·have:=ih [];simp;omega
  ·have:=ih (cur++[c]);simp;omega
theorem cutQ_bd (d:UInt8) (cur l:List UInt8) : ∀ p∈cutQ d cur l,p.length≤cur.length+l.length:=by
 induction l generalizing cur with
 | nil=>intro p hp;simp [cutQ] at hp;subst hp;simp
 | cons c r ih =>
  intro p hp;unfold cutQ at hp;split at hp
  ·rcases List.mem_cons.1 hp with rfl | hp
   ·simp
   ·have:=ih [] p hp;simp at this ⊢;omega
  ·have:=ih _ p hp;simp at this ⊢;omega
end Go.Proofs.YtbkhnljaajajiaaGreatDoor
