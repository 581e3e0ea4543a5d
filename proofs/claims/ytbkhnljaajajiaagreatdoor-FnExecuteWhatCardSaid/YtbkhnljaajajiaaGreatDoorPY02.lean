/-
  Contracts and plain laws that the proofs lean on. Conditions: as each says.
-/
import Derived.Test.YtbkhnljaajajiaaGreatDoorPX11
import Derived.Test.YtbkhnljaajajiaaGreatDoorPY00
set_option maxRecDepth 100000
set_option linter.unusedSimpArgs false
set_option linter.unusedVariables false
set_option linter.unnecessarySimpa false
namespace Go.Proofs.YtbkhnljaajajiaaGreatDoor
theorem joinT_snoc (L:List (List UInt8)) (y sep:List UInt8) (h:0 < L.length):Lib.join (L++[y]) sep=Lib.join L sep++(sep++y):=by
 cases L with
 | nil=>simp at h
 | cons x r =>
  rw [List.cons_append,Lib.join_cons,Lib.join_cons];unfold Lib.joinTail;simp
theorem drawK_zero (ps:List Pad):drawK ps 0=[]:=by unfold drawK drawT;simp [Lib.join_nil]
theorem drawK_first {ps:List Pad} (h:0 < ps.length):drawK ps 1=dayT (padAt ps 0):=by
 unfold drawK drawT;rw [padTake h];simp [Lib.join_cons,Lib.joinTail]
theorem drawK_step {ps:List Pad} {k:Nat} (h:k < ps.length) (h0:0 < k):drawK ps (k+1)=drawK ps k++([32]++dayT (padAt ps k)):=by
 unfold drawK drawT;rw [padTake h,List.map_append];exact joinT_snoc _ _ _ (by rw [List.length_map,List.length_take];omega)
end Go.Proofs.YtbkhnljaajajiaaGreatDoor
namespace Go.Proofs.YtbkhnljaajajiaaGreatDoor
open Go.ChangeShapes Go.WideShapes Go.ChangeAt Go.RowKit
theorem specStrokeText (s:Stroke) (w:World):Calls Tryz.prog 268 #[.agg #[.int .i64 s.dir,.int .i64 s.size]] w fun e w'=>e = .returned (.string (mkStr (if okS s=true then sText s else [])))∧Below w.heap.size w w':=by
 have HV:=uH (fun w=>specStrokeValid s.dir s.size w);have hal:Below w.heap.size w (w.alloc (.cells #[.int .i64 s.dir,.int .i64 s.size] 63)):=(Below.refl _ _).alloc (Nat.le_refl _) _;have p0:=newcell w #[.int .i64 s.dir,.int .i64 s.size] 63 0 _ rfl;have p1:=newcell w #[.int .i64 s.dir,.int .i64 s.size] 63 1 _ rfl;cases ho:okS s with
 | false =>
  have HO:Hid (okS ⟨s.dir,s.size⟩=false):=uH ho;clear ho;go_enter Tryz.func268,Tryz.ntmps268
  (go_wp2_with fail);refine (HV.out _).mono ?_;rw [HO.out];rintro e w1 ⟨rfl,hb1⟩;have b1:=below_next hal hb1;go_wp2;go_returns;exact ⟨rfl,b1⟩
 | true =>
  have HO:Hid (okS ⟨s.dir,s.size⟩=true):=uH ho;obtain ⟨h1,h2,h3,h4⟩:=okS_iff.1 ho;have HD:=uH (fun w=>l6DecDigit s.dir w h1 (by omega));have hA : ∀ W,(Op.stringOp .add (mkStr [UInt8.ofNat (48+s.dir).toNat]) (mkStr [sizeL s.size])).run Tryz.prog W = .ok (.string (mkStr (sText s))) W:=fun W=>run_add _ _ (by simp) W;have hz:s.size=1∨s.size=2∨s.size=3:=(by omega);clear ho;generalize sText s=t at *;obtain ⟨d,z⟩:=s;simp only at h1 h2 h3 h4 hz HD hA HO HV p0 p1 hal;generalize mkStr [UInt8.ofNat (48+d).toNat]=u at *;have x1:(⟨#[115,109,108]⟩:ByteArray).extract 0 1=mkStr [sizeL 1]:=rfl;have x2:(⟨#[115,109,108]⟩:ByteArray).extract 1 2=mkStr [sizeL 2]:=rfl;have x3:(⟨#[115,109,108]⟩:ByteArray).extract 2 3=mkStr [sizeL 3]:=rfl;rcases hz with rfl | rfl | rfl
  all_goals (
   go_enter Tryz.func268,Tryz.ntmps268
   (go_wp2_with fail);refine (HV.out _).mono ?_;rw [HO.out];rintro e w1 ⟨rfl,hb1⟩;have b1:=below_next hal hb1;have q0:=kcell hb1 p0;have q1:=kcell hb1 p1;have r0:=qcell q0;have r1:=qcell q1;have e0:IntKind.i64.wrap 0=0:=rfl;have e1:IntKind.i64.wrap 1=1:=rfl;have e2:IntKind.i64.wrap 2=2:=rfl;clear hb1;(go_wp2_with fail);refine region_qb (by kernel_rfl) (by kernel_rfl) ?_;repeat (first | go_big_quiet_step ((go_at_call 55;exact quietB (HD.out _))) | quiet_step ((go_at_call 55;exact quietB (HD.out _))))
   refine wpQuiet_nil ?_;intro w3 hb3;have b3:=below_next b1 hb3;clear r0 r1 q0 q1 hb3;go_wp2;go_returns;exact ⟨rfl,b3⟩)
set_option maxHeartbeats 1000000 in
theorem specOutlineText (A:Option Addr) (n c:Nat) (ss:List Stroke) (w:World) (h:StrokesIn w w.heap.size A n c ss) :
  Calls Tryz.prog 265 #[.slice A n c] w fun e w'=>e = .returned (.string (mkStr (outText ss)))∧Below w.heap.size w w':=by
 have hnc:=h.2.1;have hm:=h.2.2.1;unfold maxLen at hm;have HL:=uH h.1;have H:=uH h;clear h;have HV:Hid (∀ W,Below w.heap.size w W→Calls Tryz.prog 202 #[.slice A n c] W fun e w'=>e = .returned (.bool (outB ss))∧Below W.heap.size W w'):=uH (fun W hW=>specOutlineValid A n c ss W (H.out.keep hW));cases ho:outB ss with
 | false =>
  have HR:=uH (outText_no ho);rw [ho] at HV;clear ho;go_enter Tryz.func265,Tryz.ntmps265
  go_wp2;go_loopw [3,4] (fun t i wr=>t = .string (mkStr [])∧i = .int .i64 0∧Below w.heap.size w wr) (fun _ _ _=>0)
  case atStart=>exact ⟨rfl,rfl,Below.refl _ _⟩
  case round =>
   obtain ⟨rfl,rfl,hb⟩:=hrel;by_cases hlt:0 < n
   ·(go_wp2_with fail);refine (HV.out _ hb).mono ?_;rintro e w1 ⟨rfl,hb1⟩;have b1:=below_next hb hb1;go_wp2;go_returns;exact ⟨ret_str HR.out.symm,b1⟩
   ·obtain rfl:n=0:=(by omega);go_wp2;go_returns;exact ⟨ret_str HR.out.symm,hb⟩
 | true =>
  have HR:=uH (outText_yes ho);have HO:=uH ho;have h8:=outB_len ho;rw [HL.out] at h8;rw [ho] at HV;clear ho;go_enter Tryz.func265,Tryz.ntmps265
  go_wp2;go_loopw [3,4] (fun t i wr=>∃ k:Nat,k≤n∧i = .int .i64 k∧t = .string (mkStr (textS (ss.take k)))∧Below w.heap.size w wr) (fun _ i _=>n - (intOf i).toNat)
  case atStart=>exact ⟨0,Nat.zero_le _,rfl,rfl,Below.refl _ _⟩
  case round =>
   obtain ⟨k,hk,rfl,rfl,hb⟩:=hrel;by_cases hlt:k < n
   ·have hkl:k < ss.length:=(by rw [HL.out];exact hlt);have HTx:=uH (text_step hkl);have hA : ∀ W,(Op.stringOp .add (mkStr (textS (ss.take k))) (mkStr (sText (strokeAt ss k)))).run Tryz.prog W = .ok (.string (mkStr (textS (ss.take k)++sText (strokeAt ss k)))) W:=fun W=>run_add _ _ (by rw [textS_len,List.length_take,sText_len];omega) W;have HS:=uH (fun W=>specStrokeText (strokeAt ss k) W);rw [if_pos (outB_ok HO.out (strokeAt_mem hkl))] at HS;rw [← HTx.out] at hA;clear hkl;(go_wp2_with fail);refine (HV.out _ hb).mono ?_;rintro e w1 ⟨rfl,hb1⟩;have b1:=below_next hb hb1;obtain ⟨b,off,eA,hbB,q0,q1,hg⟩:=(H.out.keep b1).at_ hlt;subst eA;clear hb1 hg;generalize strokeAt ss k=s at *;generalize sText s=st at *;generalize textS (ss.take k)=tx at *;(go_wp2_with fail);refine (HS.out _).mono ?_;rintro e w2 ⟨rfl,hb2⟩;have b2:=below_next b1 hb2;clear hb2 q0 q1;go_wp2;go_roundw
    case rel=>exact ⟨k+1,by omega,by go_num,rfl,b2⟩
    case measure=>simp [intOf];omega
   ·have e:ss.take k=ss:=List.take_of_length_le (by rw [HL.out];omega);have HE:Hid (textS (ss.take k)=outText ss):=uH (by rw [e,HR.out]);clear e;go_wp2;go_returns;exact ⟨ret_str HE.out,hb⟩
theorem specWrittenValid (A:Option Addr) (n c:Nat) (ss:List Stroke) (p:Int) (w:World) (h:StrokesIn w w.heap.size A n c ss) :
  Calls Tryz.prog 264 #[.agg #[.slice A n c,.int .i64 p]] w fun e w'=>e = .returned (.bool (wrB ss p))∧Below w.heap.size w w':=by
 have hal:Below w.heap.size w (w.alloc (.cells #[.slice A n c,.int .i64 p] 140)):=(Below.refl _ _).alloc (Nat.le_refl _) _;have HO:=uH (specOutlineValid A n c ss _ (h.keep hal));have HR:Hid (wrB ss p=(outB ss && decide (0≤p∧p≤2))):=uH rfl;have p0:=newcell w #[.slice A n c,.int .i64 p] 140 0 _ rfl;have p1:=newcell w #[.slice A n c,.int .i64 p] 140 1 _ rfl;clear h;generalize outB ss=o at *;cases o with
 | false =>
  go_enter Tryz.func264,Tryz.ntmps264
  (go_wp2_with fail);refine HO.out.mono ?_;rintro e w1 ⟨rfl,hb1⟩;have b1:=below_next hal hb1;go_wp2;go_returns;exact ⟨ret_bool (by rw [HR.out];rfl),b1⟩
 | true =>
  go_enter Tryz.func264,Tryz.ntmps264
  (go_wp2_with fail);refine HO.out.mono ?_;rintro e w1 ⟨rfl,hb1⟩;have b1:=below_next hal hb1;have q0:=kcell hb1 p0;have q1:=kcell hb1 p1;clear hb1 p0 p1;(go_wp2_with fail);refine (l6In_any _ _ _ _).mono ?_;rintro e w2 ⟨rfl,rfl⟩;go_wp2;go_returns;exact ⟨ret_bool (by rw [HR.out,Bool.true_and,Bool.decide_and]),b1⟩
theorem specWrittenText (A:Option Addr) (n c:Nat) (ss:List Stroke) (p:Int) (w:World) (h:StrokesIn w w.heap.size A n c ss) :
  Calls Tryz.prog 253 #[.agg #[.slice A n c,.int .i64 p]] w fun e w'=>e = .returned (.string (mkStr (wrText ss p)))∧Below w.heap.size w w':=by
 have hal:Below w.heap.size w (w.alloc (.cells #[.slice A n c,.int .i64 p] 140)):=(Below.refl _ _).alloc (Nat.le_refl _) _;have HO:Hid (∀ W,Below w.heap.size w W→Calls Tryz.prog 265 #[.slice A n c] W fun e w'=>e = .returned (.string (mkStr (outText ss)))∧Below W.heap.size W w'):=uH (fun W hW=>specOutlineText A n c ss W (h.keep hW));have HV:=uH (specWrittenValid A n c ss p _ (h.keep hal));have p0:=newcell w #[.slice A n c,.int .i64 p] 140 0 _ rfl;have p1:=newcell w #[.slice A n c,.int .i64 p] 140 1 _ rfl;clear h;cases hv:wrB ss p with
 | false =>
  have HR:=uH (wrText_no hv);rw [hv] at HV;clear hv;go_enter Tryz.func253,Tryz.ntmps253
  (go_wp2_with fail);refine HV.out.mono ?_;rintro e w1 ⟨rfl,hb1⟩;have b1:=below_next hal hb1;go_wp2;go_returns;exact ⟨ret_str (a:=[]) HR.out.symm,b1⟩
 | true =>
  have HR:=uH (wrText_yes hv);obtain ⟨_,h0,h2⟩:=wrB_iff.1 hv;rw [hv] at HV;clear hv;have hl:=outText_len ss;have hA : ∀ W,(Op.stringOp .add (mkStr [markL p]) (mkStr (outText ss))).run Tryz.prog W = .ok (.string (mkStr (markL p::outText ss))) W:=fun W=>run_add _ _ (by simp;omega) W;clear hl;obtain ⟨x1,x2,x3⟩:=marks_cut;have e1:IntKind.i64.wrap 1=1:=rfl;have e2:IntKind.i64.wrap 2=2:=rfl;have e3:IntKind.i64.wrap 3=3:=rfl;have hp:p=0∨p=1∨p=2:=(by omega);rw [← HR.out] at hA;generalize wrText ss p=tt at *;generalize outText ss=t at *;rcases hp with rfl | rfl | rfl
  all_goals (
   go_enter Tryz.func253,Tryz.ntmps253
   (go_wp2_with fail);refine HV.out.mono ?_;rintro e w1 ⟨rfl,hb1⟩;have b1:=below_next hal hb1;have q0:=kcell hb1 p0;have q1:=kcell hb1 p1;have r0:=qcell q0;have r1:=qcell q1;clear hb1 p0 p1;(go_wp2_with fail);refine region_qb (by kernel_rfl) (by kernel_rfl) ?_;repeat (first | go_big_quiet_step ((go_at_call 265;exact quietB (HO.out _ (below_next b1 (below_regrown _ _ _))))) | quiet_step ((go_at_call 265;exact quietB (HO.out _ (below_next b1 (below_regrown _ _ _))))))
   refine wpQuiet_nil ?_;intro w3 hb3;have b3:=below_next b1 hb3;clear r0 r1 q0 q1 hb3;go_wp2;go_returns;exact ⟨rfl,b3⟩)
theorem join_snoc (L:List (List UInt8)) (y sep:List UInt8) (h:0 < L.length):Lib.join (L++[y]) sep=Lib.join L sep++(sep++y):=by
 cases L with
 | nil=>simp at h
 | cons x r =>
  rw [List.cons_append,Lib.join_cons,Lib.join_cons];unfold Lib.joinTail;simp
theorem lineT_step {xs:List Wr} {k:Nat} (h:k < xs.length) (h0:0 < k):lineT ((xs.take (k+1)).map Wr.dat)=lineT ((xs.take k).map Wr.dat)++([32]++datT (wrAt xs k).dat):=by
 unfold lineT;have e:xs.take (k+1)=xs.take k++[wrAt xs k]:=by
  rw [List.take_succ_eq_append_getElem h];have:xs[k]=wrAt xs k:=(by unfold wrAt;rw [List.getD_eq_getElem?_getD,List.getElem?_eq_getElem h];rfl);rw [this]
 rw [e,List.map_append,List.map_append];exact join_snoc _ _ _ (by rw [List.length_map,List.length_map,List.length_take];omega)
theorem lineT_first {xs:List Wr} (h:0 < xs.length):lineT ((xs.take 1).map Wr.dat)=datT (wrAt xs 0).dat:=by
 cases xs with
 | nil=>simp at h
 | cons x r=>unfold lineT;rw [List.take_succ_cons,List.take_zero];exact Lib.join_one _ _
def lineK (xs:List Wr) (k:Nat):List UInt8:=lineT ((xs.take k).map Wr.dat)
theorem lineK_zero (xs:List Wr):lineK xs 0=[]:=rfl
theorem lineK_len (xs:List Wr) (k:Nat):(lineK xs k).length≤18 * k:=by
 have h:=lineT_len ((xs.take k).map Wr.dat);rw [List.length_map,List.length_take] at h;unfold lineK;omega
theorem lineK_step {xs:List Wr} {k:Nat} (h:k < xs.length) (h0:0 < k):lineK xs (k+1)=lineK xs k++([32]++datT (wrAt xs k).dat):=lineT_step h h0
theorem lineK_first {xs:List Wr} (h:0 < xs.length):lineK xs 1=datT (wrAt xs 0).dat:=lineT_first h
theorem lineK_all (xs:List Wr) {k:Nat} (h:xs.length≤k):lineK xs k=lineT (xs.map Wr.dat):=by unfold lineK;rw [List.take_of_length_le h]
theorem specLineValid (A:Option Addr) (n c:Nat) (xs:List Wr) (w:World) (h:WrsIn w w.heap.size A n c xs) :
  Calls Tryz.prog 252 #[.slice A n c] w fun e w'=>e = .returned (.bool (lineB (xs.map Wr.dat)))∧Below w.heap.size w w':=by
 have hnc:=h.2.1;have hm:=h.2.2.1;unfold maxLen at hm;have HL:=uH h.1;have H:=uH h;clear h;go_enter Tryz.func252,Tryz.ntmps252
 go_wp2;go_loopw [3] (fun i wr=>∃ k:Nat,k≤n∧i = .int .i64 k∧Hid (∀ j,j < k→datB (wrAt xs j).dat=true)∧Below w.heap.size w wr) (fun i _=>n - (intOf i).toNat)
 case atStart=>exact ⟨0,Nat.zero_le _,rfl,uH (fun j hj=>by omega),Below.refl _ _⟩
 case round =>
  obtain ⟨k,hk,rfl,HG,hb⟩:=hrel;by_cases hlt:k < n
  ·have hkl:k < xs.length:=(by rw [HL.out];exact hlt);obtain ⟨b,off,eA,hbB,q0,q1,hW⟩:=(H.out.keep hb).at_ hlt;have HV:=uH (specWrittenValid _ _ _ _ (wrAt xs k).pos wr hW.1);have HNo:=uH (fun h=>lineB_no (dat_mem hkl) h);have HNx:=uH (fun (h:datB (wrAt xs k).dat=true) j (hj:j < k+1)=>if e:j=k then e ▸ h else HG.out j (by omega));have HD:Hid (datB (wrAt xs k).dat=wrB (wrAt xs k).ss (wrAt xs k).pos):=uH rfl;subst eA;clear hW hkl HG;generalize wrAt xs k=x at *;cases hv:wrB x.ss x.pos with
   | false =>
    have HN:=uH (HNo.out (by rw [HD.out];exact hv));rw [hv] at HV;clear hv HNo HNx HD;(go_wp2_with fail);refine HV.out.mono ?_;rintro e w1 ⟨rfl,hb1⟩;have b1:=below_next hb hb1;go_wp2;go_returns;exact ⟨ret_bool HN.out.symm,b1⟩
   | true =>
    have HN:=uH (HNx.out (by rw [HD.out];exact hv));rw [hv] at HV;clear hv HNo HNx HD;(go_wp2_with fail);refine HV.out.mono ?_;rintro e w1 ⟨rfl,hb1⟩;have b1:=below_next hb hb1;clear hb1 q0 q1;go_wp2;go_roundw
    case rel=>exact ⟨k+1,by omega,by go_num,HN,b1⟩
    case measure=>simp [intOf];omega
  ·obtain rfl:n=k:=(by omega);have HR:Hid (lineB (xs.map Wr.dat)=decide ((n:Int)≤20)):=uH (by
    rw [Bool.eq_iff_iff,lineB_iff,decide_eq_true_iff,List.length_map,HL.out];refine ⟨fun h=>by omega,fun h=>⟨by omega,fun d hd=>?_⟩⟩;obtain ⟨x,hx,rfl⟩:=List.mem_map.1 hd;obtain ⟨j,hj,e⟩:=List.getElem_of_mem hx;have:=HG.out j (by rw [← HL.out];exact hj);unfold wrAt at this;rw [List.getD_eq_getElem?_getD,List.getElem?_eq_getElem hj] at this;simp only [Option.getD_some] at this;rw [e] at this;exact this)
   go_wp2;go_returns;exact ⟨ret_bool (by rw [HR.out]),hb⟩
theorem specLineText (A:Option Addr) (n c:Nat) (xs:List Wr) (w:World) (h:WrsIn w w.heap.size A n c xs) :
  Calls Tryz.prog 223 #[.slice A n c] w fun e w'=>e = .returned (.string (mkStr (lineText (xs.map Wr.dat))))∧Below w.heap.size w w':=by
 have hnc:=h.2.1;have hm:=h.2.2.1;unfold maxLen at hm;have HL:=uH h.1;have H:=uH h;clear h;have HV:Hid (∀ W,Below w.heap.size w W→Calls Tryz.prog 252 #[.slice A n c] W fun e w'=>e = .returned (.bool (lineB (xs.map Wr.dat)))∧Below W.heap.size W w'):=uH (fun W hW=>specLineValid A n c xs W (H.out.keep hW));cases hv:lineB (xs.map Wr.dat) with
 | false =>
  have HR:=uH (lineText_no hv);rw [hv] at HV;clear hv;go_enter Tryz.func223,Tryz.ntmps223
  go_wp2;go_loopw [3,4] (fun t i wr=>t = .string (mkStr [])∧i = .int .i64 0∧Below w.heap.size w wr) (fun _ _ _=>0)
  case atStart=>exact ⟨rfl,rfl,Below.refl _ _⟩
  case round =>
   obtain ⟨rfl,rfl,hb⟩:=hrel;by_cases hlt:0 < n
   ·(go_wp2_with fail);refine (HV.out _ hb).mono ?_;rintro e w1 ⟨rfl,hb1⟩;have b1:=below_next hb hb1;go_wp2;go_returns;exact ⟨ret_str HR.out.symm,b1⟩
   ·obtain rfl:n=0:=(by omega);go_wp2;go_returns;exact ⟨ret_str HR.out.symm,hb⟩
 | true =>
  have HR:=uH (lineText_yes hv);have h20:=(lineB_iff.1 hv).1;rw [List.length_map,HL.out] at h20;rw [hv] at HV;clear hv;go_enter Tryz.func223,Tryz.ntmps223
  go_wp2;go_loopw [3,4] (fun t i wr=>∃ k:Nat,k≤n∧i = .int .i64 k∧t = .string (mkStr (lineK xs k))∧Below w.heap.size w wr) (fun _ i _=>n - (intOf i).toNat)
  case atStart=>exact ⟨0,Nat.zero_le _,rfl,rfl,Below.refl _ _⟩
  case round =>
   obtain ⟨k,hk,rfl,rfl,hb⟩:=hrel;by_cases hlt:k < n
   ·have hkl:k < xs.length:=(by rw [HL.out];exact hlt);have HT:Hid (∀ W,Below w.heap.size w W→Calls Tryz.prog 253 #[.agg #[.slice (wrAt xs k).A (wrAt xs k).n (wrAt xs k).c,.int .i64 (wrAt xs k).pos]] W fun e w'=>e = .returned (.string (mkStr (datT (wrAt xs k).dat)))∧Below W.heap.size W w'):=uH (fun W hW=>by
     obtain ⟨b,off,eA,hbB,q0,q1,hX⟩:=(H.out.keep hW).at_ hlt;exact specWrittenText _ _ _ _ _ W hX.1)
    have hl1:=lineK_len xs k;have hl2:=datT_len (wrAt xs k).dat;by_cases hk0:0 < k
    ·have hA1 : ∀ W,(Op.stringOp .add (mkStr (lineK xs k)) ({ data:=#[32] })).run Tryz.prog W = .ok (.string (mkStr (lineK xs k++[32]))) W:=fun W=>run_add _ [32] (by simp;omega) W;have hA2 : ∀ W,(Op.stringOp .add (mkStr (lineK xs k++[32])) (mkStr (datT (wrAt xs k).dat))).run Tryz.prog W = .ok (.string (mkStr (lineK xs (k+1)))) W:=fun W=>by
      rw [run_add _ _ (by simp;omega) W,lineK_step hkl hk0,List.append_assoc]
     clear hl1 hl2;(go_wp2_with fail);refine (HV.out _ hb).mono ?_;rintro e w1 ⟨rfl,hb1⟩;have b1:=below_next hb hb1;obtain ⟨b,off,eA,hbB,q0,q1,hg⟩:=(H.out.keep b1).at_ hlt;subst eA;clear hb1 hg hkl;generalize wrAt xs k=x at *;generalize datT x.dat=dt at *;(go_wp2_with fail);refine (HT.out _ b1).mono ?_;rintro e w2 ⟨rfl,hb2⟩;have b2:=below_next b1 hb2;clear hb2 q0 q1;go_wp2;go_roundw
     case rel=>exact ⟨k+1,by omega,by go_num,rfl,b2⟩
     case measure=>simp [intOf];omega
    ·obtain rfl:k=0:=(by omega);have hA2 : ∀ W,(Op.stringOp .add (mkStr (lineK xs 0)) (mkStr (datT (wrAt xs 0).dat))).run Tryz.prog W = .ok (.string (mkStr (lineK xs (0+1)))) W:=fun W=>by
      rw [run_add _ _ (by omega) W,lineK_first hkl,lineK_zero,List.nil_append]
     clear hl1 hl2 hk0;(go_wp2_with fail);refine (HV.out _ hb).mono ?_;rintro e w1 ⟨rfl,hb1⟩;have b1:=below_next hb hb1;obtain ⟨b,off,eA,hbB,q0,q1,hg⟩:=(H.out.keep b1).at_ hlt;subst eA;simp only [Nat.zero_mul,Nat.add_zero] at q0 q1;clear hb1 hg hkl;generalize wrAt xs 0=x at *;generalize datT x.dat=dt at *;(go_wp2_with fail);refine (HT.out _ b1).mono ?_;rintro e w2 ⟨rfl,hb2⟩;have b2:=below_next b1 hb2;clear hb2 q0 q1;go_wp2;go_roundw
     case rel=>exact ⟨0+1,by omega,rfl,rfl,b2⟩
     case measure=>simp [intOf];omega
   ·have HE:Hid (lineK xs k=lineText (xs.map Wr.dat)):=uH (by rw [lineK_all xs (by rw [HL.out];omega),HR.out]);go_wp2;go_returns;exact ⟨ret_str HE.out,hb⟩
theorem l1Size (c:UInt8) (w:World):Calls Tryz.prog 221 #[.int .u8 (c.toNat:Int)] w fun e w'=>e = .returned (.int .i64 (sizeN c))∧w'=w:=by
 by_cases h1:c=115
 ·subst h1;go_enter Tryz.func221,Tryz.ntmps221
  go_wp2;go_ret;exact ⟨rfl,rfl⟩
 ·by_cases h2:c=109
  ·subst h2;go_enter Tryz.func221,Tryz.ntmps221
   go_wp2;go_ret;exact ⟨rfl,rfl⟩
  ·by_cases h3:c=108
   ·subst h3;go_enter Tryz.func221,Tryz.ntmps221
    go_wp2;go_ret;exact ⟨rfl,rfl⟩
   ·have HR:Hid (sizeN c=0):=uH (by unfold sizeN;rw [if_neg h1,if_neg h2,if_neg h3]);have g : ∀ d:UInt8,c≠d→((c.toNat:Int) == (d.toNat:Int))=false:=fun d hd=>beq_eq_false_iff_ne.2 (fun e=>hd (UInt8.toNat_inj.1 (by omega)));have g1:((c.toNat:Int) == 115)=false:=g 115 h1;have g2:((c.toNat:Int) == 109)=false:=g 109 h2;have g3:((c.toNat:Int) == 108)=false:=g 108 h3;clear h1 h2 h3 g;generalize (c.toNat:Int)=x at *;go_enter Tryz.func221,Tryz.ntmps221
    go_wp2;go_ret;exact ⟨ret_int HR.out.symm,rfl⟩
set_option maxHeartbeats 800000 in
theorem specOutlineFrom (s:ByteArray) (w:World) (hs:s.size≤4096) :
  Calls Tryz.prog 174 #[.string s] w fun e w'=>FromAns w' w.heap.size (fromS s.data.toList) e∧Below w.heap.size w w':=by
 obtain ⟨i0,hi,hz0,hz1,hz2⟩:=info_parts infoSt;have HSz:Hid (s.data.toList.length=s.size):=uH (by simp);go_enter Tryz.func174,Tryz.ntmps174
 go_wp2;go_loopw [4,5] (fun v i wr=>∃ (k j:Nat),Hid (k=2 * j)∧k≤s.size∧i = .int .i64 k∧Hid (StrOwn wr w.heap.size v ((pairsS s.data.toList).take j))∧Below w.heap.size w wr) (fun _ i _=>s.size - (intOf i).toNat)
 case atStart=>exact ⟨0,0,uH rfl,Nat.zero_le _,rfl,uH (StrOwn.made w),(Below.refl _ _).alloc (Nat.le_refl _) _⟩
 case round =>
  obtain ⟨k,j,HK,hk,rfl,HO,hb⟩:=hrel;have hz:=hb.size;by_cases hlt1:k+1 < s.size
  ·have hlt:k < s.size:=(by omega);have i1:(0:Int)≤(k:Int):=(by omega);have i2:(k:Int) < (s.size:Int):=(by omega);have i3:(0:Int)≤(k:Int)+1:=(by omega);have i4:(k:Int)+1 < (s.size:Int):=(by omega);have w1:IntKind.i64.wrap ((k:Int)+1)=(k:Int)+1:=IntWalk.i64_in _ (by omega);have hc7:=s[k].toNat_lt;have w2:IntKind.i64.wrap (s[k].toNat:Int)=(s[k].toNat:Int):=IntWalk.i64_in _ (by omega);have w3:IntKind.i64.wrap ((s[k].toNat:Int) - 48)=(s[k].toNat:Int) - 48:=IntWalk.i64_in _ (by omega);obtain ⟨z1,z2⟩:=sizeN_bd s[k+1];have HIx:=uH (fun W=>l1Size s[k+1] W);have w4:IntKind.i64.wrap (sizeN s[k+1])=sizeN s[k+1]:=IntWalk.i64_in _ (by omega);have HTk:Hid ((pairsS s.data.toList).take (j+1)=(pairsS s.data.toList).take j++[⟨(s[k].toNat:Int) - 48,sizeN s[k+1]⟩]):=uH (by
    have hk2:=HK.out;subst hk2;exact pairs_take (by rw [HSz.out];omega))
   have hlj:((pairsS s.data.toList).take j).length≤2048:=(by rw [List.length_take,pairsS_len,HSz.out];omega);have hlz:((pairsS s.data.toList).take (j+1)).length=((pairsS s.data.toList).take j).length+1:=(by rw [HTk.out,List.length_append];rfl);clear hlz;generalize (pairsS s.data.toList).take j=L at *;generalize hln:L.length=Ln at *;have HLn:=uH hln;clear hln;have HO2:Hid (wr.drew.ownsRow w.heap.size 63 2 u4 Ln (L.flatMap stC)):=uH (by have h:=HO.out;unfold StrOwn at h;rw [HLn.out] at h;exact h);generalize sizeN s[k+1]=z at *;(go_wp2_with fail);go_region_held3 (fun _=>True) (trivial) (first
    | (go_at_call 221;refine (HIx.out _).mono ?_;rintro e w2 ⟨rfl,rfl⟩)
    | ((refine step_append_any _ rfl (.tmp 14) (.tmp 26) _ rfl w.heap.size 63 i0 _ 2 16 Tryz.underlying138 hi hz0 hz1 hz2 rfl (by omega) _ Ln (L.flatMap stC) rfl (HO2.out.alloc _) (wr.heap.size+1) (some ⟨wr.heap.size,0,none⟩) 1 1 [.int .i64 ((s[k].toNat:Int) - 48),.int .i64 z] rfl (rowNewSt _ _ _ _) (by simp [Value.oneCell']) (by unfold maxLen;omega) (by omega) (by simp;omega) ?_;intro v4 w4 hown4 hg4 hat4)))
   all_goals (
    have HO4:Hid (StrOwn w4 w.heap.size v4 ((pairsS s.data.toList).take (j+1))):=uH (by rw [HTk.out];unfold StrOwn;rw [List.length_append,List.flatMap_append,HLn.out];exact hown4);have b4:Below w.heap.size w w4:=Below.grown (w:=(wr.alloc (.cells #[.int .i64 ((s[k].toNat:Int) - 48),.int .i64 z] 63)).drew) (hb.alloc hz _).drew hg4 (by show w.heap.size≤(wr.alloc _).heap.size;simp;omega) (fun z hz=>ownG_base HO2.out hz);clear hown4 hg4 hat4 HO HO2 HIx;go_wp2;go_roundw
    case rel=>exact ⟨k+2,j+1,uH (by have:=HK.out;omega),by omega,by go_num,HO4,b4⟩
    case measure=>simp [intOf];omega)
  ·have hj:(pairsS s.data.toList).take j=pairsS s.data.toList:=List.take_of_length_le (by rw [pairsS_len,HSz.out];have:=HK.out;omega);rw [hj] at HO;obtain ⟨A5,c5,rfl,_,_⟩:=ownG_form HO.out;have HR5:=HO.out.reads rfl pairs_good;have HV:=uH (specOutlineValid _ _ _ _ wr HR5);clear hj HR5;by_cases hodd:s.size % 2=1
   ·have HN:Hid (fromS s.data.toList=none):=uH (fromS_no (.inl (by rw [HSz.out];exact hodd)));have ho:(((s.size:Int) % 2) == 1)=true:=beq_iff_eq.2 (by omega);clear hodd;go_wp2;go_returns;exact ⟨.no HN.out rfl (own_mono0 (StrOwn.made wr) hz),hb.alloc hz _⟩
   ·have ho:(((s.size:Int) % 2) == 1)=false:=beq_eq_false_iff_ne.2 (by omega);have HE:=uH (show s.size % 2=0 by omega);clear hodd;cases ho2:outB (pairsS s.data.toList) with
    | false =>
     have HN:Hid (fromS s.data.toList=none):=uH (fromS_no (.inr ho2));rw [ho2] at HV;clear ho2;(go_wp2_with fail);refine HV.out.mono ?_;rintro e w3 ⟨rfl,hb3⟩;have b3:=below_next hb hb3;have hz3:=b3.size;go_wp2;go_returns;exact ⟨.no HN.out rfl (own_mono0 (StrOwn.made w3) hz3),b3.alloc hz3 _⟩
    | true =>
     have HY:Hid (fromS s.data.toList=some (pairsS s.data.toList)):=uH (fromS_yes (by rw [HSz.out];exact HE.out) ho2);rw [ho2] at HV;clear ho2;(go_wp2_with fail);refine HV.out.mono ?_;rintro e w3 ⟨rfl,hb3⟩;have b3:=below_next hb hb3;have HO3:=uH (ownG_keep HO.out hb3);go_wp2;go_returns;exact ⟨.yes HY.out rfl HO3.out pairs_good,b3⟩
end Go.Proofs.YtbkhnljaajajiaaGreatDoor
