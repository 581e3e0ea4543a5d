/-
  Contracts and plain laws that the proofs lean on. Conditions: as each says.
-/
import Derived.Test.YtbkhnljaajajiaaGreatDoorPExecuteWrite03
set_option maxRecDepth 100000
set_option linter.unusedSimpArgs false
set_option linter.unusedVariables false
set_option linter.unnecessarySimpa false
namespace Go.Proofs.YtbkhnljaajajiaaGreatDoor
open Go.ChangeShapes Go.WideShapes Go.ChangeAt Go.RowKit
theorem idxOf_no {xs:List Sg} {ws:List (List UInt8)} (h:(sysB xs && dicB ws)=false):idxOf xs ws=[]:=if_neg (by rintro ⟨h1,h2⟩;rw [h1,h2] at h;cases h)
theorem idxOf_yes {xs:List Sg} {ws:List (List UInt8)} (h:(sysB xs && dicB ws)=true):idxOf xs ws=idxK xs ws ws.length:=if_pos (by rw [Bool.and_eq_true] at h;exact h)
set_option maxHeartbeats 800000 in
theorem specDictionaryWritten (A:Option Addr) (n c:Nat) (xs:List Sg) (A':Option Addr) (n' c':Nat) (ws:List (List UInt8)) (w:World) (hW : ∀ l∈ws,l.length≤maxLen) (h:SgsIn w w.heap.size A n c xs) (h':WdsIn w w.heap.size A' n' c' ws) :
  Calls Tryz.prog 84 #[.slice A n c,.slice A' n' c'] w fun e w'=>IdxAns w' w.heap.size (idxOf xs ws) e∧Below w.heap.size w w':=by
 obtain ⟨i0,hi,hz0,hz1,hz2⟩:=info_parts infoInt;have hm:=h'.2.2.1;have hnc:=h'.2.1;unfold maxLen at hm;have hal:Below w.heap.size w (w.alloc (.cells #[] 3)):=(Below.refl _ _).alloc (Nat.le_refl _) _;have HO0:Hid (NatOwn (w.alloc (.cells #[] 3)) w.heap.size (.slice (some ⟨w.heap.size,0,none⟩) 0 0) []):=uH (World.ownsRow_made w #[] 0 (Nat.le_refl _) (by simp) (by simp));have HL:=uH h'.1;have HB:=uH (fun W (hb:Below w.heap.size w W)=>l2Both A n c xs A' n' c' ws W hW (h.keep hb) (h'.keep hb));have HW:=uH hW;have H:=uH h;have H':=uH h';clear h h' hW;by_cases h0:n'=0
 ·have HR:Hid (idxOf xs ws=[]):=uH (by
   have hw:ws=[]:=List.eq_nil_of_length_eq_zero (by rw [HL.out];exact h0);subst hw;unfold idxOf;split <;> rfl)
  subst h0;go_enter Tryz.func84,Tryz.ntmps84
  go_wp2;go_loopw [5,6] (fun o i wr=>o = .slice (some ⟨w.heap.size,0,none⟩) 0 0∧i = .int .i64 0∧wr=w.alloc (.cells #[] 3)) (fun _ _ _=>0)
  case atStart=>exact ⟨rfl,rfl,rfl⟩
  case round =>
   obtain ⟨rfl,rfl,rfl⟩:=hrel;go_wp2;go_ret;exact ⟨⟨_,_,by rw [HR.out];rfl,by rw [HR.out];exact HO0.out⟩,hal⟩
 have hp:0 < n':=(by omega);cases hb:(sysB xs && dicB ws) with
 | false =>
  have HR:Hid (idxOf xs ws=[]):=uH (idxOf_no hb);rw [hb] at HB;clear hb;go_enter Tryz.func84,Tryz.ntmps84
  go_wp2;go_loopw [5,6] (fun o i wr=>o = .slice (some ⟨w.heap.size,0,none⟩) 0 0∧i = .int .i64 0∧wr=w.alloc (.cells #[] 3)) (fun _ _ _=>0)
  case atStart=>exact ⟨rfl,rfl,rfl⟩
  case round =>
   obtain ⟨rfl,rfl,rfl⟩:=hrel;(go_wp2_with fail);refine (HB.out _ hal).mono ?_;rintro e w1 ⟨rfl,hb1⟩;have b1:=below_next hal hb1;have HO1:=uH (ownG_keep HO0.out hb1);go_wp2;go_ret;exact ⟨⟨_,_,by rw [HR.out];rfl,by rw [HR.out];exact HO1.out⟩,b1⟩
 | true =>
  have HR:Hid (idxOf xs ws=idxK xs ws n'):=uH (by rw [idxOf_yes hb,HL.out]);have hn20:n'≤20:=by
   rw [Bool.and_eq_true] at hb;have:=(dicB_iff.1 hb.2).1;rw [HL.out] at this;exact this
  rw [hb] at HB;clear hb;have HOu:=uH (fun W (hb:Below w.heap.size w W) (l:List UInt8) (hl:l.length≤maxLen)=>specWordOutline A n c xs (mkStr l) W (by rw [mkStr_size];exact hl) (H.out.keep hb));go_enter Tryz.func84,Tryz.ntmps84
  go_wp2;go_loopw [5,6] (fun o i wr=>∃ k:Nat,k≤n'∧i = .int .i64 k∧Hid (NatOwn wr w.heap.size o (idxK xs ws k))∧Below w.heap.size w wr) (fun _ i _=>n' - (intOf i).toNat)
  case atStart=>exact ⟨0,Nat.zero_le _,rfl,HO0,hal⟩
  case round =>
   obtain ⟨k,hk,rfl,HO,hb⟩:=hrel;have hz:=hb.size;have hlk:=idxK_len xs ws k;by_cases hlt:k < n'
   ·have i1:(0:Int)≤(k:Int):=(by omega);have i2:(k:Int) < (n':Int):=(by omega);(go_wp2_with fail);refine (HB.out _ hb).mono ?_;rintro e w1 ⟨rfl,hb1⟩;have b1:=below_next hb hb1;have HO1:=uH (ownG_keep HO.out hb1);obtain ⟨b,off,rfl,hbB,c0⟩:=(H'.out.keep b1).at_ hlt;have HOk:=uH (HOu.out w1 b1 (wdAt ws k) (HW.out _ (wdAt_mem (by rw [HL.out];exact hlt))));rw [mkStr_data] at HOk;have HS:=uH (idxK_succ xs ws k);have HLk:Hid (idxK xs ws k=idxK xs ws k):=uH rfl;clear hb1 HO;generalize wdAt ws k=l at *;generalize hI:idxK xs ws k=I at *;have HI:=uH hI;clear hI;(go_wp2_with fail);refine HOk.out.mono ?_;rintro e w2 ⟨hA,hb2⟩;have b2:=below_next b1 hb2;have z2:=b2.size;have HO2:=uH (ownG_keep HO1.out hb2);rcases hA with ⟨hn,A2,c2,rfl,_⟩ | ⟨A2,c2,ss,hn,rfl,_⟩
    ·have HS2:Hid (idxK xs ws (k+1)=I):=uH (by rw [HS.out,hn];exact List.append_nil _);clear hn hb2 HO1 HOk;go_wp2;go_roundw
     case rel=>exact ⟨k+1,by omega,by go_num,uH (by rw [HS2.out];exact HO2.out),b2⟩
     case measure=>simp [intOf];omega
    ·have HS2:Hid (idxK xs ws (k+1)=I++[k]):=uH (by rw [HS.out,hn];rfl);clear hn hb2 HO1 HOk;go_wp2_with (at_builtin;refine wpList_append_any _ rfl (.tmp 31) (.tmp 33) _ rfl w.heap.size 3 i0 _ 1 8 Tryz.underlying105 hi hz0 hz1 hz2 rfl (by omega) _ I.length (I.map natP) rfl (HO2.out.alloc _) (w2.heap.size+1) (some ⟨w2.heap.size,0,none⟩) 1 1 [.int .i64 (k:Int)] rfl (rowNew1 _ _ _) (by simp [Value.oneCell']) (by unfold maxLen;omega) (by omega) (by simp;omega) ?_;intro v4 w4 hown4 hg4 hat4)
     have HO4:Hid (NatOwn w4 w.heap.size v4 (idxK xs ws (k+1))):=uH (by rw [HS2.out];unfold NatOwn;rw [List.length_append,List.map_append];exact hown4);have b4:=(b2.alloc z2 _).grown hg4 (by simp;omega) (fun q hq=>ownG_base HO2.out hq);clear hown4 hg4 hat4;go_wp2;go_roundw
     case rel=>exact ⟨k+1,by omega,by go_num,HO4,b4⟩
     case measure=>simp [intOf];omega
   ·obtain rfl:k=n':=(by omega);have HO3:=uH HO.out;rw [← HR.out] at HO3;obtain ⟨A6,c6,rfl,hc6,hm6⟩:=ownG_form HO3.out;go_wp2;go_ret;exact ⟨⟨A6,c6,rfl,HO3.out⟩,hb⟩
end Go.Proofs.YtbkhnljaajajiaaGreatDoor
