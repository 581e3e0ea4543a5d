/-
  Contracts and plain laws that the proofs lean on. Conditions: as each says.
-/
import Derived.Test.YtbkhnljaajajiaaGreatDoorPX09
import Derived.Test.YtbkhnljaajajiaaGreatDoorPX12
import Derived.Test.YtbkhnljaajajiaaGreatDoorPX14
import Derived.Lib.BufferRead
import Derived.Maps.OwnOps
import Derived.MapKept
import Derived.DeepKeys4
set_option maxRecDepth 100000
set_option linter.unusedSimpArgs false
set_option linter.unusedVariables false
set_option linter.unnecessarySimpa false
namespace Go.Proofs.YtbkhnljaajajiaaGreatDoor
open Go.ChangeShapes Go.WideShapes Go.ChangeAt Go.RowKit
theorem index_vow (c:UInt8):(0≤Lib.indexByte [97,101,105,111,117] c) ↔ isVow c=true:=by
 unfold isVow;rw [decide_eq_true_iff];by_cases h1:c=97
 ·subst h1;decide
 ·by_cases h2:c=101
  ·subst h2;decide
  ·by_cases h3:c=105
   ·subst h3;decide
   ·by_cases h4:c=111
    ·subst h4;decide
    ·by_cases h5:c=117
     ·subst h5;decide
     ·have e1 : ¬ (97:UInt8)=c:=fun h=>h1 h.symm;have e2 : ¬ (101:UInt8)=c:=fun h=>h2 h.symm;have e3 : ¬ (105:UInt8)=c:=fun h=>h3 h.symm;have e4 : ¬ (111:UInt8)=c:=fun h=>h4 h.symm;have e5 : ¬ (117:UInt8)=c:=fun h=>h5 h.symm;simp [Lib.indexByte,e1,e2,e3,e4,e5,h1,h2,h3,h4,h5]
theorem isVowel (c:UInt8) (w:World):Calls Tryz.prog 234 #[.int .u8 (c.toNat:Int)] w fun e w'=>e = .returned (.bool (isVow c))∧w=w':=by
 have HIx:Hid (∀ W,Calls Tryz.prog 209 #[.string { data:=#[97,101,105,111,117] },.int .u8 (c.toNat:Int)] W fun e w'=>e = .returned (.int .i64 (Lib.indexByte [97,101,105,111,117] c))∧w'=W):=uH (fun W=>(Tryz.strings_IndexByte { data:=#[97,101,105,111,117] } (c.toNat:Int) W).mono fun e w' ⟨he,hw⟩=>⟨by
  rw [he];have e1:((c.toNat:Int).toNat.toUInt8)=c:=(by rw [Int.toNat_natCast];simp);rw [e1],hw⟩)
 have HR:Hid (isVow c=decide (0≤Lib.indexByte [97,101,105,111,117] c)):=uH (by
  cases h:isVow c with
  | true=>exact (decide_eq_true ((index_vow c).2 h)).symm
  | false=>exact (decide_eq_false (fun h2=>by rw [(index_vow c).1 h2] at h;cases h)).symm)
 generalize Lib.indexByte [97,101,105,111,117] c=m at *;go_enter Tryz.func234,Tryz.ntmps234
 (go_wp2_with fail);refine (HIx.out _).mono ?_;rintro e w1 ⟨rfl,rfl⟩;go_wp2;go_ret;exact ⟨ret_bool (by rw [HR.out]),rfl⟩
theorem isVowelB (c:UInt8) {b:Bool} (h:isVow c=b) (w:World):Calls Tryz.prog 234 #[.int .u8 (c.toNat:Int)] w fun e w'=>e = .returned (.bool b)∧Below w.heap.size w w' :=
 (isVowel c w).mono (by rintro e w' ⟨rfl,rfl⟩;exact ⟨by rw [h],Below.refl _ _⟩)
theorem isConsonant (c:UInt8) (w:World):Calls Tryz.prog 203 #[.int .u8 (c.toNat:Int)] w fun e w'=>e = .returned (.bool (isLetter c && !isVow c))∧w=w':=by
 have HV:=uH (fun w=>isVowel c w);have HL:Hid (isLetter c=decide ((97:Int)≤(c.toNat:Int)∧(c.toNat:Int)≤122)):=uH (by
  unfold isLetter;rw [Bool.eq_iff_iff,decide_eq_true_iff,Bool.and_eq_true,decide_eq_true_iff,decide_eq_true_iff];omega)
 have hc0:0≤(c.toNat:Int):=(by omega);have hc1:(c.toNat:Int)≤255:=(by have:=c.toNat_lt;omega);generalize isVow c=v at *;generalize isLetter c=le at *;generalize (c.toNat:Int)=x at *;by_cases h1:97≤x
 ·by_cases h2:x≤122
  ·have HT:Hid (le=true):=uH (by rw [HL.out];exact decide_eq_true ⟨h1,h2⟩);go_enter Tryz.func203,Tryz.ntmps203
   (go_wp2_with fail);refine (HV.out _).mono ?_;rintro e w1 ⟨rfl,rfl⟩;go_wp2;go_ret;exact ⟨ret_bool (by rw [HT.out];rfl),rfl⟩
  ·have HT:Hid (le=false):=uH (by rw [HL.out];exact decide_eq_false (fun h=>h2 h.2));go_enter Tryz.func203,Tryz.ntmps203
   go_wp2;go_ret;exact ⟨ret_bool (by rw [HT.out];rfl),rfl⟩
 ·have HT:Hid (le=false):=uH (by rw [HL.out];exact decide_eq_false (fun h=>h1 h.1));go_enter Tryz.func203,Tryz.ntmps203
  go_wp2;go_ret;exact ⟨ret_bool (by rw [HT.out];rfl),rfl⟩
def btP (c:UInt8):Value:=.int .u8 (c.toNat:Int)
def BtOwn (w:World) (B:Nat) (v:Value) (l:List UInt8):Prop:=w.ownsRow B 5 1 v l.length (l.map btP)
theorem BtOwn.made (w:World):BtOwn (w.alloc (.cells #[] 5)) w.heap.size (.slice (some ⟨w.heap.size,0,none⟩) 0 0) []:=World.ownsRow_made w #[] 0 (Nat.le_refl _) (by simp) (by simp)
theorem infoU8:(Tryz.prog.info? 5).map (fun i=>(i.zero,i.size,i.bytes))=some (some (.int .u8 0),1,1):=by kernel_rfl
theorem rowNewB (w:World) (u:Value) (t:TypeId):Row (w.alloc (.cells #[u] t)) (w.heap.size+1) (some ⟨w.heap.size,0,none⟩) 1 1 [u]:=by
 refine ⟨rfl,fun _=>⟨w.heap.size,0,rfl,by omega,fun j x hj=>?_⟩⟩;rw [World.cell?_alloc_at _ t w.heap.size (0+j) rfl];simpa using hj
theorem BtOwn.conv {w:World} {B c:Nat} {A:Option Addr} {l:List UInt8} (h:BtOwn w B (.slice A l.length c) l) :
  (convert 22 9 (.slice A l.length c)).run Tryz.prog w = .ok (.string (mkStr l)) w:=by
 cases A with
 | none =>
  have h0:l.length=0:=by
   rcases h.2 with ⟨_,h0⟩ | ⟨g,cap,cur,e,_⟩
   ·exact h0
   ·injection e with e;cases e
  have:l=[]:=List.eq_nil_of_length_eq_zero h0;subst this;exact Lib.run_convert_nil_bytes w _ _ 5 c Tryz.underlying22 Tryz.underlying5 Tryz.underlying9
 | some a =>
  have ha:a=⟨a.block,0,none⟩:=by
   rcases h.2 with ⟨e,_⟩ | ⟨g,cap,cur,e,_⟩
   ·cases e
   ·injection e with e;injection e with e;rw [e]
  refine run_convert_bytes_back w _ _ 5 a c l Tryz.underlying22 Tryz.underlying5 Tryz.underlying9 (fun j hj=>?_);have:=(own_cell (j:=j) (u:=btP l[j]) h (gb:=a.block) rfl (by rw [List.getElem?_map,List.getElem?_eq_getElem hj];rfl)).1;unfold btP at this;rw [ha];by_cases h0:j=0
  ·subst h0;simpa [Addr.add] using this
  ·simpa [Addr.add,h0] using this
set_option maxHeartbeats 800000 in
theorem implWordVowels (s:ByteArray) (w:World) (hs:s.size≤maxLen) :
  Calls Tryz.prog 205 #[.string s] w fun e w'=>e = .returned (.string (mkStr (vowOf s.data.toList)))∧Below w.heap.size w w':=by
 obtain ⟨i0,hi,hz0,hz1,hz2⟩:=info_parts infoU8;have HL:Hid (s.data.toList.length=s.size):=uH (by simp);have HW:=uH (fun w=>implWordValid s w hs);have HV:=uH isVowel;cases hw:wordB s.data.toList with
 | false =>
  have HR:Hid (vowOf s.data.toList=[]):=uH (vowOf_no hw);rw [hw] at HW;clear hw;go_enter Tryz.func205,Tryz.ntmps205
  (go_wp2_with fail);refine (HW.out _).mono ?_;rintro e w1 ⟨rfl,rfl⟩;go_wp2;go_ret;exact ⟨by rw [HR.out];rfl,Below.refl _ _⟩
 | true =>
  have HR:Hid (vowOf s.data.toList=vowK s.data.toList s.size):=uH (by rw [vowOf_yes hw,HL.out]);have h12:s.size≤12:=(by have:=(wordB_iff.1 hw).1;rw [HL.out] at this;omega);rw [hw] at HW;clear hw;have HO0:=uH (BtOwn.made w);go_enter Tryz.func205,Tryz.ntmps205
  (go_wp2_with fail);refine (HW.out _).mono ?_;rintro e w1 ⟨rfl,rfl⟩;go_wp2;go_loopw [3,11] (fun v0 i wr=>∃ (k:Nat) (v:Value),k≤s.size∧i = .int .i64 k∧v=v0∧Hid (BtOwn wr w.heap.size v (vowK s.data.toList k))∧Below w.heap.size w wr) (fun _ i _=>s.size - (intOf i).toNat)
  case atStart=>exact ⟨0,_,Nat.zero_le _,rfl,rfl,HO0,(Below.refl _ _).alloc (Nat.le_refl _) _⟩
  case round =>
   obtain ⟨k,v,hk,rfl,rfl,HO,hb⟩:=hrel;have hz:=hb.size;by_cases hlt:k < s.size
   ·have he:=at8_str hlt;have HT:Hid (vowK s.data.toList (k+1)=vowK s.data.toList k++if isVow s[k]=true then [s[k]] else []):=uH (by rw [vowK_succ];unfold vowPick;rw [he]);have hl:=vowK_len s.data.toList k;have i1:(0:Int)≤(k:Int):=(by omega);have i2:(k:Int) < (s.size:Int):=(by omega);clear he;generalize vowK s.data.toList k=t at *;generalize hc:s[k]=c at *;(go_wp2_with fail);refine (HV.out _ _).mono ?_;rintro e w1 ⟨rfl,rfl⟩;cases hv:isVow c with
    | true =>
     have HT2:Hid (vowK s.data.toList (k+1)=t++[c]):=uH (by rw [HT.out,if_pos hv]);have HOa:Hid (∀ o,(wr.alloc o).ownsRow w.heap.size 5 1 v t.length (t.map btP)):=uH (fun o=>ownG_keep HO.out ((Below.refl _ _).alloc (Nat.le_refl _) o));go_wp2_with (at_builtin;refine wpList_append_any _ rfl (.tmp 18) (.tmp 22) _ rfl w.heap.size 5 i0 _ 1 1 Tryz.underlying22 hi hz0 hz1 hz2 rfl (by omega) v t.length (t.map btP) rfl (HOa.out _) (wr.heap.size+1) (some ⟨wr.heap.size,0,none⟩) 1 1 [.int .u8 (c.toNat:Int)] rfl (rowNewB _ _ _) (by simp [Value.oneCell']) (by unfold maxLen;omega) (by omega) (by simp;omega) ?_;intro v4 w4 hown4 hg4 hat4)
     have HO4:Hid (BtOwn w4 w.heap.size v4 (vowK s.data.toList (k+1))):=uH (by rw [HT2.out];unfold BtOwn;rw [List.length_append,List.map_append];exact hown4);have b4:=(hb.alloc hz _).grown hg4 (by simp;omega) (fun q hq=>ownG_base HO.out hq);clear hown4 hg4 hat4;go_wp2;go_roundw
     case rel=>exact ⟨k+1,_,by omega,by go_num,rfl,HO4,b4⟩
     case measure=>simp [intOf];omega
    | false =>
     have HT2:Hid (vowK s.data.toList (k+1)=t):=uH (by rw [HT.out,if_neg (by rw [hv];simp),List.append_nil]);go_wp2;go_roundw
     case rel=>exact ⟨k+1,_,by omega,by go_num,rfl,uH (by rw [HT2.out];exact HO.out),hb⟩
     case measure=>simp [intOf];omega
   ·obtain rfl:k=s.size:=(by omega);obtain ⟨A6,c6,rfl,hc6,hm6⟩:=ownG_form HO.out;have hconv:=BtOwn.conv HO.out;go_wp2;go_ret;exact ⟨by rw [HR.out];rfl,hb⟩
set_option maxHeartbeats 1600000 in
theorem implWordBare (s:ByteArray) (w:World) (hs:s.size≤maxLen) :
  Calls Tryz.prog 235 #[.string s] w fun e w'=>e = .returned (.string (mkStr (bareOf s.data.toList)))∧Below w.heap.size w w':=by
 obtain ⟨i0,hi,hz0,hz1,hz2⟩:=info_parts infoU8;have HL:Hid (s.data.toList.length=s.size):=uH (by simp);have HW:=uH (fun w=>implWordValid s w hs);cases hw:wordB s.data.toList with
 | false =>
  have HR:Hid (bareOf s.data.toList=[]):=uH (bareOf_no hw);rw [hw] at HW;clear hw;go_enter Tryz.func235,Tryz.ntmps235
  (go_wp2_with fail);refine (HW.out _).mono ?_;rintro e w1 ⟨rfl,rfl⟩;go_wp2;go_ret;exact ⟨by rw [HR.out];rfl,Below.refl _ _⟩
 | true =>
  have HR:Hid (bareOf s.data.toList=bareK s.data.toList s.size):=uH (by rw [bareOf_yes hw,HL.out]);have h12:s.size≤12:=(by have:=(wordB_iff.1 hw).1;rw [HL.out] at this;omega);rw [hw] at HW;clear hw;have HO0:=uH (BtOwn.made w);go_enter Tryz.func235,Tryz.ntmps235
  (go_wp2_with fail);refine (HW.out _).mono ?_;rintro e w1 ⟨rfl,rfl⟩;go_wp2;go_loopw [3,11] (fun v0 i wr=>∃ (k:Nat) (v:Value),k≤s.size∧i = .int .i64 k∧v=v0∧Hid (BtOwn wr w.heap.size v (bareK s.data.toList k))∧Below w.heap.size w wr) (fun _ i _=>s.size - (intOf i).toNat)
  case atStart=>exact ⟨0,_,Nat.zero_le _,rfl,rfl,HO0,(Below.refl _ _).alloc (Nat.le_refl _) _⟩
  case round =>
   obtain ⟨k,v,hk,rfl,rfl,HO,hb⟩:=hrel;have hz:=hb.size;by_cases hlt:k < s.size
   ·have he:=at8_str hlt;have HT:Hid (bareK s.data.toList (k+1)=bareK s.data.toList k++if isVow s[k]=false∧(k=0∨at8 s.data.toList (k - 1)≠s[k]) then [s[k]] else []):=uH (by rw [bareK_succ];unfold barePick;rw [he]);have hl:=bareK_len s.data.toList k;have i1:(0:Int)≤(k:Int):=(by omega);have i2:(k:Int) < (s.size:Int):=(by omega);by_cases hk0:k=0
    ·subst hk0;clear he;generalize bareK s.data.toList 0=t at *;generalize hc:s[0]=c at *;cases hv:isVow c with
     | true =>
      have HT2:Hid (bareK s.data.toList (0+1)=t):=uH (by rw [HT.out,if_neg (by rw [hv];simp),List.append_nil]);have HV2:=uH (fun w=>isVowelB c hv w);(go_wp2_with fail);refine region_qb (by kernel_rfl) (by kernel_rfl) ?_;repeat (first | go_big_quiet_step ((go_at_call 234;exact quietB (HV2.out _))) | quiet_step ((go_at_call 234;exact quietB (HV2.out _))))
      refine wpQuiet_nil ?_;intro w1 hb1;have b1:=below_next hb hb1;have HO1:=uH (ownG_keep HO.out hb1);clear hb1;go_wp2;go_roundw
      case rel=>exact ⟨0+1,_,by omega,by go_num,rfl,uH (by rw [HT2.out];exact HO1.out),b1⟩
      case measure=>simp [intOf];omega
     | false =>
      have HT2:Hid (bareK s.data.toList (0+1)=t++[c]):=uH (by rw [HT.out,if_pos ⟨hv,Or.inl (by trivial)⟩]);have HV2:=uH (fun w=>isVowelB c hv w);(go_wp2_with fail);refine region_qb (by kernel_rfl) (by kernel_rfl) ?_;repeat (first | go_big_quiet_step ((go_at_call 234;exact quietB (HV2.out _))) | quiet_step ((go_at_call 234;exact quietB (HV2.out _))))
      refine wpQuiet_nil ?_;intro w1 hb1;have b1:=below_next hb hb1;have z1:=b1.size;have HOa:Hid (∀ o,(w1.alloc o).ownsRow w.heap.size 5 1 v t.length (t.map btP)):=uH (fun o=>ownG_keep (ownG_keep HO.out hb1) ((Below.refl _ _).alloc (Nat.le_refl _) o));clear hb1;go_wp2_with (at_builtin;refine wpList_append_any _ rfl (.tmp 32) (.tmp 36) _ rfl w.heap.size 5 i0 _ 1 1 Tryz.underlying22 hi hz0 hz1 hz2 rfl (by omega) v t.length (t.map btP) rfl (HOa.out _) (w1.heap.size+1) (some ⟨w1.heap.size,0,none⟩) 1 1 [.int .u8 (c.toNat:Int)] rfl (rowNewB _ _ _) (by simp [Value.oneCell']) (by unfold maxLen;omega) (by omega) (by simp;omega) ?_;intro v4 w4 hown4 hg4 hat4)
      have HO4:Hid (BtOwn w4 w.heap.size v4 (bareK s.data.toList (0+1))):=uH (by rw [HT2.out];unfold BtOwn;rw [List.length_append,List.map_append];exact hown4);have b4:=(b1.alloc z1 _).grown hg4 (by simp;omega) (fun q hq=>ownG_base HO.out hq);clear hown4 hg4 hat4;go_wp2;go_roundw
      case rel=>exact ⟨0+1,_,by omega,by go_num,rfl,HO4,b4⟩
      case measure=>simp [intOf];omega
    ·obtain ⟨m,rfl⟩ : ∃ m,k=m+1:=⟨k - 1,by omega⟩;have hm:m < s.size:=(by omega);have hem:=at8_str hm;rw [Nat.add_sub_cancel,← hem] at HT;have e0:(0:Int) < ((m+1:Nat):Int):=(by omega);have e1:((m+1:Nat):Int) - 1=(m:Int):=(by omega);have i3:(m:Int) < (s.size:Int):=(by omega);have i4:(0:Int)≤(m:Int):=(by omega);have hwr:IntKind.i64.wrap (m:Int)=(m:Int):=IntWalk.i64_in _ (by omega);have e0':(0:Int) < (m:Int)+1:=(by omega);have e0d:decide ((0:Int) < (m:Int)+1)=true:=decide_eq_true e0';clear he hem;generalize bareK s.data.toList (m+1)=t at *;have hcc:((s[m+1].toNat:Int) == (s[m].toNat:Int))=decide (s[m]=s[m+1]):=by
      by_cases h:s[m]=s[m+1]
      ·rw [h];simp
      ·rw [decide_eq_false h];exact beq_eq_false_iff_ne.2 (fun e=>h (UInt8.toNat_inj.1 (by omega)))
     generalize hc:s[m+1]=c at *;generalize hd:s[m]=d at *;cases hv:isVow c with
     | true =>
      have HT2:Hid (bareK s.data.toList (m+1+1)=t):=uH (by rw [HT.out,if_neg (by rw [hv];simp),List.append_nil]);have HV2:=uH (fun w=>isVowelB c hv w);(go_wp2_with fail);refine region_qb (by kernel_rfl) (by kernel_rfl) ?_;repeat (first | go_big_quiet_step ((go_at_call 234;exact quietB (HV2.out _))) | quiet_step ((go_at_call 234;exact quietB (HV2.out _))))
      refine wpQuiet_nil ?_;intro w1 hb1;have b1:=below_next hb hb1;have HO1:=uH (ownG_keep HO.out hb1);clear hb1;go_wp2;go_roundw
      case rel=>exact ⟨m+1+1,_,by omega,by go_num,rfl,uH (by rw [HT2.out];exact HO1.out),b1⟩
      case measure=>simp [intOf];omega
     | false =>
      have HV2:=uH (fun w=>isVowelB c hv w);by_cases hdc:d=c
      ·have HT2:Hid (bareK s.data.toList (m+1+1)=t):=uH (by rw [HT.out,if_neg (by rintro ⟨_,h | h⟩;(omega);(exact h hdc)),List.append_nil])
       rw [decide_eq_true hdc] at hcc;have hdc:=uH hdc;(go_wp2_with fail);refine region_qb (by kernel_rfl) (by kernel_rfl) ?_;repeat (first | go_big_quiet_step ((go_at_call 234;exact quietB (HV2.out _))) | quiet_step ((go_at_call 234;exact quietB (HV2.out _))))
       refine wpQuiet_nil ?_;intro w1 hb1;have b1:=below_next hb hb1;have HO1:=uH (ownG_keep HO.out hb1);clear hb1;go_wp2;go_roundw
       case rel=>exact ⟨m+1+1,_,by omega,by go_num,rfl,uH (by rw [HT2.out];exact HO1.out),b1⟩
       case measure=>simp [intOf];omega
      ·have HT2:Hid (bareK s.data.toList (m+1+1)=t++[c]):=uH (by rw [HT.out,if_pos ⟨hv,.inr hdc⟩]);rw [decide_eq_false hdc] at hcc;have hdc:=uH hdc;(go_wp2_with fail);refine region_qb (by kernel_rfl) (by kernel_rfl) ?_;repeat (first | go_big_quiet_step ((go_at_call 234;exact quietB (HV2.out _))) | quiet_step ((go_at_call 234;exact quietB (HV2.out _))))
       refine wpQuiet_nil ?_;intro w1 hb1;have b1:=below_next hb hb1;have z1:=b1.size;have HOa:Hid (∀ o,(w1.alloc o).ownsRow w.heap.size 5 1 v t.length (t.map btP)):=uH (fun o=>ownG_keep (ownG_keep HO.out hb1) ((Below.refl _ _).alloc (Nat.le_refl _) o));clear hb1;go_wp2_with (at_builtin;refine wpList_append_any _ rfl (.tmp 32) (.tmp 36) _ rfl w.heap.size 5 i0 _ 1 1 Tryz.underlying22 hi hz0 hz1 hz2 rfl (by omega) v t.length (t.map btP) rfl (HOa.out _) (w1.heap.size+1) (some ⟨w1.heap.size,0,none⟩) 1 1 [.int .u8 (c.toNat:Int)] rfl (rowNewB _ _ _) (by simp [Value.oneCell']) (by unfold maxLen;omega) (by omega) (by simp;omega) ?_;intro v4 w4 hown4 hg4 hat4)
       have HO4:Hid (BtOwn w4 w.heap.size v4 (bareK s.data.toList (m+1+1))):=uH (by rw [HT2.out];unfold BtOwn;rw [List.length_append,List.map_append];exact hown4);have b4:=(b1.alloc z1 _).grown hg4 (by simp;omega) (fun q hq=>ownG_base HO.out hq);clear hown4 hg4 hat4;go_wp2;go_roundw
       case rel=>exact ⟨m+1+1,_,by omega,by go_num,rfl,HO4,b4⟩
       case measure=>simp [intOf];omega
   ·obtain rfl:k=s.size:=(by omega);obtain ⟨A6,c6,rfl,hc6,hm6⟩:=ownG_form HO.out;have hconv:=BtOwn.conv HO.out;go_wp2;go_ret;exact ⟨by rw [HR.out];rfl,hb⟩
set_option maxHeartbeats 400000 in
theorem implWordPosition (s:ByteArray) (w:World) (hs:s.size≤maxLen) :
  Calls Tryz.prog 153 #[.string s] w fun e w'=>e = .returned (.int .i64 (posOf s.data.toList))∧Below w.heap.size w w':=by
 have HW:=uH (fun w=>implWordValid s w hs);have HV:=uH (fun w=>implWordVowels s w hs);cases hw:wordB s.data.toList with
 | false =>
  have HR:Hid (posOf s.data.toList = -1):=uH (by unfold posOf;rw [if_neg (by rw [hw];simp)]);have HN:=uH hw;clear hw;go_enter Tryz.func153,Tryz.ntmps153
  (go_wp2_with fail);refine (HW.out _).mono ?_;rintro e w1 ⟨rfl,rfl⟩;rw [HN.out];go_wp2;go_ret;exact ⟨ret_int (by rw [HR.out]),Below.refl _ _⟩
 | true =>
  have HR:Hid (posOf s.data.toList=posV (vowOf s.data.toList)):=uH (by unfold posOf;rw [if_pos hw]);have HN:=uH hw;clear hw;cases hv:vowOf s.data.toList with
  | nil =>
   have HV2:Hid (∀ w,Calls Tryz.prog 205 #[.string s] w fun e w'=>e = .returned (.string (mkStr []))∧Below w.heap.size w w'):=uH (fun w=>by rw [← hv];exact HV.out w);have HP:Hid (posOf s.data.toList=1):=uH (by rw [HR.out,hv];rfl);have he:(mkStr []).toList.isEmpty=true:=(by rw [Lib.toList_data,mkStr_data];rfl);clear hv HV HR;go_enter Tryz.func153,Tryz.ntmps153
   (go_wp2_with fail);refine (HW.out _).mono ?_;rintro e w1 ⟨rfl,rfl⟩;rw [HN.out];(go_wp2_with fail);refine (HV2.out _).mono ?_;rintro e w1 ⟨rfl,hb1⟩;go_wp2;go_ret;exact ⟨ret_int (by rw [HP.out]),hb1⟩
  | cons c r =>
   obtain ⟨m,hm⟩ : ∃ m,m=mkStr (c::r):=⟨_,rfl⟩;have HV2:Hid (∀ w,Calls Tryz.prog 205 #[.string s] w fun e w'=>e = .returned (.string m)∧Below w.heap.size w w'):=uH (fun w=>by rw [hm,← hv];exact HV.out w);have he:m.toList.isEmpty=false:=(by rw [hm];exact mkStr_isEmpty (by simp));have hz:0 < m.size:=(by rw [hm,mkStr_size];simp);have hz2:(0:Int) < (m.size:Int):=(by omega);obtain ⟨n,hn⟩ : ∃ n:Int,n=(m[0].toNat:Int):=⟨_,rfl⟩;have hg:m[0]=c:=(by subst hm;rfl);have key : ∀ k:UInt8,c=k ↔ n=(k.toNat:Int):=fun k=>by
    rw [hn,hg];exact ⟨fun h=>by rw [h],fun h=>UInt8.toNat_inj.1 (by omega)⟩
   have HP:Hid (posOf s.data.toList=if n=97∨n=111 then 0 else if n=101 then 1 else 2):=uH (by
    rw [HR.out,hv];unfold posV;simp only [key 97,key 111,key 101];rfl)
   clear key hg hv HV HR hm;go_enter Tryz.func153,Tryz.ntmps153
   (go_wp2_with fail);refine (HW.out _).mono ?_;rintro e w1 ⟨rfl,rfl⟩;rw [HN.out];(go_wp2_with fail);refine (HV2.out _).mono ?_;rintro e w1 ⟨rfl,hb1⟩;by_cases h1:n=97
   ·have g1:((m[0].toNat:Int) == 97)=true:=(by rw [← hn,h1];rfl);go_wp2;go_ret;exact ⟨ret_int (by rw [HP.out,if_pos (.inl h1)]),hb1⟩
   ·have g1:((m[0].toNat:Int) == 97)=false:=(by rw [← hn];simpa using h1);by_cases h2:n=111
    ·have g2:((m[0].toNat:Int) == 111)=true:=(by rw [← hn,h2];rfl);go_wp2;go_ret;exact ⟨ret_int (by rw [HP.out,if_pos (.inr h2)]),hb1⟩
    ·have g2:((m[0].toNat:Int) == 111)=false:=(by rw [← hn];simpa using h2);by_cases h3:n=101
     ·have g3:((m[0].toNat:Int) == 101)=true:=(by rw [← hn,h3];rfl);go_wp2;go_ret;exact ⟨ret_int (by rw [HP.out,if_neg (by rintro (h | h);exact h1 h;exact h2 h),if_pos h3]),hb1⟩
     ·have g3:((m[0].toNat:Int) == 101)=false:=(by rw [← hn];simpa using h3);go_wp2;go_ret;exact ⟨ret_int (by rw [HP.out,if_neg (by rintro (h | h);exact h1 h;exact h2 h),if_neg h3]),hb1⟩
end Go.Proofs.YtbkhnljaajajiaaGreatDoor
namespace Go.Proofs.YtbkhnljaajajiaaGreatDoor
open Go.ChangeShapes Go.WideShapes Go.ChangeAt Go.RowKit Go.Maps
def MapHas (w:World) (b:Nat) (l:List (Value × Value)):Prop:=∃ es clock,w.heap[b]? = some (.map es clock)∧es.toList.map (fun e=>(e.key,e.val))=l
section
variable {P:Program} {w w':World} {b:Nat} {l:List (Value × Value)} {t k e:TypeId}
theorem MapHas.made (w:World):MapHas (w.alloc (.map #[] 0)) w.heap.size []:=⟨#[],0,heap_alloc_new w _,rfl⟩
theorem MapHas.lt (h:MapHas w b l):b < w.heap.size:=by
 obtain ⟨es,clock,hb,_⟩:=h;rcases Nat.lt_or_ge b w.heap.size with hlt | hge
 ·exact hlt
 ·rw [Array.getElem?_eq_none hge] at hb;cases hb
theorem MapHas.same (h:MapHas w b l) (hb:w'.heap[b]? = w.heap[b]?):MapHas w' b l:=by
 obtain ⟨es,clock,h1,h2⟩:=h;exact ⟨es,clock,hb.trans h1,h2⟩
theorem MapHas.keep (h:MapHas w b l) (hb:Below w.heap.size w w'):MapHas w' b l:=h.same (hb.block b h.lt)
theorem MapHas.kept {row:Option Nat} (h:MapHas w b l) (hg:w.grownBy w' row) (hne:row≠some b):MapHas w' b l:=h.same (hg.block b h.lt (fun e=>hne e.symm))
theorem MapHas.alloc (h:MapHas w b l) (o:Obj):MapHas (w.alloc o) b l:=h.same (Below.heap_alloc w o b h.lt)
theorem MapHas.far (h:MapHas w b l) {p:Addr} (hp:b≠p.block) (u:Value):MapHas (w.setCell p u) b l:=h.same (Below.heap_setCell w p u b hp)
theorem mem_entries {es:List MapEntry} {x:MapEntry} (hx:x∈es):(x.key,x.val)∈es.map (fun e=>(e.key,e.val)):=List.mem_map.2 ⟨x,hx,rfl⟩
theorem MapHas.look_yes (K:Keyed P k) (ht:P.underlying t=some (.map k e)) (h:MapHas w b l) (hl : ∀ x∈l,∃ li,keyOf P k x.1=some li) {key v:Value} {kl:Lit} (hkey:keyOf P k key=some kl)
  (hin : ∃ x∈l,x.1=key) (hv : ∀ x∈l,x.1=key→x.2=v):(Instr.lookup t (.map (some b)) key true).run P w = .ok (.tuple #[v,.bool true]) w:=by
 obtain ⟨es,clock,hb,rfl⟩:=h;have hkeys : ∀ x∈es.toList,∃ li,keyOf P k x.key=some li:=fun x hx=>hl _ (mem_entries hx);rcases K.find w hkey es.toList hkeys with ⟨h1,h2⟩ | ⟨j,e0,h1,h2,h3⟩
 ·obtain ⟨x,hx,rfl⟩:=hin;obtain ⟨y,hy,rfl⟩:=List.mem_map.1 hx;exact absurd rfl (h2 y hy)
 ·have hv0:e0.val=v:=hv _ (mem_entries (List.mem_of_getElem? h2)) h3;simp [Instr.lookup,run_underlying ht,MapKept.run_getObj_map hb,K.check w _ hkey,h1,hv0,Result.andThen]
theorem MapHas.look_no (K:Keyed P k) (ht:P.underlying t=some (.map k e)) {z:Value} (hz : ∀ u:World,(zeroValue e).run P u = .ok z u) (h:MapHas w b l) (hl : ∀ x∈l,∃ li,keyOf P k x.1=some li) {key:Value} {kl:Lit} (hkey:keyOf P k key=some kl)
  (hno : ∀ x∈l,x.1≠key):(Instr.lookup t (.map (some b)) key true).run P w = .ok (.tuple #[z,.bool false]) w:=by
 obtain ⟨es,clock,hb,rfl⟩:=h;have hkeys : ∀ x∈es.toList,∃ li,keyOf P k x.key=some li:=fun x hx=>hl _ (mem_entries hx);rcases K.find w hkey es.toList hkeys with ⟨h1,h2⟩ | ⟨j,e0,h1,h2,h3⟩
 ·simp [Instr.lookup,run_underlying ht,MapKept.run_getObj_map hb,K.check w _ hkey,h1,hz,Result.andThen]
 ·exact absurd h3 (hno _ (mem_entries (List.mem_of_getElem? h2)))
theorem MapHas.put_new (K:Keyed P k) (ht:P.underlying t=some (.map k e)) (h:MapHas w b l) (hl : ∀ x∈l,∃ li,keyOf P k x.1=some li) {key v:Value} {kl:Lit} (hkey:keyOf P k key=some kl)
  (hno : ∀ x∈l,x.1≠key) : ∃ w',(Instr.mapUpdate t (.map (some b)) key v).run P w = .ok () w'∧MapHas w' b (l++[(key,v)])∧w.grownBy w' (some b):=by
 obtain ⟨es,clock,hb,rfl⟩:=h;have hkeys : ∀ x∈es.toList,∃ li,keyOf P k x.key=some li:=fun x hx=>hl _ (mem_entries hx);rcases K.find w hkey es.toList hkeys with ⟨h1,h2⟩ | ⟨j,e0,h1,h2,h3⟩
 ·refine ⟨ChangeMaps.setBlock w b (.map (es.push ⟨key,v,clock⟩) (clock+1)),?_,⟨_,_,ChangeMaps.heap_setBlock_same hb _,by simp⟩,⟨rfl,rfl,rfl,by simp [ChangeMaps.setBlock],fun i _ hi=>ChangeMaps.heap_setBlock_other hb _ (fun e=>hi (by rw [e]))⟩⟩;simp [Instr.mapUpdate,run_underlying ht,MapKept.run_getObj_map hb,K.check w _ hkey,h1,MapKept.run_setObj_map _ hb,Result.andThen,ChangeMaps.setBlock]
 ·exact absurd h3 (hno _ (mem_entries (List.mem_of_getElem? h2)))
end
theorem rowStk:(63:TypeId) < Tryz.prog.types.size:=of_decide_eq_true (by kernel_rfl)
theorem wideStk:(match Tryz.prog.underlying 63 with | some (.array _ _) | some (.struct _)=>true | _=>false)=true:=by kernel_rfl
theorem lawSt:Keyed Tryz.prog 63:=Keyed.of_law (deep_law_laid laidOut (m:=2) (by omega) rowStk (by kernel_rfl) wideStk)
theorem lawU8:Keyed Tryz.prog 5:=int_keyed Tryz.underlying5
theorem keySt (s:Stroke) (h:s.good) : ∃ l,keyOf Tryz.prog 63 (stVal s)=some l:=by
 have hk:Tryz.prog.keyType 63=true:=(by kernel_rfl);have hc:Tryz.prog.cellsOf 63=2:=(by kernel_rfl);have hi:Tryz.prog.cellsOf 3=1:=(by kernel_rfl);obtain ⟨m,hm⟩ : ∃ m,Tryz.prog.types.size+1=m+2:=⟨Tryz.prog.types.size - 1,by have h:(63:Nat) < Tryz.prog.types.size:=rowStk;omega⟩;unfold keyOf stVal;rw [hm];simp [Tryz.underlying63,Tryz.underlying3,hk,Value.formed,hc,hi,Program.keyLits,Value.cells,h.1,h.2]
theorem keyU8 (c:UInt8):keyOf Tryz.prog 5 (.int .u8 (c.toNat:Int))=some (.int .u8 (c.toNat:Int)) :=
 keyOf_int_mk Tryz.underlying5 (by have:=c.toNat_lt;simp [Lit.wf,IntKind.min,IntKind.max,IntKind.signed,IntKind.bits];omega)
theorem zeroSt (w:World):(zeroValue 63).run Tryz.prog w = .ok (.agg #[.int .i64 0,.int .i64 0]) w:=by kernel_rfl
theorem zeroU8 (w:World):(zeroValue 5).run Tryz.prog w = .ok (.int .u8 0) w:=by kernel_rfl
theorem mkMap1 (n:Int) (w:World):(Instr.makeMap 209 (some (.int .i64 n))).run Tryz.prog w = .ok (.map (some w.heap.size)) (w.alloc (.map #[] 0)):=by kernel_rfl
theorem mkMap2 (n:Int) (w:World):(Instr.makeMap 244 (some (.int .i64 n))).run Tryz.prog w = .ok (.map (some w.heap.size)) (w.alloc (.map #[] 0)):=by kernel_rfl
def letV (x:Sg):Value:=.int .u8 ((at8 x.l 0).toNat:Int)
def sigE (xs:List Sg):List (Value × Value):=xs.map fun x=>(letV x,stVal x.st)
def stkE (xs:List Sg):List (Value × Value):=xs.map fun x=>(stVal x.st,letV x)
theorem sigE_keys {xs:List Sg} : ∀ x∈sigE xs,∃ li,keyOf Tryz.prog 5 x.1=some li:=by
 intro x hx;obtain ⟨y,_,rfl⟩:=List.mem_map.1 hx;exact ⟨_,keyU8 _⟩
theorem stkE_keys {xs:List Sg} (h : ∀ x∈xs,x.st.good) : ∀ x∈stkE xs,∃ li,keyOf Tryz.prog 63 x.1=some li:=by
 intro x hx;obtain ⟨y,hy,rfl⟩:=List.mem_map.1 hx;exact keySt _ (h y hy)
theorem stVal_inj {s t:Stroke} (h:stVal s=stVal t):s=t:=by
 unfold stVal at h;injection h with h;have:=congrArg Array.toList h;simp at this;cases s;cases t;simp_all
theorem letV_inj {x y:Sg} (hx:x.l.length=1) (hy:y.l.length=1) (h:letV x=letV y):x.l=y.l:=by
 unfold letV at h;injection h with _ h;have e:at8 x.l 0=at8 y.l 0:=UInt8.toNat_inj.1 (by omega);match hx':x.l,hy':y.l,hx,hy with
 | [a],[b],_,_=>rw [hx',hy'] at e;rw [show a=b from e]
theorem take_at {xs:List Sg} {k:Nat} (h:k < xs.length):xs.take (k+1)=xs.take k++[sgAt xs k]:=by
 rw [List.take_succ_eq_append_getElem h];congr 1
 unfold sgAt;rw [List.getD_eq_getElem?_getD,List.getElem?_eq_getElem h];rfl
theorem mem_take_at {xs:List Sg} {k:Nat} {x:Sg} (h:x∈xs.take k) : ∃ j,j < k∧j < xs.length∧x=sgAt xs j:=by
 obtain ⟨j,hj,rfl⟩:=List.getElem_of_mem h;rw [List.length_take] at hj;refine ⟨j,by omega,by omega,?_⟩;rw [List.getElem_take];unfold sgAt;rw [List.getD_eq_getElem?_getD,List.getElem?_eq_getElem (by omega)];rfl
theorem at_mem_take {xs:List Sg} {j k:Nat} (h:j < k) (hx:j < xs.length):sgAt xs j∈xs.take k:=by
 have:(xs.take k)[j]? = some (sgAt xs j):=(by rw [List.getElem?_take,if_pos h];exact sgAt_some hx);exact List.mem_of_getElem? this
def SigAns (w':World) (B:Nat) (xs:List Sg) (e:Ending):Prop :=
 (sysB xs=false∧e = .returned (.tuple #[.map none,.bool false])) ∨
 (sysB xs=true∧∃ b,e = .returned (.tuple #[.map (some b),.bool true])∧B≤b∧MapHas w' b (sigE xs))
def letB (xs:List Sg) (k:Nat):Bool:=decide (∃ j,j < k∧(sgAt xs j).l=(sgAt xs k).l)
def stkB (xs:List Sg) (k:Nat):Bool:=decide (∃ j,j < k∧(sgAt xs j).st=(sgAt xs k).st)
theorem one_of {xs:List Sg} {k:Nat} (h:sysK xs k) : ∀ j,j < k→(sgAt xs j).l.length=1:=fun j hj=>by
 have h1:=(h j hj).1;unfold okSg okL at h1;rw [Bool.and_eq_true,Bool.and_eq_true,decide_eq_true_iff] at h1;exact h1.1.1
theorem look_sig {xs:List Sg} {k b:Nat} {w:World} (hk:k < xs.length) (hK:sysK xs k) (hl:(sgAt xs k).l.length=1) (hm:MapHas w b (sigE (xs.take k))) :
  ∃ d z:Int,(Instr.lookup 209 (.map (some b)) (letV (sgAt xs k)) true).run Tryz.prog w = .ok (.tuple #[.agg #[.int .i64 d,.int .i64 z],.bool (letB xs k)]) w:=by
 by_cases h : ∃ j,j < k∧(sgAt xs j).l=(sgAt xs k).l
 ·obtain ⟨j,hj,he⟩:=h;have hB:letB xs k=true:=decide_eq_true ⟨j,hj,he⟩;have e : ∀ x:Sg,letV x = .int .u8 ((at8 x.l 0).toNat:Int):=fun _=>rfl;refine ⟨(sgAt xs j).st.dir,(sgAt xs j).st.size,?_⟩;rw [hB];refine hm.look_yes lawU8 Tryz.underlying209 sigE_keys (keyU8 _) ⟨_,List.mem_map.2 ⟨sgAt xs j,at_mem_take hj (by omega),rfl⟩,by rw [e,he];rfl⟩ (fun x hx hx1=>?_);obtain ⟨y,hy,rfl⟩:=List.mem_map.1 hx;obtain ⟨i,hi,hi2,rfl⟩:=mem_take_at hy;have h1:(sgAt xs i).l=(sgAt xs j).l:=(by rw [he];exact letV_inj (one_of hK i hi) hl hx1);have h2:i=j:=by
   rcases Nat.lt_trichotomy i j with h | h | h
   ·exact absurd h1 ((hK j hj).2 i h).1
   ·exact h
   ·exact absurd h1.symm ((hK i hi).2 j h).1
  rw [h2];rfl
 ·have hB:letB xs k=false:=decide_eq_false h;refine ⟨0,0,?_⟩;rw [hB];refine hm.look_no lawU8 Tryz.underlying209 (fun u=>zeroSt u) sigE_keys (keyU8 _) (fun x hx hx1=>?_);obtain ⟨y,hy,rfl⟩:=List.mem_map.1 hx;obtain ⟨i,hi,hi2,rfl⟩:=mem_take_at hy;exact h ⟨i,hi,letV_inj (one_of hK i hi) hl hx1⟩
theorem look_stk {xs:List Sg} {k b:Nat} {w:World} (hk:k < xs.length) (hg : ∀ x∈xs,x.st.good) (hK:sysK xs k) (hm:MapHas w b (stkE (xs.take k))) :
  ∃ c:Int,(Instr.lookup 244 (.map (some b)) (stVal (sgAt xs k).st) true).run Tryz.prog w = .ok (.tuple #[.int .u8 c,.bool (stkB xs k)]) w:=by
 obtain ⟨kl,hkl⟩:=keySt (sgAt xs k).st (hg _ (sgAt_mem hk));have hkeys : ∀ x∈stkE (xs.take k),∃ li,keyOf Tryz.prog 63 x.1=some li:=stkE_keys (fun x hx=>hg x (List.mem_of_mem_take hx));by_cases h : ∃ j,j < k∧(sgAt xs j).st=(sgAt xs k).st
 ·obtain ⟨j,hj,he⟩:=h;have hB:stkB xs k=true:=decide_eq_true ⟨j,hj,he⟩;refine ⟨((at8 (sgAt xs j).l 0).toNat:Int),?_⟩;rw [hB];refine hm.look_yes lawSt Tryz.underlying244 hkeys hkl ⟨_,List.mem_map.2 ⟨sgAt xs j,at_mem_take hj (by omega),rfl⟩,by rw [he]⟩ (fun x hx hx1=>?_);obtain ⟨y,hy,rfl⟩:=List.mem_map.1 hx;obtain ⟨i,hi,hi2,rfl⟩:=mem_take_at hy;have h1:(sgAt xs i).st=(sgAt xs j).st:=(by rw [he];exact stVal_inj hx1);have h2:i=j:=by
   rcases Nat.lt_trichotomy i j with h | h | h
   ·exact absurd h1 ((hK j hj).2 i h).2
   ·exact h
   ·exact absurd h1.symm ((hK i hi).2 j h).2
  rw [h2];rfl
 ·have hB:stkB xs k=false:=decide_eq_false h;refine ⟨0,?_⟩;rw [hB];refine hm.look_no lawSt Tryz.underlying244 (fun u=>zeroU8 u) hkeys hkl (fun x hx hx1=>?_);obtain ⟨y,hy,rfl⟩:=List.mem_map.1 hx;obtain ⟨i,hi,hi2,rfl⟩:=mem_take_at hy;exact h ⟨i,hi,stVal_inj hx1⟩
theorem put_sig {xs:List Sg} {k b:Nat} {w:World} (hk:k < xs.length) (hK:sysK xs k) (hl:(sgAt xs k).l.length=1) (hB:letB xs k=false) (hm:MapHas w b (sigE (xs.take k))) :
  ∃ w',(Instr.mapUpdate 209 (.map (some b)) (letV (sgAt xs k)) (stVal (sgAt xs k).st)).run Tryz.prog w = .ok () w'∧MapHas w' b (sigE (xs.take (k+1)))∧w.grownBy w' (some b):=by
 rw [take_at hk];unfold sigE;rw [List.map_append];refine hm.put_new lawU8 Tryz.underlying209 sigE_keys (keyU8 _) (fun x hx hx1=>?_);obtain ⟨y,hy,rfl⟩:=List.mem_map.1 hx;obtain ⟨i,hi,hi2,rfl⟩:=mem_take_at hy;exact (of_decide_eq_false hB) ⟨i,hi,letV_inj (one_of hK i hi) hl hx1⟩
theorem put_stk {xs:List Sg} {k b:Nat} {w:World} (hk:k < xs.length) (hg : ∀ x∈xs,x.st.good) (hB:stkB xs k=false) (hm:MapHas w b (stkE (xs.take k))) :
  ∃ w',(Instr.mapUpdate 244 (.map (some b)) (stVal (sgAt xs k).st) (letV (sgAt xs k))).run Tryz.prog w = .ok () w'∧MapHas w' b (stkE (xs.take (k+1)))∧w.grownBy w' (some b):=by
 obtain ⟨kl,hkl⟩:=keySt (sgAt xs k).st (hg _ (sgAt_mem hk));rw [take_at hk];unfold stkE;rw [List.map_append];refine hm.put_new lawSt Tryz.underlying244 (stkE_keys (fun x hx=>hg x (List.mem_of_mem_take hx))) hkl (fun x hx hx1=>?_);obtain ⟨y,hy,rfl⟩:=List.mem_map.1 hx;obtain ⟨i,hi,hi2,rfl⟩:=mem_take_at hy;exact (of_decide_eq_false hB) ⟨i,hi,stVal_inj hx1⟩
theorem good_next {xs:List Sg} {k:Nat} (hs:okSg (sgAt xs k)=true) (h1:letB xs k=false) (h2:stkB xs k=false):sysGood xs k :=
 ⟨hs,fun j hj=>⟨fun e=>of_decide_eq_false h1 ⟨j,hj,e⟩,fun e=>of_decide_eq_false h2 ⟨j,hj,e⟩⟩⟩
theorem bad_next {xs:List Sg} {k:Nat} (h:letB xs k=true∨stkB xs k=true) : ¬ sysGood xs k:=by
 rintro ⟨_,h2⟩;rcases h with h | h
 ·obtain ⟨j,hj,e⟩:=of_decide_eq_true h;exact (h2 j hj).1 e
 ·obtain ⟨j,hj,e⟩:=of_decide_eq_true h;exact (h2 j hj).2 e
set_option maxHeartbeats 3200000 in
theorem signsOf (A:Option Addr) (n c:Nat) (xs:List Sg) (w:World) (h:SgsIn w w.heap.size A n c xs) :
  Calls Tryz.prog 151 #[.slice A n c] w fun e w'=>SigAns w' w.heap.size xs e∧Below w.heap.size w w':=by
 have hm:=h.2.2.1;have hnc:=h.2.1;unfold maxLen at hm;have HL:=uH h.1;have H:=uH h;have HGd:=uH h.2.2.2.2;by_cases h21:21 < n
 ·have HR:Hid (sysB xs=false):=uH (sysB_long (by rw [HL.out];exact h21));clear h;go_enter Tryz.func151,Tryz.ntmps151
  go_wp2;go_returns;exact ⟨.inl ⟨HR.out,rfl⟩,Below.refl _ _⟩
 have HN:Hid (∀ k,k < n→¬ sysGood xs k→sysB xs=false):=uH (fun k hk hn=>sysB_no (by rw [HL.out];exact hk) hn);have HY:Hid (sysK xs n→sysB xs=true):=uH (fun h=>sysB_iff.2 ⟨by rw [HL.out];omega,fun i hi=>h i (by rw [HL.out] at hi;exact hi)⟩);have HT:Hid (xs.take n=xs):=uH (List.take_of_length_le (by rw [HL.out];exact Nat.le_refl _));have hmk1:=mkMap1;have hmk2:=mkMap2;have HM1:Hid (MapHas ((w.alloc (.map #[] 0)).alloc (.map #[] 0)) w.heap.size (sigE (xs.take 0))):=uH ((MapHas.made w).alloc _);have hm2:=MapHas.made (w.alloc (.map #[] 0));simp only [World.size_alloc] at hm2;have HM2:Hid (MapHas ((w.alloc (.map #[] 0)).alloc (.map #[] 0)) (w.heap.size+1) (stkE (xs.take 0))):=uH hm2;have hal:Below w.heap.size w ((w.alloc (.map #[] 0)).alloc (.map #[] 0)):=((Below.refl _ _).alloc (Nat.le_refl _) _).alloc (by simp) _;clear h hm2;go_enter Tryz.func151,Tryz.ntmps151
 go_wp2;go_loopw [23] (fun i wr=>∃ k:Nat,k≤n∧i = .int .i64 k∧Hid (sysK xs k)∧Hid (MapHas wr w.heap.size (sigE (xs.take k)))∧Hid (MapHas wr (w.heap.size+1) (stkE (xs.take k)))∧w.heap.size+2≤wr.heap.size∧Below w.heap.size w wr) (fun i _=>n - (intOf i).toNat)
 case atStart=>exact ⟨0,Nat.zero_le _,rfl,uH (fun i hi=>by omega),HM1,HM2,by simp,hal⟩
 case round =>
  obtain ⟨k,hk,rfl,HK,HA,HB,hz2,hb⟩:=hrel;by_cases hlt:k < n
  ·obtain ⟨b,off,rfl,hbB,c0,c1,c2,hg⟩:=(H.out.keep hb).at_ hlt;have hkl:k < xs.length:=(by rw [HL.out];exact hlt);have HNk:=uH (HN.out k hlt);have HO:Hid (okSg (sgAt xs k)=false→sysB xs=false):=uH (fun h=>HNk.out (fun h2=>by rw [h2.1] at h;cases h));have HLg:Hid (∀ W,(sgAt xs k).l.length=1→MapHas W w.heap.size (sigE (xs.take k))→∃ d z:Int,(Instr.lookup 209 (.map (some w.heap.size)) (.int .u8 ((at8 (sgAt xs k).l 0).toNat:Int)) true).run Tryz.prog W = .ok (.tuple #[.agg #[.int .i64 d,.int .i64 z],.bool (letB xs k)]) W):=uH (fun W hl hm=>look_sig hkl HK.out hl hm);have HLs:Hid (∀ W,MapHas W (w.heap.size+1) (stkE (xs.take k))→∃ cc:Int,(Instr.lookup 244 (.map (some (w.heap.size+1))) (.agg #[.int .i64 (sgAt xs k).st.dir,.int .i64 (sgAt xs k).st.size]) true).run Tryz.prog W = .ok (.tuple #[.int .u8 cc,.bool (stkB xs k)]) W):=uH (fun W hm=>look_stk hkl HGd.out HK.out hm);have HPg:Hid (∀ W,(sgAt xs k).l.length=1→letB xs k=false→MapHas W w.heap.size (sigE (xs.take k))→∃ w',(Instr.mapUpdate 209 (.map (some w.heap.size)) (.int .u8 ((at8 (sgAt xs k).l 0).toNat:Int)) (.agg #[.int .i64 (sgAt xs k).st.dir,.int .i64 (sgAt xs k).st.size])).run Tryz.prog W = .ok () w'∧MapHas w' w.heap.size (sigE (xs.take (k+1)))∧W.grownBy w' (some w.heap.size)):=uH (fun W hl hB hm=>put_sig hkl HK.out hl hB hm);have HPs:Hid (∀ W,stkB xs k=false→MapHas W (w.heap.size+1) (stkE (xs.take k))→∃ w',(Instr.mapUpdate 244 (.map (some (w.heap.size+1))) (.agg #[.int .i64 (sgAt xs k).st.dir,.int .i64 (sgAt xs k).st.size]) (.int .u8 ((at8 (sgAt xs k).l 0).toNat:Int))).run Tryz.prog W = .ok () w'∧MapHas w' (w.heap.size+1) (stkE (xs.take (k+1)))∧W.grownBy w' (some (w.heap.size+1))):=uH (fun W hB hm=>put_stk hkl HGd.out hB hm);have HNx:Hid (okSg (sgAt xs k)=true→letB xs k=false→stkB xs k=false→sysK xs (k+1)):=uH (fun h1 h2 h3=>sysK_succ HK.out (good_next h1 h2 h3));have HBd:Hid (letB xs k=true∨stkB xs k=true→sysB xs=false):=uH (fun h=>HNk.out (bad_next h));have hz:=hb.size;generalize letB xs k=lb at *;generalize stkB xs k=sb at *;obtain ⟨x,hx⟩ : ∃ x,x=sgAt xs k:=⟨_,rfl⟩;rw [← hx] at c0 c1 c2 hg HO HLg HLs HPg HPs HNx;clear hx HK HNk hkl;obtain ⟨l,⟨d,z⟩⟩:=x;dsimp only at c0 c1 c2 hg HLg HLs HPg HPs;have i1:(0:Int)≤(k:Int):=(by omega);have i2:(k:Int) < (n:Int):=(by omega);have K:=Blk.new wr 65 #[.string (mkStr l),.int .i64 d,.int .i64 z];have k0:=K.cell 0;have k1:=K.cell 1;have k2:=K.cell 2;have hb2:Below w.heap.size w (wr.alloc (.cells #[.string (mkStr l),.int .i64 d,.int .i64 z] 65)):=hb.alloc hz _;have HSv:=uH (fun W=>implStrokeValid d z W);by_cases hl:l.length=1
   ·have HOL:Hid (okSg ⟨l,⟨d,z⟩⟩=(isLetter (at8 l 0) && !isVow (at8 l 0) && okS ⟨d,z⟩)):=uH (by unfold okSg okL;rw [decide_eq_true hl];rfl);have HLg:=uH (fun W=>HLg.out W hl);have HPg:=uH (fun W=>HPg.out W hl);obtain ⟨s,hs⟩ : ∃ s,s=mkStr l:=⟨_,rfl⟩;have hs1:s.size=1:=(by rw [hs,mkStr_size];exact hl);have e1:((s.size:Int) != 1)=false:=(by simp;omega);have h01:0 < s.size:=(by omega);have h01':(0:Int) < (s.size:Int):=(by omega);have e2:at8 l 0=s[0]:=(by rw [at8_str h01,hs,mkStr_data]);have HCs:Hid (∀ W,Calls Tryz.prog 203 #[.int .u8 (s[0].toNat:Int)] W fun e w'=>e = .returned (.bool (isLetter (at8 l 0) && !isVow (at8 l 0)))∧W=w'):=uH (fun W=>by
     have:=isConsonant s[0] W;rw [e2];exact this)
    rw [e2] at HLg HPg HPs;rw [← hs] at c0 k0 K hb2;clear hs e2 hl;generalize (isLetter (at8 l 0) && !isVow (at8 l 0))=oc at *;cases oc with
    | false =>
     have HF:=uH (HO.out (by rw [HOL.out];rfl));(go_wp2_with fail);refine (HCs.out _).mono ?_;rintro e w1 ⟨rfl,rfl⟩;go_wp2;go_returns;exact ⟨.inl ⟨HF.out,rfl⟩,hb2⟩
    | true =>
     (go_wp2_with fail);refine (HCs.out _).mono ?_;rintro e w1 ⟨rfl,rfl⟩;(go_wp2_with fail);refine (HSv.out _).mono ?_;rintro e w1 ⟨rfl,hb1⟩;have hb3:=below_next hb2 hb1;have K1:=K.below hb1;have k0':=K1.cell 0;have k1':=K1.cell 1;have k2':=K1.cell 2;have HA1:=uH ((HA.out.alloc _).keep hb1);have HB1:=uH ((HB.out.alloc _).keep hb1);have hz1:=hb1.size;simp only [World.size_alloc] at hz1;clear k0 k1 k2 K c0 c1 c2 HCs HSv HA HB;cases ho:okS ⟨d,z⟩ with
     | false =>
      have HF:=uH (HO.out (by rw [HOL.out,ho];rfl));go_wp2;go_returns;exact ⟨.inl ⟨HF.out,rfl⟩,hb3⟩
     | true =>
      have HOk:Hid (okSg ⟨l,⟨d,z⟩⟩=true):=uH (by rw [HOL.out,ho];rfl);clear ho;obtain ⟨d',z',hlk⟩:=HLg.out w1 HA1.out;have HA2:=uH (HA1.out.alloc (.cells #[.int .i64 d',.int .i64 z'] 63));have HB2:=uH (HB1.out.alloc (.cells #[.int .i64 d',.int .i64 z'] 63));have K2:=K1.alloc (.cells #[.int .i64 d',.int .i64 z'] 63);have b2:Below w.heap.size w (w1.alloc (.cells #[.int .i64 d',.int .i64 z'] 63)):=hb3.alloc hb3.size _;have m0:=K2.cell 0;have m1:=K2.cell 1;have m2:=K2.cell 2;obtain ⟨cc,hls⟩:=HLs.out _ HB2.out;have hst:stVal ⟨d,z⟩ = .agg #[.int .i64 d,.int .i64 z]:=rfl;clear hst HA1 HB1 K1 hb1;cases lb with
      | true =>
       have HF:=uH (HBd.out (.inl rfl));clear HBd;go_wp2;go_returns;exact ⟨.inl ⟨HF.out,rfl⟩,b2⟩
      | false =>
       cases sb with
       | true =>
        have HF:=uH (HBd.out (.inr rfl));clear HBd;go_wp2;go_returns;exact ⟨.inl ⟨HF.out,rfl⟩,b2⟩
       | false =>
        have HK2:=uH (HNx.out HOk.out rfl rfl);obtain ⟨w3,hu1,hA3,hg3⟩:=HPg.out (w1.alloc (.cells #[.int .i64 d',.int .i64 z'] 63)).drew rfl HA2.out;have K3:=Blk.only (w:=(w1.alloc (.cells #[.int .i64 d',.int .i64 z'] 63)).drew) K2 hg3 (by omega);have hB3:MapHas w3 (w.heap.size+1) (stkE (xs.take k)):=MapHas.kept (w:=(w1.alloc (.cells #[.int .i64 d',.int .i64 z'] 63)).drew) HB2.out hg3 (fun e=>by injection e with e;omega);have n0:=K3.cell 0;have n1:=K3.cell 1;have n2:=K3.cell 2;have b3:Below w.heap.size w w3:=b2.drew.grown hg3 b2.size (fun q hq=>by injection hq with hq;omega);obtain ⟨w4,hu2,hB4,hg4⟩:=HPs.out w3.drew rfl hB3;have hA4:MapHas w4 w.heap.size (sigE (xs.take (k+1))):=MapHas.kept (w:=w3.drew) hA3 hg4 (fun e=>by injection e with e;omega);have b4:Below w.heap.size w w4:=b3.drew.grown hg4 b3.size (fun q hq=>by injection hq with hq;omega);have hz4:w.heap.size+2≤w4.heap.size:=(by have h1:=hg3.size;have h2:=hg4.size;simp at h1 h2;omega);have HA4:=uH hA4;have HB4:=uH hB4;clear HBd hg3 hg4 hA3 hB3 hA4 hB4 K2 K3 HPg HPs HLg HLs HNx HA2 HB2;go_wp2;go_region
        go_wp2;go_region
        go_wp2;go_roundw
        case rel=>exact ⟨k+1,by omega,by go_num,HK2,HA4,HB4,hz4,b4⟩
        case measure=>simp [intOf];omega
   ·have e1:(((mkStr l).size:Int) != 1)=true:=(by rw [mkStr_size];simp;omega);have HF:=uH (HO.out (by unfold okSg;rw [okL_not hl];rfl));go_wp2;go_returns;exact ⟨.inl ⟨HF.out,rfl⟩,hb2⟩
  ·obtain rfl:k=n:=(by omega);have HF:=uH (HY.out HK.out);have HAk:Hid (MapHas wr w.heap.size (sigE xs)):=uH (by have:=HA.out;rw [HT.out] at this;exact this);go_wp2;go_returns;exact ⟨.inr ⟨HF.out,w.heap.size,rfl,Nat.le_refl _,HAk.out⟩,hb⟩
theorem l_one {l:List UInt8} {c:UInt8} (h:l.length=1) (h2:at8 l 0=c):l=[c]:=by
 match l,h with
 | [a],_=>rw [show a=c from h2]
theorem sys_one {xs:List Sg} (hB:sysB xs=true) {i:Nat} (hi:i < xs.length):(sgAt xs i).l.length=1 :=
 one_of (k:=xs.length) (fun j hj=>(sysB_iff.1 hB).2 j hj) i hi
theorem mem_sg {xs:List Sg} {x:Sg} (h:x∈xs) : ∃ j,j < xs.length∧x=sgAt xs j:=by
 obtain ⟨j,hj,rfl⟩:=List.getElem_of_mem h;refine ⟨j,hj,?_⟩;unfold sgAt;rw [List.getD_eq_getElem?_getD,List.getElem?_eq_getElem hj];rfl
theorem look_full {xs:List Sg} {b:Nat} {w:World} {c:UInt8} (hB:sysB xs=true) (hm:MapHas w b (sigE xs)) :
  (Instr.lookup 209 (.map (some b)) (.int .u8 (c.toNat:Int)) true).run Tryz.prog w = .ok (stAns (strokeOf xs [c])) w:=by
 by_cases h : ∃ j,j < xs.length∧(sgAt xs j).l=[c]
 ·obtain ⟨j,hj,he⟩:=h;have hu : ∀ i,i < xs.length→(sgAt xs i).l=[c]→i=j:=fun i hi h1=>by
   rcases Nat.lt_trichotomy i j with h | h | h
   ·exact absurd (h1.trans he.symm) (((sysB_iff.1 hB).2 j hj).2 i h).1
   ·exact h
   ·exact absurd (he.trans h1.symm) (((sysB_iff.1 hB).2 i hi).2 j h).1
  rw [strokeOf_at hB hj (fun i hi h1=>by have:=hu i (by omega) h1;omega) he];refine hm.look_yes lawU8 Tryz.underlying209 sigE_keys (keyU8 _) ⟨_,List.mem_map.2 ⟨sgAt xs j,sgAt_mem hj,rfl⟩,by unfold letV;rw [he];rfl⟩ (fun x hx hx1=>?_);obtain ⟨y,hy,rfl⟩:=List.mem_map.1 hx;obtain ⟨i,hi,rfl⟩:=mem_sg hy;have h1:at8 (sgAt xs i).l 0=c:=by
   unfold letV at hx1;injection hx1 with _ hx1;exact UInt8.toNat_inj.1 (by omega)
  rw [hu i hi (l_one (sys_one hB hi) h1)];rfl
 ·rw [strokeOf_no (fun _ j hj e=>h ⟨j,hj,e⟩)];refine hm.look_no lawU8 Tryz.underlying209 (fun u=>zeroSt u) sigE_keys (keyU8 _) (fun x hx hx1=>?_);obtain ⟨y,hy,rfl⟩:=List.mem_map.1 hx;obtain ⟨i,hi,rfl⟩:=mem_sg hy;have h1:at8 (sgAt xs i).l 0=c:=by
   unfold letV at hx1;injection hx1 with _ hx1;exact UInt8.toNat_inj.1 (by omega)
  exact h ⟨i,hi,l_one (sys_one hB hi) h1⟩
theorem StrOwn.nil (w:World) (B c:Nat) (hc:c≤maxLen):c=0→StrOwn w B (.slice none 0 c) []:=by
 rintro rfl;exact World.ownsRow_nil _ _ _ _
set_option maxHeartbeats 1600000 in
theorem mapOutline (b:Nat) (xs:List Sg) (s:ByteArray) (w:World) (hs:s.size≤maxLen) (hB:sysB xs=true) (h:MapHas w b (sigE xs)) :
  Calls Tryz.prog 204 #[.map (some b),.string s] w fun e w'=>OutAns w' w.heap.size (wordOut xs s.data.toList) e∧Below w.heap.size w w':=by
 obtain ⟨i0,hi,hz0,hz1,hz2⟩:=info_parts infoSt;have H:=uH h;have HNil:Hid (∀ W:World,StrOwn W w.heap.size (.slice none 0 0) []):=uH (fun W=>World.ownsRow_nil _ _ _ _);have HB:=uH hB;have HW:=uH (fun W=>implWordValid s W hs);clear h hB;cases hw:wordB s.data.toList with
 | false =>
  rw [hw] at HW;have HR:Hid (wordOut xs s.data.toList=none):=uH (wordOut_bad (.inr hw));clear hw;go_enter Tryz.func204,Tryz.ntmps204
  (go_wp2_with fail);refine (HW.out _).mono ?_;rintro e w2 ⟨rfl,rfl⟩;go_wp2;go_returns;exact ⟨.inl ⟨HR.out,_,_,rfl,HNil.out _⟩,Below.refl _ _⟩
 | true =>
 rw [hw] at HW;have HBr:=uH (fun W=>implWordBare s W hs);have HR:Hid (wordOut xs s.data.toList=(outl xs (bareOf s.data.toList)).bind fun o=>if outB o=true then some o else none):=uH (wordOut_eq HB.out hw);have hl12:=bareOf_len s.data.toList;clear hw;generalize wordOut xs s.data.toList=R at *;generalize bareOf s.data.toList=t at *;have HNo:Hid (∀ k,k < t.length→strokeOf xs [at8 t k]=none→R=none):=uH (fun k hk h=>by
  rw [HR.out,outl_no (c:=at8 t k) (by rw [← at8_get hk];exact List.getElem_mem hk) h];rfl)
 have HOV:=uH (fun (W:World) (AA:Option Addr) (nn cc:Nat) (ss:List Stroke) (h:StrokesIn W W.heap.size AA nn cc ss)=>implOutlineValid AA nn cc ss W h);obtain ⟨st,hst⟩ : ∃ st,st=mkStr t:=⟨_,rfl⟩;rw [← hst] at HBr;have hts:st.size≤12:=(by rw [hst,mkStr_size];exact hl12);have HT:Hid (st.size=t.length):=uH (by rw [hst,mkStr_size]);have HX:Hid (∀ k (hk:k < st.size),st[k]=at8 t k):=uH (fun k hk=>by
  have hk':k < t.length:=(by rw [← HT.out];exact hk);subst hst;rw [at8_str hk,mkStr_data])
 clear hst hl12;go_enter Tryz.func204,Tryz.ntmps204
 (go_wp2_with fail);refine (HW.out _).mono ?_;rintro e w1 ⟨rfl,rfl⟩;(go_wp2_with fail);refine (HBr.out _).mono ?_;rintro e w2 ⟨rfl,hb2⟩;have b2:Below w.heap.size w (w2.alloc (.cells #[] 63)):=hb2.alloc hb2.size _;have HO2:Hid (StrOwn (w2.alloc (.cells #[] 63)) w.heap.size (.slice (some ⟨w2.heap.size,0,none⟩) 0 0) []):=uH (ownG_mono (StrOwn.made w2) hb2.size);have HM2:=uH (H.out.keep b2);clear hb2 HBr HW;go_wp2;go_loopw [7,19] (fun o i wr=>∃ (k:Nat) (v:Value) (L:List Stroke),k≤st.size∧i = .int .i64 k∧v=o∧Hid (L.length=k)∧Hid (StrOwn wr w.heap.size v L)∧Hid (outl xs (t.take k)=some L)∧Below w.heap.size w wr) (fun _ i _=>st.size - (intOf i).toNat)
 case atStart=>exact ⟨0,_,[],Nat.zero_le _,rfl,rfl,uH rfl,HO2,uH rfl,b2⟩
 case round =>
  obtain ⟨k,v,L,hk,rfl,rfl,HLk,HO,HL,hb⟩:=hrel;have hz:=hb.size;have hL12:L.length≤12:=(by have:=HLk.out;omega);by_cases hlt:k < st.size
  ·have hkt:k < t.length:=(by rw [← HT.out];exact hlt);have i1:(0:Int)≤(k:Int):=(by omega);have i2:(k:Int) < (st.size:Int):=(by omega);have hx:=HX.out k hlt;have hlk0:=look_full (c:=at8 t k) HB.out (H.out.keep hb);have HNk:=uH (HNo.out k hkt);have HOs:=uH (fun s (hsk:strokeOf xs [at8 t k]=some s)=>outl_take_succ hkt HL.out hsk);generalize hso:strokeOf xs [at8 t k]=so at *;generalize hc:at8 t k=cb at *;clear hso hc;cases so with
   | none =>
    have HRn:=uH (HNk.out rfl);have hlk:(Instr.lookup 209 (.map (some b)) (.int .u8 (cb.toNat:Int)) true).run Tryz.prog wr = .ok (.tuple #[.agg #[.int .i64 0,.int .i64 0],.bool false]) wr:=hlk0;have b3:Below w.heap.size w (wr.alloc (.cells #[.int .i64 0,.int .i64 0] 63)):=hb.alloc hz _;clear hlk0;go_wp2;go_returns;exact ⟨.inl ⟨HRn.out,_,_,rfl,HNil.out _⟩,b3⟩
   | some s =>
    obtain ⟨d,z⟩:=s;have hlk:(Instr.lookup 209 (.map (some b)) (.int .u8 (cb.toNat:Int)) true).run Tryz.prog wr = .ok (.tuple #[.agg #[.int .i64 d,.int .i64 z],.bool true]) wr:=hlk0;have HL2:=uH (HOs.out _ rfl);have HO3:Hid (∀ o o',(((wr.alloc o).alloc o')).ownsRow w.heap.size 63 2 v L.length (L.flatMap stC)):=uH (fun o o'=>ownG_keep HO.out (((Below.refl _ _).alloc (Nat.le_refl _) o).alloc (by simp) o'));have HRow:Hid (∀ o,Row ((wr.alloc o).alloc (.cells #[.int .i64 d,.int .i64 z] 63)) (wr.heap.size+2) (some ⟨wr.heap.size+1,0,none⟩) 1 2 [.int .i64 d,.int .i64 z]):=uH (fun o=>by have h:=rowNewSt (wr.alloc o) (.int .i64 d) (.int .i64 z) 63;simp only [World.size_alloc] at h;exact h);clear hlk0;go_wp2_with (at_builtin;refine wpList_append_any _ rfl (.tmp 32) (.tmp 34) _ rfl w.heap.size 63 i0 _ 2 16 Tryz.underlying138 hi hz0 hz1 hz2 rfl (by omega) _ L.length (L.flatMap stC) rfl (HO3.out _ _) (wr.heap.size+2) (some ⟨wr.heap.size+1,0,none⟩) 1 1 [.int .i64 d,.int .i64 z] rfl (HRow.out _) (by simp [Value.oneCell']) (by unfold maxLen;omega) (by omega) (by simp;omega) ?_;intro v4 w4 hown4 hg4 hat4)
    have HO4:Hid (StrOwn w4 w.heap.size v4 (L++[⟨d,z⟩])):=uH (by unfold StrOwn;rw [List.length_append,List.flatMap_append];exact hown4);have b4:=((hb.alloc hz _).alloc (by simp;omega) _).grown hg4 (by simp;omega) (fun q hq=>ownG_base (HO3.out default default) hq);clear hown4 hg4 hat4;go_wp2;go_roundw
    case rel=>exact ⟨k+1,_,_,by omega,by go_num,rfl,uH (by rw [List.length_append,HLk.out];rfl),HO4,HL2,b4⟩
    case measure=>simp [intOf];omega
  ·obtain rfl:k=st.size:=(by omega);have HLt:Hid (outl xs t=some L):=uH (by have:=HL.out;rw [HT.out,List.take_of_length_le (Nat.le_refl _)] at this;exact this);obtain ⟨A6,c6,rfl,hc6,hm6⟩:=ownG_form HO.out;have HO6:Hid (StrOwn wr w.heap.size (.slice A6 L.length c6) L):=HO;have HOVk:=uH (HOV.out wr A6 L.length c6 L (StrOwn.reads HO6.out rfl (outl_ok HLt.out)));have HR2:Hid (R=if outB L=true then some L else none):=uH (by rw [HR.out,HLt.out];rfl);generalize hM:L.length=M at *;have HM:=uH hM;clear hM;cases ho:outB L with
   | false =>
    rw [ho] at HOVk;have HRn:Hid (R=none):=uH (by rw [HR2.out,ho];rfl);clear ho;(go_wp2_with fail);refine HOVk.out.mono ?_;rintro e w3 ⟨rfl,hb3⟩;have b3:=below_next hb hb3;go_wp2;go_returns;exact ⟨.inl ⟨HRn.out,_,_,rfl,HNil.out _⟩,b3⟩
   | true =>
    rw [ho] at HOVk;have HRn:Hid (R=some L):=uH (by rw [HR2.out,ho];rfl);clear ho;(go_wp2_with fail);refine HOVk.out.mono ?_;rintro e w3 ⟨rfl,hb3⟩;have b3:=below_next hb hb3;have HO7:=uH (ownG_keep HO6.out hb3);go_wp2;go_returns;exact ⟨.inr ⟨A6,c6,L,HRn.out,by rw [HM.out];rfl,by rw [HM.out];exact HO7.out⟩,b3⟩
theorem implSystemValid (A:Option Addr) (n c:Nat) (xs:List Sg) (w:World) (h:SgsIn w w.heap.size A n c xs) :
  Calls Tryz.prog 86 #[.slice A n c] w fun e w'=>e = .returned (.bool (sysB xs))∧Below w.heap.size w w':=by
 have HS:=uH (signsOf A n c xs w h);clear h;go_enter Tryz.func86,Tryz.ntmps86
 (go_wp2_with fail);refine HS.out.mono ?_;rintro e w1 ⟨hA,hb1⟩;rcases hA with ⟨hs,rfl⟩ | ⟨hs,b,rfl,_⟩
 ·have HS:=uH hs;clear hs;go_wp2;go_ret;exact ⟨ret_bool (by rw [HS.out]),hb1⟩
 ·have HS:=uH hs;clear hs;go_wp2;go_ret;exact ⟨ret_bool (by rw [HS.out]),hb1⟩
set_option maxHeartbeats 400000 in
theorem implWordOutline (A:Option Addr) (n c:Nat) (xs:List Sg) (s:ByteArray) (w:World) (hs:s.size≤maxLen) (h:SgsIn w w.heap.size A n c xs) :
  Calls Tryz.prog 152 #[.slice A n c,.string s] w fun e w'=>OutAns w' w.heap.size (wordOut xs s.data.toList) e∧Below w.heap.size w w':=by
 have HS:=uH (signsOf A n c xs w h);have HNil:Hid (∀ W:World,StrOwn W w.heap.size (.slice none 0 0) []):=uH (fun W=>World.ownsRow_nil _ _ _ _);clear h;go_enter Tryz.func152,Tryz.ntmps152
 (go_wp2_with fail);refine HS.out.mono ?_;rintro e w1 ⟨hA,hb1⟩;rcases hA with ⟨hB,rfl⟩ | ⟨hB,b,rfl,hb,hM⟩
 ·have HR:Hid (wordOut xs s.data.toList=none):=uH (wordOut_bad (.inl hB));clear hB;go_wp2;go_returns;exact ⟨.inl ⟨HR.out,_,_,rfl,HNil.out _⟩,hb1⟩
 ·have HO:=uH (mapOutline b xs s w1 hs hB hM);have hz1:=hb1.size;clear hM hB;(go_wp2_with fail);refine HO.out.mono ?_;rintro e w2 ⟨hA2,hb2⟩;have b2:=below_next hb1 hb2;rcases hA2 with ⟨hn,A2,c2,rfl,hO2⟩ | ⟨A2,c2,ss,hn,rfl,hO2⟩
  ·have HN:=uH hn;have HO2:=uH (ownG_mono hO2 hz1);clear hn hO2 HO;go_wp2;go_returns;exact ⟨.inl ⟨HN.out,_,_,rfl,HO2.out⟩,b2⟩
  ·have HN:=uH hn;have HO2:=uH (ownG_mono hO2 hz1);clear hn hO2 HO;go_wp2;go_returns;exact ⟨.inr ⟨_,_,ss,HN.out,rfl,HO2.out⟩,b2⟩
set_option maxHeartbeats 800000 in
theorem implWrittenOf (A:Option Addr) (n c:Nat) (xs:List Sg) (l:List UInt8) (w:World) (hl:l.length≤maxLen) (h:SgsIn w w.heap.size A n c xs) :
  Calls Tryz.prog 87 #[.slice A n c,.string (mkStr l)] w fun e w'=>WrAns w' w.heap.size ((wordOut xs l).map fun o=>(o,posOf l)) e∧Below w.heap.size w w':=by
 have hal : ∀ o,Below w.heap.size w (w.alloc o):=fun o=>(Below.refl _ _).alloc (Nat.le_refl _) o;have HO:=uH (fun o=>implWordOutline A n c xs (mkStr l) (w.alloc o) (by rw [mkStr_size];exact hl) (h.keep (hal o)));have HP:=uH (fun W=>implWordPosition (mkStr l) W (by rw [mkStr_size];exact hl));rw [mkStr_data] at HO HP;have HG:=uH (fun ss (h:wordOut xs l=some ss)=>outB_good (wordOut_ok h).2.2.2);generalize wordOut xs l=R at *;generalize posOf l=p at *;clear h;go_enter Tryz.func87,Tryz.ntmps87
 (go_wp2_with fail);refine (HO.out _).mono ?_;rintro e w1 ⟨hA,hb1⟩;have K1:=(Blk.new w _ _).below hb1;have b1:=below_next (hal _) hb1;rcases hA with ⟨hn,A1,c1,rfl,_⟩ | ⟨A1,c1,ss,hn,rfl,hO1⟩
 ·subst hn;obtain ⟨k0,k1,kf0,kf1⟩:=K1.two;clear HG HO HP hb1;go_wp2;refine bodyPost_ret (v:=.tuple #[.agg #[.slice none 0 0,.int .i64 0],.bool false]) (by simp [results,Tryz.results87,go_sem,k0,k1]) rfl ?_;exact ⟨.inl ⟨rfl,rfl⟩,(b1.setCell (Nat.le_refl _) _).setCell (Nat.le_refl _) _⟩
 ·subst hn;have HG2:=uH (HG.out ss rfl);have HO1:Hid (StrOwn w1 (w.heap.size+1) (.slice A1 ss.length c1) ss):=uH (by simpa using hO1);generalize hM:ss.length=M at *;have HM:=uH hM;clear hM;clear HG HO hb1 hO1;(go_wp2_with fail);refine (HP.out _).mono ?_;rintro e w2 ⟨rfl,hb2⟩;have b2:=below_next b1 hb2;obtain ⟨k0,k1,kf0,kf1⟩:=(K1.below hb2).two;have HO2:=uH ((StrOwn.far (ownG_keep HO1.out hb2) (p:=⟨w.heap.size,0,none⟩) (by simp) (.slice A1 M c1)).far (p:=⟨w.heap.size,1,none⟩) (by simp) (.int .i64 p));have HO3:=uH (own_mono0 HO2.out (show w.heap.size≤w.heap.size+1 by omega));go_wp2;refine bodyPost_ret (v:=.tuple #[.agg #[.slice A1 M c1,.int .i64 p],.bool true]) (by simp [results,Tryz.results87,go_sem,k0,k1]) rfl ?_;exact ⟨.inr ⟨A1,c1,ss,p,rfl,by rw [HM.out],by rw [HM.out];exact HO3.out,HG2.out⟩,(b2.setCell (Nat.le_refl _) _).setCell (Nat.le_refl _) _⟩
structure It where
 i:Nat
 A:Option Addr
 n:Nat
 c:Nat
 ss:List Stroke
 p:Int
def ItsIn (sz:Nat) (ec:It→List Value) (w:World) (B:Nat) (A:Option Addr) (n c:Nat) (xs:List It):Prop :=
 xs.length=n∧n≤c∧c≤maxLen∧Row w B A n sz (xs.flatMap ec)∧∀ x∈xs,StrokesIn w B x.A x.n x.c x.ss
section
variable {sz:Nat} {ec:It→List Value} {w w':World} {B n c k:Nat} {A:Option Addr} {xs:List It} {T:TypeId} {v v':Value}
theorem ItsIn.keep (h:ItsIn sz ec w w.heap.size A n c xs) (hb:Below w.heap.size w w'):ItsIn sz ec w' w'.heap.size A n c xs :=
 ⟨h.1,h.2.1,h.2.2.1,(h.2.2.2.1.below hb).more hb.size,fun x hx=>(h.2.2.2.2 x hx).keep hb⟩
def ItOwn (T:TypeId) (sz:Nat) (ec:It→List Value) (w:World) (B:Nat) (v:Value) (xs:List It):Prop :=
 w.ownsRow B T sz v xs.length (xs.flatMap ec)∧∀ x∈xs,StrokesIn w w.heap.size x.A x.n x.c x.ss∧(0 < x.n→∀ a,x.A=some a→v.ownBlock≠some a.block∧a.block < w.heap.size)
theorem ItOwn.keep (h:ItOwn T sz ec w B v xs) (hb:Below w.heap.size w w'):ItOwn T sz ec w' B v xs :=
 ⟨ownG_keep h.1 hb,fun x hx=>⟨(h.2 x hx).1.keep hb,fun hp a ha=>⟨((h.2 x hx).2 hp a ha).1,Nat.lt_of_lt_of_le ((h.2 x hx).2 hp a ha).2 hb.size⟩⟩⟩
theorem StrokesIn.grown {ss:List Stroke} {row:Option Nat} (h:StrokesIn w w.heap.size A n c ss) (hg:w.grownBy w' row) (hne:0 < n→∀ a,A=some a→row≠some a.block):StrokesIn w' w'.heap.size A n c ss :=
 StrokesIn.more ⟨h.1,h.2.1,h.2.2.1,by
  by_cases hp:0 < n
  ·exact h.2.2.2.1.grown hg (hne hp)
  ·exact ⟨h.2.2.2.1.1,fun h2=>absurd h2 hp⟩,h.2.2.2.2⟩ hg.size
theorem ItOwn.push {x:It} (h:ItOwn T sz ec w B v xs) (hx:StrokesIn w w.heap.size x.A x.n x.c x.ss) (hn:0 < x.n→∀ a,x.A=some a→v.ownBlock≠some a.block∧a.block < w.heap.size)
  (ho:w'.ownsRow B T sz v' (xs.length+1) (xs.flatMap ec++ec x)) (hg:w.grownBy w' v.ownBlock) (hv:v'.ownBlock=v.ownBlock∨v'.ownBlock=some w.heap.size):ItOwn T sz ec w' B v' (xs++[x]):=by
 refine ⟨by rw [List.length_append,List.flatMap_append];simpa using ho,fun y hy=>?_⟩;have key:StrokesIn w w.heap.size y.A y.n y.c y.ss∧(0 < y.n→∀ a,y.A=some a→v.ownBlock≠some a.block∧a.block < w.heap.size):=by
  rcases List.mem_append.1 hy with hy | hy
  ·exact h.2 y hy
  ·rw [List.mem_singleton] at hy;subst hy;exact ⟨hx,hn⟩
 refine ⟨key.1.grown hg (fun hp a ha=>(key.2 hp a ha).1),fun hp a ha=>⟨fun e=>?_,Nat.lt_of_lt_of_le (key.2 hp a ha).2 hg.size⟩⟩;rcases hv with e2 | e2
 ·exact (key.2 hp a ha).1 (e2.symm.trans e)
 ·have:=(key.2 hp a ha).2;rw [e2] at e;injection e with e;omega
theorem ItOwn.reads (h:ItOwn T sz ec w B (.slice A n c) xs) (hn:xs.length=n):ItsIn sz ec w w.heap.size A n c xs:=by
 have h1:=h.1;rw [hn] at h1;obtain ⟨A',c',e,h2,h3⟩:=ownG_form h1;injection e with e1 e2 e3;subst e1 e3;exact ⟨hn,h2,h3,Row.of_own h1,fun x hx=>(h.2 x hx).1⟩
end
end Go.Proofs.YtbkhnljaajajiaaGreatDoor
