/-
  Contracts and plain laws that the proofs lean on. Conditions: as each says.
-/
import Derived.Test.YtbkhnljaajajiaaGreatDoorPExecuteCopy02
import Derived.Test.YtbkhnljaajajiaaGreatDoorPX36
set_option maxRecDepth 100000
set_option linter.unusedSimpArgs false
set_option linter.unusedVariables false
set_option linter.unnecessarySimpa false
namespace Go.Proofs.YtbkhnljaajajiaaGreatDoor
open Go.ChangeShapes Go.WideShapes Go.ChangeAt Go.RowKit
theorem okLines (n:Nat) (w:World) (hn:n≤1000):Calls Tryz.prog 21 #[.int .i64 (n:Int)] w fun e w'=>e = .returned (.string (mkStr (okN n)))∧w=w':=by
 go_enter Tryz.func21,Tryz.ntmps21
 go_wp2;go_loopw [3,4] (fun v3 v4 wr=>∃ k:Nat,k≤n∧v3 = .string (mkStr (okN k))∧v4 = .int .i64 k∧w=wr) (fun _ v4 _=>n - (intOf v4).toNat)
 case atStart=>exact ⟨0,Nat.zero_le _,rfl,rfl,by first | trivial | rfl⟩
 case round =>
  obtain ⟨k,hk,rfl,rfl,rfl⟩:=hrel;by_cases hlt:k < n
  ·have i4:(k:Int) < (n:Int):=(by omega);have hl:(okN k).length≤3 * k:=by
    have : ∀ k,(okN k).length=3 * k:=fun k=>by
     induction k with
     | zero=>rfl
     | succ k ih=>rw [okN_succ,List.length_append,ih];show 3 * k+3=_;omega
    rw [this k];exact Nat.le_refl _
   have a1 : ∀ W',(Op.stringOp .add (mkStr (okN k)) { data:=#[111,107,10] }).run Tryz.prog W' = .ok (.string (mkStr (okN (k+1)))) W':=fun W'=>by
    rw [okN_succ];exact run_add _ [111,107,10] (by simp only [List.length_cons,List.length_nil];omega) W'
   clear hl;go_wp2;go_roundw
   case rel=>exact ⟨k+1,by omega,rfl,by go_num,by first | trivial | rfl⟩
   case measure=>simp [intOf];omega
  ·obtain rfl:k=n:=(by omega);have i4 : ¬ (k:Int) < (k:Int):=(by omega);go_wp2;go_ret;exact ⟨rfl,rfl⟩
set_option maxHeartbeats 800000 in
theorem joinedC (A:Option Addr) (n c:Nat) (ws:List Wd) (w:World) (hn:n≤1000) (hl : ∀ l∈ws,l.length≤1000) (h:WdsIn w w.heap.size A n c ws) :
  Calls Tryz.prog 20 #[.slice A n c] w fun e w'=>e = .returned (.string (mkStr (joinedL ws)))∧w=w':=by
 have HL:=uH h.1;have H:=uH h;have HT:=uH hl;clear h hl;go_enter Tryz.func20,Tryz.ntmps20
 go_wp2;go_loopw [3,4] (fun v3 v4 wr=>∃ k:Nat,k≤n∧v3 = .string (mkStr (joinedL (ws.take k)))∧v4 = .int .i64 k∧w=wr) (fun _ v4 _=>n - (intOf v4).toNat)
 case atStart=>exact ⟨0,Nat.zero_le _,by rw [List.take_zero];rfl,rfl,by first | trivial | rfl⟩
 case round =>
  obtain ⟨k,hk,rfl,rfl,rfl⟩:=hrel;have i3:(0:Int)≤(k:Int):=(by omega);by_cases hlt:k < n
  ·have i4:(k:Int) < (n:Int):=(by omega);obtain ⟨b,off,rfl,hbB,e0⟩:=H.out.at_ hlt;have hkl:k < ws.length:=(by rw [HL.out];exact hlt);have hu:=HT.out _ (wdAt_mem hkl);have hj:=joinedL_len (ws:=ws.take k) (k:=1000) (fun l hl=>HT.out l (List.mem_of_mem_take hl));rw [List.length_take,Nat.min_eq_left (by omega)] at hj;have HNx:Hid (joinedL (ws.take (k+1))=joinedL (ws.take k)++32::wdAt ws k):=uH (by
    rw [List.take_succ_eq_append_getElem hkl,joinedL_snoc];have:ws[k]=wdAt ws k:=(by unfold wdAt;rw [List.getD_eq_getElem?_getD,List.getElem?_eq_getElem hkl];rfl);rw [this])
   obtain ⟨x1,a1,a2⟩ : ∃ x1:ByteArray,(∀ W',(Op.stringOp .add (mkStr (joinedL (ws.take k))) { data:=#[32] }).run Tryz.prog W' = .ok (.string x1) W')∧(∀ W',(Op.stringOp .add x1 (mkStr (wdAt ws k))).run Tryz.prog W' = .ok (.string (mkStr (joinedL (ws.take (k+1))))) W') :=
    ⟨mkStr (joinedL (ws.take k)++[32]),fun W'=>run_add _ [32] (by simp only [List.length_cons,List.length_nil];omega) W',fun W'=>by
     rw [HNx.out,show joinedL (ws.take k)++32::wdAt ws k=(joinedL (ws.take k)++[32])++wdAt ws k by simp];exact run_add _ _ (by simp only [List.length_append,List.length_cons,List.length_nil];omega) W'⟩
   clear hu hj HNx;go_wp2;go_roundw
   case rel=>exact ⟨k+1,by omega,rfl,by go_num,by first | trivial | rfl⟩
   case measure=>simp [intOf];omega
  ·obtain rfl:k=n:=(by omega);have HF:Hid (ws.take k=ws):=uH (List.take_of_length_le (by rw [HL.out];exact Nat.le_refl _));have i4 : ¬ (k:Int) < (k:Int):=(by omega);go_wp2;go_ret;exact ⟨by have e:=HF.out;rw [e];rfl,rfl⟩
theorem tailC (l:Wd) (w:World) (hl:l.length≤1000000):Calls Tryz.prog 22 #[.string (mkStr l)] w fun e w'=>e = .returned (.string (mkStr (l.drop 1)))∧w=w':=by
 by_cases h0:l=[]
 ·subst h0;have he:(mkStr []).toList.isEmpty=true:=(by rw [Lib.toList_data,mkStr_data];rfl);generalize hs:mkStr []=s at *;have HS:=uH hs;clear hs;go_enter Tryz.func22,Tryz.ntmps22
  go_wp2;go_ret;exact ⟨by rw [← HS.out];rfl,rfl⟩
 ·have he:=mkStr_isEmpty h0;have hz:(mkStr l).size=l.length:=mkStr_size l;have hp:1≤l.length:=by
   rcases Nat.lt_or_ge 0 l.length with h | h
   ·exact h
   ·exact absurd (List.length_eq_zero_iff.1 (by omega)) h0
  have HX:Hid ((mkStr l).extract 1 (mkStr l).size=mkStr (l.drop 1)):=uH (by rw [ext_end (mkStr l) 1,mkStr_data]);have i1:(1:Int)≤((mkStr l).size:Int):=(by omega);clear hz hp h0;generalize mkStr (l.drop 1)=y at *;generalize mkStr l=s at *;go_enter Tryz.func22,Tryz.ntmps22
  go_wp2;go_ret;exact ⟨by rw [← HX.out];rfl,rfl⟩
end Go.Proofs.YtbkhnljaajajiaaGreatDoor
