/-
  Contracts and plain laws that the proofs lean on. Conditions: as each says.
-/
import Derived.Test.YtbkhnljaajajiaaGreatDoorPExecuteProof05
import Derived.Test.YtbkhnljaajajiaaGreatDoorPX36
set_option maxRecDepth 100000
set_option linter.unusedSimpArgs false
set_option linter.unusedVariables false
set_option linter.unnecessarySimpa false
namespace Go.Proofs.YtbkhnljaajajiaaGreatDoor
open Go.ChangeShapes Go.WideShapes Go.ChangeAt Go.RowKit
set_option maxHeartbeats 800000 in
theorem joinedC (A:Option Addr) (n c:Nat) (ws:List Wd) (w:World) (hn:n≤1000) (hl : ∀ l∈ws,l.length≤1000) (h:WdsIn w w.heap.size A n c ws) :
  Calls Tryz.prog 20 #[.slice A n c] w fun e w'=>e = .returned (.string (mkStr (joinedL ws)))∧w=w':=by
 have HL:=uH h.1;have H:=uH h;have HT:=uH hl;clear h hl;go_enter Tryz.func20,Tryz.ntmps20
 go_wp2;go_loopw [3,4] (fun v3 v4 wr=>∃ k:Nat,k≤n∧v3 = .string (mkStr (joinedL (ws.take k)))∧v4 = .int .i64 k∧w=wr) (fun _ v4 _=>n - (intOf v4).toNat)
 case atStart=>exact ⟨0,Nat.zero_le _,by rw [List.take_zero];rfl,rfl,by first | trivial | rfl⟩
 case round =>
  obtain ⟨k,hk,rfl,rfl,rfl⟩:=hrel;have i3:(0:Int)≤(k:Int):=(by omega);by_cases hlt:k < n
  ·have i4:(k:Int) < (n:Int):=(by omega);obtain ⟨b,off,rfl,hbB,e0⟩:=H.out.at_ hlt;have hkl:k < ws.length:=(by rw [HL.out];exact hlt);have hu:=HT.out _ (wdAt_mem hkl);have hj:=joinedL_len (ws:=ws.take k) (k:=1000) (fun l hl=>HT.out l (List.mem_of_mem_take hl));rw [List.length_take,Nat.min_eq_left (by omega)] at hj;have HNx:Hid (joinedL (ws.take (k+1))=joinedL (ws.take k)++32::wdAt ws k):=uH (by
    rw [List.take_succ_eq_append_getElem hkl,joinedL_snoc];have:ws[k]=wdAt ws k:=(by unfold wdAt;rw [List.getD_eq_getElem?_getD,List.getElem?_eq_getElem hkl];rfl);rw [this])
   obtain ⟨x1,a1,a2⟩ : ∃ x1:ByteArray,(∀ W',(Op.stringOp .add (mkStr (joinedL (ws.take k))) { data:=#[32] }).run Tryz.prog W' = .ok (.string x1) W')∧(∀ W',(Op.stringOp .add x1 (mkStr (wdAt ws k))).run Tryz.prog W' = .ok (.string (mkStr (joinedL (ws.take (k+1))))) W') :=
    ⟨mkStr (joinedL (ws.take k)++[32]),fun W'=>run_add _ [32] (by simp only [List.length_cons,List.length_nil];omega) W',fun W'=>by
     rw [HNx.out,show joinedL (ws.take k)++32::wdAt ws k=(joinedL (ws.take k)++[32])++wdAt ws k by simp];exact run_add _ _ (by simp only [List.length_append,List.length_cons,List.length_nil];omega) W'⟩
   clear hu hj HNx;go_wp2;go_roundw
   case rel=>exact ⟨k+1,by omega,rfl,by go_num,by first | trivial | rfl⟩
   case measure=>simp [intOf];omega
  ·obtain rfl:k=n:=(by omega);have HF:Hid (ws.take k=ws):=uH (List.take_of_length_le (by rw [HL.out];exact Nat.le_refl _));have i4 : ¬ (k:Int) < (k:Int):=(by omega);go_wp2;go_ret;exact ⟨by have e:=HF.out;rw [e];rfl,rfl⟩
end Go.Proofs.YtbkhnljaajajiaaGreatDoor
