/-
  Contracts and plain laws that the proofs lean on. Conditions: as each says.
-/
import Derived.Test.YtbkhnljaajajiaaGreatDoorPExecuteCabinet05
set_option maxRecDepth 100000
set_option linter.unusedSimpArgs false
set_option linter.unusedVariables false
set_option linter.unnecessarySimpa false
namespace Go.Proofs.YtbkhnljaajajiaaGreatDoor
open Go.ChangeShapes Go.WideShapes Go.ChangeAt Go.RowKit
theorem map_at {ds ds':List Drawer} (h:ds.map (·.ps)=ds'.map (·.ps)) {k:Nat} (hk:k < ds.length) (hk':k < ds'.length):(drAt ds' k).ps=(drAt ds k).ps:=by
 have h1:=congrArg (fun l=>l[k]?) h;simp only [List.getElem?_map,drAt_some hk,drAt_some hk'] at h1;injection h1 with h1;exact h1.symm
theorem sameCabinet (A A':Option Addr) (n c c':Nat) (ds ds':List Drawer) (w:World) (hps:ds.map (·.ps)=ds'.map (·.ps)) (h:DrawersIn w w.heap.size A n c ds) (h':DrawersIn w w.heap.size A' n c' ds') :
  Calls Tryz.prog 34 #[.slice A n c,.slice A' n c'] w fun e w'=>e = .returned (.bool true)∧Below w.heap.size w w':=by
 have hm:=h.2.2.1;have hnc:=h.2.1;have hm':=h'.2.2.1;have hnc':=h'.2.1;unfold maxLen at hm hm';have H:=uH h;have H':=uH h';clear h h';have HPs:=uH hps;clear hps;go_enter Tryz.func34,Tryz.ntmps34
 go_wp2;go_loopw [5] (fun i wr=>∃ k:Nat,k≤n∧i = .int .i64 k∧Below w.heap.size w wr) (fun i _=>n - (intOf i).toNat)
 case atStart=>exact ⟨0,Nat.zero_le _,rfl,Below.refl _ _⟩
 case round =>
  obtain ⟨k,hk,rfl,hb⟩:=hrel;by_cases hlt:k < n
  ·obtain ⟨b,off,eA,hbB,c0,hP⟩:=(H.out.below hb).at_ hlt;obtain ⟨b',off',eA',hbB',c0',hP'⟩:=(H'.out.below hb).at_ hlt;have hps:=map_at HPs.out (k:=k) (by rw [H.out.1];exact hlt) (by rw [H'.out.1];exact hlt);have hn1:(drAt ds' k).n=(drAt ds k).n:=(by rw [← hP.1,← hP'.1,hps]);rw [hps,hn1] at hP';rw [hn1] at c0';have HS:Hid (∀ W,Below wr.heap.size wr W→Calls Tryz.prog 80 #[.slice (drAt ds k).A (drAt ds k).n (drAt ds k).c,.slice (drAt ds' k).A (drAt ds k).n (drAt ds' k).c] W fun e w'=>e = .returned (.bool true)∧Below W.heap.size W w'):=uH (fun W hW =>
    samePads _ _ _ _ _ (drAt ds k).ps W ((hP.below (hW.mono hb.size)).more (Nat.le_trans hb.size hW.size)) ((hP'.below (hW.mono hb.size)).more (Nat.le_trans hb.size hW.size)))
   subst eA eA';clear hP hP' hps hn1;generalize drAt ds k=d at *;generalize (drAt ds' k).A=Ad at *;generalize (drAt ds' k).c=cd at *;have r0:=qcell c0;have r1:=qcell c0';(go_wp2_with fail);refine region_qb (by kernel_rfl) (by kernel_rfl) ?_;repeat (first | go_big_quiet_step ((go_at_call 80;exact quietB (HS.out _ (below_regrown wr _ _)))) | quiet_step ((go_at_call 80;exact quietB (HS.out _ (below_regrown wr _ _)))))
   refine wpQuiet_nil ?_;intro w1 hb1;have b1:=hb.trans (hb1.mono hb.size);clear r0 r1 c0 c0' hb1;go_wp2;go_roundw
   case rel=>exact ⟨k+1,by omega,by go_num,b1⟩
   case measure=>simp [intOf];omega
  ·go_wp2;go_ret;exact ⟨rfl,hb⟩
end Go.Proofs.YtbkhnljaajajiaaGreatDoor
