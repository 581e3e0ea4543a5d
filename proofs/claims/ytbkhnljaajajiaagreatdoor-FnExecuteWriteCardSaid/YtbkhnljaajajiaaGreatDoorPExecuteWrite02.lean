/-
  Contracts and plain laws that the proofs lean on. Conditions: as each says.
-/
import Derived.Test.YtbkhnljaajajiaaGreatDoorPExecuteWrite00
import Derived.Test.YtbkhnljaajajiaaGreatDoorPExecuteWrite01
import Derived.Test.YtbkhnljaajajiaaGreatDoorPX12
set_option maxRecDepth 100000
set_option linter.unusedSimpArgs false
set_option linter.unusedVariables false
set_option linter.unnecessarySimpa false
namespace Go.Proofs.YtbkhnljaajajiaaGreatDoor
open Go.ChangeShapes Go.WideShapes Go.ChangeAt Go.RowKit
theorem sameWritten (A A':Option Addr) (n c c':Nat) (ss:List Stroke) (p:Int) (w:World) (h:StrokesIn w w.heap.size A n c ss) (h':StrokesIn w w.heap.size A' n c' ss) :
  Calls Tryz.prog 90 #[.agg #[.slice A n c,.int .i64 p],.agg #[.slice A' n c',.int .i64 p]] w fun e w'=>e = .returned (.bool true)∧Below w.heap.size w w':=by
 have HS:=uH (fun w' (hw:Below w.heap.size w w')=>sameStrokes A A' n c c' ss w' (h.keep hw) (h'.keep hw));clear h h';have hp:(p == p)=true:=(by simp);have HB : ∀ o1 o2,Below w.heap.size w ((w.alloc o1).alloc o2):=fun o1 o2=>((Below.refl _ _).alloc (Nat.le_refl _) _).alloc (by simp) _;go_enter Tryz.func90,Tryz.ntmps90
 (go_wp2_with fail);refine (HS.out _ (HB _ _)).mono ?_;rintro e w1 ⟨rfl,hb1⟩;have b1:=below_next (HB _ _) hb1;go_wp2;go_returns;exact ⟨rfl,b1⟩
theorem sameLine (A A':Option Addr) (n c c':Nat) (xs ys:List Wr) (w:World) (h:WrsIn w w.heap.size A n c xs) (h':WrsIn w w.heap.size A' n c' ys) (he:xs.map Wr.dat=ys.map Wr.dat) :
  Calls Tryz.prog 39 #[.slice A n c,.slice A' n c'] w fun e w'=>e = .returned (.bool true)∧Below w.heap.size w w':=by
 have hm:=h.2.2.1;have hnc:=h.2.1;unfold maxLen at hm;have HL:=uH h.1;have H:=uH h;have H':=uH h';have HE:Hid (∀ k,k < n→(wrAt xs k).dat=(wrAt ys k).dat):=uH (fun k hk=>by
  have h1:=wrAt_some (xs:=xs) (k:=k) (by rw [h.1];exact hk);have h2:=wrAt_some (xs:=ys) (k:=k) (by rw [h'.1];exact hk);have h3:=congrArg (·[k]?) he;simp only [List.getElem?_map,h1,h2,Option.map_some] at h3;exact Option.some.inj h3)
 clear h h' he;go_enter Tryz.func39,Tryz.ntmps39
 go_wp2;go_loopw [5] (fun i wr=>∃ k:Nat,k≤n∧i = .int .i64 k∧Below w.heap.size w wr) (fun i _=>n - (intOf i).toNat)
 case atStart=>exact ⟨0,Nat.zero_le _,rfl,Below.refl _ _⟩
 case round =>
  obtain ⟨k,hk,rfl,hb⟩:=hrel;by_cases hlt:k < n
  ·obtain ⟨b,off,eA,_,c0,c1,hx⟩:=(H.out.keep hb).at_ hlt;obtain ⟨b',off',eA',_,c0',c1',hy⟩:=(H'.out.keep hb).at_ hlt;have he:=HE.out k hlt;subst eA eA';generalize wrAt xs k=x at *;generalize wrAt ys k=y at *;obtain ⟨xA,xn,xc,xs',xp⟩:=x;obtain ⟨yA,yn,yc,ys',yp⟩:=y;obtain ⟨rfl,rfl⟩:xs'=ys'∧xp=yp:=(by unfold Wr.dat at he;exact ⟨congrArg Prod.fst he,congrArg Prod.snd he⟩);obtain rfl:xn=yn:=hx.1.1.symm.trans hy.1.1;have HV:Hid (∀ W,Below wr.heap.size wr W→Calls Tryz.prog 90 #[.agg #[.slice xA xn xc,.int .i64 xp],.agg #[.slice yA xn yc,.int .i64 xp]] W fun e w'=>e = .returned (.bool true)∧Below W.heap.size W w'):=uH (fun W hW=>sameWritten xA yA xn xc yc xs' xp W (hx.1.keep hW) (hy.1.keep hW));clear he hx hy;dsimp only at c0 c1 c0' c1';have r0:=qcell c0;have r1:=qcell c1;have r0':=qcell c0';have r1':=qcell c1';have i1:(0:Int)≤(k:Int):=(by omega);have i2:(k:Int) < (n:Int):=(by omega);(go_wp2_with fail);refine region_qb (by kernel_rfl) (by kernel_rfl) ?_;repeat (first | go_big_quiet_step ((go_at_call 90;exact quietB (HV.out _ (below_regrown wr _ _)))) | quiet_step ((go_at_call 90;exact quietB (HV.out _ (below_regrown wr _ _)))))
   refine wpQuiet_nil ?_;intro w1 hb1;have b1:=below_next hb hb1;clear r0 r1 r0' r1' c0 c1 c0' c1' hb1;go_wp2;go_roundw
   case rel=>exact ⟨k+1,by omega,by go_num,b1⟩
   case measure=>simp [intOf];omega
  ·go_wp2;go_ret;exact ⟨rfl,hb⟩
end Go.Proofs.YtbkhnljaajajiaaGreatDoor
