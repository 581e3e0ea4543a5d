/-
  Contracts and plain laws that the proofs lean on. Conditions: as each says.
-/
import Derived.Test.YtbkhnljaajajiaaGreatDoorPX03
set_option maxRecDepth 100000
set_option linter.unusedSimpArgs false
set_option linter.unusedVariables false
set_option linter.unnecessarySimpa false
namespace Go.Proofs.YtbkhnljaajajiaaGreatDoor
open Go.ChangeShapes Go.WideShapes Go.ChangeAt Go.RowKit
theorem neqPadRun (d:Int) (c:ByteArray) (d':Int) (c':ByteArray) (w:World) :
  (binOp .neq 53 (.agg #[.int .i64 d,.string c]) (.agg #[.int .i64 d',.string c'])).run Tryz.prog w = .ok (.bool (!(d == d' && c.toList == c'.toList))) w:=by
 have h:=eqPadRun d c d' c' w;rw [run_eql_struct] at h;rw [run_neq_struct];cases hq:(Op.equalIn 10000 53 (.agg #[.int .i64 d,.string c]) (.agg #[.int .i64 d',.string c'])).run Tryz.prog w with
 | ok b w' =>
  rw [hq] at h;simp only [Result.andThen] at h ⊢;injection h with h1 h2;injection h1 with h1;rw [h1,h2]
 | _=>rw [hq] at h;simp [Result.andThen] at h
theorem samePads (A A':Option Addr) (n c c':Nat) (ps:List Pad) (w:World) (h:PadsIn w w.heap.size A n c ps) (h':PadsIn w w.heap.size A' n c' ps) :
  Calls Tryz.prog 80 #[.slice A n c,.slice A' n c'] w fun e w'=>e = .returned (.bool true)∧Below w.heap.size w w':=by
 have hm:=h.2.2.1;have hnc:=h.2.1;unfold maxLen at hm;have H:=uH h;have H':=uH h';clear h h';have hg0:Tryz.prog.eqGuardType Tryz.prog.depth 53=false:=(by kernel_rfl);go_enter Tryz.func80,Tryz.ntmps80
 go_wp2;go_loopw [5] (fun i wr=>∃ k:Nat,k≤n∧i = .int .i64 k∧Below w.heap.size w wr) (fun i _=>n - (intOf i).toNat)
 case atStart=>exact ⟨0,Nat.zero_le _,rfl,Below.refl _ _⟩
 case round =>
  obtain ⟨k,hk,rfl,hb⟩:=hrel;by_cases hlt:k < n
  ·obtain ⟨b,off,eA,hbB,c0,c1,hg⟩:=(H.out.below hb).at_ hlt;obtain ⟨b',off',eA',hbB',c0',c1',hg'⟩:=(H'.out.below hb).at_ hlt;subst eA eA';generalize padAt ps k=p at *;have hE : ∀ W,(binOp .neq 53 (.agg #[.int .i64 p.day,.string p.case]) (.agg #[.int .i64 p.day,.string p.case])).run Tryz.prog W = .ok (.bool false) W:=(fun W=>by rw [neqPadRun];simp);have r0:=qcell c0;have r1:=qcell c1;have r0':=qcell c0';have r1':=qcell c1';(go_wp2_with fail);refine region_qb (by kernel_rfl) (by kernel_rfl) ?_;repeat (first | go_big_quiet_step (fail) | quiet_step (fail))
   refine wpQuiet_nil ?_;intro w1 hb1;have b1:=hb.trans (hb1.mono hb.size);clear r0 r1 r0' r1' c0 c1 c0' c1' hb1;go_wp2;go_roundw
   case rel=>exact ⟨k+1,by omega,by go_num,b1⟩
   case measure=>simp [intOf];omega
  ·go_wp2;go_ret;exact ⟨rfl,hb⟩
end Go.Proofs.YtbkhnljaajajiaaGreatDoor
