/-
  Contracts and plain laws that the proofs lean on. Conditions: as each says.
-/
import Derived.Test.YtbkhnljaajajiaaGreatDoorPX08
set_option maxRecDepth 100000
set_option linter.unusedSimpArgs false
set_option linter.unusedVariables false
set_option linter.unnecessarySimpa false
namespace Go.Proofs.YtbkhnljaajajiaaGreatDoor
theorem sizeN_L {z:Int} (h1:1≤z) (h2:z≤3):sizeN (sizeL z)=z:=by
 have:z=1∨z=2∨z=3:=(by omega);rcases this with rfl | rfl | rfl <;> decide
theorem pairs_one {s:Stroke} (h:okS s=true) (r:List UInt8):pairsS (sText s++r)=s::pairsS r:=by
 obtain ⟨h1,h2,h3,h4⟩:=okS_iff.1 h;obtain ⟨d,z⟩:=s;simp only at h1 h2 h3 h4;have e:((UInt8.ofNat (48+d).toNat).toNat:Int) - 48=d:=(by simp only [UInt8.toNat_ofNat'];omega);simp only [sText,List.cons_append,List.nil_append,pairsS,e,sizeN_L h3 h4]
theorem pairs_text : ∀ {l:List Stroke},(∀ s∈l,okS s=true)→pairsS (textS l)=l
 | [],_=>rfl
 | s::l,h=>by
  unfold textS;rw [List.flatMap_cons,pairs_one (h s (by simp))];have:=pairs_text (l:=l) (fun s hs=>h s (by simp [hs]));unfold textS at this;rw [this]
theorem from_text {l:List Stroke} (h:outB l=true):fromS (textS l)=some l:=by
 have e:=pairs_text (fun s hs=>outB_ok h hs);have:=fromS_yes (l:=textS l) (by rw [textS_len];omega) (by rw [e];exact h);rw [this,e]
end Go.Proofs.YtbkhnljaajajiaaGreatDoor
namespace Go.Proofs.YtbkhnljaajajiaaGreatDoor
open Go.ChangeShapes Go.WideShapes Go.ChangeAt Go.RowKit
theorem implStrokeText (s:Stroke) (w:World):Calls Tryz.prog 40 #[.agg #[.int .i64 s.dir,.int .i64 s.size]] w fun e w'=>e = .returned (.string (mkStr (if okS s=true then sText s else [])))∧Below w.heap.size w w':=by
 have HV:=uH (fun w=>implStrokeValid s.dir s.size w);have hal:Below w.heap.size w (w.alloc (.cells #[.int .i64 s.dir,.int .i64 s.size] 63)):=(Below.refl _ _).alloc (Nat.le_refl _) _;have p0:=newcell w #[.int .i64 s.dir,.int .i64 s.size] 63 0 _ rfl;have p1:=newcell w #[.int .i64 s.dir,.int .i64 s.size] 63 1 _ rfl;cases ho:okS s with
 | false =>
  have HO:Hid (okS ⟨s.dir,s.size⟩=false):=uH ho;clear ho;go_enter Tryz.func40,Tryz.ntmps40
  (go_wp2_with fail);refine (HV.out _).mono ?_;rw [HO.out];rintro e w1 ⟨rfl,hb1⟩;have b1:=below_next hal hb1;go_wp2;go_returns;exact ⟨rfl,b1⟩
 | true =>
  have HO:Hid (okS ⟨s.dir,s.size⟩=true):=uH ho;have HP:=uH (fun w=>penOf s ho w);have HT:=uH (fun w=>penText s ho w);clear ho;go_enter Tryz.func40,Tryz.ntmps40
  (go_wp2_with fail);refine (HV.out _).mono ?_;rw [HO.out];rintro e w1 ⟨rfl,hb1⟩;have b1:=below_next hal hb1;have q0:=kcell hb1 p0;have q1:=kcell hb1 p1;clear hb1 p0 p1;(go_wp2_with fail);refine (HP.out _).mono ?_;rintro e w2 ⟨rfl,hb2⟩;have b2:=below_next b1 hb2;(go_wp2_with fail);refine (HT.out _).mono ?_;rintro e w3 ⟨rfl,hb3⟩;have b3:=below_next b2 hb3;go_wp2;go_returns;exact ⟨rfl,b3⟩
theorem neqStrokeRun (d z:Int) (w:World) :
  (binOp .neq 63 (.agg #[.int .i64 d,.int .i64 z]) (.agg #[.int .i64 d,.int .i64 z])).run Tryz.prog w = .ok (.bool false) w:=by
 have u3:=Tryz.underlying3;have a3:=Tryz.isAgg3;have z3:=Tryz.sizeOf3;have hS:Tryz.prog.underlying 63=some (.struct (Tryz.prog.fieldsOf 63)):=(by kernel_rfl);have hp:Tryz.prog.stoodInHeld 63=false:=(by kernel_rfl);rw [run_neq_struct,show (10000:Nat)=9999+1 from rfl,run_equalIn_agg w 9999 63 _ _ hS hp];simp only [Program.fieldsOf,Tryz.underlying63];go_simp
theorem sameStrokes (A A':Option Addr) (n c c':Nat) (ss:List Stroke) (w:World) (h:StrokesIn w w.heap.size A n c ss) (h':StrokesIn w w.heap.size A' n c' ss) :
  Calls Tryz.prog 157 #[.slice A n c,.slice A' n c'] w fun e w'=>e = .returned (.bool true)∧Below w.heap.size w w':=by
 have hm:=h.2.2.1;have hnc:=h.2.1;unfold maxLen at hm;have H:=uH h;have H':=uH h';clear h h';have hg0:Tryz.prog.eqGuardType Tryz.prog.depth 63=false:=(by kernel_rfl);go_enter Tryz.func157,Tryz.ntmps157
 go_wp2;go_loopw [5] (fun i wr=>∃ k:Nat,k≤n∧i = .int .i64 k∧Below w.heap.size w wr) (fun i _=>n - (intOf i).toNat)
 case atStart=>exact ⟨0,Nat.zero_le _,rfl,Below.refl _ _⟩
 case round =>
  obtain ⟨k,hk,rfl,hb⟩:=hrel;by_cases hlt:k < n
  ·obtain ⟨b,off,eA,hbB,c0,c1,hg⟩:=(H.out.below hb).at_ hlt;obtain ⟨b',off',eA',hbB',c0',c1',hg'⟩:=(H'.out.below hb).at_ hlt;subst eA eA';generalize strokeAt ss k=p at *;have hE : ∀ W,(binOp .neq 63 (.agg #[.int .i64 p.dir,.int .i64 p.size]) (.agg #[.int .i64 p.dir,.int .i64 p.size])).run Tryz.prog W = .ok (.bool false) W:=fun W=>neqStrokeRun p.dir p.size W;have r0:=qcell c0;have r1:=qcell c1;have r0':=qcell c0';have r1':=qcell c1';(go_wp2_with fail);refine region_qb (by kernel_rfl) (by kernel_rfl) ?_;repeat (first | go_big_quiet_step (fail) | quiet_step (fail))
   refine wpQuiet_nil ?_;intro w1 hb1;have b1:=hb.trans (hb1.mono hb.size);clear r0 r1 r0' r1' c0 c1 c0' c1' hb1;go_wp2;go_roundw
   case rel=>exact ⟨k+1,by omega,by go_num,b1⟩
   case measure=>simp [intOf];omega
  ·go_wp2;go_ret;exact ⟨rfl,hb⟩
end Go.Proofs.YtbkhnljaajajiaaGreatDoor
