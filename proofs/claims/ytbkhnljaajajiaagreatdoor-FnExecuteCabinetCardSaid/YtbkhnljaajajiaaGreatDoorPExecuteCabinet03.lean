/-
  Contracts and plain laws that the proofs lean on. Conditions: as each says.
-/
import Derived.Test.YtbkhnljaajajiaaGreatDoorPExecuteCabinet01
import Derived.Test.YtbkhnljaajajiaaGreatDoorPX31
set_option maxRecDepth 100000
set_option linter.unusedSimpArgs false
set_option linter.unusedVariables false
set_option linter.unnecessarySimpa false
namespace Go.Proofs.YtbkhnljaajajiaaGreatDoor
open Go.ChangeShapes Go.WideShapes Go.ChangeAt Go.RowKit Go.Shelf
noncomputable def ofO (css:List (List Pad)):List Pad→Option (List (List Pad))
 | []=>some css
 | p::r=>(fileO css p).bind fun c=>ofO c r
theorem ofO_cons {css:List (List Pad)} {p:Pad} {r:List Pad}:ofO css (p::r)=(fileO css p).bind fun c=>ofO c r:=rfl
theorem ofO_append : ∀ {a b:List Pad} {css:List (List Pad)},ofO css (a++b)=(ofO css a).bind fun c=>ofO c b
 | [],b,css=>rfl
 | p::a,b,css=>by
  rw [List.cons_append,ofO_cons,ofO_cons];cases fileO css p with
  | none=>rfl
  | some c=>exact ofO_append
theorem ofO_one {css:List (List Pad)} {p:Pad}:ofO css [p]=fileO css p:=by
 unfold ofO;cases fileO css p <;> rfl
theorem ofO_step {ps:List Pad} {k:Nat} {css:List (List Pad)} (hk:k < ps.length) (h:ofO [] (ps.take k)=some css):ofO [] (ps.take (k+1))=fileO css (padAt ps k):=by
 rw [take_step (padAt_some hk),ofO_append,h,Option.bind_some,ofO_one]
theorem ofO_stop {ps:List Pad} {k:Nat} {css:List (List Pad)} (hk:k < ps.length) (h:ofO [] (ps.take k)=some css) (hf:fileO css (padAt ps k)=none):ofO [] ps=none:=by
 have h1:=ofO_step hk h;rw [hf] at h1;have:ps=ps.take (k+1)++ps.drop (k+1):=(List.take_append_drop _ _).symm;rw [this,ofO_append,h1,Option.bind_none]
set_option maxHeartbeats 1600000 in
theorem implCabinetOf (A:Option Addr) (n c:Nat) (ps:List Pad) (w:World) (h:PadsIn w w.heap.size A n c ps) :
  Calls Tryz.prog 32 #[.slice A n c] w fun e w'=>FileAns w' w.heap.size (ofO [] ps) e∧Below w.heap.size w w':=by
 have hm:=h.2.2.1;have hnc:=h.2.1;unfold maxLen at hm;have HL:=uH h.1;have H:=uH h;clear h;go_enter Tryz.func32,Tryz.ntmps32
 go_wp2;go_loopw [11] (fun i wr=>∃ (k:Nat) (v:Value) (ls:List Leaf),k≤n∧i = .int .i64 k∧Hid (ofO [] (ps.take k)=some (ls.map (·.ps)))∧Hid (cabOK (ls.map (·.ps)))∧Hid (TreeIn wr w.heap.size w.heap.size v ls)∧Below w.heap.size w wr) (fun i _=>n - (intOf i).toNat)
 case atStart=>exact ⟨0,.slice none 0 0,[],Nat.zero_le _,rfl,uH (by simp [ofO]),uH cab_nil,uH ⟨Nat.le_refl _,Blk.new _ _ _,⟨World.ownsRow_nil _ _ _ _,by simp,by simp,by simp⟩⟩,(Below.refl _ _).alloc (Nat.le_refl _) _⟩
 case round =>
  obtain ⟨k,v,ls,hk,rfl,HO,HC,HT,hb⟩:=hrel;by_cases hlt:k < n
  ·have hkl:k < ps.length:=(by rw [HL.out];exact hlt);obtain ⟨b,off,eA,hbB,q0,q1,hg⟩:=(H.out.below hb).at_ hlt;have HSt:=uH (ofO_step hkl HO.out);have HNo:=uH (ofO_stop hkl HO.out);subst eA;clear hkl HO;generalize padAt ps k=p at *;have ha:Below wr.heap.size wr (wr.alloc (.cells #[.int .i64 p.day,.string p.case] 53)):=(Below.refl _ _).alloc (Nat.le_refl _) _;have p0:=newcell wr #[.int .i64 p.day,.string p.case] 53 0 _ rfl;have p1:=newcell wr #[.int .i64 p.day,.string p.case] 53 1 _ rfl;have bA:=below_next hb ha;cases ho:okP p with
   | false =>
    have HN:=uH (HNo.out (fileO_no (fun h=>by rw [h.2.1] at ho;cases ho)));have HV:=uH (implPadB p hg ho (wr.alloc (.cells #[.int .i64 p.day,.string p.case] 53)));clear ho HNo;(go_wp2_with fail);refine HV.out.mono ?_;rintro e w2 ⟨rfl,hb2⟩;have b2:=below_next bA hb2;go_wp2;go_returns;exact ⟨.no HN.out rfl (CabOwn.nil _ _),b2⟩
   | true =>
    have HV:=uH (implPadB p hg ho (wr.alloc (.cells #[.int .i64 p.day,.string p.case] 53)));have HOk:=uH ho;clear ho;(go_wp2_with fail);refine HV.out.mono ?_;rintro e w2 ⟨rfl,hb2⟩;have b2:=below_next bA hb2;have r0:=kcell hb2 p0;have r1:=kcell hb2 p1;have HF:=uH (treeFile w.heap.size v ls w.heap.size p w2 b2.size HOk.out hg HC.out ((HT.out.below ha).below hb2));unfold padVal at HF;clear hb2 p0 p1 q0 q1 HV;(go_wp2_with fail);refine HF.out.mono ?_;rintro e w3 ⟨hF,hb3⟩;have b3:=b2.trans hb3;rcases hF with ⟨hN,rfl⟩ | ⟨v',ls',hN,rfl,hT3⟩
    ·have HN:=uH (HNo.out hN);clear hN HNo;go_wp2;go_returns;exact ⟨.no HN.out rfl (CabOwn.nil _ _),b3⟩
    ·have HC3:=uH (fileO_ok hN);have HO3:Hid (ofO [] (ps.take (k+1))=some (ls'.map (·.ps))):=uH (HSt.out.trans hN);have HT3:=uH hT3;clear hN HNo hT3 HSt hb3 r0 r1;go_wp2;go_roundw
     case rel=>exact ⟨k+1,v',ls',by omega,by go_num,HO3,HC3,HT3,b3⟩
     case measure=>simp [intOf];omega
  ·have HX:Hid (ofO [] ps=some (ls.map (·.ps))):=uH (by
    have:=HO.out;rwa [List.take_of_length_le (by have:=HL.out;omega)] at this)
   have h6:ls.length≤6:=(by have:=HC.out.1;rwa [List.length_map] at this);have HP:=uH (treeCab _ v ls _ wr (by omega) (fun l hl=>by
    have:=HC.out.2.1 l.ps (List.mem_map_of_mem hl);unfold lenOK at this;omega) HT.out)
   have hz:=hb.size;clear HO h6;(go_wp2_with fail);refine HP.out.mono ?_;rintro e w4 ⟨⟨A4,c4,d4,rfl,hO4,hM4⟩,hb4⟩;have b4:=below_next hb hb4;have HO4:=uH (hO4.mono hz);have HM3:Hid (ofO [] ps=some (d4.map (·.ps))):=uH (by rw [HX.out,hM4]);clear hO4 hM4;go_wp2;go_returns;exact ⟨.yes HM3.out rfl HO4.out,b4⟩
set_option maxHeartbeats 1600000 in
theorem specCabinetOf (A:Option Addr) (n c:Nat) (ps:List Pad) (w:World) (h:PadsIn w w.heap.size A n c ps) :
  Calls Tryz.prog 33 #[.slice A n c] w fun e w'=>FileAns w' w.heap.size (ofO [] ps) e∧Below w.heap.size w w':=by
 have hm:=h.2.2.1;have hnc:=h.2.1;unfold maxLen at hm;have HL:=uH h.1;have H:=uH h;clear h;go_enter Tryz.func33,Tryz.ntmps33
 go_wp2;go_loopw [4,5] (fun v i wr=>∃ (k:Nat) (B:Option Addr) (c':Nat) (ds:List Drawer),k≤n∧i = .int .i64 k∧v = .slice B ds.length c'∧Hid (ofO [] (ps.take k)=some (ds.map (·.ps)))∧Hid (cabOK (ds.map (·.ps)))∧Hid (CabOwn wr w.heap.size (.slice B ds.length c') ds)∧Below w.heap.size w wr) (fun _ i _=>n - (intOf i).toNat)
 case atStart=>exact ⟨0,_,_,[],Nat.zero_le _,rfl,rfl,uH (by simp [ofO]),uH cab_nil,uH (CabOwn.made w),(Below.refl _ _).alloc (Nat.le_refl _) _⟩
 case round =>
  obtain ⟨k,B,c',ds,hk,rfl,rfl,HO,HC,HCab,hb⟩:=hrel;by_cases hlt:k < n
  ·have hkl:k < ps.length:=(by rw [HL.out];exact hlt);obtain ⟨b,off,eA,hbB,q0,q1,hg⟩:=(H.out.below hb).at_ hlt;have HSt:=uH (ofO_step hkl HO.out);have HNo:=uH (ofO_stop hkl HO.out);have HF:=uH (specCabinetFile B ds.length c' ds (padAt ps k) wr (by have:=cab_small HC.out;omega) hg (HCab.out.reads rfl));unfold padVal at HF;have hz:=hb.size;subst eA;clear hkl HO;generalize padAt ps k=p at *;generalize ds.length=dn at *;(go_wp2_with fail);refine HF.out.mono ?_;rintro e w2 ⟨hF,hb2⟩;have b2:=below_next hb hb2;rcases hF with ⟨hN,A2,c2,rfl,hO2⟩ | ⟨A2,c2,d2,hN,rfl,hO2⟩
   ·have HN:=uH (HNo.out hN);have hz2:=b2.size;clear hN HNo hO2 q0 q1 hb2;go_wp2;go_returns;exact ⟨.no HN.out rfl ((CabOwn.made w2).mono hz2),b2.alloc hz2 _⟩
   ·have HC3:=uH (fileO_ok hN);have HO3:Hid (ofO [] (ps.take (k+1))=some (d2.map (·.ps))):=uH (HSt.out.trans hN);have HT3:=uH (hO2.mono hz);clear hN HNo hO2 HSt hb2 q0 q1;go_wp2;go_roundw
    case rel=>exact ⟨k+1,A2,c2,d2,by omega,by go_num,rfl,HO3,HC3,HT3,b2⟩
    case measure=>simp [intOf];omega
  ·have HX:Hid (ofO [] ps=some (ds.map (·.ps))):=uH (by
    have:=HO.out;rwa [List.take_of_length_le (by have:=HL.out;omega)] at this)
   clear HO;go_wp2;go_returns;exact ⟨.yes HX.out rfl HCab.out,hb⟩
end Go.Proofs.YtbkhnljaajajiaaGreatDoor
