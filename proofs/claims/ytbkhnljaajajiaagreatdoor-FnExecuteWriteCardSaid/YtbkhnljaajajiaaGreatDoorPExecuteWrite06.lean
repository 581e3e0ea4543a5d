/-
  Contracts and plain laws that the proofs lean on. Conditions: as each says.
-/
import Derived.Test.YtbkhnljaajajiaaGreatDoorPExecuteWrite04
import Derived.Test.YtbkhnljaajajiaaGreatDoorPExecuteWrite05
import Derived.Test.YtbkhnljaajajiaaGreatDoorPX32
set_option maxRecDepth 100000
set_option linter.unusedSimpArgs false
set_option linter.unusedVariables false
set_option linter.unnecessarySimpa false
namespace Go.Proofs.YtbkhnljaajajiaaGreatDoor
open Go.ChangeShapes Go.WideShapes Go.ChangeAt Go.RowKit
def DrawnWord (B g lim:Nat) (w:World) (e:Ending) (w':World):Prop :=
 ∃ l:List UInt8,l.length≤1000∧e = .returned (.string (mkStr l))∧w.grownBy w' (some g)∧RdIn w' B g (lim+20)
set_option maxHeartbeats 800000 in
theorem l91Word (g B lim:Nat) (w:World) (hl:lim≤800000000) (hr:RdIn w B g lim) :
  Calls Tryz.prog 85 #[.pointer (some ⟨g,0,none⟩)] w (DrawnWord B g lim w):=by
 have HP:=uH (pickR (n:=40) hr (by omega) (by omega) (by omega));clear hr;go_enter Tryz.func85,Tryz.ntmps85
 (go_wp2_with fail);refine HP.out.mono ?_;rintro e w1 ⟨m,rfl,hm,hg1,hr1⟩;clear HP;by_cases h0:m=0
 ·subst h0;have HO:=uH (fun cs t h=>ofNew g B (lim+1) 4 [⟨#[]⟩,⟨#[65]⟩,⟨#[97,49]⟩,⟨#[97,98,99,100,101,102,103,104,105,106,107,108,109]⟩] cs t w1 h rfl (by omega) (by omega) (by decide) (by omega) hr1);have HG1:=uH hg1;clear hr1 hg1;(go_wp2_with fail);refine (HO.out _ _ rfl).mono ?_;rintro e w2 ⟨l,hl2,rfl,hg2,hr2⟩;have HG:=uH (only_next HG1.out hg2);have HR:=uH (hr2.more (show lim+1+1≤lim+20 by omega));clear hg2 hr2 HO HG1;go_wp2;go_ret;exact ⟨l,by omega,rfl,HG.out,HR.out⟩
 ·have e0:((m:Int) == 0)=false:=(by simpa using h0);have HP:=uH (pickR (n:=3) hr1 (by omega) (by omega) (by omega));have HG1:=uH hg1;clear hr1 hg1;(go_wp2_with fail);refine HP.out.mono ?_;rintro e w2 ⟨N,rfl,hN,hg2,hr2⟩;have HG:=uH (only_next HG1.out hg2);have HR:=uH hr2;clear hg2 hr2 HP HG1 e0;go_wp2;go_loopw [3,5] (fun s i wr=>∃ (k:Nat) (l:List UInt8),k≤1+N∧i = .int .i64 k∧s = .string (mkStr l)∧l.length≤80 * k∧Hid (w.grownBy wr (some g))∧Hid (RdIn wr B g (lim+2+2 * k))) (fun _ i _=>1+N - (intOf i).toNat)
  case atStart=>exact ⟨0,[],Nat.zero_le _,rfl,rfl,by simp,HG,HR⟩
  case round =>
   obtain ⟨k,l,hk,rfl,rfl,hll,hG,hR⟩:=hrel;by_cases hlt:k < 1+N
   ·have hlt':(k:Int) < 1+(N:Int):=(by omega);have HO:=uH (fun cs t h=>ofNew g B (lim+2+2 * k) 6 [⟨#[98]⟩,⟨#[100]⟩,⟨#[116]⟩,⟨#[110]⟩,⟨#[110,110]⟩,⟨#[115]⟩] cs t wr h rfl (by omega) (by omega) (by decide) (by omega) hR.out);(go_wp2_with fail);refine (HO.out _ _ rfl).mono ?_;rintro e w3 ⟨l3,hl3,rfl,hg3,hr3⟩;have HG3:=uH (only_next hG.out hg3);have HO:=uH (fun cs t h=>ofNew g B (lim+2+2 * k+1) 5 [⟨#[97]⟩,⟨#[101]⟩,⟨#[105]⟩,⟨#[]⟩,⟨#[111]⟩] cs t w3 h rfl (by omega) (by omega) (by decide) (by omega) hr3);have ha1:=fun W=>run_add (P:=Tryz.prog) l l3 (by omega) W;clear hg3 hr3 hG hR;(go_wp2_with fail);refine (HO.out _ _ rfl).mono ?_;rintro e w4 ⟨l4,hl4,rfl,hg4,hr4⟩;have HG4:=uH (only_next HG3.out hg4);have HR4:Hid (RdIn w4 B g (lim+2+2 * (k+1))):=uH hr4;have ha2:=fun W=>run_add (P:=Tryz.prog) (l++l3) l4 (by rw [List.length_append];omega) W;clear hg4 hr4 HG3 HO ha1;go_wp2;go_roundw
    case rel=>exact ⟨k+1,l++(l3++l4),by omega,by go_num,rfl,by rw [List.length_append,List.length_append];omega,HG4,HR4⟩
    case measure=>simp [intOf];omega
   ·obtain rfl:k=1+N:=(by omega);have hlt' : ¬ (((1+N:Nat):Int) < 1+(N:Int)):=(by omega);have HO:=uH (fun cs t h=>ofNew g B (lim+2+2 * (1+N)) 4 [⟨#[]⟩,⟨#[97]⟩,⟨#[]⟩,⟨#[101]⟩] cs t wr h rfl (by omega) (by omega) (by decide) (by omega) hR.out);(go_wp2_with fail);refine (HO.out _ _ rfl).mono ?_;rintro e w3 ⟨l3,hl3,rfl,hg3,hr3⟩;have HG3:=uH (only_next hG.out hg3);have HR3:=uH (hr3.more (show lim+2+2 * (1+N)+1≤lim+20 by omega));have ha1:=fun W=>run_add (P:=Tryz.prog) l3 l (by omega) W;clear hg3 hr3 hG hR HO;go_wp2;go_ret;exact ⟨l3++l,by rw [List.length_append];omega,rfl,HG3.out,HR3.out⟩
def IsBool (e:Ending):Prop:=∃ b,e = .returned (.bool b)
set_option maxHeartbeats 400000 in
theorem l3Is (A:Option Addr) (n c:Nat) (ws:List (List UInt8)) (l:List UInt8) (w:World) (h:WdsIn w w.heap.size A n c ws) :
  Calls Tryz.prog 198 #[.slice A n c,.string (mkStr l)] w fun e w'=>IsBool e∧w=w':=by
 have hm:=h.2.2.1;have hnc:=h.2.1;unfold maxLen at hm;have H:=uH h;clear h;go_enter Tryz.func198,Tryz.ntmps198
 go_wp2
 go_loop [5] (fun i=>∃ k:Nat,k≤n∧i = .int .i64 k) (fun i=>n - (intOf i).toNat)
 case atStart=>exact ⟨0,Nat.zero_le _,rfl⟩
 case round =>
  obtain ⟨k,hk,rfl⟩:=hrel;by_cases hlt:k < n
  ·obtain ⟨b,off,rfl,hbB,c0⟩:=H.out.at_ hlt;go_wp2
   ·go_ret;exact ⟨⟨true,rfl⟩,rfl⟩
   ·go_round
    case rel=>exact ⟨k+1,by omega,by go_num⟩
    case measure=>simp [intOf];omega
  ·go_wp2;go_ret;exact ⟨⟨false,rfl⟩,rfl⟩
theorem SyOwn.letter {w:World} {B gb c:Nat} {x:Sg} {r:List Sg} {l:List UInt8} (h:SyOwn w B (.slice (some ⟨gb,0,none⟩) (r.length+1) c) (x::r)) (hl:l.length≤40) :
  SyOwn (w.setCell ⟨gb,0,none⟩ (.string (mkStr l))) B (.slice (some ⟨gb,0,none⟩) (r.length+1) c) (⟨l,x.st⟩::r):=by
 refine ⟨own_set (j:=0) (u:=.string (mkStr l)) h.1 rfl,fun y hy=>?_⟩;rcases List.mem_cons.1 hy with rfl | hy
 ·exact ⟨hl,(h.2 x (by simp)).2⟩
 ·exact h.2 y (by simp [hy])
theorem SyOwn.size0 {w:World} {B gb c:Nat} {x:Sg} {r:List Sg} (h:SyOwn w B (.slice (some ⟨gb,0,none⟩) (r.length+1) c) (x::r)) :
  SyOwn (w.setCell ⟨gb,2,none⟩ (.int .i64 0)) B (.slice (some ⟨gb,0,none⟩) (r.length+1) c) (⟨x.l,⟨x.st.dir,0⟩⟩::r):=by
 refine ⟨own_set (j:=2) (u:=.int .i64 0) h.1 rfl,fun y hy=>?_⟩;rcases List.mem_cons.1 hy with rfl | hy
 ·have:=h.2 x (by simp);exact ⟨this.1,this.2.1,this.2.2.1,by simp,by simp⟩
 ·exact h.2 y (by simp [hy])
def SysBoth (w':World) (B:Nat) (ys:List Sg) (e:Ending):Prop :=
 ∃ A n c ok,e = .returned (.tuple #[.slice A n c,.bool ok])∧(ok=true→n=ys.length∧SgOwn w' B (.slice A n c) ys)
theorem SysAns.both {w':World} {B:Nat} {ys:List Sg} {e:Ending} (h:SysAns w' B ys e):SysBoth w' B ys e:=by
 rcases h with ⟨_,A,c,rfl,_⟩ | ⟨_,A,c,rfl,h⟩
 ·exact ⟨A,0,c,false,rfl,nofun⟩
 ·exact ⟨A,_,c,true,rfl,fun _=>⟨rfl,h⟩⟩
def DrawnSys (B g lim:Nat) (w:World) (e:Ending) (w':World):Prop :=
 ∃ A n c xs,xs.length=n∧n≤7∧e = .returned (.slice A n c)∧SyOwn w' w.heap.size (.slice A n c) xs∧w.grownBy w' (some g)∧RdIn w' B g (lim+20)
def sysL:List ByteArray:=[⟨#[98]⟩,⟨#[100]⟩,⟨#[116]⟩,⟨#[110]⟩,⟨#[115]⟩,⟨#[114]⟩]
theorem sysL_at {k:Nat} (hk:k < 6) : ∃ s:List UInt8,sysL[k]? = some (mkStr s)∧s.length≤40:=by
 match k,hk with
 | 0,_=>exact ⟨[98],rfl,by decide⟩
 | 1,_=>exact ⟨[100],rfl,by decide⟩
 | 2,_=>exact ⟨[116],rfl,by decide⟩
 | 3,_=>exact ⟨[110],rfl,by decide⟩
 | 4,_=>exact ⟨[115],rfl,by decide⟩
 | 5,_=>exact ⟨[114],rfl,by decide⟩
set_option maxHeartbeats 1600000 in
theorem l91System (g B lim:Nat) (w:World) (hl:lim≤800000000) (hr:RdIn w B g lim) (hBw:B≤w.heap.size) :
  Calls Tryz.prog 147 #[.pointer (some ⟨g,0,none⟩)] w (DrawnSys B g lim w):=by
 obtain ⟨i0,hi,hz0,hz1,hz2⟩:=info_parts infoSg;have hg0:=hr.lt;have HP:=uH (fun o o'=>pickR (n:=7) ((hr.alloc' o).alloc' o') (by omega) (by omega) (by omega));clear hr;go_enter Tryz.func147,Tryz.ntmps147
 (go_wp2_with fail);refine (HP.out _ _).mono ?_;rintro e w1 ⟨N,rfl,hN',hg1,hr1⟩;have hN:N≤6:=(by omega);have HG1:=uH (only_next (only_alloc (World.grownBy_alloc w _ _) _) hg1);have HO1:Hid (SyOwn w1 w.heap.size (.slice (some ⟨w.heap.size,0,none⟩) 0 0) []):=uH (SyOwn.only ⟨World.ownsRow.alloc (SgOwn.made w) _,by simp⟩ hg1 hg0);have ht1:=(StrsAt.new (w.alloc (.cells #[] 65)) sysL _ 9 rfl).only hg1 (by simp;omega);simp only [World.size_alloc] at ht1;have HT1:=uH ht1;have HR1:=uH hr1;clear hN' hg1 hr1 ht1 HP;go_wp2;go_loopw [3,6] (fun v i wr=>∃ (k:Nat) (xs:List Sg),k≤N∧i = .int .i64 k∧Hid (xs.length≤k)∧Hid (SyOwn wr w.heap.size v xs)∧Hid (StrsAt wr (w.heap.size+1) sysL)∧Hid (w.grownBy wr (some g))∧Hid (RdIn wr B g (lim+1+2 * k))) (fun _ i _=>N - (intOf i).toNat)
 case atStart=>exact ⟨0,[],Nat.zero_le _,rfl,uH (Nat.le_refl _),HO1,HT1,HG1,HR1⟩
 case round =>
  obtain ⟨k,xs,hk,rfl,HX,HO,HT,HG,HR⟩:=hrel;by_cases hlt:k < N
  ·obtain ⟨A3,c3,rfl,hc3,hm3⟩:=ownG_form HO.out.1;have hx6:xs.length≤6:=(by have:=HX.out;omega);obtain ⟨s,hs,hs40⟩:=sysL_at (k:=k) (by omega);have c0:wr.drew.cell? ⟨w.heap.size+1,k,none⟩=some (.string (mkStr s)):=HT.out k _ hs;have i1:(0:Int)≤(k:Int):=(by omega);have i2:(k:Int) < 6:=(by omega);have HP1:=uH (pickR (n:=8) HR.out.drew' (by omega) (by omega) (by omega));have HGd:=uH (grown_drew HG.out);have HOd:Hid (SyOwn wr.drew w.heap.size (.slice A3 xs.length c3) xs):=uH HO.out;have HTd:Hid (StrsAt wr.drew (w.heap.size+1) sysL):=uH HT.out;have hne:w.heap.size+1≠g:=(by omega);generalize hM:xs.length=M at *;have HM:=uH hM;clear hs hM HO HT HG HR;(go_wp2_with fail);go_region_held3 (fun w'=>w'.cell? ⟨w.heap.size+1,k,none⟩=some (.string (mkStr s))) (first | assumption | go_keep)
    (first
     | (go_at_call_of 43 (Value.int IntKind.i64 8);refine HP1.out.mono ?_;rintro e w3 ⟨d,rfl,hd,hg3,hr3⟩;have c3':=ocell hg3 c0 hne;have HG3:=uH (only_next HGd.out hg3);have HO3:=uH (HOd.out.only hg3 hg0);have HT3:=uH (HTd.out.only hg3 hne);have HP3:=uH (pickR (n:=3) hr3 (by omega) (by omega) (by omega));clear hg3 hr3)
     | (go_at_call_of 43 (Value.int IntKind.i64 3);refine HP3.out.mono ?_;rintro e w4 ⟨z,rfl,hz,hg4,hr4⟩;have c4':=ocell hg4 c3' hne;have HG4:=uH (only_next HG3.out hg4);have HO4:=uH (HO3.out.only hg4 hg0);have HT4:=uH (HT3.out.only hg4 hne);have HR4:=uH hr4;have hwz:IntKind.i64.wrap (1+(z:Int))=1+(z:Int):=IntWalk.i64_in _ (by omega);have HSm:Hid (SmSg ⟨s,⟨d,1+z⟩⟩):=uH ⟨hs40,by unfold SmallS;dsimp only;omega⟩;have HSA:=uH (specSystemAdd A3 M c3 xs s d (1+z) w4 (by omega) (fun x hx=>(by rcases List.mem_append.1 hx with h | h;exact (HO4.out.2 x h).2.good;rw [List.mem_singleton] at h;subst h;exact HSm.out.2.good)) (HO4.out.reads HM.out));clear hg4 hr4)
     | (go_at_call 175;refine HSA.out.mono ?_;rintro e w5 ⟨hA,hb5⟩;obtain ⟨A5,n5,c5,ok,rfl,hok⟩:=hA.both;have c5':=kcell hb5 c4';have HOK:=uH hok;have HB5:=uH hb5;clear hok hA hb5))
   clear c0 c3' c4' c5' hwz HP1 HP3 HSA HGd HOd HTd HG3 HO3 HT3;have HG5:=uH (grown_below HG4.out HB5.out);have HO5:=uH (HO4.out.keep HB5.out);have HT5:=uH (HT4.out.keep HB5.out);have HR5:Hid (RdIn w5 B g (lim+1+2 * (k+1))):=uH (HR4.out.below HB5.out);have HZ4:=uH HG4.out.size;cases ok with
   | false =>
    go_wp2;go_roundw
    case rel=>exact ⟨k+1,xs,by omega,by go_num,uH (by have:=HX.out;rw [HM.out];omega),HO5,HT5,HG5,HR5⟩
    case measure=>simp [intOf];omega
   | true =>
    obtain ⟨hn5,hS5⟩:=HOK.out rfl;have HO6:Hid (SyOwn w5 w.heap.size (.slice A5 n5 c5) (xs++[⟨s,⟨d,1+z⟩⟩])):=uH ⟨ownG_mono hS5 HZ4.out,fun x hx=>by
     rcases List.mem_append.1 hx with h | h
     ·exact HO4.out.2 x h
     ·rw [List.mem_singleton] at h;subst h;exact HSm.out⟩
    clear hn5 hS5;go_wp2;go_roundw
    case rel=>exact ⟨k+1,_,by omega,by go_num,uH (by have:=HX.out;rw [List.length_append,HM.out];simp;omega),HO6,HT5,HG5,HR5⟩
    case measure=>simp [intOf];omega
  ·obtain rfl:k=N:=(by omega);have HR1:=uH (HR.out.more (show lim+1+2 * k≤lim+13 by omega));have hz:=HG.out.size;clear hlt HR HT;cases xs with
   | nil =>
    obtain ⟨A3,c3,rfl,hc3,hm3⟩:=ownG_form HO.out.1;have HO3:Hid (SyOwn wr w.heap.size (.slice A3 0 c3) []):=HO;have HR2:=uH (HR1.out.more (show lim+13≤lim+20 by omega));have hl0:(List.length ([]:List Sg))=0:=rfl;go_wp2;go_returns;exact ⟨A3,0,c3,[],rfl,by omega,rfl,HO3.out,HG.out,HR2.out⟩
   | cons x r =>
    obtain ⟨gb,c3,rfl,hgb,hkc,hcm,_⟩:=own_some HO.out.1 (show 0 < (x::r).length by simp);have hr5:r.length≤5:=(by have:=HX.out;simp at this;omega);have HO3:Hid (SyOwn wr w.heap.size (.slice (some ⟨gb,0,none⟩) (r.length+1) c3) (x::r)):=HO;have HP:=uH (pickR (n:=40) HR1.out (by omega) (by omega) (by omega));have hpos:0 < r.length+1:=(by omega);clear HO;(go_wp2_with fail);refine HP.out.mono ?_;rintro e w3 ⟨m,rfl,hm,hg3,hr3⟩;have HG4:=uH (only_next HG.out hg3);have HO4:=uH (HO3.out.only hg3 hg0);have HR4:=uH hr3;have hz4:=HG4.out.size;clear hg3 hr3 HP HG HO3 HR1;by_cases h0:m=0
    ·subst h0;have HOf:=uH (fun cs t h=>ofNew g B (lim+13+1) 4 [⟨#[97]⟩,⟨#[]⟩,⟨#[98,98]⟩,⟨#[66]⟩] cs t w3 h rfl (by omega) (by omega) (by decide) (by omega) HR4.out);(go_wp2_with fail);refine (HOf.out _ _ rfl).mono ?_;rintro e w5 ⟨l,hl5,rfl,hg5,hr5'⟩;have hO5:=HO4.out.only hg5 hg0;have HO6:Hid (SyOwn w5 w.heap.size (.slice (some ⟨gb,0,none⟩) (r.length+1) c3) (x::r)):=uH hO5;obtain ⟨⟨k0,f0⟩,_,_⟩:=HO6.out.cells;have HO7:Hid (SyOwn (w5.setCell ⟨gb,0,none⟩ (.string (mkStr l))) w.heap.size (.slice (some ⟨gb,0,none⟩) (r.length+1) c3) (⟨l,x.st⟩::r)):=uH (HO6.out.letter hl5);have HG7:=uH (only_setCell (only_next HG4.out hg5) (p:=⟨gb,0,none⟩) (.inr hgb) (.string (mkStr l)));have HR7:=uH ((hr5'.set' (p:=⟨gb,0,none⟩) (by simp;omega) (by simp;omega) (.string (mkStr l))).more (show lim+13+1+1≤lim+20 by omega));clear hg5 hr5' hO5 HO6 HOf HG4 HO4 HR4;go_wp2;go_returns;exact ⟨_,r.length+1,c3,_,by simp,by omega,rfl,HO7.out,HG7.out,HR7.out⟩
    have e0:((m:Int) == 0)=false:=(by simpa using h0);have HR5:=uH (HR4.out.more (show lim+13+1≤lim+20 by omega));have HO6:Hid (SyOwn w3 w.heap.size (.slice (some ⟨gb,0,none⟩) (r.length+1) c3) (x::r)):=uH HO4.out;obtain ⟨⟨k0,f0⟩,⟨k1,f1⟩,⟨k2,f2⟩⟩:=HO6.out.cells;by_cases h1:m=1
    ·subst h1;have HOw:Hid (w3.ownsRow w.heap.size 65 3 (.slice (some ⟨gb,0,none⟩) (r.length+1) c3) (r.length+1) ((x::r).flatMap sgC)):=uH (by have:=HO4.out.1;unfold SgOwn at this;rw [List.length_cons] at this;exact this);clear HO6;go_wp2_with (at_builtin;refine wpList_append_any _ rfl (.tmp 51) (.tmp 55) _ rfl w.heap.size 65 i0 _ 3 32 Tryz.underlying55 hi hz0 hz1 hz2 rfl (by omega) _ (r.length+1) ((x::r).flatMap sgC) rfl (HOw.out.alloc _) (w3.heap.size+1) (some ⟨w3.heap.size,0,none⟩) 1 1 [.string (mkStr x.l),.int .i64 x.st.dir,.int .i64 x.st.size] rfl (rowNewSg _ _ _ _ _) (by simp [Value.oneCell']) (by unfold maxLen;omega) (by omega) (by simp;omega) ?_;intro v4 w4 hown4 hg4 hat4)
     obtain ⟨A4,c4,rfl,hc4,hm4⟩:=ownG_form hown4;have HO7:Hid (SyOwn w4 w.heap.size (.slice A4 (r.length+1+1) c4) ((x::r)++[x])):=uH ⟨by unfold SgOwn;rw [List.length_append,List.length_cons,List.flatMap_append];exact hown4,fun y hy=>by
      rcases List.mem_append.1 hy with h | h
      ·exact HO4.out.2 y h
      ·rw [List.mem_singleton] at h;subst h;exact HO4.out.2 y (by simp)⟩
     have HG7:=uH (own_after' (only_next HG4.out (World.grownBy_alloc w3 _ _)) hg4 (fun q hq=>ownG_base HOw.out hq));have HR7:=uH ((HR5.out.alloc' _).far hg4 (fun q hq=>by have:=ownG_base HOw.out hq;exact ⟨by omega,by omega⟩) (by simp;omega));clear hown4 hg4 hat4;go_wp2;go_returns;exact ⟨_,r.length+1+1,c4,_,by simp,by omega,rfl,HO7.out,HG7.out,HR7.out⟩
    have e1:((m:Int) == 1)=false:=(by simp;omega);by_cases h2:m=2
    ·subst h2;have HO7:Hid (SyOwn (w3.setCell ⟨gb,2,none⟩ (.int .i64 0)) w.heap.size (.slice (some ⟨gb,0,none⟩) (r.length+1) c3) (⟨x.l,⟨x.st.dir,0⟩⟩::r)):=uH HO6.out.size0;have HG7:=uH (only_setCell HG4.out (p:=⟨gb,2,none⟩) (.inr hgb) (.int .i64 0));have HR7:=uH (HR5.out.set' (p:=⟨gb,2,none⟩) (by simp;omega) (by simp;omega) (.int .i64 0));clear HO6 HG4 HO4 HR4 HR5;go_wp2;go_returns;exact ⟨_,r.length+1,c3,_,by simp,by omega,rfl,HO7.out,HG7.out,HR7.out⟩
    have e2:((m:Int) == 2)=false:=(by simp;omega);clear HO6;go_wp2;go_returns;exact ⟨_,r.length+1,c3,_,by simp,by omega,rfl,HO4.out,HG4.out,HR5.out⟩
theorem word_len {l:List UInt8} (h:wordB l=true):l.length≤12:=(wordB_iff.1 h).1.2
theorem DcOwn.short {w:World} {B:Nat} {v:Value} {ws:List (List UInt8)} (h:DcOwn w B v ws) : ∀ l∈ws,l.length≤maxLen:=fun l hl=>by have:=word_len (h.2 l hl);unfold maxLen;omega
def DrawnDic (B g lim:Nat) (w:World) (e:Ending) (w':World):Prop :=
 ∃ A n c ws,ws.length=n∧n≤9∧e = .returned (.slice A n c)∧DcOwn w' w.heap.size (.slice A n c) ws∧w.grownBy w' (some g)∧RdIn w' B g (lim+200)
set_option maxHeartbeats 1600000 in
theorem l91Dictionary (g B lim:Nat) (w:World) (hl:lim≤700000000) (hr:RdIn w B g lim) (hBw:B≤w.heap.size) :
  Calls Tryz.prog 148 #[.pointer (some ⟨g,0,none⟩)] w (DrawnDic B g lim w):=by
 obtain ⟨i0,hi,hz0,hz1,hz2⟩:=info_parts infoWd;have hg0:=hr.lt;have HP:=uH (fun o=>pickR (n:=9) (hr.alloc' o) (by omega) (by omega) (by omega));clear hr;go_enter Tryz.func148,Tryz.ntmps148
 (go_wp2_with fail);refine (HP.out _).mono ?_;rintro e w1 ⟨N,rfl,hN',hg1,hr1⟩;have hN:N≤8:=(by omega);have HG1:=uH (only_next (World.grownBy_alloc w _ _) hg1);have HO1:Hid (DcOwn w1 w.heap.size (.slice (some ⟨w.heap.size,0,none⟩) 0 0) []):=uH (DcOwn.only ⟨World.ownsRow_made w #[] 0 (Nat.le_refl _) (by simp) (by simp),by simp⟩ hg1 hg0);have HR1:=uH hr1;clear hN' hg1 hr1 HP;go_wp2;go_loopw [3,5] (fun v i wr=>∃ (k:Nat) (ws:List (List UInt8)),k≤N∧i = .int .i64 k∧Hid (ws.length≤k)∧Hid (DcOwn wr w.heap.size v ws)∧Hid (w.grownBy wr (some g))∧Hid (RdIn wr B g (lim+1+20 * k))) (fun _ i _=>N - (intOf i).toNat)
 case atStart=>exact ⟨0,[],Nat.zero_le _,rfl,uH (Nat.le_refl _),HO1,HG1,HR1⟩
 case round =>
  obtain ⟨k,ws,hk,rfl,HX,HO,HG,HR⟩:=hrel;by_cases hlt:k < N
  ·obtain ⟨A3,c3,rfl,hc3,hm3⟩:=ownG_form HO.out.1;have hx8:ws.length≤8:=(by have:=HX.out;omega);have HWd:=uH (l91Word g B (lim+1+20 * k) wr (by omega) HR.out);have HOr:Hid (DcOwn wr w.heap.size (.slice A3 ws.length c3) ws):=HO;generalize hM:ws.length=M at *;have HM:=uH hM;clear hM HO HR;(go_wp2_with fail);refine HWd.out.mono ?_;rintro e w3 ⟨l,hll,rfl,hg3,hr3⟩;have HG3:=uH (only_next HG.out hg3);have HO3:=uH (HOr.out.only hg3 hg0);have HR3:Hid (RdIn w3 B g (lim+1+20 * (k+1))):=uH hr3;have HWv:Hid (Calls Tryz.prog 135 #[.string (mkStr l)] w3 fun e w'=>e = .returned (.bool (wordB l))∧w3=w'):=uH (by
    have:=specWordValid (mkStr l) w3 (by rw [mkStr_size];unfold maxLen;omega);rw [mkStr_data] at this;exact this)
   clear hg3 hr3 HWd HOr HG;cases hw:wordB l with
   | false =>
    rw [hw] at HWv;clear hw;(go_wp2_with fail);refine HWv.out.mono ?_;rintro e w4 ⟨rfl,rfl⟩;go_wp2;go_roundw
    case rel=>exact ⟨k+1,ws,by omega,by go_num,uH (by have:=HX.out;rw [HM.out];omega),HO3,HG3,HR3⟩
    case measure=>simp [intOf];omega
   | true =>
    rw [hw] at HWv;have HWt:=uH hw;have HIs:=uH (l3Is A3 M c3 ws l w3 (HO3.out.reads HM.out));clear hw;(go_wp2_with fail);refine HWv.out.mono ?_;rintro e w4 ⟨rfl,rfl⟩;(go_wp2_with fail);refine HIs.out.mono ?_;rintro e w4 ⟨⟨b,rfl⟩,rfl⟩;have hz3:=HG3.out.size;cases b with
    | true =>
     go_wp2;go_roundw
     case rel=>exact ⟨k+1,ws,by omega,by go_num,uH (by have:=HX.out;rw [HM.out];omega),HO3,HG3,HR3⟩
     case measure=>simp [intOf];omega
    | false =>
     have HOw:Hid (w3.ownsRow w.heap.size 9 1 (.slice A3 M c3) M (ws.map strP)):=uH (by have:=HO3.out.1;unfold WdOwn at this;rw [HM.out] at this;exact this);go_wp2_with (at_builtin;refine wpList_append_any _ rfl (.tmp 25) (.tmp 27) _ rfl w.heap.size 9 i0 _ 1 16 Tryz.underlying27 hi hz0 hz1 hz2 rfl (by omega) _ M (ws.map strP) rfl (HOw.out.alloc _) (w3.heap.size+1) (some ⟨w3.heap.size,0,none⟩) 1 1 [.string (mkStr l)] rfl (rowNew1 _ _ _) (by simp [Value.oneCell']) (by unfold maxLen;omega) (by omega) (by simp;omega) ?_;intro v4 w4 hown4 hg4 hat4)
     have HO4:Hid (DcOwn w4 w.heap.size v4 (ws++[l])):=uH ⟨by unfold WdOwn;rw [List.length_append,HM.out,List.map_append];exact hown4,fun y hy=>by
      rcases List.mem_append.1 hy with h | h
      ·exact HO3.out.2 y h
      ·rw [List.mem_singleton] at h;subst h;exact HWt.out⟩
     have HG4:=uH (own_after' (only_next HG3.out (World.grownBy_alloc w3 _ _)) hg4 (fun q hq=>ownG_base HOw.out hq));have HR4:=uH ((HR3.out.alloc' _).far hg4 (fun q hq=>by have:=ownG_base HOw.out hq;exact ⟨by omega,by omega⟩) (by simp;omega));clear hown4 hg4 hat4;go_wp2;go_roundw
     case rel=>exact ⟨k+1,_,by omega,by go_num,uH (by have:=HX.out;rw [List.length_append,HM.out];simp;omega),HO4,HG4,HR4⟩
     case measure=>simp [intOf];omega
  ·obtain rfl:k=N:=(by omega);have HR1:=uH (HR.out.more (show lim+1+20 * k≤lim+161 by omega));have hz:=HG.out.size;clear hlt HR;cases ws with
   | nil =>
    obtain ⟨A3,c3,rfl,hc3,hm3⟩:=ownG_form HO.out.1;have HO3:Hid (DcOwn wr w.heap.size (.slice A3 0 c3) []):=HO;have HR2:=uH (HR1.out.more (show lim+161≤lim+200 by omega));have hl0:(List.length ([]:List (List UInt8)))=0:=rfl;go_wp2;go_returns;exact ⟨A3,0,c3,[],rfl,by omega,rfl,HO3.out,HG.out,HR2.out⟩
   | cons x r =>
    obtain ⟨gb,c3,rfl,hgb,hkc,hcm,_⟩:=own_some HO.out.1 (show 0 < (x::r).length by simp);have hr7:r.length≤7:=(by have:=HX.out;simp at this;omega);have HO3:Hid (DcOwn wr w.heap.size (.slice (some ⟨gb,0,none⟩) (r.length+1) c3) (x::r)):=HO;have HP:=uH (pickR (n:=40) HR1.out (by omega) (by omega) (by omega));have hpos:0 < r.length+1:=(by omega);clear HO;(go_wp2_with fail);refine HP.out.mono ?_;rintro e w3 ⟨m,rfl,hm,hg3,hr3⟩;have HG4:=uH (only_next HG.out hg3);have HO4:=uH (HO3.out.only hg3 hg0);have hz4:=HG4.out.size;have HR5:=uH (hr3.more (show lim+161+1≤lim+200 by omega));clear hg3 hr3 HP HG HO3 HR1;by_cases h0:m=0
    ·subst h0;have HOw:Hid (w3.ownsRow w.heap.size 9 1 (.slice (some ⟨gb,0,none⟩) (r.length+1) c3) (r.length+1) ((x::r).map strP)):=uH HO4.out.1;obtain ⟨k0,f0⟩:=own_cell (j:=0) (u:=strP x) HOw.out rfl rfl;unfold strP at k0;go_wp2_with (at_builtin;refine wpList_append_any _ rfl (.tmp 37) (.tmp 41) _ rfl w.heap.size 9 i0 _ 1 16 Tryz.underlying27 hi hz0 hz1 hz2 rfl (by omega) _ (r.length+1) ((x::r).map strP) rfl (HOw.out.alloc _) (w3.heap.size+1) (some ⟨w3.heap.size,0,none⟩) 1 1 [.string (mkStr x)] rfl (rowNew1 _ _ _) (by simp [Value.oneCell']) (by unfold maxLen;omega) (by omega) (by simp;omega) ?_;intro v4 w4 hown4 hg4 hat4)
     obtain ⟨A4,c4,rfl,hc4,hm4⟩:=ownG_form hown4;have HO7:Hid (DcOwn w4 w.heap.size (.slice A4 (r.length+1+1) c4) ((x::r)++[x])):=uH ⟨by unfold WdOwn;rw [List.length_append,List.length_cons,List.map_append];exact hown4,fun y hy=>by
      rcases List.mem_append.1 hy with h | h
      ·exact HO4.out.2 y h
      ·rw [List.mem_singleton] at h;subst h;exact HO4.out.2 y (by simp)⟩
     have HG7:=uH (own_after' (only_next HG4.out (World.grownBy_alloc w3 _ _)) hg4 (fun q hq=>ownG_base HOw.out hq));have HR7:=uH ((HR5.out.alloc' _).far hg4 (fun q hq=>by have:=ownG_base HOw.out hq;exact ⟨by omega,by omega⟩) (by simp;omega));clear hown4 hg4 hat4;go_wp2;go_returns;exact ⟨_,r.length+1+1,c4,_,by simp,by omega,rfl,HO7.out,HG7.out,HR7.out⟩
    ·have e0:((m:Int) == 0)=false:=(by simpa using h0);go_wp2;go_returns;exact ⟨_,r.length+1,c3,_,by simp,by omega,rfl,HO4.out,HG4.out,HR5.out⟩
def DrawnBoth (B g lim:Nat) (w:World) (e:Ending) (w':World):Prop :=
 ∃ A n c xs A' n' c' ws,xs.length=n∧n≤7∧ws.length=n'∧n'≤9∧e = .returned (.tuple #[.slice A n c,.slice A' n' c'])∧SyOwn w' w.heap.size (.slice A n c) xs∧DcOwn w' w.heap.size (.slice A' n' c') ws∧w.grownBy w' (some g)∧RdIn w' B g (lim+220)
theorem l91Both (g B lim:Nat) (w:World) (hl:lim≤600000000) (hr:RdIn w B g lim) (hBw:B≤w.heap.size) :
  Calls Tryz.prog 83 #[.pointer (some ⟨g,0,none⟩)] w (DrawnBoth B g lim w):=by
 have hg0:=hr.lt;have HS:=uH (l91System g B lim w (by omega) hr hBw);clear hr;go_enter Tryz.func83,Tryz.ntmps83
 (go_wp2_with fail);refine HS.out.mono ?_;rintro e w1 ⟨A,n,c,xs,hx,hn,rfl,hO1,hg1,hr1⟩;have hz1:=hg1.size;have HD:=uH (l91Dictionary g B (lim+20) w1 (by omega) hr1 (by omega));have HX:=uH hx;have HO1:=uH hO1;have HG1:=uH hg1;clear hr1 hx hO1 hg1 HS;(go_wp2_with fail);refine HD.out.mono ?_;rintro e w2 ⟨A',n',c',ws,hx',hn',rfl,hO2,hg2,hr2⟩;have HO3:=uH (HO1.out.only hg2 hg0);have HG2:=uH (only_next HG1.out hg2);have HX':=uH hx';have HO2:=uH (hO2.low hz1);have HR2:=uH hr2;clear hr2 hx' hO2 hg2 HD HO1 HG1;go_wp2;go_returns;exact ⟨A,n,c,xs,A',n',c',ws,HX.out,hn,HX'.out,hn',rfl,HO3.out,HO2.out,HG2.out,HR2.out⟩

theorem idx_at {xs:List Sg} {ws:List (List UInt8)} {m:Nat} (hm:m < (idxOf xs ws).length):(idxOf xs ws).getD m 0 < ws.length:=by
 rw [List.getD_eq_getElem?_getD,List.getElem?_eq_getElem hm];have h:=List.getElem_mem hm;simp only [Option.getD_some];generalize (idxOf xs ws)[m]=i at *;unfold idxOf at h;split at h
 ·exact idxK_lt h
 ·cases h
theorem idx_len {xs:List Sg} {ws:List (List UInt8)}:(idxOf xs ws).length≤ws.length:=by
 unfold idxOf;split
 ·exact idxK_len _ _ _
 ·simp

theorem joinedL_snoc (r:List Wd) (x:Wd):joinedL (r++[x])=joinedL r++32::x:=by
 unfold joinedL;rw [List.map_append,List.flatten_append];simp
theorem joinedL_len {ws:List Wd} {k:Nat} (h : ∀ l∈ws,l.length≤k):(joinedL ws).length≤(k+1) * ws.length:=by
 induction ws with
 | nil=>simp [joinedL]
 | cons x r ih =>
  have h1:=ih (fun l hl=>h l (List.mem_cons_of_mem _ hl));have h2:=h x List.mem_cons_self;rw [joinedL_cons,List.length_cons,List.length_append,List.length_cons,Nat.mul_add];omega
end Go.Proofs.YtbkhnljaajajiaaGreatDoor
