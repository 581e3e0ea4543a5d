/-
  Contracts and plain laws that the proofs lean on. Conditions: as each says.
-/
import Derived.Test.YtbkhnljaajajiaaGreatDoorPX16
import Derived.Test.YtbkhnljaajajiaaGreatDoorPX17
import Derived.Deep.RegionHeld3
set_option maxRecDepth 100000
set_option linter.unusedSimpArgs false
set_option linter.unusedVariables false
set_option linter.unnecessarySimpa false
namespace Go.Proofs.YtbkhnljaajajiaaGreatDoor
open Go.ChangeShapes Go.WideShapes Go.ChangeAt Go.RowKit
def isDig (c:UInt8):Bool:=decide (48≤c.toNat∧c.toNat≤57)
def numV (l:Wd):Nat:=l.foldl (fun n c=>10 * n+(c.toNat - 48)) 0
def numB (l:Wd):Bool:=l.all isDig && decide (1≤l.length∧l.length≤4)
def numOf (l:Wd):Int:=if numB l=true then (numV l:Int) else 99999
theorem numV_snoc (l:Wd) (c:UInt8):numV (l++[c])=10 * numV l+(c.toNat - 48):=by unfold numV;rw [List.foldl_append];rfl
theorem numV_lt (l:Wd) : ∀ n,l.length=n→l.all isDig=true→numV l < 10 ^ n:=by
 intro n;induction n generalizing l with
 | zero=>intro h _;have:l=[]:=List.length_eq_zero_iff.1 h;subst this;decide
 | succ n ih =>
  intro h h2;obtain ⟨r,c,rfl⟩ : ∃ r c,l=r++[c]:=⟨l.dropLast,l.getLast (by intro e;rw [e] at h;simp at h),(List.dropLast_concat_getLast _).symm⟩;rw [List.length_append] at h;rw [List.all_append,Bool.and_eq_true] at h2;have h3:=ih r (by simpa using h) h2.1;have h4:isDig c=true:=(by simpa using h2.2);unfold isDig at h4;rw [decide_eq_true_iff] at h4;rw [numV_snoc,Nat.pow_succ];omega
theorem numOf_bd (l:Wd):0≤numOf l∧numOf l≤99999:=by
 unfold numOf;split
 ·rename_i h
  unfold numB at h;rw [Bool.and_eq_true,decide_eq_true_iff] at h;have h1:=numV_lt l l.length rfl h.1;have h2:10 ^ l.length≤10 ^ 4:=Nat.pow_le_pow_right (by omega) h.2.2;omega
 ·omega
theorem numOf_small {l:Wd} (h : ¬ (1≤l.length∧l.length≤4)):numOf l=99999:=by
 unfold numOf numB;rw [decide_eq_false h,Bool.and_false];rfl
theorem dig_step (s:ByteArray) (k:Nat) (h:k < s.size) (ha:(s.data.toList.take k).all isDig=true) (h1:48≤(s[k].toNat:Int)) (h2:(s[k].toNat:Int)≤57) :
  (s.data.toList.take (k+1)).all isDig=true∧((numV (s.data.toList.take (k+1)):Nat):Int)=10 * ((numV (s.data.toList.take k):Nat):Int)+((s[k].toNat:Int) - 48):=by
 rw [take_snoc s k h,List.all_append,ha,numV_snoc];refine ⟨by simp [isDig];omega,by omega⟩
theorem dig_bad (s:ByteArray) (k:Nat) (h:k < s.size) (h1:(s[k].toNat:Int) < 48∨57 < (s[k].toNat:Int)):numOf s.data.toList=99999:=by
 have hm:s[k]∈s.data.toList:=by
  have:s[k]=s.data.toList[k]'(by simpa using h):=rfl;rw [this];exact List.getElem_mem _
 have hb:isDig s[k]=false:=(by simp [isDig];omega);have:s.data.toList.all isDig=false:=by
  rw [List.all_eq_false];exact ⟨_,hm,by simp [hb]⟩
 simp [numOf,numB,this]
theorem dig_done (s:ByteArray) (k:Nat) (hk : ¬ k < s.size) (hs:1≤s.size∧s.size≤4) (ha:(s.data.toList.take k).all isDig=true):numOf s.data.toList=((numV (s.data.toList.take k):Nat):Int):=by
 have e:s.data.toList.take k=s.data.toList:=List.take_of_length_le (by simp;omega);have l:s.data.toList.length=s.size:=(by simp);rw [e] at ha ⊢;unfold numOf numB;rw [ha,l,decide_eq_true hs];rfl
theorem dig_bd (s:ByteArray) (k:Nat) (hk:k≤s.size) (hs:s.size≤4) (ha:(s.data.toList.take k).all isDig=true):numV (s.data.toList.take k)≤9999:=by
 have h1:=numV_lt _ k (by rw [List.length_take];simp;omega) ha;have h2:10 ^ k≤10 ^ 4:=Nat.pow_le_pow_right (by omega) (by omega);omega
theorem implNumberOf (s:ByteArray) (w:World) (hs:s.size≤maxLen):Calls Tryz.prog 167 #[.string s] w fun e w'=>e = .returned (.int .i64 (numOf s.data.toList))∧w=w':=by
 unfold maxLen at hs;have HSz:Hid (s.data.toList.length=s.size):=uH (by simp);by_cases hg:1≤s.size∧s.size≤4
 ·obtain ⟨g1,g2⟩:=hg;go_enter Tryz.func167,Tryz.ntmps167
  go_wp2
  go_loop [3,15] (fun n i=>∃ k:Nat,k≤s.size∧i = .int .i64 k∧n = .int .i64 ((numV (s.data.toList.take k):Nat):Int)∧Hid ((s.data.toList.take k).all isDig=true)) (fun _ i=>s.size - (intOf i).toNat)
  case atStart=>exact ⟨0,Nat.zero_le _,rfl,rfl,uH rfl⟩
  case round =>
   obtain ⟨k,hk,rfl,rfl,hall⟩:=hrel;have hbd:=dig_bd s k hk g2 hall.out;by_cases hlt:k < s.size
   ·by_cases h1:(s[k].toNat:Int) < 48
    ·go_wp2;go_ret;exact ⟨ret_int (by rw [dig_bad s k hlt (.inl h1)]),rfl⟩
    by_cases h2:57 < (s[k].toNat:Int)
    ·go_wp2;go_ret;exact ⟨ret_int (by rw [dig_bad s k hlt (.inr h2)]),rfl⟩
    have hst:=dig_step s k hlt hall.out (by omega) (by omega);have HA:=uH hst.1;have HV:=uH hst.2;clear hst hall;generalize numV (s.data.toList.take k)=q at *;have h3:48≤(s[k].toNat:Int):=(by omega);have h4:(s[k].toNat:Int)≤57:=(by omega);have hw1:IntKind.u8.wrap ((s[k].toNat:Int) - 48)=(s[k].toNat:Int) - 48:=by
     show ((s[k].toNat:Int) - 48) % 256=_
     omega
    go_wp2
    go_round
    case rel=>exact ⟨k+1,by omega,by go_num,by rw [HV.out],HA⟩
    case measure=>simp [intOf] <;> omega
   ·have HF:Hid (numOf s.data.toList=((numV (s.data.toList.take k):Nat):Int)):=uH (dig_done s k hlt ⟨g1,g2⟩ hall.out);generalize numV (s.data.toList.take k)=q at *;go_wp2;go_ret;exact ⟨ret_int HF.out.symm,rfl⟩
 ·have HF:Hid (numOf s.data.toList=99999):=uH (numOf_small (by rw [HSz.out];exact hg));by_cases h1:s.size < 1
  ·go_enter Tryz.func167,Tryz.ntmps167
   go_wp2;go_ret;exact ⟨ret_int HF.out.symm,rfl⟩
  ·have h2:4 < s.size:=(by omega);go_enter Tryz.func167,Tryz.ntmps167
   go_wp2;go_ret;exact ⟨ret_int HF.out.symm,rfl⟩
theorem hitB_iff {ws:List Wd} {b:Bf}:hitB ws b=true ↔ b.words.length≤ws.length∧ws.take b.words.length=b.words:=by unfold hitB;rw [decide_eq_true_iff]
theorem run_lhW {A:Option Addr} {n c k h:Nat} (hk:k≤h) (hh:h≤c) (w:World):(Instr.slice 27 (.slice A n c) (some (.int .i64 (k:Int))) (some (.int .i64 (h:Int))) none).run Tryz.prog w = .ok (.slice (fromB A k c 1) (h - k) (c - k)) w:=by
 rw [run_slice_lh w 27 A n c elemW .i64 .i64 (k:Int) (h:Int) (by omega) (by omega) (by omega),sizeW];simp [Result.andThen,sliced,fromB]
set_option maxHeartbeats 1600000 in
theorem l4At (A:Option Addr) (n c:Nat) (ws:List Wd) (i:Nat) (x:Br) (w:World) (hi:i≤n) (hn:n≤1000) (hx:x.n≤1000) (h:WdsIn w w.heap.size A n c ws) (hI:BrIn w w.heap.size x) :
  Calls Tryz.prog 62 #[.slice A n c,.int .i64 (i:Int),.agg #[.string (mkStr x.mark),.slice x.A x.n x.c]] w fun e w'=>e = .returned (.bool (hitB (ws.drop i) x.dat))∧Below w.heap.size w w':=by
 have HL:=uH h.1;have HXl:Hid (x.words.length=x.n):=uH hI.1;have hnc:=h.2.1;have b0:Below w.heap.size w (w.alloc (.cells #[.string (mkStr x.mark),.slice x.A x.n x.c] 34)):=(Below.refl _ _).alloc (Nat.le_refl _) _;have k0:=newcell w #[.string (mkStr x.mark),.slice x.A x.n x.c] 34 0 _ rfl;have k1:=newcell w #[.string (mkStr x.mark),.slice x.A x.n x.c] 34 1 _ rfl;have hw1:IntKind.i64.wrap ((i:Int)+(x.n:Int))=(i:Int)+(x.n:Int):=IntWalk.i64_in _ (by omega);by_cases hle:i+x.n≤n
 ·have HE:Hid (∀ W,Below w.heap.size w W→Calls Tryz.prog 124 #[.slice (fromB A i c 1) x.n (c - i),.slice x.A x.n x.c] W fun e w'=>e = .returned (.bool (hitB (ws.drop i) x.dat))∧Below W.heap.size W w'):=uH (fun W hW=>by
   have h1:=(((h.keep hW).upto hle).fromS (k:=i) (by omega));rw [show i+x.n - i=x.n by omega] at h1;have key:decide ((ws.take (i+x.n)).drop i=x.words)=hitB (ws.drop i) x.dat:=by
    unfold hitB Br.dat;refine decide_eq_decide.2 ?_
    show ((ws.take (i+x.n)).drop i=x.words) ↔ (x.words.length≤(ws.drop i).length∧(ws.drop i).take x.words.length=x.words)
    rw [List.drop_take,show i+x.n - i=x.n by omega,HXl.out,List.length_drop,HL.out];exact ⟨fun h=>⟨by omega,h⟩,fun h=>h.2⟩
   rw [← key];exact l4Same _ _ _ _ _ _ _ _ W h1 (BrIn.keep hI hW))
  have hs : ∀ W,(Instr.slice 27 (.slice A n c) (some (.int .i64 (i:Int))) (some (.int .i64 ((i:Int)+(x.n:Int)))) none).run Tryz.prog W = .ok (.slice (fromB A i c 1) x.n (c - i)) W:=fun W=>by
   have:=run_lhW (A:=A) (n:=n) (c:=c) (k:=i) (h:=i+x.n) (by omega) (by omega) W;rw [show i+x.n - i=x.n by omega] at this;exact this
  have l1:(i:Int)+(x.n:Int)≤(n:Int):=(by omega);have l2:decide (i+x.n≤n)=true:=decide_eq_true hle;have Hb:Hid (Below w.heap.size w (w.alloc (.cells #[.string (mkStr x.mark),.slice x.A x.n x.c] 34)).drew):=uH b0.drew;clear h hI;generalize hitB (ws.drop i) x.dat=T at *;go_enter Tryz.func62,Tryz.ntmps62
  (go_wp2_with fail);go_region_held3 (fun w'=>w'.cell? ⟨w.heap.size,1,none⟩=some (.slice x.A x.n x.c)) (first | assumption | go_keep)
   (first
    | (go_at_call 124;refine (HE.out _ Hb.out).mono ?_;rintro e w5 ⟨rfl,hb5⟩;have k5:=kcell hb5 k1))
  have b5:=below_next Hb.out hb5;go_wp2;go_ret;exact ⟨rfl,b5⟩
 ·have HF:Hid (hitB (ws.drop i) x.dat=false):=uH (by
   rw [Bool.eq_false_iff];intro e;have:=(hitB_iff.1 e).1;unfold Br.dat at this;simp only [HXl.out,List.length_drop,HL.out] at this;omega)
  have l1 : ¬ (i:Int)+(x.n:Int)≤(n:Int):=(by omega);have l2:decide (i+x.n≤n)=false:=decide_eq_false hle;have l3:decide ((i:Int)+(x.n:Int)≤(n:Int))=false:=decide_eq_false l1;have l4:n < i+x.n:=(by omega);have l5:(n:Int) < (i:Int)+(x.n:Int):=(by omega);clear h hI hle l1;go_enter Tryz.func62,Tryz.ntmps62
  (go_wp2_with fail);refine region_qb (by kernel_rfl) (by kernel_rfl) ?_;repeat (first | go_big_quiet_step (fail) | quiet_step (fail))
  refine wpQuiet_nil ?_;intro w5 hb5;have b5:=below_next b0 hb5;go_wp2;go_ret;exact ⟨ret_bool HF.out.symm,b5⟩
theorem l4Both (A:Option Addr) (n c:Nat) (xs:List Br) (A':Option Addr) (n' c':Nat) (ws:List Wd) (w:World) (hX:OkBs xs) (hW : ∀ l∈ws,l.length≤maxLen) (h:BrsIn w w.heap.size A n c xs) (h':WdsIn w w.heap.size A' n' c' ws) :
  Calls Tryz.prog 60 #[.slice A n c,.slice A' n' c'] w fun e w'=>e = .returned (.bool (brsB (xs.map Br.dat) && spB ws))∧Below w.heap.size w w':=by
 have HB:=uH (specBriefsValid A n c xs w hX h);have HS:=uH (fun W (hb:Below w.heap.size w W)=>specSpeechValid A' n' c' ws W hW (h'.keep hb));clear h h' hX hW;cases h1:brsB (xs.map Br.dat) with
 | false =>
  rw [h1] at HB;clear h1 HS;go_enter Tryz.func60,Tryz.ntmps60
  (go_wp2_with fail);refine HB.out.mono ?_;rintro e w1 ⟨rfl,hb⟩;go_wp2;go_ret;exact ⟨rfl,hb⟩
 | true =>
  rw [h1] at HB;clear h1;go_enter Tryz.func60,Tryz.ntmps60
  (go_wp2_with fail);refine HB.out.mono ?_;rintro e w1 ⟨rfl,hb⟩;have HS1:=uH (HS.out w1 hb);clear HS HB;(go_wp2_with fail);refine HS1.out.mono ?_;rintro e w2 ⟨rfl,rfl⟩;go_wp2;go_ret;exact ⟨rfl,hb⟩
theorem made_at {v:Value} {n:Nat} (j:Nat) (h:j < n):(madeCells #[v] n)[j]? = some v:=by
 simp [madeCells,h,Nat.mod_one]
def CostsIn (w:World) (g:Nat) (bs:List Bf) (ws:List Wd):Prop:=∃ cs:Array Value,Blk w g 3 cs∧cs.size=ws.length+1∧∀ j,j≤ws.length→cs[j]? = some (.int .i64 ((costOf bs (ws.drop j):Nat):Int))
theorem CostsIn.below {w w':World} {g:Nat} {bs:List Bf} {ws:List Wd} (h:CostsIn w g bs ws) (hb:Below w.heap.size w w'):CostsIn w' g bs ws:=by
 obtain ⟨cs,h1,h2,h3⟩:=h;exact ⟨cs,h1.below hb,h2,h3⟩
theorem CostsIn.cell {w:World} {g j:Nat} {bs:List Bf} {ws:List Wd} (h:CostsIn w g bs ws) (hj:j≤ws.length):w.cell? ⟨g,j,none⟩=some (.int .i64 ((costOf bs (ws.drop j):Nat):Int)):=by
 obtain ⟨cs,h1,h2,h3⟩:=h;exact (h1.cell j).trans (h3 j hj)
theorem word_len12 {l:Wd} (h:wordB l=true):l.length≤12:=by
 unfold wordB at h;simp only [Bool.and_eq_true,decide_eq_true_eq] at h;exact h.2.2
theorem cost240 {bs:List Bf} (h : ∀ b∈bs,1≤b.words.length) {ws:List Wd} (hs:spB ws=true) (j:Nat):costOf bs (ws.drop j)≤240:=by
 have h1:=costOf_le h (ws.drop j) (fun l hl=>(word_len12 ((spB_iff.1 hs).1 l (List.mem_of_mem_drop hl))));have h2:=(spB_iff.1 hs).2;rw [List.length_drop] at h1;omega
set_option maxHeartbeats 3200000 in
theorem l4Costs (A:Option Addr) (n c:Nat) (xs:List Br) (A':Option Addr) (n' c':Nat) (ws:List Wd) (w:World) (hv:brsB (xs.map Br.dat)=true) (hs:spB ws=true) (h:BrsIn w w.heap.size A n c xs) (h':WdsIn w w.heap.size A' n' c' ws) :
  Calls Tryz.prog 61 #[.slice A n c,.slice A' n' c',.int .i64 1,.int .i64 0] w fun e w'=>e = .returned (.slice (some ⟨w.heap.size,0,none⟩) (n'+1) (n'+1))∧CostsIn w' w.heap.size (xs.map Br.dat) ws∧Below w.heap.size w w':=by
 obtain ⟨bs,hbs⟩ : ∃ bs,bs=xs.map Br.dat:=⟨_,rfl⟩;rw [← hbs] at hv ⊢;have hone:=valid_one hv;have hn20:n'≤20:=(by have:=(spB_iff.1 hs).2;rw [h'.1] at this;exact this);have hn8:n≤8:=(by have:=(brsB_iff.1 hv).1;rw [hbs,List.length_map,h.1] at this;exact this);have HLb:Hid (bs.length=n):=uH (by rw [hbs,List.length_map,h.1]);have HL':=uH h'.1;have HL:=uH h.1;have HDat:Hid (∀ k,k < n→bfAt bs k=(brAt xs k).dat):=uH (fun k hk=>by rw [hbs];exact brAt_dat (by rw [HL.out];exact hk));have HOne:=uH hone;have HBd:Hid (∀ j,costOf bs (ws.drop j)≤240):=uH (fun j=>cost240 hone hs j);have HWl:Hid (∀ j,j < n'→(wdAt ws j).length≤12):=uH (fun j hj=>word_len12 ((spB_iff.1 hs).1 _ (wdAt_mem (by rw [HL'.out];exact hj))));have HMk:Hid (∀ k,k < n→(brAt xs k).mark.length≤3∧1≤(brAt xs k).n∧(brAt xs k).n≤3):=uH (fun k hk=>by
  have h1:=brsB_mem hv _ (bfAt_mem (bs:=bs) (k:=k) (by rw [HLb.out];exact hk));rw [HDat.out k hk] at h1;obtain ⟨h2,h3⟩:=bfB_iff.1 h1;have h4:=(h.2.2.2.2 _ (brAt_mem (xs:=xs) (k:=k) (by rw [HL.out];exact hk))).1;have h5:=bwB_len h3;exact ⟨(markB_len h2).2,by rw [← h4];exact h5.1,by rw [← h4];exact h5.2⟩)
 have HXl:Hid (∀ k,k < n→(brAt xs k).words.length=(brAt xs k).n):=uH (fun k hk=>(h.2.2.2.2 _ (brAt_mem (xs:=xs) (k:=k) (by rw [HL.out];exact hk))).1);have H:=uH h;have H':=uH h';clear h h' hv hs hone hbs;obtain ⟨j0,hj,hy0,hy1,hy2⟩:=info_parts infoInt;have hmk:=fun W=>run_make_rowN (P:=Tryz.prog) 105 3 j0 _ Tryz.underlying105 hj hy0 .i64 .i64 (n'+1) (n'+1) (Nat.le_refl _) (by rw [hy2];omega) (by omega) W;rw [hy1] at hmk;simp only [Int.natCast_add,Int.natCast_one] at hmk;have hw1:IntKind.i64.wrap ((n':Int)+1)=(n':Int)+1:=IntWalk.i64_in _ (by omega);have HC0:Hid (∀ j,n'+1≤j→j≤n'→(madeCells #[Value.int .i64 0] (n'+1))[j]? = some (.int .i64 ((costOf bs (ws.drop j):Nat):Int))):=uH (fun j h1 h2=>by omega);have HCn:Hid (∀ j,n'≤j→j≤n'→(madeCells #[Value.int .i64 0] (n'+1))[j]? = some (.int .i64 ((costOf bs (ws.drop j):Nat):Int))):=uH (fun j h1 h2=>by
  obtain rfl:j=n':=(by omega);rw [List.drop_of_length_le (by rw [HL'.out];exact Nat.le_refl _),costOf_nil];exact made_at _ (by omega))
 go_enter Tryz.func61,Tryz.ntmps61
 go_wp2;clear hmk;go_loopw [10] (fun s10 wr=>∃ (k:Nat) (cs:Array Value),k≤n'∧s10 = .int .i64 ((k:Int) - 1)∧Hid (cs.size=n'+1)∧Hid (∀ j,k≤j→j≤n'→cs[j]? = some (.int .i64 ((costOf bs (ws.drop j):Nat):Int)))∧Hid (Blk wr w.heap.size 3 cs)∧Below w.heap.size w wr) (fun s10 _=>(intOf s10+1).toNat)
 case atStart=>exact ⟨n',_,Nat.le_refl _,by go_num,uH (madeCells_size _ _),HCn,uH (Blk.new _ _ _),(Below.refl _ _).alloc (Nat.le_refl _) _⟩
 case round =>
  obtain ⟨k,cs,hk,rfl,hS,hC,hB,hb⟩:=hrel;cases k with
  | zero =>
   have HF:Hid (CostsIn wr w.heap.size bs ws):=uH ⟨cs,hB.out,by rw [hS.out,HL'.out],fun j hj=>hC.out j (Nat.zero_le _) (by rw [← HL'.out];exact hj)⟩;clear hS hC hB;go_wp2;go_ret;exact ⟨rfl,HF.out,hb⟩
  | succ i =>
   have hI:(((i+1:Nat):Int) - 1)=(i:Int):=(by omega);rw [hI];clear hI;have hin:i < n':=(by omega);have i1:(0:Int)≤(i:Int):=(by omega);have i2:(i:Int) < (n':Int):=(by omega);obtain ⟨b,off,rfl,hbB,c0⟩:=(H'.out.keep hb).at_ hin;obtain ⟨u0,hu0⟩ : ∃ u,cs[i]? = some u:=⟨_,Array.getElem?_eq_getElem (by rw [hS.out];omega)⟩;have rI:wr.cell? ⟨w.heap.size,i,none⟩=some u0:=(hB.out.cell i).trans hu0;have rF:=hB.out.free i;have rJ:wr.cell? ⟨w.heap.size,i+1,none⟩=some (.int .i64 ((costOf bs (ws.drop (i+1)):Nat):Int)):=(hB.out.cell (i+1)).trans (hC.out (i+1) (Nat.le_refl _) (by omega));have hl12:=HWl.out i hin;have hc240:=HBd.out (i+1);have i3:(i:Int)+1 < (n':Int)+1:=(by omega);have HK0:Hid (costK bs (ws.drop i) 0=costOf bs (ws.drop (i+1))+(wdAt ws i).length):=uH (by
    have h1:i < ws.length:=(by rw [HL'.out];exact hin);have h2:=wdAt_some h1;rw [List.getElem?_eq_getElem h1] at h2;injection h2 with h2;rw [costK_zero,List.drop_eq_getElem_cons h1,h2];rfl)
   have hsz:(mkStr (wdAt ws i)).size=(wdAt ws i).length:=mkStr_size _;have hl0:(mkStr (wdAt ws i)).size≤12:=(by omega);have HSz:=uH hsz;clear hsz;have HSet:Hid (∀ (W:World) (x:Value),Below wr.heap.size wr W→Blk (W.setCell ⟨w.heap.size,i,none⟩ x) w.heap.size 3 (cs.setIfInBounds i x)∧Below w.heap.size w (W.setCell ⟨w.heap.size,i,none⟩ x)):=uH (fun W x hW=>⟨(hB.out.below hW).set i x,((below_next hb hW).setCell (Nat.le_refl _) x)⟩);obtain ⟨s1,s2⟩:=HSet.out wr (.int .i64 ((costOf bs (ws.drop (i+1)):Int)+((mkStr (wdAt ws i)).size:Int))) (Below.refl _ _);have S1:=uH s1;have S2:=uH s2;have HCe:Hid ((costOf bs (ws.drop (i+1)):Int)+((mkStr (wdAt ws i)).size:Int)=((costK bs (ws.drop i) 0:Nat):Int)):=uH (by rw [HK0.out,HSz.out];omega);clear s1 s2 HSet hb hu0 hB;generalize hsA:mkStr (wdAt ws i)=sA at *;clear hsA;generalize costOf bs (ws.drop (i+1))=C1 at *;(go_wp2_with fail);go_region
   all_goals
    have HS1:Hid ((cs.setIfInBounds i (.int .i64 ((C1:Int)+(sA.size:Int)))).size=n'+1):=uH (by rw [Array.size_setIfInBounds];exact hS.out);have HC1:Hid (∀ j,i+1≤j→j≤n'→(cs.setIfInBounds i (.int .i64 ((C1:Int)+(sA.size:Int))))[j]? = some (.int .i64 ((costOf bs (ws.drop j):Nat):Int))):=uH (fun j h1 h2=>by
     rw [Array.getElem?_setIfInBounds_ne (by omega)];exact hC.out j h1 h2)
    have HI1:Hid ((cs.setIfInBounds i (.int .i64 ((C1:Int)+(sA.size:Int))))[i]? = some (.int .i64 ((costK bs (ws.drop i) 0:Nat):Int))):=uH (by
     rw [Array.getElem?_setIfInBounds_self_of_lt (by rw [hS.out];omega),HCe.out])
    have S3:Hid (Below w.heap.size w (wr.setCell ⟨w.heap.size,i,none⟩ (.int .i64 ((C1:Int)+(sA.size:Int)))).drew):=uH S2.out.drew;clear S2 hC hS HCe HSz HK0 rI rF rJ c0 hl0 hl12 hc240;go_wp2;go_loopw [11] (fun s11 wv=>∃ (q:Nat) (cs2:Array Value),q≤n∧s11 = .int .i64 q∧Hid (cs2.size=n'+1)∧Hid (∀ j,i+1≤j→j≤n'→cs2[j]? = some (.int .i64 ((costOf bs (ws.drop j):Nat):Int)))∧Hid (cs2[i]? = some (.int .i64 ((costK bs (ws.drop i) q:Nat):Int)))∧Hid (Blk wv w.heap.size 3 cs2)∧Below w.heap.size w wv) (fun s11 _=>n - (intOf s11).toNat)
    case atStart=>exact ⟨0,_,Nat.zero_le _,rfl,HS1,HC1,HI1,uH S1.out,S3.out⟩
    case round =>
     obtain ⟨q,cs2,hq,rfl,hS,hC,hI,hB,hb⟩:=hrel;by_cases hlt:q < n
     ·have q1:(0:Int)≤(q:Int):=(by omega);have q2:(q:Int) < (n:Int):=(by omega);have hHr:=H.out.keep hb;obtain ⟨b2,off2,rfl,hbB2,c0,c1,hIq⟩:=hHr.at_ hlt;have HAt:Hid (∀ W,Below w.heap.size w W→Calls Tryz.prog 62 #[.slice (some ⟨b,off,none⟩) n' c',.int .i64 (i:Int),.agg #[.string (mkStr (brAt xs q).mark),.slice (brAt xs q).A (brAt xs q).n (brAt xs q).c]] W fun e w'=>e = .returned (.bool (hitB (ws.drop i) (brAt xs q).dat))∧Below W.heap.size W w'):=uH (fun W hW=>l4At _ n' c' ws i (brAt xs q) W (by omega) (by omega) (by have:=(HMk.out q hlt).2.2;omega) (H'.out.keep hW) ((H.out.keep hW).2.2.2.2 _ (brAt_mem (by rw [HL.out];exact hlt))));have HAt1:=uH (HAt.out wr hb);have HKs:=uH (costK_succ (bs:=bs) (ws:=ws.drop i) (k:=q) (by rw [HLb.out];exact hlt));have HDq:=HDat.out q hlt;rw [HDq] at HKs;have HKle:Hid (costK bs (ws.drop i) q≤252):=uH (by
       have h1:=costK_le bs (ws.drop i) q;have h2:=HBd.out (i+1);have h3:=HWl.out i hin;rw [List.drop_drop] at h1;have h4:(ws.drop i).headD []=wdAt ws i:=by
        have h5:i < ws.length:=(by rw [HL'.out];exact hin);have h6:=wdAt_some h5;rw [List.getElem?_eq_getElem h5] at h6;injection h6 with h6;rw [List.drop_eq_getElem_cons h5,h6];rfl
       rw [h4] at h1;omega)
      clear HDq hIq HAt hHr;cases hh:hitB (ws.drop i) (brAt xs q).dat with
      | false =>
       rw [hh] at HAt1;have HI2:Hid (cs2[i]? = some (.int .i64 ((costK bs (ws.drop i) (q+1):Nat):Int))):=uH (by
        rw [HKs.out];unfold optD;rw [hh];exact hI.out)
       clear hh HKs HKle hI;generalize brAt xs q=x at *;(go_wp2_with fail);refine HAt1.out.mono ?_;rintro e w5 ⟨rfl,hb5⟩;have hB5:=uH (hB.out.below hb5);have b5:=below_next hb hb5;clear hb5 hB hb HAt1 c0 c1;go_wp2;go_roundw
       case rel=>exact ⟨q+1,cs2,by omega,by go_num,hS,hC,HI2,hB5,b5⟩
       case measure=>simp [intOf];omega
      | true =>
       rw [hh] at HAt1;have hm3:=HMk.out q hlt;have HXq:=uH (HXl.out q hlt);have HLe:Hid (i+(brAt xs q).n≤n'):=uH (by
        have:=hitB_len hh;unfold Br.dat at this;simp only [HXq.out,List.length_drop,HL'.out] at this;omega)
       have HV:Hid (((costK bs (ws.drop i) (q+1):Nat):Int)=min ((costK bs (ws.drop i) q:Nat):Int) (((costOf bs (ws.drop (i+(brAt xs q).n)):Nat):Int)+((brAt xs q).mark.length:Int))):=uH (by
        rw [HKs.out];unfold optD;rw [if_pos hh];have e1:wayD bs (ws.drop i) (brAt xs q).dat=costOf bs (ws.drop (i+(brAt xs q).n))+(brAt xs q).mark.length:=by
         unfold wayD
         show costOf bs ((ws.drop i).drop (brAt xs q).words.length)+(brAt xs q).mark.length=_
         rw [HXq.out,List.drop_drop]
        rw [e1];omega)
       clear hh HKs;(go_wp2_with fail);refine HAt1.out.mono ?_;rintro e w5 ⟨rfl,hb5⟩;have hB5:=uH (hB.out.below hb5);have b5:=below_next hb hb5;have k0:=kcell hb5 c0;have k1:=kcell hb5 c1;have hle:=HLe.out;have rI:w5.cell? ⟨w.heap.size,i,none⟩=some (.int .i64 ((costK bs (ws.drop i) q:Nat):Int)):=(hB5.out.cell i).trans hI.out;have rF:=hB5.out.free i;have rJ:w5.cell? ⟨w.heap.size,i+(brAt xs q).n,none⟩=some (.int .i64 ((costOf bs (ws.drop (i+(brAt xs q).n)):Nat):Int)):=(hB5.out.cell _).trans (hC.out _ (by omega) hle);have hc240:=HBd.out (i+(brAt xs q).n);have hk252:=HKle.out;have hsz:(mkStr (brAt xs q).mark).size=(brAt xs q).mark.length:=mkStr_size _;have HSz:=uH hsz;have hl0:(mkStr (brAt xs q).mark).size≤3:=(by omega);obtain ⟨m0,m1,m2⟩:=hm3;have l1:(0:Int)≤(i:Int)+((brAt xs q).n:Int):=(by omega);have l2:(i:Int)+((brAt xs q).n:Int) < (n':Int)+1:=(by omega);have HW2:Hid (∀ x:Int,((costK bs (ws.drop i) (q+1):Nat):Int)=x→Blk (w5.setCell ⟨w.heap.size,i,none⟩ (.int .i64 x)) w.heap.size 3 (cs2.setIfInBounds i (.int .i64 x))∧Below w.heap.size w (w5.setCell ⟨w.heap.size,i,none⟩ (.int .i64 x)).drew∧(cs2.setIfInBounds i (.int .i64 x)).size=n'+1∧(∀ j,i+1≤j→j≤n'→(cs2.setIfInBounds i (.int .i64 x))[j]? = some (.int .i64 ((costOf bs (ws.drop j):Nat):Int)))∧(cs2.setIfInBounds i (.int .i64 x))[i]? = some (.int .i64 ((costK bs (ws.drop i) (q+1):Nat):Int))):=uH (fun x hx =>
        ⟨hB5.out.set i _,(b5.setCell (Nat.le_refl _) _).drew,by rw [Array.size_setIfInBounds];exact hS.out,fun j h1 h2=>by rw [Array.getElem?_setIfInBounds_ne (by omega)];exact hC.out j h1 h2,by rw [Array.getElem?_setIfInBounds_self_of_lt (by rw [hS.out];omega),hx]⟩)
       obtain ⟨z1,z2,z3,z4,z5⟩:=HW2.out (min ((costK bs (ws.drop i) q:Nat):Int) (((costOf bs (ws.drop (i+(brAt xs q).n)):Nat):Int)+((mkStr (brAt xs q).mark).size:Int))) (by rw [HV.out,HSz.out]);have Z1:=uH z1;have Z2:=uH z2;have Z3:=uH z3;have Z4:=uH z4;have Z5:=uH z5;clear z1 z2 z3 z4 z5 HW2 hsz HV HSz hB hB5 hb b5 hb5 hS hC hI HKle HLe HXq HAt1 c0 c1 m0;generalize mkStr (brAt xs q).mark=sM at *;generalize costK bs (ws.drop i) q=K1 at *;generalize costOf bs (ws.drop (i+(brAt xs q).n))=C2 at *;generalize brAt xs q=x at *;have HME:Hid (min (K1:Int) ((C2:Int)+(sM.size:Int))=(if (C2:Int)+(sM.size:Int) < (K1:Int) then (C2:Int)+(sM.size:Int) else (K1:Int))):=uH (by split <;> omega)
       (go_wp2_with fail);go_region
       all_goals
        go_wp2;go_roundw
        case rel=>first | exact ⟨q+1,_,by omega,by go_num,Z3,Z4,Z5,uH Z1.out,Z2.out⟩ | (rw [← HME.out];exact ⟨q+1,_,by omega,by go_num,Z3,Z4,Z5,uH Z1.out,Z2.out⟩)
        case measure=>simp [intOf] <;> omega
     ·obtain rfl:q=n:=(by omega);have HFi:Hid (costK bs (ws.drop i) q=costOf bs (ws.drop i)):=uH (by
       have:=costK_all HOne.out (ws:=ws.drop i) (by rw [List.length_drop,HL'.out];omega)
       rwa [HLb.out] at this)
      have HC2:Hid (∀ j,i≤j→j≤n'→cs2[j]? = some (.int .i64 ((costOf bs (ws.drop j):Nat):Int))):=uH (fun j h1 h2=>by
       by_cases e:j=i
       ·rw [e,hI.out,HFi.out]
       ·exact hC.out j (by omega) h2)
      clear hC hI HFi;go_wp2;go_roundw
      case rel=>exact ⟨i,cs2,by omega,by go_num,hS,HC2,hB,hb⟩
      case measure=>simp [intOf] <;> omega
end Go.Proofs.YtbkhnljaajajiaaGreatDoor
namespace Go.Proofs.YtbkhnljaajajiaaGreatDoor
open Go.ChangeShapes Go.WideShapes Go.ChangeAt Go.RowKit Go.Shelf
theorem MrOwn.cells {w:World} {B n c g j:Nat} {D:List Mr} (h:MrOwn w B (.slice (some ⟨g,0,none⟩) n c) D) (hn:D.length=n) (hj:j < n) :
  (w.cell? ⟨g,j * 3,none⟩=some (.int .i64 ((mrAt D j).at_:Int))∧w.frozen? ⟨g,j * 3,none⟩=false)∧(w.cell? ⟨g,j * 3+1,none⟩=some (.int .i64 ((mrAt D j).cut:Int))∧w.frozen? ⟨g,j * 3+1,none⟩=false)∧(w.cell? ⟨g,j * 3+2,none⟩=some (.slice (mrAt D j).A (mrAt D j).n (mrAt D j).c)∧w.frozen? ⟨g,j * 3+2,none⟩=false):=by
 have hs:=mrAt_some (xs:=D) (k:=j) (by omega);refine ⟨own_cell h.1 rfl ?_,own_cell h.1 rfl ?_,own_cell h.1 rfl ?_⟩
 ·have:=flat_at mkC_len D j _ 0 (.int .i64 ((mrAt D j).at_:Int)) hs rfl;simpa using this
 ·exact flat_at mkC_len D j _ 1 (.int .i64 ((mrAt D j).cut:Int)) hs rfl
 ·exact flat_at mkC_len D j _ 2 (.slice (mrAt D j).A (mrAt D j).n (mrAt D j).c) hs rfl
end Go.Proofs.YtbkhnljaajajiaaGreatDoor
