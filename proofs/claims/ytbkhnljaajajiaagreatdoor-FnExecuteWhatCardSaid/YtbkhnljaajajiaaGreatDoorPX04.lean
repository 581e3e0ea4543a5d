/-
  Contracts and plain laws that the proofs lean on. Conditions: as each says.
-/
import Derived.Test.YtbkhnljaajajiaaGreatDoorPX02
import Derived.Test.YtbkhnljaajajiaaGreatDoorPX03
import Derived.BigRegion
set_option maxRecDepth 100000
set_option linter.unusedSimpArgs false
set_option linter.unusedVariables false
set_option linter.unnecessarySimpa false
namespace Go.Proofs.YtbkhnljaajajiaaGreatDoor
open Go.ChangeShapes Go.WideShapes Go.ChangeAt Go.RowKit
theorem spB_no {ws:List Wd} {l:Wd} (hl:l∈ws) (h:wordB l=false):spB ws=false:=by
 rw [Bool.eq_false_iff];intro h2;rw [(spB_iff.1 h2).1 l hl] at h;cases h
theorem spB_long {ws:List Wd} (h:20 < ws.length):spB ws=false:=by
 rw [Bool.eq_false_iff];intro h2;have:=(spB_iff.1 h2).2;omega
def wordsK (ws:List Wd) (k:Nat):Prop:=∀ i,i < k→wordB (wdAt ws i)=true
theorem wordsK_all {ws:List Wd} (h:wordsK ws ws.length) : ∀ l∈ws,wordB l=true:=by
 intro l hl;obtain ⟨i,hi,rfl⟩:=List.getElem_of_mem hl;have e:ws[i]=wdAt ws i:=(by have:=wdAt_some hi;rw [List.getElem?_eq_getElem hi] at this;injection this);rw [e];exact h i hi
theorem wordsK_succ {ws:List Wd} {k:Nat} (h:wordsK ws k) (h2:wordB (wdAt ws k)=true):wordsK ws (k+1):=fun i hi=>by
 rcases Nat.lt_succ_iff_lt_or_eq.1 hi with h3 | rfl
 ·exact h i h3
 ·exact h2
theorem l4Words (A:Option Addr) (n c:Nat) (ws:List Wd) (lo hi:Int) (w:World) (hW : ∀ l∈ws,l.length≤maxLen) (h:WdsIn w w.heap.size A n c ws) :
  Calls Tryz.prog 130 #[.slice A n c,.int .i64 lo,.int .i64 hi] w fun e w'=>e = .returned (.bool (ws.all wordB && decide (lo≤(ws.length:Int)∧(ws.length:Int)≤hi)))∧w=w':=by
 have hm:=h.2.2.1;have hnc:=h.2.1;unfold maxLen at hm;have HL:=uH h.1;have H:=uH h;have HS:=uH hW;have HNo:Hid (∀ l∈ws,wordB l=false→(ws.all wordB && decide (lo≤(ws.length:Int)∧(ws.length:Int)≤hi))=false):=uH (fun l hl hn=>by
  have:ws.all wordB=false:=by
   rw [Bool.eq_false_iff];intro h2;rw [List.all_eq_true.1 h2 l hl] at hn;cases hn
  rw [this];rfl)
 have HY:Hid (wordsK ws n→(ws.all wordB && decide (lo≤(ws.length:Int)∧(ws.length:Int)≤hi))=decide (lo≤(n:Int)∧(n:Int)≤hi)):=uH (fun hk=>by
  rw [← HL.out] at hk;rw [List.all_eq_true.2 (wordsK_all hk),HL.out];rfl)
 clear h hW;generalize (ws.all wordB && decide (lo≤(ws.length:Int)∧(ws.length:Int)≤hi))=T at *;go_enter Tryz.func130,Tryz.ntmps130
 go_wp2
 go_loop [7] (fun i=>∃ k:Nat,k≤n∧i = .int .i64 k∧Hid (wordsK ws k)) (fun i=>n - (intOf i).toNat)
 case atStart=>exact ⟨0,Nat.zero_le _,rfl,uH (fun i hi=>by omega)⟩
 case round =>
  obtain ⟨k,hk,rfl,HK⟩:=hrel;by_cases hlt:k < n
  ·obtain ⟨b,off,rfl,hbB,c0⟩:=H.out.at_ hlt;have hkl:k < ws.length:=(by rw [HL.out];exact hlt);have HWv:Hid (Calls Tryz.prog 135 #[.string (mkStr (wdAt ws k))] w fun e w'=>e = .returned (.bool (wordB (wdAt ws k)))∧w=w'):=uH (by
    have:=specWordValid (mkStr (wdAt ws k)) w (by rw [mkStr_size];exact HS.out _ (wdAt_mem hkl));rw [mkStr_data] at this;exact this)
   have HN:=uH (HNo.out _ (wdAt_mem hkl));have HKs:=uH (fun h=>wordsK_succ (k:=k) HK.out h);have i1:(0:Int)≤(k:Int):=(by omega);have i2:(k:Int) < (n:Int):=(by omega);clear hkl;generalize wdAt ws k=x at *;cases hw:wordB x with
   | false =>
    rw [hw] at HWv;have HF:=uH (HN.out hw);clear hw;(go_wp2_with fail);refine HWv.out.mono ?_;rintro e w1 ⟨rfl,rfl⟩;go_wp2;go_ret;exact ⟨ret_bool HF.out.symm,rfl⟩
   | true =>
    rw [hw] at HWv;have HF:=uH (HKs.out hw);clear hw;(go_wp2_with fail);refine HWv.out.mono ?_;rintro e w1 ⟨rfl,rfl⟩;go_wp2
    go_round
    case rel=>exact ⟨k+1,by omega,by go_num,HF⟩
    case measure=>simp [intOf] <;> omega
  ·obtain rfl:k=n:=(by omega);have HF:=uH (HY.out HK.out);(go_wp2_with fail);refine (l6In_any _ _ _ _).mono ?_;rintro e w1 ⟨rfl,rfl⟩;go_wp2;go_ret;exact ⟨ret_bool (by rw [HF.out];exact (Bool.decide_and _ _).symm),rfl⟩
theorem specSpeechValid (A:Option Addr) (n c:Nat) (ws:List Wd) (w:World) (hW : ∀ l∈ws,l.length≤maxLen) (h:WdsIn w w.heap.size A n c ws) :
  Calls Tryz.prog 70 #[.slice A n c] w fun e w'=>e = .returned (.bool (spB ws))∧w=w':=by
 have HL:=uH (l4Words A n c ws 0 20 w hW h);have HE:Hid ((ws.all wordB && decide ((0:Int)≤(ws.length:Int)∧(ws.length:Int)≤20))=spB ws):=uH (by
  unfold spB;congr 1
  exact decide_eq_decide.2 ⟨fun h=>by omega,fun h=>by omega⟩)
 clear h;rw [HE.out] at HL;go_enter Tryz.func70,Tryz.ntmps70
 (go_wp2_with fail);refine HL.out.mono ?_;rintro e w1 ⟨rfl,rfl⟩;go_wp2;go_ret;exact ⟨rfl,rfl⟩
theorem implSpeechValid (A:Option Addr) (n c:Nat) (ws:List Wd) (w:World) (hW : ∀ l∈ws,l.length≤maxLen) (h:WdsIn w w.heap.size A n c ws) :
  Calls Tryz.prog 66 #[.slice A n c] w fun e w'=>e = .returned (.bool (spB ws))∧w=w':=by
 have hm:=h.2.2.1;have hnc:=h.2.1;unfold maxLen at hm;have HL:=uH h.1;have H:=uH h;have HS:=uH hW;by_cases h20:20 < n
 ·have HR:Hid (spB ws=false):=uH (spB_long (by rw [HL.out];exact h20));clear h hW;go_enter Tryz.func66,Tryz.ntmps66
  go_wp2;go_ret;exact ⟨ret_bool HR.out.symm,rfl⟩
 have HNo:Hid (∀ l∈ws,wordB l=false→spB ws=false):=uH (fun l hl hn=>spB_no hl hn);have HY:Hid (wordsK ws n→spB ws=true):=uH (fun hk=>spB_iff.2 ⟨wordsK_all (by rw [HL.out];exact hk),by rw [HL.out];omega⟩);clear h hW;generalize spB ws=T at *;go_enter Tryz.func66,Tryz.ntmps66
 go_wp2
 go_loop [10] (fun i=>∃ k:Nat,k≤n∧i = .int .i64 k∧Hid (wordsK ws k)) (fun i=>n - (intOf i).toNat)
 case atStart=>exact ⟨0,Nat.zero_le _,rfl,uH (fun i hi=>by omega)⟩
 case round =>
  obtain ⟨k,hk,rfl,HK⟩:=hrel;by_cases hlt:k < n
  ·obtain ⟨b,off,rfl,hbB,c0⟩:=H.out.at_ hlt;have hkl:k < ws.length:=(by rw [HL.out];exact hlt);have HWv:Hid (Calls Tryz.prog 129 #[.string (mkStr (wdAt ws k))] w fun e w'=>e = .returned (.bool (wordB (wdAt ws k)))∧w=w'):=uH (by
    have:=implWordValid (mkStr (wdAt ws k)) w (by rw [mkStr_size];exact HS.out _ (wdAt_mem hkl));rw [mkStr_data] at this;exact this)
   have HN:=uH (HNo.out _ (wdAt_mem hkl));have HKs:=uH (fun h=>wordsK_succ (k:=k) HK.out h);have i1:(0:Int)≤(k:Int):=(by omega);have i2:(k:Int) < (n:Int):=(by omega);clear hkl;generalize wdAt ws k=x at *;cases hw:wordB x with
   | false =>
    rw [hw] at HWv;have HF:=uH (HN.out hw);clear hw;(go_wp2_with fail);refine HWv.out.mono ?_;rintro e w1 ⟨rfl,rfl⟩;go_wp2;go_ret;exact ⟨ret_bool HF.out.symm,rfl⟩
   | true =>
    rw [hw] at HWv;have HF:=uH (HKs.out hw);clear hw;(go_wp2_with fail);refine HWv.out.mono ?_;rintro e w1 ⟨rfl,rfl⟩;go_wp2
    go_round
    case rel=>exact ⟨k+1,by omega,by go_num,HF⟩
    case measure=>simp [intOf] <;> omega
  ·obtain rfl:k=n:=(by omega);have HF:=uH (HY.out HK.out);go_wp2;go_ret;exact ⟨ret_bool HF.out.symm,rfl⟩
def rowA (a b:List Wd) (i:Nat):Array Value:=((List.range (b.length+1)).map fun j=>Value.int .i64 ((dst (a.drop i) (b.drop j):Nat):Int)).toArray
theorem rowA_get {a b:List Wd} {i j:Nat} (hj:j≤b.length):(rowA a b i)[j]? = some (.int .i64 ((dst (a.drop i) (b.drop j):Nat):Int)):=by
 unfold rowA;rw [List.getElem?_toArray,List.getElem?_map,List.getElem?_range (by omega)];rfl
theorem rowA_size (a b:List Wd) (i:Nat):(rowA a b i).size=b.length+1:=by unfold rowA;simp
theorem rowA_of {a b:List Wd} {i:Nat} {cs:Array Value} (hs:cs.size=b.length+1) (h : ∀ j,j≤b.length→cs[j]? = some (.int .i64 ((dst (a.drop i) (b.drop j):Nat):Int))):cs=rowA a b i:=by
 apply Array.ext_getElem?;intro j;by_cases hj:j≤b.length
 ·rw [h j hj,rowA_get hj]
 ·rw [Array.getElem?_eq_none (by omega),Array.getElem?_eq_none (by rw [rowA_size];omega)]
def RowsD (w:World) (g:Nat) (a b:List Wd) (rb:Nat→Nat) (arr:Array Value) (k:Nat):Prop :=
 arr.size=a.length+1∧∀ i,k≤i→i≤a.length→arr[i]? = some (.slice (some ⟨rb i,0,none⟩) (b.length+1) (b.length+1))∧g < rb i∧Blk w (rb i) 3 (rowA a b i)
theorem RowsD.below {w w':World} {g k:Nat} {a b:List Wd} {rb:Nat→Nat} {arr:Array Value} (h:RowsD w g a b rb arr k) (hb:Below w.heap.size w w'):RowsD w' g a b rb arr k :=
 ⟨h.1,fun i h1 h2=>by obtain ⟨q1,q2,q3⟩:=h.2 i h1 h2;exact ⟨q1,q2,q3.below hb⟩⟩
theorem RowsD.far {w:World} {g k:Nat} {a b:List Wd} {rb:Nat→Nat} {arr:Array Value} (h:RowsD w g a b rb arr k) {p:Addr} (hp : ∀ i,k≤i→i≤a.length→rb i≠p.block) (u:Value):RowsD (w.setCell p u) g a b rb arr k :=
 ⟨h.1,fun i h1 h2=>by obtain ⟨q1,q2,q3⟩:=h.2 i h1 h2;exact ⟨q1,q2,q3.far (hp i h1 h2) u⟩⟩
def TabIn (w:World) (B:Nat) (v:Value) (a b:List Wd):Prop :=
 ∃ (g:Nat) (rb:Nat→Nat),v = .slice (some ⟨g,0,none⟩) (a.length+1) (a.length+1)∧B≤g∧g < w.heap.size∧∀ i,i≤a.length→w.cell? ⟨g,i,none⟩=some (.slice (some ⟨rb i,0,none⟩) (b.length+1) (b.length+1))∧g < rb i∧rb i < w.heap.size ∧
  ∀ j,j≤b.length→w.cell? ⟨rb i,j,none⟩=some (.int .i64 ((dst (a.drop i) (b.drop j):Nat):Int))
theorem drop_wd {a:List Wd} {i:Nat} (h:i < a.length):a.drop i=wdAt a i::a.drop (i+1):=by
 rw [List.drop_eq_getElem_cons h];congr 1
 have:=wdAt_some h;rw [List.getElem?_eq_getElem h] at this;injection this
theorem dst_at {a b:List Wd} {i j:Nat} (hi:i < a.length) (hj:j < b.length) :
  dst (a.drop i) (b.drop j)=if wdAt a i=wdAt b j then dst (a.drop (i+1)) (b.drop (j+1)) else 1+min (dst (a.drop (i+1)) (b.drop j)) (dst (a.drop i) (b.drop (j+1))):=by
 rw [drop_wd hi,drop_wd hj,dst_cons]
theorem dst_ai {a b:List Wd} (j:Nat):dst (a.drop a.length) (b.drop j)=b.length - j:=by rw [List.drop_length,dst_nil,List.length_drop]
theorem dst_bj {a b:List Wd} (i:Nat):dst (a.drop i) (b.drop b.length)=a.length - i:=by rw [List.drop_length,dst_nil',List.length_drop]
theorem dst_40 {a b:List Wd} (i j:Nat):dst (a.drop i) (b.drop j)≤a.length+b.length:=by
 have:=dst_le (a.drop i) (b.drop j);rw [List.length_drop,List.length_drop] at this;omega
theorem infoIs:(Tryz.prog.info? 105).map (fun i=>(i.zero,i.size,i.bytes))=some (some (.slice none 0 0),1,24):=by kernel_rfl
set_option maxHeartbeats 3200000 in
theorem implFarTable (A:Option Addr) (n c:Nat) (a:List Wd) (A':Option Addr) (n' c':Nat) (b:List Wd) (w:World) (h20:n≤20) (h20':n'≤20) (h:WdsIn w w.heap.size A n c a) (h':WdsIn w w.heap.size A' n' c' b) :
  Calls Tryz.prog 67 #[.slice A n c,.slice A' n' c'] w fun e w'=>(∃ v,e = .returned v∧TabIn w' w.heap.size v a b)∧Below w.heap.size w w':=by
 have HL:=uH h.1;have HL':=uH h'.1;have H:=uH h;have H':=uH h';clear h h';obtain ⟨i0,hi,hz0,hz1,hz2⟩:=info_parts infoIs;obtain ⟨j0,hj,hy0,hy1,hy2⟩:=info_parts infoInt;have hmk:=fun W=>run_make_rowN (P:=Tryz.prog) 113 105 i0 _ Tryz.underlying113 hi hz0 .i64 .i64 (n+1) (n+1) (Nat.le_refl _) (by rw [hz2];omega) (by omega) W;have hmk':=fun W=>run_make_rowN (P:=Tryz.prog) 105 3 j0 _ Tryz.underlying105 hj hy0 .i64 .i64 (n'+1) (n'+1) (Nat.le_refl _) (by rw [hy2];omega) (by omega) W;rw [hz1] at hmk;rw [hy1] at hmk';simp only [Int.natCast_add,Int.natCast_one] at hmk hmk';have hw1:IntKind.i64.wrap ((n:Int)+1)=(n:Int)+1:=IntWalk.i64_in _ (by omega);have hw2:IntKind.i64.wrap ((n':Int)+1)=(n':Int)+1:=IntWalk.i64_in _ (by omega);go_enter Tryz.func67,Tryz.ntmps67
 go_wp2;go_loopw [6] (fun s6 wr=>∃ (k:Nat) (arr:Array Value) (rb:Nat→Nat),k≤n+1∧s6 = .int .i64 ((k:Int) - 1)∧Hid (Blk wr w.heap.size 105 arr)∧Hid (RowsD wr w.heap.size a b rb arr k)∧Below w.heap.size w wr) (fun s6 _=>(intOf s6+1).toNat)
 case atStart=>exact ⟨n+1,_,fun _=>0,Nat.le_refl _,by go_num,uH (Blk.new _ _ _),uH ⟨by rw [madeCells_size,HL.out],fun i h1 h2=>by rw [HL.out] at h2;omega⟩,(Below.refl _ _).alloc (Nat.le_refl _) _⟩
 case round =>
  obtain ⟨k,arr,rb,hk,rfl,hB,hD,hb⟩:=hrel;have hz:=hb.size;have hzg:=hB.out.lt;cases k with
  | zero =>
   have hT:Hid (TabIn wr w.heap.size (.slice (some ⟨w.heap.size,0,none⟩) (n+1) (n+1)) a b):=uH (by
    refine ⟨w.heap.size,rb,by rw [HL.out],Nat.le_refl _,hzg,fun i hi=>?_⟩;obtain ⟨q1,q2,q3⟩:=hD.out.2 i (Nat.zero_le _) hi;exact ⟨(hB.out.cell i).trans q1,q2,q3.lt,fun j hj=>(q3.cell j).trans (rowA_get hj)⟩)
   clear hB hD;go_wp2;go_ret;exact ⟨⟨_,rfl,hT.out⟩,hb⟩
  | succ i =>
   have hI:(((i+1:Nat):Int) - 1)=(i:Int):=(by omega);rw [hI];have hin:i≤n:=(by omega);have i1:(0:Int)≤(i:Int):=(by omega);have i2:(i:Int) < (n:Int)+1:=(by omega);have hia:i < arr.size:=(by rw [hD.out.1,HL.out];omega);obtain ⟨u0,hu0⟩ : ∃ u,arr[i]? = some u:=⟨_,Array.getElem?_eq_getElem hia⟩;have t0:=(hB.out.cell i).trans hu0;have tf:=hB.out.free i;have hal:Below wr.heap.size wr (wr.alloc (.cells (madeCells (Value.int .i64 0).cells ((n'+1) * 1)) 3)):=(Below.refl _ _).alloc (Nat.le_refl _) _;have t0':=kcell hal t0;have tf':=kfree hal t0 tf;have HB1:Hid (Blk ((wr.setCell ⟨w.heap.size,i,none⟩ (.slice (some ⟨wr.heap.size,0,none⟩) (n'+1) (n'+1))).alloc (.cells (madeCells #[Value.int .i64 0] (n'+1)) 3)) w.heap.size 105 (arr.setIfInBounds i (.slice (some ⟨wr.heap.size,0,none⟩) (n'+1) (n'+1)))):=uH ((hB.out.set i _).alloc _);have HR1:Hid (Blk ((wr.setCell ⟨w.heap.size,i,none⟩ (.slice (some ⟨wr.heap.size,0,none⟩) (n'+1) (n'+1))).alloc (.cells (madeCells #[Value.int .i64 0] (n'+1)) 3)) wr.heap.size 3 (madeCells #[Value.int .i64 0] (n'+1))):=uH (by
    have h0:=Blk.new (wr.setCell ⟨w.heap.size,i,none⟩ (.slice (some ⟨wr.heap.size,0,none⟩) (n'+1) (n'+1))) 3 (madeCells #[Value.int .i64 0] (n'+1));rw [World.size_setCell] at h0;exact h0)
   have HD1:Hid (RowsD ((wr.setCell ⟨w.heap.size,i,none⟩ (.slice (some ⟨wr.heap.size,0,none⟩) (n'+1) (n'+1))).alloc (.cells (madeCells #[Value.int .i64 0] (n'+1)) 3)) w.heap.size a b (fun q=>if q=i then wr.heap.size else rb q) (arr.setIfInBounds i (.slice (some ⟨wr.heap.size,0,none⟩) (n'+1) (n'+1))) (i+1)):=uH (by
    refine ⟨by rw [Array.size_setIfInBounds];exact hD.out.1,fun q h1 h2=>?_⟩;obtain ⟨q1,q2,q3⟩:=hD.out.2 q h1 h2;dsimp only;rw [if_neg (by omega),Array.getElem?_setIfInBounds_ne (by omega)];exact ⟨q1,q2,(q3.far (by simp;omega) _).alloc _⟩)
   have b1:=(hb.setCell (p:=⟨w.heap.size,i,none⟩) (Nat.le_refl _) (.slice (some ⟨wr.heap.size,0,none⟩) (n'+1) (n'+1))).alloc (by simp;omega) (.cells (madeCells #[Value.int .i64 0] (n'+1)) 3);have hri : ∀ q,i+1≤q→q≤a.length→(fun q=>if q=i then wr.heap.size else rb q) q≠wr.heap.size:=fun q h1 h2=>by
    obtain ⟨q1,q2,q3⟩:=hD.out.2 q h1 h2;have:=q3.lt
    show (if q=i then wr.heap.size else rb q)≠wr.heap.size
    rw [if_neg (by omega)];omega
   have HRi:=uH hri;have hri0:(fun q=>if q=i then wr.heap.size else rb q) i=wr.heap.size:=if_pos rfl;have HR0:=uH hri0;have hsc:=madeCells_size;have HSz:Hid ((madeCells #[Value.int .i64 0] (n'+1)).size=n'+1):=uH (madeCells_size _ _);generalize (fun q=>if q=i then wr.heap.size else rb q)=rb1 at *;clear hu0 hB hD hri hri0 hal;have HA1:Hid ((arr.setIfInBounds i (.slice (some ⟨wr.heap.size,0,none⟩) (n'+1) (n'+1)))[i]? = some (.slice (some ⟨wr.heap.size,0,none⟩) (n'+1) (n'+1))):=uH (by rw [Array.getElem?_setIfInBounds_self_of_lt (by omega)]);clear hia;go_wp2;generalize arr.setIfInBounds i (.slice (some ⟨wr.heap.size,0,none⟩) (n'+1) (n'+1))=arr1 at *;have hr2:=HR1.out.lt;clear t0 t0' tf tf' hsc;generalize hW1:((wr.setCell ⟨w.heap.size,i,none⟩ (.slice (some ⟨wr.heap.size,0,none⟩) (n'+1) (n'+1))).alloc (.cells (madeCells #[Value.int .i64 0] (n'+1)) 3))=W1 at *;clear hW1;clear hmk hmk' hb hz hI;generalize wr.heap.size=r at *;generalize madeCells #[Value.int .i64 0] (n'+1)=cs0 at *;have hzW:w.heap.size≤r:=Nat.le_of_lt hzg;have HC0:Hid (∀ j,n'+1≤j→j≤n'→cs0[j]? = some (.int .i64 ((dst (a.drop i) (b.drop j):Nat):Int))):=uH (fun j h1 h2=>by omega);go_loopw [7] (fun s7 wv=>∃ (q:Nat) (cs:Array Value),q≤n'+1∧s7 = .int .i64 ((q:Int) - 1)∧Hid (cs.size=n'+1)∧Hid (∀ j,q≤j→j≤n'→cs[j]? = some (.int .i64 ((dst (a.drop i) (b.drop j):Nat):Int)))∧Hid (Blk wv r 3 cs)∧Hid (Blk wv w.heap.size 105 arr1)∧Hid (RowsD wv w.heap.size a b rb1 arr1 (i+1))∧Below w.heap.size w wv) (fun s7 _=>(intOf s7+1).toNat)
   case atStart=>exact ⟨n'+1,cs0,Nat.le_refl _,by go_num,HSz,HC0,HR1,HB1,HD1,b1⟩
   case round =>
    obtain ⟨q,cs,hq,rfl,hS,hC,hR,hB,hD,hb⟩:=hrel;cases q with
    | zero =>
     have HD2:Hid (RowsD wr w.heap.size a b rb1 arr1 i):=uH (by
      refine ⟨hD.out.1,fun q h1 h2=>?_⟩;by_cases e:q=i
      ·subst e;rw [HR0.out];rw [HL'.out];refine ⟨HA1.out,hzg,?_⟩;rw [← rowA_of (by rw [HL'.out];exact hS.out) (fun j hj=>hC.out j (Nat.zero_le _) (by rw [HL'.out] at hj;exact hj))];exact hR.out
      ·exact hD.out.2 q (by omega) h2)
     clear hC hR hD hS;go_wp2;go_roundw
     case rel=>exact ⟨i,arr1,rb1,by omega,by go_num,hB,HD2,hb⟩
     case measure=>simp [intOf] <;> omega
    | succ j =>
     have hJ:(((j+1:Nat):Int) - 1)=(j:Int):=(by omega);rw [hJ];clear hJ;have hjn:j≤n':=(by omega);have j1:(0:Int)≤(j:Int):=(by omega);have j2:(j:Int) < (n':Int)+1:=(by omega);have tI:wr.cell? ⟨w.heap.size,i,none⟩=some (.slice (some ⟨r,0,none⟩) (n'+1) (n'+1)):=(hB.out.cell i).trans HA1.out;obtain ⟨u0,hu0⟩ : ∃ u,cs[j]? = some u:=⟨_,Array.getElem?_eq_getElem (by rw [hS.out];omega)⟩;have rJ:wr.cell? ⟨r,j,none⟩=some u0:=(hR.out.cell j).trans hu0;have rF:=hR.out.free j;have HNext:Hid (∀ x:Int,((dst (a.drop i) (b.drop j):Nat):Int)=x→(cs.setIfInBounds j (.int .i64 x)).size=n'+1∧∀ k,j≤k→k≤n'→(cs.setIfInBounds j (.int .i64 x))[k]? = some (.int .i64 ((dst (a.drop i) (b.drop k):Nat):Int))):=uH (fun x hx=>by
      refine ⟨by rw [Array.size_setIfInBounds];exact hS.out,fun k h1 h2=>?_⟩;by_cases e:k=j
      ·subst e;rw [Array.getElem?_setIfInBounds_self_of_lt (by rw [hS.out];omega),hx]
      ·rw [Array.getElem?_setIfInBounds_ne (by omega)];exact hC.out k (by omega) h2)
     have HSet:Hid (∀ (W:World) (x:Value),Below wr.heap.size wr W→Blk (W.setCell ⟨r,j,none⟩ x) r 3 (cs.setIfInBounds j x)∧Blk (W.setCell ⟨r,j,none⟩ x) w.heap.size 105 arr1∧RowsD (W.setCell ⟨r,j,none⟩ x) w.heap.size a b rb1 arr1 (i+1)∧Below w.heap.size w (W.setCell ⟨r,j,none⟩ x)):=uH (fun W x hW=>⟨(hR.out.below hW).set j x,(hB.out.below hW).far (by simp;omega) x,(hD.out.below hW).far (fun k h1 h2=>HRi.out k h1 h2) x,(below_next hb hW).setCell hzW x⟩);have b0:Below wr.heap.size wr wr:=Below.refl _ _;by_cases hin2:i=n
     ·have HV:Hid (((dst (a.drop i) (b.drop j):Nat):Int)=(n':Int) - (j:Int)):=uH (by
       rw [hin2,← HL.out,dst_ai,HL'.out];omega)
      have e0:((i:Int) == (n:Int))=true:=(by rw [hin2];simp);obtain ⟨s1,s2,s3,s4⟩:=HSet.out wr (.int .i64 ((n':Int) - (j:Int))) b0;have S1:=uH s1;have S2:=uH s2;have S3:=uH s3;have S4:=uH s4;have HN:=uH (HNext.out _ HV.out);clear s1 s2 s3 s4 HNext HSet hu0 hC hR hB hD hb b0 hin2;go_wp2;go_roundw
      case rel=>exact ⟨j,_,by omega,by go_num,uH HN.out.1,uH HN.out.2,S1,S2,S3,S4.out⟩
      case measure=>simp [intOf] <;> omega
     ·have e0:((i:Int) == (n:Int))=false:=(by simp;omega);by_cases hjn2:j=n'
      ·have HV:Hid (((dst (a.drop i) (b.drop j):Nat):Int)=(n:Int) - (i:Int)):=uH (by
        rw [hjn2,← HL'.out,dst_bj,HL.out];omega)
       have e1:((j:Int) == (n':Int))=true:=(by rw [hjn2];simp);obtain ⟨s1,s2,s3,s4⟩:=HSet.out wr (.int .i64 ((n:Int) - (i:Int))) b0;have S1:=uH s1;have S2:=uH s2;have S3:=uH s3;have S4:=uH s4;have HN:=uH (HNext.out _ HV.out);clear s1 s2 s3 s4 HNext HSet hu0 hC hR hB hD hb b0 hin2 hjn2;go_wp2;go_roundw
       case rel=>exact ⟨j,_,by omega,by go_num,uH HN.out.1,uH HN.out.2,S1,S2,S3,S4.out⟩
       case measure=>simp [intOf] <;> omega
      ·have e1:((j:Int) == (n':Int))=false:=(by simp;omega);have hi3:i < n:=(by omega);have hj3:j < n':=(by omega);have i3:(i:Int) < (n:Int):=(by omega);have j3:(j:Int) < (n':Int):=(by omega);have i4:(i:Int)+1 < (n:Int)+1:=(by omega);have j4:(j:Int)+1 < (n':Int)+1:=(by omega);have HDst:=uH (dst_at (a:=a) (b:=b) (i:=i) (j:=j) (by rw [HL.out];exact hi3) (by rw [HL'.out];exact hj3));obtain ⟨p1,p2,p3⟩:=hD.out.2 (i+1) (Nat.le_refl _) (by rw [HL.out];omega);rw [HL'.out] at p1;have tI1:wr.cell? ⟨w.heap.size,i+1,none⟩=some (.slice (some ⟨rb1 (i+1),0,none⟩) (n'+1) (n'+1)):=(hB.out.cell (i+1)).trans p1;have v11:wr.cell? ⟨rb1 (i+1),j+1,none⟩=some (.int .i64 ((dst (a.drop (i+1)) (b.drop (j+1)):Nat):Int)):=(p3.cell _).trans (rowA_get (by rw [HL'.out];omega));have v10:wr.cell? ⟨rb1 (i+1),j,none⟩=some (.int .i64 ((dst (a.drop (i+1)) (b.drop j):Nat):Int)):=(p3.cell _).trans (rowA_get (by rw [HL'.out];omega));have v01:wr.cell? ⟨r,j+1,none⟩=some (.int .i64 ((dst (a.drop i) (b.drop (j+1)):Nat):Int)):=(hR.out.cell _).trans (hC.out (j+1) (Nat.le_refl _) (by omega));have hne:rb1 (i+1)≠r:=HRi.out (i+1) (Nat.le_refl _) (by rw [HL.out];omega);have d10:=dst_40 (a:=a) (b:=b) (i+1) j;have d01:=dst_40 (a:=a) (b:=b) i (j+1);rw [HL.out,HL'.out] at d10 d01;obtain ⟨bA,oA,rfl,hbA,cA⟩:=(H.out.keep hb).at_ hi3;obtain ⟨bB,oB,rfl,hbB,cB⟩:=(H'.out.keep hb).at_ hj3;have hq1:=beq_str (mkStr (wdAt b j)) (wdAt a i) (wdAt b j) rfl;have qA:=qcell cA;have qB:=qcell cB;clear p1 p2 p3 hu0 hin2 hjn2;generalize mkStr (wdAt a i)=sA at *;generalize mkStr (wdAt b j)=sB at *;generalize dst (a.drop (i+1)) (b.drop (j+1))=D11 at *;generalize dst (a.drop (i+1)) (b.drop j)=D10 at *;generalize dst (a.drop i) (b.drop (j+1))=D01 at *;generalize dst (a.drop i) (b.drop j)=D00 at *;by_cases hww:wdAt a i=wdAt b j
       ·rw [decide_eq_true hww] at hq1;have HV:Hid ((D00:Int)=(D11:Int)):=uH (by rw [HDst.out,if_pos hww]);clear hww HDst;(go_wp2_with fail);refine region_qb (by kernel_rfl) (by kernel_rfl) ?_;repeat (first | go_big_quiet_step (fail) | quiet_step (fail))
        refine wpQuiet_nil ?_;intro w5 hb5;have t0:=kcell hb5 tI;have t1:=kcell hb5 tI1;have x11:=kcell hb5 v11;have y0:=kcell hb5 rJ;have yf:=kfree hb5 rJ rF;obtain ⟨s1,s2,s3,s4⟩:=HSet.out w5 (.int .i64 (D11:Int)) hb5;have S1:=uH s1;have S2:=uH s2;have S3:=uH s3;have S4:=uH s4;have HN:=uH (HNext.out _ HV.out);clear s1 s2 s3 s4 HNext HSet hC hR hB hD hb b0 hb5 qA qB cA cB tI tI1 v11 v10 v01 rJ rF;(go_wp2_with fail);go_region
        all_goals
         go_wp2;go_roundw
         case rel=>exact ⟨j,_,by omega,by go_num,uH HN.out.1,uH HN.out.2,uH S1.out,uH S2.out,uH S3.out,S4.out.drew⟩
         case measure=>simp [intOf] <;> omega
       ·rw [decide_eq_false hww] at hq1;have HV:Hid ((D00:Int)=1+(if D01 < D10 then (D01:Int) else (D10:Int))):=uH (by rw [HDst.out,if_neg hww];split <;> omega)
        have hmn:min (D10:Int) (D01:Int)≤40:=(by omega);have HME:Hid (min (D10:Int) (D01:Int)=(if D01 < D10 then (D01:Int) else (D10:Int))):=uH (by split <;> omega)
        have hmp:0≤min (D10:Int) (D01:Int):=(by omega);clear hww HDst;(go_wp2_with fail);refine region_qb (by kernel_rfl) (by kernel_rfl) ?_;repeat (first | go_big_quiet_step (fail) | quiet_step (fail))
        refine wpQuiet_nil ?_;intro w5 hb5;have t0:=kcell hb5 tI;have t1:=kcell hb5 tI1;have x10:=kcell hb5 v10;have x01:=kcell hb5 v01;have y0:=kcell hb5 rJ;have yf:=kfree hb5 rJ rF;obtain ⟨s1,s2,s3,s4⟩:=HSet.out w5 (.int .i64 (1+(if D01 < D10 then (D01:Int) else (D10:Int)))) hb5;have S1:=uH s1;have S2:=uH s2;have S3:=uH s3;have S4:=uH s4;have HN:=uH (HNext.out _ HV.out);clear s1 s2 s3 s4 HNext HSet hC hR hB hD hb b0 hb5 qA qB cA cB tI tI1 v11 v10 v01 rJ rF;(go_wp2_with fail);go_region
        all_goals
         go_wp2;go_roundw
         case rel=>first | exact ⟨j,_,by omega,by go_num,uH HN.out.1,uH HN.out.2,uH S1.out,uH S2.out,uH S3.out,S4.out.drew⟩ | (rw [HME.out];exact ⟨j,_,by omega,by go_num,uH HN.out.1,uH HN.out.2,uH S1.out,uH S2.out,uH S3.out,S4.out.drew⟩)
         case measure=>simp [intOf] <;> omega
set_option maxHeartbeats 3200000 in
theorem specSizes (A:Option Addr) (n c:Nat) (a:List Wd) (A':Option Addr) (n' c':Nat) (b:List Wd) (w:World) (h20:n≤20) (h20':n'≤20) (h:WdsIn w w.heap.size A n c a) (h':WdsIn w w.heap.size A' n' c' b) :
  Calls Tryz.prog 71 #[.slice A n c,.slice A' n' c'] w fun e w'=>(∃ v,e = .returned v∧TabIn w' w.heap.size v a b)∧Below w.heap.size w w':=by
 have HL:=uH h.1;have HL':=uH h'.1;have H:=uH h;have H':=uH h';clear h h';obtain ⟨i0,hi,hz0,hz1,hz2⟩:=info_parts infoIs;obtain ⟨j0,hj,hy0,hy1,hy2⟩:=info_parts infoInt;have hmk:=fun W=>run_make_rowN (P:=Tryz.prog) 113 105 i0 _ Tryz.underlying113 hi hz0 .i64 .i64 (n+1) (n+1) (Nat.le_refl _) (by rw [hz2];omega) (by omega) W;have hmk':=fun W=>run_make_rowN (P:=Tryz.prog) 105 3 j0 _ Tryz.underlying105 hj hy0 .i64 .i64 (n'+1) (n'+1) (Nat.le_refl _) (by rw [hy2];omega) (by omega) W;rw [hz1] at hmk;rw [hy1] at hmk';simp only [Int.natCast_add,Int.natCast_one] at hmk hmk';have hw1:IntKind.i64.wrap ((n:Int)+1)=(n:Int)+1:=IntWalk.i64_in _ (by omega);have hw2:IntKind.i64.wrap ((n':Int)+1)=(n':Int)+1:=IntWalk.i64_in _ (by omega);go_enter Tryz.func71,Tryz.ntmps71
 go_wp2;go_loopw [6] (fun s6 wr=>∃ (k:Nat) (arr:Array Value) (rb:Nat→Nat),k≤n+1∧s6 = .int .i64 ((k:Int) - 1)∧Hid (Blk wr w.heap.size 105 arr)∧Hid (RowsD wr w.heap.size a b rb arr k)∧Below w.heap.size w wr) (fun s6 _=>(intOf s6+1).toNat)
 case atStart=>exact ⟨n+1,_,fun _=>0,Nat.le_refl _,by go_num,uH (Blk.new _ _ _),uH ⟨by rw [madeCells_size,HL.out],fun i h1 h2=>by rw [HL.out] at h2;omega⟩,(Below.refl _ _).alloc (Nat.le_refl _) _⟩
 case round =>
  obtain ⟨k,arr,rb,hk,rfl,hB,hD,hb⟩:=hrel;have hz:=hb.size;have hzg:=hB.out.lt;cases k with
  | zero =>
   have hT:Hid (TabIn wr w.heap.size (.slice (some ⟨w.heap.size,0,none⟩) (n+1) (n+1)) a b):=uH (by
    refine ⟨w.heap.size,rb,by rw [HL.out],Nat.le_refl _,hzg,fun i hi=>?_⟩;obtain ⟨q1,q2,q3⟩:=hD.out.2 i (Nat.zero_le _) hi;exact ⟨(hB.out.cell i).trans q1,q2,q3.lt,fun j hj=>(q3.cell j).trans (rowA_get hj)⟩)
   clear hB hD;go_wp2;go_ret;exact ⟨⟨_,rfl,hT.out⟩,hb⟩
  | succ i =>
   have hI:(((i+1:Nat):Int) - 1)=(i:Int):=(by omega);rw [hI];have hin:i≤n:=(by omega);have i1:(0:Int)≤(i:Int):=(by omega);have i2:(i:Int) < (n:Int)+1:=(by omega);have hia:i < arr.size:=(by rw [hD.out.1,HL.out];omega);obtain ⟨u0,hu0⟩ : ∃ u,arr[i]? = some u:=⟨_,Array.getElem?_eq_getElem hia⟩;have t0:=(hB.out.cell i).trans hu0;have tf:=hB.out.free i;have hal:Below wr.heap.size wr (wr.alloc (.cells (madeCells (Value.int .i64 0).cells ((n'+1) * 1)) 3)):=(Below.refl _ _).alloc (Nat.le_refl _) _;have t0':=kcell hal t0;have tf':=kfree hal t0 tf;have HB1:Hid (Blk ((wr.setCell ⟨w.heap.size,i,none⟩ (.slice (some ⟨wr.heap.size,0,none⟩) (n'+1) (n'+1))).alloc (.cells (madeCells #[Value.int .i64 0] (n'+1)) 3)) w.heap.size 105 (arr.setIfInBounds i (.slice (some ⟨wr.heap.size,0,none⟩) (n'+1) (n'+1)))):=uH ((hB.out.set i _).alloc _);have HR1:Hid (Blk ((wr.setCell ⟨w.heap.size,i,none⟩ (.slice (some ⟨wr.heap.size,0,none⟩) (n'+1) (n'+1))).alloc (.cells (madeCells #[Value.int .i64 0] (n'+1)) 3)) wr.heap.size 3 (madeCells #[Value.int .i64 0] (n'+1))):=uH (by
    have h0:=Blk.new (wr.setCell ⟨w.heap.size,i,none⟩ (.slice (some ⟨wr.heap.size,0,none⟩) (n'+1) (n'+1))) 3 (madeCells #[Value.int .i64 0] (n'+1));rw [World.size_setCell] at h0;exact h0)
   have HD1:Hid (RowsD ((wr.setCell ⟨w.heap.size,i,none⟩ (.slice (some ⟨wr.heap.size,0,none⟩) (n'+1) (n'+1))).alloc (.cells (madeCells #[Value.int .i64 0] (n'+1)) 3)) w.heap.size a b (fun q=>if q=i then wr.heap.size else rb q) (arr.setIfInBounds i (.slice (some ⟨wr.heap.size,0,none⟩) (n'+1) (n'+1))) (i+1)):=uH (by
    refine ⟨by rw [Array.size_setIfInBounds];exact hD.out.1,fun q h1 h2=>?_⟩;obtain ⟨q1,q2,q3⟩:=hD.out.2 q h1 h2;dsimp only;rw [if_neg (by omega),Array.getElem?_setIfInBounds_ne (by omega)];exact ⟨q1,q2,(q3.far (by simp;omega) _).alloc _⟩)
   have b1:=(hb.setCell (p:=⟨w.heap.size,i,none⟩) (Nat.le_refl _) (.slice (some ⟨wr.heap.size,0,none⟩) (n'+1) (n'+1))).alloc (by simp;omega) (.cells (madeCells #[Value.int .i64 0] (n'+1)) 3);have hri : ∀ q,i+1≤q→q≤a.length→(fun q=>if q=i then wr.heap.size else rb q) q≠wr.heap.size:=fun q h1 h2=>by
    obtain ⟨q1,q2,q3⟩:=hD.out.2 q h1 h2;have:=q3.lt
    show (if q=i then wr.heap.size else rb q)≠wr.heap.size
    rw [if_neg (by omega)];omega
   have HRi:=uH hri;have hri0:(fun q=>if q=i then wr.heap.size else rb q) i=wr.heap.size:=if_pos rfl;have HR0:=uH hri0;have hsc:=madeCells_size;have HSz:Hid ((madeCells #[Value.int .i64 0] (n'+1)).size=n'+1):=uH (madeCells_size _ _);generalize (fun q=>if q=i then wr.heap.size else rb q)=rb1 at *;clear hu0 hB hD hri hri0 hal;have HA1:Hid ((arr.setIfInBounds i (.slice (some ⟨wr.heap.size,0,none⟩) (n'+1) (n'+1)))[i]? = some (.slice (some ⟨wr.heap.size,0,none⟩) (n'+1) (n'+1))):=uH (by rw [Array.getElem?_setIfInBounds_self_of_lt (by omega)]);clear hia;go_wp2;generalize arr.setIfInBounds i (.slice (some ⟨wr.heap.size,0,none⟩) (n'+1) (n'+1))=arr1 at *;have hr2:=HR1.out.lt;clear t0 t0' tf tf' hsc;generalize hW1:((wr.setCell ⟨w.heap.size,i,none⟩ (.slice (some ⟨wr.heap.size,0,none⟩) (n'+1) (n'+1))).alloc (.cells (madeCells #[Value.int .i64 0] (n'+1)) 3))=W1 at *;clear hW1;clear hmk hmk' hb hz hI;generalize wr.heap.size=r at *;generalize madeCells #[Value.int .i64 0] (n'+1)=cs0 at *;have hzW:w.heap.size≤r:=Nat.le_of_lt hzg;have HC0:Hid (∀ j,n'+1≤j→j≤n'→cs0[j]? = some (.int .i64 ((dst (a.drop i) (b.drop j):Nat):Int))):=uH (fun j h1 h2=>by omega);go_loopw [7] (fun s7 wv=>∃ (q:Nat) (cs:Array Value),q≤n'+1∧s7 = .int .i64 ((q:Int) - 1)∧Hid (cs.size=n'+1)∧Hid (∀ j,q≤j→j≤n'→cs[j]? = some (.int .i64 ((dst (a.drop i) (b.drop j):Nat):Int)))∧Hid (Blk wv r 3 cs)∧Hid (Blk wv w.heap.size 105 arr1)∧Hid (RowsD wv w.heap.size a b rb1 arr1 (i+1))∧Below w.heap.size w wv) (fun s7 _=>(intOf s7+1).toNat)
   case atStart=>exact ⟨n'+1,cs0,Nat.le_refl _,by go_num,HSz,HC0,HR1,HB1,HD1,b1⟩
   case round =>
    obtain ⟨q,cs,hq,rfl,hS,hC,hR,hB,hD,hb⟩:=hrel;cases q with
    | zero =>
     have HD2:Hid (RowsD wr w.heap.size a b rb1 arr1 i):=uH (by
      refine ⟨hD.out.1,fun q h1 h2=>?_⟩;by_cases e:q=i
      ·subst e;rw [HR0.out];rw [HL'.out];refine ⟨HA1.out,hzg,?_⟩;rw [← rowA_of (by rw [HL'.out];exact hS.out) (fun j hj=>hC.out j (Nat.zero_le _) (by rw [HL'.out] at hj;exact hj))];exact hR.out
      ·exact hD.out.2 q (by omega) h2)
     clear hC hR hD hS;go_wp2;go_roundw
     case rel=>exact ⟨i,arr1,rb1,by omega,by go_num,hB,HD2,hb⟩
     case measure=>simp [intOf] <;> omega
    | succ j =>
     have hJ:(((j+1:Nat):Int) - 1)=(j:Int):=(by omega);rw [hJ];clear hJ;have hjn:j≤n':=(by omega);have j1:(0:Int)≤(j:Int):=(by omega);have j2:(j:Int) < (n':Int)+1:=(by omega);have tI:wr.cell? ⟨w.heap.size,i,none⟩=some (.slice (some ⟨r,0,none⟩) (n'+1) (n'+1)):=(hB.out.cell i).trans HA1.out;obtain ⟨u0,hu0⟩ : ∃ u,cs[j]? = some u:=⟨_,Array.getElem?_eq_getElem (by rw [hS.out];omega)⟩;have rJ:wr.cell? ⟨r,j,none⟩=some u0:=(hR.out.cell j).trans hu0;have rF:=hR.out.free j;have HNext:Hid (∀ x:Int,((dst (a.drop i) (b.drop j):Nat):Int)=x→(cs.setIfInBounds j (.int .i64 x)).size=n'+1∧∀ k,j≤k→k≤n'→(cs.setIfInBounds j (.int .i64 x))[k]? = some (.int .i64 ((dst (a.drop i) (b.drop k):Nat):Int))):=uH (fun x hx=>by
      refine ⟨by rw [Array.size_setIfInBounds];exact hS.out,fun k h1 h2=>?_⟩;by_cases e:k=j
      ·subst e;rw [Array.getElem?_setIfInBounds_self_of_lt (by rw [hS.out];omega),hx]
      ·rw [Array.getElem?_setIfInBounds_ne (by omega)];exact hC.out k (by omega) h2)
     have HSet:Hid (∀ (W:World) (x:Value),Below wr.heap.size wr W→Blk (W.setCell ⟨r,j,none⟩ x) r 3 (cs.setIfInBounds j x)∧Blk (W.setCell ⟨r,j,none⟩ x) w.heap.size 105 arr1∧RowsD (W.setCell ⟨r,j,none⟩ x) w.heap.size a b rb1 arr1 (i+1)∧Below w.heap.size w (W.setCell ⟨r,j,none⟩ x)):=uH (fun W x hW=>⟨(hR.out.below hW).set j x,(hB.out.below hW).far (by simp;omega) x,(hD.out.below hW).far (fun k h1 h2=>HRi.out k h1 h2) x,(below_next hb hW).setCell hzW x⟩);have b0:Below wr.heap.size wr wr:=Below.refl _ _;by_cases hin2:i=n
     ·have HV:Hid (((dst (a.drop i) (b.drop j):Nat):Int)=(n':Int) - (j:Int)):=uH (by
       rw [hin2,← HL.out,dst_ai,HL'.out];omega)
      have e0:((i:Int) == (n:Int))=true:=(by rw [hin2];simp);obtain ⟨s1,s2,s3,s4⟩:=HSet.out wr (.int .i64 ((n':Int) - (j:Int))) b0;have S1:=uH s1;have S2:=uH s2;have S3:=uH s3;have S4:=uH s4;have HN:=uH (HNext.out _ HV.out);clear s1 s2 s3 s4 HNext HSet hu0 hC hR hB hD hb b0 hin2;go_wp2;go_roundw
      case rel=>exact ⟨j,_,by omega,by go_num,uH HN.out.1,uH HN.out.2,S1,S2,S3,S4.out⟩
      case measure=>simp [intOf] <;> omega
     ·have e0:((i:Int) == (n:Int))=false:=(by simp;omega);by_cases hjn2:j=n'
      ·have HV:Hid (((dst (a.drop i) (b.drop j):Nat):Int)=(n:Int) - (i:Int)):=uH (by
        rw [hjn2,← HL'.out,dst_bj,HL.out];omega)
       have e1:((j:Int) == (n':Int))=true:=(by rw [hjn2];simp);obtain ⟨s1,s2,s3,s4⟩:=HSet.out wr (.int .i64 ((n:Int) - (i:Int))) b0;have S1:=uH s1;have S2:=uH s2;have S3:=uH s3;have S4:=uH s4;have HN:=uH (HNext.out _ HV.out);clear s1 s2 s3 s4 HNext HSet hu0 hC hR hB hD hb b0 hin2 hjn2;go_wp2;go_roundw
       case rel=>exact ⟨j,_,by omega,by go_num,uH HN.out.1,uH HN.out.2,S1,S2,S3,S4.out⟩
       case measure=>simp [intOf] <;> omega
      ·have e1:((j:Int) == (n':Int))=false:=(by simp;omega);have hi3:i < n:=(by omega);have hj3:j < n':=(by omega);have i3:(i:Int) < (n:Int):=(by omega);have j3:(j:Int) < (n':Int):=(by omega);have i4:(i:Int)+1 < (n:Int)+1:=(by omega);have j4:(j:Int)+1 < (n':Int)+1:=(by omega);have HDst:=uH (dst_at (a:=a) (b:=b) (i:=i) (j:=j) (by rw [HL.out];exact hi3) (by rw [HL'.out];exact hj3));obtain ⟨p1,p2,p3⟩:=hD.out.2 (i+1) (Nat.le_refl _) (by rw [HL.out];omega);rw [HL'.out] at p1;have tI1:wr.cell? ⟨w.heap.size,i+1,none⟩=some (.slice (some ⟨rb1 (i+1),0,none⟩) (n'+1) (n'+1)):=(hB.out.cell (i+1)).trans p1;have v11:wr.cell? ⟨rb1 (i+1),j+1,none⟩=some (.int .i64 ((dst (a.drop (i+1)) (b.drop (j+1)):Nat):Int)):=(p3.cell _).trans (rowA_get (by rw [HL'.out];omega));have v10:wr.cell? ⟨rb1 (i+1),j,none⟩=some (.int .i64 ((dst (a.drop (i+1)) (b.drop j):Nat):Int)):=(p3.cell _).trans (rowA_get (by rw [HL'.out];omega));have v01:wr.cell? ⟨r,j+1,none⟩=some (.int .i64 ((dst (a.drop i) (b.drop (j+1)):Nat):Int)):=(hR.out.cell _).trans (hC.out (j+1) (Nat.le_refl _) (by omega));have hne:rb1 (i+1)≠r:=HRi.out (i+1) (Nat.le_refl _) (by rw [HL.out];omega);have d10:=dst_40 (a:=a) (b:=b) (i+1) j;have d01:=dst_40 (a:=a) (b:=b) i (j+1);rw [HL.out,HL'.out] at d10 d01;obtain ⟨bA,oA,rfl,hbA,cA⟩:=(H.out.keep hb).at_ hi3;obtain ⟨bB,oB,rfl,hbB,cB⟩:=(H'.out.keep hb).at_ hj3;have hq1:=beq_str (mkStr (wdAt b j)) (wdAt a i) (wdAt b j) rfl;have qA:=qcell cA;have qB:=qcell cB;clear p1 p2 p3 hu0 hin2 hjn2;generalize mkStr (wdAt a i)=sA at *;generalize mkStr (wdAt b j)=sB at *;generalize dst (a.drop (i+1)) (b.drop (j+1))=D11 at *;generalize dst (a.drop (i+1)) (b.drop j)=D10 at *;generalize dst (a.drop i) (b.drop (j+1))=D01 at *;generalize dst (a.drop i) (b.drop j)=D00 at *;by_cases hww:wdAt a i=wdAt b j
       ·rw [decide_eq_true hww] at hq1;have HV:Hid ((D00:Int)=(D11:Int)):=uH (by rw [HDst.out,if_pos hww]);clear hww HDst;(go_wp2_with fail);refine region_qb (by kernel_rfl) (by kernel_rfl) ?_;repeat (first | go_big_quiet_step (fail) | quiet_step (fail))
        refine wpQuiet_nil ?_;intro w5 hb5;have t0:=kcell hb5 tI;have t1:=kcell hb5 tI1;have x11:=kcell hb5 v11;have y0:=kcell hb5 rJ;have yf:=kfree hb5 rJ rF;obtain ⟨s1,s2,s3,s4⟩:=HSet.out w5 (.int .i64 (D11:Int)) hb5;have S1:=uH s1;have S2:=uH s2;have S3:=uH s3;have S4:=uH s4;have HN:=uH (HNext.out _ HV.out);clear s1 s2 s3 s4 HNext HSet hC hR hB hD hb b0 hb5 qA qB cA cB tI tI1 v11 v10 v01 rJ rF;(go_wp2_with fail);go_region
        all_goals
         go_wp2;go_roundw
         case rel=>exact ⟨j,_,by omega,by go_num,uH HN.out.1,uH HN.out.2,uH S1.out,uH S2.out,uH S3.out,S4.out.drew⟩
         case measure=>simp [intOf] <;> omega
       ·rw [decide_eq_false hww] at hq1;have HV:Hid ((D00:Int)=1+(if D01 < D10 then (D01:Int) else (D10:Int))):=uH (by rw [HDst.out,if_neg hww];split <;> omega)
        have hmn:min (D10:Int) (D01:Int)≤40:=(by omega);have HME:Hid (min (D10:Int) (D01:Int)=(if D01 < D10 then (D01:Int) else (D10:Int))):=uH (by split <;> omega)
        have hmp:0≤min (D10:Int) (D01:Int):=(by omega);clear hww HDst;(go_wp2_with fail);refine region_qb (by kernel_rfl) (by kernel_rfl) ?_;repeat (first | go_big_quiet_step (fail) | quiet_step (fail))
        refine wpQuiet_nil ?_;intro w5 hb5;have t0:=kcell hb5 tI;have t1:=kcell hb5 tI1;have x10:=kcell hb5 v10;have x01:=kcell hb5 v01;have y0:=kcell hb5 rJ;have yf:=kfree hb5 rJ rF;obtain ⟨s1,s2,s3,s4⟩:=HSet.out w5 (.int .i64 (1+(if D01 < D10 then (D01:Int) else (D10:Int)))) hb5;have S1:=uH s1;have S2:=uH s2;have S3:=uH s3;have S4:=uH s4;have HN:=uH (HNext.out _ HV.out);clear s1 s2 s3 s4 HNext HSet hC hR hB hD hb b0 hb5 qA qB cA cB tI tI1 v11 v10 v01 rJ rF;(go_wp2_with fail);go_region
        all_goals
         go_wp2;go_roundw
         case rel=>first | exact ⟨j,_,by omega,by go_num,uH HN.out.1,uH HN.out.2,uH S1.out,uH S2.out,uH S3.out,S4.out.drew⟩ | (rw [HME.out];exact ⟨j,_,by omega,by go_num,uH HN.out.1,uH HN.out.2,uH S1.out,uH S2.out,uH S3.out,S4.out.drew⟩)
         case measure=>simp [intOf] <;> omega
end Go.Proofs.YtbkhnljaajajiaaGreatDoor
