/-
  Contracts and plain laws that the proofs lean on. Conditions: as each says.
-/
import Derived.Test.YtbkhnljaajajiaaGreatDoorPExecuteCabinet02
import Derived.Test.YtbkhnljaajajiaaGreatDoorPExecuteCabinet03
import Derived.Test.YtbkhnljaajajiaaGreatDoorPX36
set_option maxRecDepth 100000
set_option linter.unusedSimpArgs false
set_option linter.unusedVariables false
set_option linter.unnecessarySimpa false
namespace Go.Proofs.YtbkhnljaajajiaaGreatDoor
open Go.ChangeShapes Go.WideShapes Go.ChangeAt Go.RowKit
theorem joinLn_snoc (r:List Wd) (l:Wd):joinLn (r++[l])=joinLn r++(l++[10]):=by unfold joinLn;simp
theorem joinLn_len {ls:List Wd} {k:Nat} (h : ∀ l∈ls,l.length≤k):(joinLn ls).length≤(k+1) * ls.length:=by
 induction ls with
 | nil=>simp [joinLn]
 | cons x r ih =>
  have h1:=ih (fun l hl=>h l (List.mem_cons_of_mem _ hl));have h2:=h x List.mem_cons_self;rw [joinLn_cons,List.length_append,List.length_cons,List.length_cons,Nat.mul_add];omega
def okN (n:Nat):Wd:=(List.replicate n sayOk).flatten
theorem okN_succ (n:Nat):okN (n+1)=okN n++sayOk:=by unfold okN;rw [List.replicate_succ',List.flatten_append];simp
theorem run_steps {α:Type} (f:α→Wd) (st:List α→St) (xs:List α) (h : ∀ k (hk:k < xs.length),lineS (st (xs.take k)) (cutB 32 (f xs[k]))=(st (xs.take (k+1)),sayOk)) : ∀ k,k≤xs.length→runS (st []) ((xs.take k).map f)=(st (xs.take k),okN k):=by
 intro k;induction k with
 | zero=>intro _;rfl
 | succ k ih =>
  intro hk;have hk':k < xs.length:=(by omega);rw [List.take_succ_eq_append_getElem hk',List.map_append,runS_app,ih (by omega)]
  show ((runS (st (xs.take k)) [f xs[k]]).1,okN k++(runS (st (xs.take k)) [f xs[k]]).2)=_
  rw [runS_one,h k hk',okN_succ,List.take_succ_eq_append_getElem hk']
theorem run_all {α:Type} (f:α→Wd) (st:List α→St) (xs:List α) (h : ∀ k (hk:k < xs.length),lineS (st (xs.take k)) (cutB 32 (f xs[k]))=(st (xs.take (k+1)),sayOk)):runS (st []) (xs.map f)=(st xs,okN xs.length):=by
 have:=run_steps f st xs h xs.length (Nat.le_refl _)
 rwa [List.take_length] at this
theorem ofO_take {ps:List Pad} {css:List (List Pad)} (h:ofO [] ps=some css) (k:Nat) : ∃ c,ofO [] (ps.take k)=some c:=by
 have h2:=h;rw [← List.take_append_drop k ps,ofO_append] at h2;obtain ⟨c,hc,_⟩:=Option.bind_eq_some_iff.1 h2;exact ⟨c,hc⟩
theorem nDigits_le4 {n:Nat} (h:n≤9999):Lib.nDigits n≤4:=by
 rw [Lib.nDigits];split
 ·omega
 rw [Lib.nDigits];split
 ·omega
 rw [Lib.nDigits];split
 ·omega
 rw [Lib.nDigits];split
 ·omega
 ·omega
theorem numV_dec : ∀ n:Nat,numV (Lib.decDigits n)=n:=by
 intro n;induction n using Nat.strongRecOn with
 | ind n ih =>
  by_cases h:n < 10
  ·rw [Lib.decDigits_one h];unfold numV;simp only [List.foldl_cons,List.foldl_nil,UInt8.toNat_ofNat'];omega
  ·rw [dec_step h,numV_snoc,ih (n / 10) (by omega)];simp only [UInt8.toNat_ofNat'];omega
theorem numOf_dec {n:Nat} (h:n≤9999):numOf (Lib.decDigits n)=(n:Int):=by
 unfold numOf;rw [numV_dec,if_pos];unfold numB;rw [Bool.and_eq_true];refine ⟨List.all_eq_true.2 fun c hc=>?_,?_⟩
 ·have:=dec_bytes n c hc;unfold isDig;rw [decide_eq_true_iff];exact this
 ·rw [decide_eq_true_iff,Lib.decDigits_length];refine ⟨?_,nDigits_le4 h⟩;rw [Lib.nDigits];split <;> omega
theorem dec_plain (n:Nat):plainW (Lib.decDigits n):=by
 constructor <;> (intro h;have:=dec_bytes n _ h;revert this;decide)
def fileL (p:Pad):Wd:=cmdL cFile [Lib.decDigits p.day.toNat,p.case.data.toList]
theorem file_some {css c:List (List Pad)} {p:Pad} (h:fileO css p=some c):okP p=true:=by
 by_cases hc:cabOK css∧okP p=true∧findO css p=none
 ·exact hc.2.1
 ·rw [fileO_no hc] at h;cases h
theorem file_plain {p:Pad} (h:okP p=true) : ∀ l∈[Lib.decDigits p.day.toNat,p.case.data.toList],plainW l:=fun l hl=>by
 simp only [List.mem_cons,List.not_mem_nil,or_false] at hl;rcases hl with rfl | rfl
 ·exact dec_plain _
 ·unfold okP padB at h;rw [Bool.and_eq_true] at h;exact word_plain h.2
theorem file_line {s:St} {p:Pad} {c:List (List Pad)} (h:fileO s.cab p=some c):lineS s (cutB 32 (fileL p))=({ s with cab:=c },sayOk):=by
 have ho:=file_some h;obtain ⟨h0,h1,_⟩:=ok_case ho;unfold fileL;rw [cmdL_cut (by decide) (file_plain ho),line_file (by rfl)];have e:(⟨numOf (wdAt [Lib.decDigits p.day.toNat,p.case.data.toList] 0),mkStr (wdAt [Lib.decDigits p.day.toNat,p.case.data.toList] 1)⟩:Pad)=p:=by
  show (⟨numOf (Lib.decDigits p.day.toNat),mkStr p.case.data.toList⟩:Pad)=p
  rw [numOf_dec (by omega),mkStr_self];obtain ⟨d,cs⟩:=p;simp only at h0 ⊢;rw [Int.toNat_of_nonneg h0]
 rw [e,h];rfl
theorem run_files {ps:List Pad} {css:List (List Pad)} (h:ofO [] ps=some css):runS st0 (ps.map fileL)=({ st0 with cab:=css },okN ps.length):=by
 have key:=run_all fileL (fun x=>{ st0 with cab:=(ofO [] x).getD [] }) ps (fun k hk=>by
  obtain ⟨c,hc⟩:=ofO_take h k;obtain ⟨c2,hc2⟩:=ofO_take h (k+1);have hs:=hc2;rw [List.take_succ_eq_append_getElem hk,ofO_append,hc] at hs;have hf:fileO c ps[k]=some c2:=(by rw [← ofO_one];exact hs);simp only [hc,hc2,Option.getD_some];exact file_line (s:={ st0 with cab:=c }) hf)
 simp only [h,Option.getD_some] at key;exact key
theorem exec_cabinet {ps:List Pad} {css:List (List Pad)} (h:ofO [] ps=some css) (hok : ∀ p∈ps,okP p=true) (hl:(joinLn (ps.map fileL++[cCabinet])).length≤500) :
  exec (joinLn (ps.map fileL++[cCabinet]))=okN ps.length++cabText css++endS { st0 with cab:=css }:=by
 have hno : ∀ l∈ps.map fileL++[cCabinet],(10:UInt8) ∉ l:=fun l hl=>by
  rcases List.mem_append.1 hl with h | h
  ·obtain ⟨b,hb2,rfl⟩:=List.mem_map.1 h;exact cmdL_no (by decide) (file_plain (hok b hb2))
  ·simp only [List.mem_cons,List.not_mem_nil,or_false] at h;rcases h with rfl
   decide
 have h1:cutB 32 cCabinet=[cCabinet]:=rfl;rw [exec_yes hl,linesOf_join hno,runS_app,run_files h,runS_one,h1,line_cabinet (by rfl)]
theorem okLines (n:Nat) (w:World) (hn:n≤1000):Calls Tryz.prog 21 #[.int .i64 (n:Int)] w fun e w'=>e = .returned (.string (mkStr (okN n)))∧w=w':=by
 go_enter Tryz.func21,Tryz.ntmps21
 go_wp2;go_loopw [3,4] (fun v3 v4 wr=>∃ k:Nat,k≤n∧v3 = .string (mkStr (okN k))∧v4 = .int .i64 k∧w=wr) (fun _ v4 _=>n - (intOf v4).toNat)
 case atStart=>exact ⟨0,Nat.zero_le _,rfl,rfl,by first | trivial | rfl⟩
 case round =>
  obtain ⟨k,hk,rfl,rfl,rfl⟩:=hrel;by_cases hlt:k < n
  ·have i4:(k:Int) < (n:Int):=(by omega);have hl:(okN k).length≤3 * k:=by
    have : ∀ k,(okN k).length=3 * k:=fun k=>by
     induction k with
     | zero=>rfl
     | succ k ih=>rw [okN_succ,List.length_append,ih];show 3 * k+3=_;omega
    rw [this k];exact Nat.le_refl _
   have a1 : ∀ W',(Op.stringOp .add (mkStr (okN k)) { data:=#[111,107,10] }).run Tryz.prog W' = .ok (.string (mkStr (okN (k+1)))) W':=fun W'=>by
    rw [okN_succ];exact run_add _ [111,107,10] (by simp only [List.length_cons,List.length_nil];omega) W'
   clear hl;go_wp2;go_roundw
   case rel=>exact ⟨k+1,by omega,rfl,by go_num,by first | trivial | rfl⟩
   case measure=>simp [intOf];omega
  ·obtain rfl:k=n:=(by omega);have i4 : ¬ (k:Int) < (k:Int):=(by omega);go_wp2;go_ret;exact ⟨rfl,rfl⟩
end Go.Proofs.YtbkhnljaajajiaaGreatDoor
