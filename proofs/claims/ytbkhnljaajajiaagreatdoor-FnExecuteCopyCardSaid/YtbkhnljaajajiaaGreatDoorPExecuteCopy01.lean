/-
  Contracts and plain laws that the proofs lean on. Conditions: as each says.
-/
import Derived.Test.YtbkhnljaajajiaaGreatDoorPExecuteCopy00
set_option maxRecDepth 100000
set_option linter.unusedSimpArgs false
set_option linter.unusedVariables false
set_option linter.unnecessarySimpa false
namespace Go.Proofs.YtbkhnljaajajiaaGreatDoor
open Go.ChangeShapes Go.WideShapes Go.ChangeAt Go.RowKit
theorem cap_not {c:UInt8} (h:capB c=true):c≠32∧c≠10:=by
 unfold capB at h;rw [decide_eq_true_iff] at h;constructor <;> (rintro rfl;revert h;decide)
theorem mark_plain {l:Wd} (h:markB l=true):plainW l:=by
 unfold markB at h;rw [Bool.and_eq_true] at h;exact plain_all (fun c hc=>cap_not hc) h.1
theorem joinLn_snoc (r:List Wd) (l:Wd):joinLn (r++[l])=joinLn r++(l++[10]):=by unfold joinLn;simp
theorem joinLn_app (a b:List Wd):joinLn (a++b)=joinLn a++joinLn b:=by unfold joinLn;simp
theorem joinLn_len {ls:List Wd} {k:Nat} (h : ∀ l∈ls,l.length≤k):(joinLn ls).length≤(k+1) * ls.length:=by
 induction ls with
 | nil=>simp [joinLn]
 | cons x r ih =>
  have h1:=ih (fun l hl=>h l (List.mem_cons_of_mem _ hl));have h2:=h x List.mem_cons_self;rw [joinLn_cons,List.length_append,List.length_cons,List.length_cons,Nat.mul_add];omega
def okN (n:Nat):Wd:=(List.replicate n sayOk).flatten
theorem okN_succ (n:Nat):okN (n+1)=okN n++sayOk:=by unfold okN;rw [List.replicate_succ',List.flatten_append];simp
theorem run_steps {α:Type} (f:α→Wd) (st:List α→St) (xs:List α) (h : ∀ k (hk:k < xs.length),lineS (st (xs.take k)) (cutB 32 (f xs[k]))=(st (xs.take (k+1)),sayOk)) : ∀ k,k≤xs.length→runS (st []) ((xs.take k).map f)=(st (xs.take k),okN k):=by
 intro k;induction k with
 | zero=>intro _;rfl
 | succ k ih =>
  intro hk;have hk':k < xs.length:=(by omega);rw [List.take_succ_eq_append_getElem hk',List.map_append,runS_app,ih (by omega)]
  show ((runS (st (xs.take k)) [f xs[k]]).1,okN k++(runS (st (xs.take k)) [f xs[k]]).2)=_
  rw [runS_one,h k hk',okN_succ,List.take_succ_eq_append_getElem hk']
theorem run_all {α:Type} (f:α→Wd) (st:List α→St) (xs:List α) (h : ∀ k (hk:k < xs.length),lineS (st (xs.take k)) (cutB 32 (f xs[k]))=(st (xs.take (k+1)),sayOk)):runS (st []) (xs.map f)=(st xs,okN xs.length):=by
 have:=run_steps f st xs h xs.length (Nat.le_refl _)
 rwa [List.take_length] at this
theorem brsB_take {bs:List Bf} (h:brsB bs=true) : ∀ k,brsB (bs.take k)=true:=by
 intro k;by_cases hk:k≤bs.length
 ·obtain ⟨h1,h2⟩:=brsB_iff.1 h;refine brsB_iff.2 ⟨by rw [List.length_take];omega,fun i hi=>?_⟩;rw [List.length_take] at hi;have e : ∀ j,j < k→bfAt (bs.take k) j=bfAt bs j:=(fun j hj=>by unfold bfAt;rw [List.getD_eq_getElem?_getD,List.getElem?_take,if_pos hj,List.getD_eq_getElem?_getD]);have:=h2 i (by omega);unfold brGood at *;rw [e i (by omega)];exact ⟨this.1,fun j hj=>by rw [e j (by omega)];exact this.2 j hj⟩
 ·rw [List.take_of_length_le (by omega)];exact h
def briefL (b:Bf):Wd:=cmdL cBrief (b.mark::b.words)
theorem brief_plain {b:Bf} (h:bfB b=true) : ∀ l∈b.mark::b.words,plainW l:=fun l hl=>by
 have h1:=bfB_iff.1 h;rcases List.mem_cons.1 hl with rfl | hl
 ·exact mark_plain h1.1
 ·exact word_plain (bwB_all h1.2 l hl)
theorem brief_step {bs:List Bf} (h:brsB bs=true) (k:Nat) (hk:k < bs.length):lineS { st0 with brs:=bs.take k } (cutB 32 (briefL bs[k]))=({ st0 with brs:=bs.take (k+1) },sayOk):=by
 have hb:=brsB_mem h bs[k] (List.getElem_mem hk);unfold briefL;rw [cmdL_cut (by decide) (brief_plain hb)];have hl:=(bwB_len (bfB_iff.1 hb).2).1;rw [line_brief (by rw [List.length_cons];omega)];have ht:=brsB_take h (k+1);rw [List.take_succ_eq_append_getElem hk] at ht ⊢;have e:(⟨wdAt (bs[k].mark::bs[k].words) 0,(bs[k].mark::bs[k].words).drop 1⟩:Bf)=bs[k]:=rfl;rw [e]
 show up _ (addO (bs.take k) bs[k]) _=_
 unfold addO;rw [if_pos ht];rfl
theorem run_briefs {bs:List Bf} (h:brsB bs=true):runS st0 (bs.map briefL)=({ st0 with brs:=bs },okN bs.length) :=
 run_all briefL (fun x=>{ st0 with brs:=x }) bs (brief_step h)
def speechL (ws:List Wd):Wd:=cmdL cSpeech ws
theorem speech_step {s:St} {ws:List Wd} (h:spB ws=true):lineS s (cutB 32 (speechL ws))=({ s with sp:=ws },sayOk):=by
 unfold speechL;rw [cmdL_cut (by decide) (fun l hl=>word_plain ((spB_iff.1 h).1 l hl)),line_speech,if_pos h];rfl
end Go.Proofs.YtbkhnljaajajiaaGreatDoor
