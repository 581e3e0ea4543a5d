/-
  Contracts and plain laws that the proofs lean on. Conditions: as each says.
-/
import Derived.Test.YtbkhnljaajajiaaGreatDoorPExecuteWrite06
set_option maxRecDepth 100000
set_option linter.unusedSimpArgs false
set_option linter.unusedVariables false
set_option linter.unnecessarySimpa false
namespace Go.Proofs.YtbkhnljaajajiaaGreatDoor
open Go.ChangeShapes Go.WideShapes Go.ChangeAt Go.RowKit
theorem joinLn_snoc (r:List Wd) (l:Wd):joinLn (r++[l])=joinLn r++(l++[10]):=by unfold joinLn;simp
theorem joinLn_app (a b:List Wd):joinLn (a++b)=joinLn a++joinLn b:=by unfold joinLn;simp
theorem joinLn_len {ls:List Wd} {k:Nat} (h : ∀ l∈ls,l.length≤k):(joinLn ls).length≤(k+1) * ls.length:=by
 induction ls with
 | nil=>simp [joinLn]
 | cons x r ih =>
  have h1:=ih (fun l hl=>h l (List.mem_cons_of_mem _ hl));have h2:=h x List.mem_cons_self;rw [joinLn_cons,List.length_append,List.length_cons,List.length_cons,Nat.mul_add];omega
def okN (n:Nat):Wd:=(List.replicate n sayOk).flatten
theorem okN_succ (n:Nat):okN (n+1)=okN n++sayOk:=by unfold okN;rw [List.replicate_succ',List.flatten_append];simp
theorem run_steps {α:Type} (f:α→Wd) (st:List α→St) (xs:List α) (h : ∀ k (hk:k < xs.length),lineS (st (xs.take k)) (cutB 32 (f xs[k]))=(st (xs.take (k+1)),sayOk)) : ∀ k,k≤xs.length→runS (st []) ((xs.take k).map f)=(st (xs.take k),okN k):=by
 intro k;induction k with
 | zero=>intro _;rfl
 | succ k ih =>
  intro hk;have hk':k < xs.length:=(by omega);rw [List.take_succ_eq_append_getElem hk',List.map_append,runS_app,ih (by omega)]
  show ((runS (st (xs.take k)) [f xs[k]]).1,okN k++(runS (st (xs.take k)) [f xs[k]]).2)=_
  rw [runS_one,h k hk',okN_succ,List.take_succ_eq_append_getElem hk']
theorem run_all {α:Type} (f:α→Wd) (st:List α→St) (xs:List α) (h : ∀ k (hk:k < xs.length),lineS (st (xs.take k)) (cutB 32 (f xs[k]))=(st (xs.take (k+1)),sayOk)):runS (st []) (xs.map f)=(st xs,okN xs.length):=by
 have:=run_steps f st xs h xs.length (Nat.le_refl _)
 rwa [List.take_length] at this
def speechL (ws:List Wd):Wd:=cmdL cSpeech ws
theorem speech_step {s:St} {ws:List Wd} (h:spB ws=true):lineS s (cutB 32 (speechL ws))=({ s with sp:=ws },sayOk):=by
 unfold speechL;rw [cmdL_cut (by decide) (fun l hl=>word_plain ((spB_iff.1 h).1 l hl)),line_speech,if_pos h];rfl
end Go.Proofs.YtbkhnljaajajiaaGreatDoor
