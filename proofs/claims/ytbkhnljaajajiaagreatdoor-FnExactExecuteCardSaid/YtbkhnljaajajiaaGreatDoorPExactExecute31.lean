/-
  Contracts and plain laws that the proof of the law ExactExecute leans on. Conditions: as each says.
-/
import Derived.Test.YtbkhnljaajajiaaGreatDoorPExactExecute21
import Derived.Test.YtbkhnljaajajiaaGreatDoorPExactExecute28
import Derived.RegionTactic
import Derived.BigRegion
set_option maxRecDepth 100000
set_option linter.unusedSimpArgs false
set_option linter.unusedVariables false
set_option linter.unnecessarySimpa false
namespace Go.Proofs.YtbkhnljaajajiaaGreatDoor
open Go.ChangeShapes Go.WideShapes Go.ChangeAt Go.RowKit
theorem demandYes (w : World) : Calls Tryz.prog 111 #[.bool true] w fun e w' => e = .returned (.tuple #[]) ∧ w = w' := by
 go_enter Tryz.func111, Tryz.ntmps111
 go_wp2
 go_end0
 exact ⟨rfl, rfl⟩
abbrev malV : Value := .iface 155 (.agg #[])
abbrev malformed : Ending := .panicked [{ v := malV, recovered := false }]
theorem demandNo (w : World) : Calls Tryz.prog 111 #[.bool false] w fun e w' => e = malformed ∧ w = w' := by
 go_enter Tryz.func111, Tryz.ntmps111
 go_wp2; exact ⟨rfl, rfl, rfl⟩
def offV (h : Hd) : Array Value := #[.slice h.A1 h.n1 h.c1, .slice h.A2 h.n2 h.c2, .slice h.A3 h.n3 h.c3, .slice h.A4 h.n4 h.c4]
def StepS (w w' : World) (o : Nat) (h h' : Hd) (A : Option Addr) (n c : Nat) (ws : List Wd) : Prop :=
 ∀ S : List Nat, o ∈ S → (∀ b ∈ S, b < w.heap.size) → StIn (blanks S w) h → WdsIn (blanks S w) (blanks S w).heap.size A n c ws → StIn (blanks S w') h'
def RunAns (w w' : World) (o : Nat) (h : Hd) (A : Option Addr) (n c : Nat) (ws full : List Wd) (e : Ending) : Prop :=
 ∃ h' : Hd, Blk w' o 76 (offV h') ∧ Off [o] w w' ∧ StepS w w' o h h' A n c ws ∧
  ((∃ s, e = .returned (.string (mkStr s)) ∧ lineS h.st full = (h'.st, s)) ∨ (e = malformed ∧ lineS h.st full = (h'.st, sayWhat)))
section
variable {w w1 w' : World} {o : Nat} {h : Hd} {A : Option Addr} {n c : Nat} {ws full : List Wd} {s : Wd}
theorem RunAns.same {e : Ending} (K : Blk w o 76 (offV h)) (hb : Below w.heap.size w w') (he : (∃ s, e = .returned (.string (mkStr s)) ∧ lineS h.st full = (h.st, s)) ∨ (e = malformed ∧ lineS h.st full = (h.st, sayWhat))) : RunAns w w' o h A n c ws full e :=
 ⟨h, K.below hb, Off.of hb, fun _ _ _ H _ => H.off (Off.of hb), he⟩
theorem RunAns.said (K : Blk w o 76 (offV h)) (hb : Below w.heap.size w w') (hl : lineS h.st full = (h.st, s)) : RunAns w w' o h A n c ws full (.returned (.string (mkStr s))) := RunAns.same K hb (.inl ⟨s, rfl, hl⟩)
theorem RunAns.bad (K : Blk w o 76 (offV h)) (hl : lineS h.st full = (h.st, sayWhat)) : RunAns w w o h A n c ws full malformed := RunAns.same K (Below.refl _ _) (.inr ⟨rfl, hl⟩)
theorem RunAns.sys {A' : Option Addr} {n' c' : Nat} {xs : List Sg} (K : Blk w o 76 (offV h)) (hb : Below w.heap.size w w1) (ho : SgOwn w1 w.heap.size (.slice A' n' c') xs) (hn : xs.length = n') (hg : ∀ x ∈ xs, x.st.good) (hl : lineS h.st full = ({ h.st with sys := xs }, sayOk)) :
  RunAns w (w1.setCell ⟨o, 0, none⟩ (.slice A' n' c')) o h A n c ws full (.returned (.string (mkStr sayOk))) :=
 ⟨{ h with A1 := A', n1 := n', c1 := c', sys := xs }, by simpa [offV] using (K.below hb).set 0 (.slice A' n' c'), (Off.of hb).put (by simp) 0 _, fun S hS hlt H _ => by
  rw [blanks_setCell hS]; have Q := H.off (Off.of hb); exact ⟨ho.readsS hlt hn hg, Q.br, Q.wd, Q.dr⟩, .inl ⟨sayOk, rfl, hl⟩⟩
theorem RunAns.brs {A' : Option Addr} {n' c' : Nat} {xs : List Br} (K : Blk w o 76 (offV h)) (hb : Below w.heap.size w w1) (ho : BrOwn w1 w.heap.size (.slice A' n' c') xs) (hN : BrNew w.heap.size xs) (hn : xs.length = n') (hl : lineS h.st full = ({ h.st with brs := xs.map Br.dat }, sayOk)) :
  RunAns w (w1.setCell ⟨o, 1, none⟩ (.slice A' n' c')) o h A n c ws full (.returned (.string (mkStr sayOk))) :=
 ⟨{ h with A2 := A', n2 := n', c2 := c', xs := xs }, by simpa [offV] using (K.below hb).set 1 (.slice A' n' c'), (Off.of hb).put (by simp) 1 _, fun S hS hlt H _ => by
  rw [blanks_setCell hS]; have Q := H.off (Off.of hb); exact ⟨Q.sg, ho.readsS hN hlt hn, Q.wd, Q.dr⟩, .inl ⟨sayOk, rfl, hl⟩⟩
theorem RunAns.cab {A' : Option Addr} {n' c' : Nat} {ds : List Drawer} (K : Blk w o 76 (offV h)) (hb : Below w.heap.size w w1) (ho : CabOwn w1 w.heap.size (.slice A' n' c') ds) (hn : ds.length = n') (hl : lineS h.st full = ({ h.st with cab := ds.map (·.ps) }, sayOk)) :
  RunAns w (w1.setCell ⟨o, 3, none⟩ (.slice A' n' c')) o h A n c ws full (.returned (.string (mkStr sayOk))) :=
 ⟨{ h with A4 := A', n4 := n', c4 := c', ds := ds }, by simpa [offV] using (K.below hb).set 3 (.slice A' n' c'), (Off.of hb).put (by simp) 3 _, fun S hS hlt H _ => by
  rw [blanks_setCell hS]; have Q := H.off (Off.of hb); exact ⟨Q.sg, Q.br, Q.wd, ho.readsS hlt hn⟩, .inl ⟨sayOk, rfl, hl⟩⟩
theorem RunAns.sp (K : Blk w o 76 (offV h)) (hb : Below w.heap.size w w1) (hl : lineS h.st full = ({ h.st with sp := ws }, sayOk)) :
  RunAns w (w1.setCell ⟨o, 2, none⟩ (.slice A n c)) o h A n c ws full (.returned (.string (mkStr sayOk))) :=
 ⟨{ h with A3 := A, n3 := n, c3 := c, sp := ws }, by simpa [offV] using (K.below hb).set 2 (.slice A n c), (Off.of hb).put (by simp) 2 _, fun S hS hlt H hW => by
  rw [blanks_setCell hS]; have Q := H.off (Off.of hb); exact ⟨Q.sg, Q.br, hW.off (Off.of hb), Q.dr⟩, .inl ⟨sayOk, rfl, hl⟩⟩
end
section
variable {s : St} {ws : List Wd}
theorem wdAt_head (x : Wd) (ws : List Wd) : wdAt (x :: ws) 0 = x := rfl
theorem line_sign (h : ws.length = 2) : lineS s (cSign :: ws) = up s (signO s.sys (wdAt ws 0) (wdAt ws 1)) fun x => { s with sys := x } := by
 unfold lineS; rw [if_pos ⟨rfl, by rw [List.length_cons, h]⟩]; rfl
theorem line_brief (h : 2 ≤ ws.length) : lineS s (cBrief :: ws) = up s (addO s.brs ⟨wdAt ws 0, ws.drop 1⟩) fun x => { s with brs := x } := by
 unfold lineS; rw [if_neg (by rintro ⟨h, _⟩; revert h; rw [wdAt_head]; decide), if_pos ⟨rfl, by rw [List.length_cons]; omega⟩]; rfl
theorem line_speech : lineS s (cSpeech :: ws) = up s (if spB ws = true then some ws else none) fun x => { s with sp := x } := by
 unfold lineS; rw [if_neg (by rintro ⟨h, _⟩; revert h; rw [wdAt_head]; decide), if_neg (by rintro ⟨h, _⟩; revert h; rw [wdAt_head]; decide), if_pos (show wdAt (cSpeech :: ws) 0 = cSpeech from rfl)]; rfl
theorem line_file (h : ws.length = 2) : lineS s (cFile :: ws) = up s (fileO s.cab ⟨numOf (wdAt ws 0), mkStr (wdAt ws 1)⟩) fun x => { s with cab := x } := by
 unfold lineS; rw [if_neg (by rintro ⟨h, _⟩; revert h; rw [wdAt_head]; decide), if_neg (by rintro ⟨h, _⟩; revert h; rw [wdAt_head]; decide), if_neg (by rw [wdAt_head]; decide), if_pos ⟨rfl, by rw [List.length_cons, h]⟩]; rfl
theorem line_clear (h : ws.length = 1) : lineS s (cClear :: ws) = up s (clearO s.cab (numOf (wdAt ws 0))) fun x => { s with cab := x } := by
 unfold lineS; rw [if_neg (by rintro ⟨h, _⟩; revert h; rw [wdAt_head]; decide), if_neg (by rintro ⟨h, _⟩; revert h; rw [wdAt_head]; decide), if_neg (by rw [wdAt_head]; decide), if_neg (by rintro ⟨h, _⟩; revert h; rw [wdAt_head]; decide), if_pos ⟨rfl, by rw [List.length_cons, h]⟩]; rfl
theorem line_ask {x : Wd} (h1 : ¬ (x = cSign ∧ ws.length = 2)) (h2 : ¬ (x = cBrief ∧ 2 ≤ ws.length)) (h3 : x ≠ cSpeech) (h4 : ¬ (x = cFile ∧ ws.length = 2)) (h5 : ¬ (x = cClear ∧ ws.length = 1)) : lineS s (x :: ws) = (s, ask s (x :: ws)) := by
 unfold lineS; rw [wdAt_head, List.length_cons]; rw [if_neg (by rintro ⟨h, e⟩; exact h1 ⟨h, by omega⟩), if_neg (by rintro ⟨h, e⟩; exact h2 ⟨h, by omega⟩), if_neg h3, if_neg (by rintro ⟨h, e⟩; exact h4 ⟨h, by omega⟩), if_neg (by rintro ⟨h, e⟩; exact h5 ⟨h, by omega⟩)]
theorem ask_what {x : Wd} (h1 : ¬ (x = cWrite ∧ ws.length = 0)) (h2 : ¬ (x = cCopy ∧ ws.length = 0)) (h3 : ¬ (x = cLetters ∧ ws.length = 0)) (h4 : x ≠ cProof) (h5 : ¬ (x = cCabinet ∧ ws.length = 0)) : ask s (x :: ws) = sayWhat := by
 unfold ask; rw [wdAt_head, List.length_cons]; rw [if_neg (by rintro ⟨h, e⟩; exact h1 ⟨h, by omega⟩), if_neg (by rintro ⟨h, e⟩; exact h2 ⟨h, by omega⟩), if_neg (by rintro ⟨h, e⟩; exact h3 ⟨h, by omega⟩), if_neg h4, if_neg (by rintro ⟨h, e⟩; exact h5 ⟨h, by omega⟩)]
theorem line_bad {x : Wd} (h1 : ¬ (x = cSign ∧ ws.length = 2)) (h2 : ¬ (x = cBrief ∧ 2 ≤ ws.length)) (h3 : x ≠ cSpeech) (h4 : ¬ (x = cFile ∧ ws.length = 2)) (h5 : ¬ (x = cClear ∧ ws.length = 1))
  (g1 : ¬ (x = cWrite ∧ ws.length = 0)) (g2 : ¬ (x = cCopy ∧ ws.length = 0)) (g3 : ¬ (x = cLetters ∧ ws.length = 0)) (g4 : x ≠ cProof) (g5 : ¬ (x = cCabinet ∧ ws.length = 0)) : lineS s (x :: ws) = (s, sayWhat) := by
 rw [line_ask h1 h2 h3 h4 h5, ask_what g1 g2 g3 g4 g5]
theorem ne_cmd {x y : Wd} {p : Prop} (h : x ≠ y) : ¬ (x = y ∧ p) := fun e => h e.1
theorem bad_sign (h : ws.length ≠ 2) : lineS s (cSign :: ws) = (s, sayWhat) := line_bad (fun e => h e.2) (ne_cmd (by decide)) (by decide) (ne_cmd (by decide)) (ne_cmd (by decide)) (ne_cmd (by decide)) (ne_cmd (by decide)) (ne_cmd (by decide)) (by decide) (ne_cmd (by decide))
theorem bad_brief (h : ¬ 2 ≤ ws.length) : lineS s (cBrief :: ws) = (s, sayWhat) := line_bad (ne_cmd (by decide)) (fun e => h e.2) (by decide) (ne_cmd (by decide)) (ne_cmd (by decide)) (ne_cmd (by decide)) (ne_cmd (by decide)) (ne_cmd (by decide)) (by decide) (ne_cmd (by decide))
theorem bad_file (h : ws.length ≠ 2) : lineS s (cFile :: ws) = (s, sayWhat) := line_bad (ne_cmd (by decide)) (ne_cmd (by decide)) (by decide) (fun e => h e.2) (ne_cmd (by decide)) (ne_cmd (by decide)) (ne_cmd (by decide)) (ne_cmd (by decide)) (by decide) (ne_cmd (by decide))
theorem bad_clear (h : ws.length ≠ 1) : lineS s (cClear :: ws) = (s, sayWhat) := line_bad (ne_cmd (by decide)) (ne_cmd (by decide)) (by decide) (ne_cmd (by decide)) (fun e => h e.2) (ne_cmd (by decide)) (ne_cmd (by decide)) (ne_cmd (by decide)) (by decide) (ne_cmd (by decide))
theorem bad_write (h : ws.length ≠ 0) : lineS s (cWrite :: ws) = (s, sayWhat) := line_bad (ne_cmd (by decide)) (ne_cmd (by decide)) (by decide) (ne_cmd (by decide)) (ne_cmd (by decide)) (fun e => h e.2) (ne_cmd (by decide)) (ne_cmd (by decide)) (by decide) (ne_cmd (by decide))
theorem bad_copy (h : ws.length ≠ 0) : lineS s (cCopy :: ws) = (s, sayWhat) := line_bad (ne_cmd (by decide)) (ne_cmd (by decide)) (by decide) (ne_cmd (by decide)) (ne_cmd (by decide)) (ne_cmd (by decide)) (fun e => h e.2) (ne_cmd (by decide)) (by decide) (ne_cmd (by decide))
theorem bad_letters (h : ws.length ≠ 0) : lineS s (cLetters :: ws) = (s, sayWhat) := line_bad (ne_cmd (by decide)) (ne_cmd (by decide)) (by decide) (ne_cmd (by decide)) (ne_cmd (by decide)) (ne_cmd (by decide)) (ne_cmd (by decide)) (fun e => h e.2) (by decide) (ne_cmd (by decide))
theorem bad_cabinet (h : ws.length ≠ 0) : lineS s (cCabinet :: ws) = (s, sayWhat) := line_bad (ne_cmd (by decide)) (ne_cmd (by decide)) (by decide) (ne_cmd (by decide)) (ne_cmd (by decide)) (ne_cmd (by decide)) (ne_cmd (by decide)) (ne_cmd (by decide)) (by decide) (fun e => h e.2)
theorem line_write (h : ws.length = 0) : lineS s (cWrite :: ws) = (s, saidO ((lineOf s.sys s.sp).map lineText)) := by
 rw [line_ask (ne_cmd (by decide)) (ne_cmd (by decide)) (by decide) (ne_cmd (by decide)) (ne_cmd (by decide))]; unfold ask; rw [if_pos ⟨rfl, by rw [List.length_cons, h]⟩]
theorem line_copy (h : ws.length = 0) : lineS s (cCopy :: ws) = (s, saidO ((bestO s.brs s.sp).map fun t => Lib.join t [32])) := by
 rw [line_ask (ne_cmd (by decide)) (ne_cmd (by decide)) (by decide) (ne_cmd (by decide)) (ne_cmd (by decide))]; unfold ask; rw [if_neg (by rintro ⟨h, _⟩; revert h; rw [wdAt_head]; decide), if_pos ⟨rfl, by rw [List.length_cons, h]⟩]
theorem line_letters' (h : ws.length = 0) : lineS s (cLetters :: ws) = (s, Lib.decDigits (costOf s.brs s.sp) ++ [10]) := by
 rw [line_ask (ne_cmd (by decide)) (ne_cmd (by decide)) (by decide) (ne_cmd (by decide)) (ne_cmd (by decide))]; unfold ask; rw [if_neg (by rintro ⟨h, _⟩; revert h; rw [wdAt_head]; decide), if_neg (by rintro ⟨h, _⟩; revert h; rw [wdAt_head]; decide), if_pos ⟨rfl, by rw [List.length_cons, h]⟩]
theorem line_proof : lineS s (cProof :: ws) = (s, saidO ((makeO s.sp ws).map (marksText s.sp))) := by
 rw [line_ask (ne_cmd (by decide)) (ne_cmd (by decide)) (by decide) (ne_cmd (by decide)) (ne_cmd (by decide))]; unfold ask; rw [if_neg (by rintro ⟨h, _⟩; revert h; rw [wdAt_head]; decide), if_neg (by rintro ⟨h, _⟩; revert h; rw [wdAt_head]; decide), if_neg (by rintro ⟨h, _⟩; revert h; rw [wdAt_head]; decide), if_pos (show wdAt (cProof :: ws) 0 = cProof from rfl)]; rfl
theorem line_cabinet (h : ws.length = 0) : lineS s (cCabinet :: ws) = (s, cabText s.cab) := by
 rw [line_ask (ne_cmd (by decide)) (ne_cmd (by decide)) (by decide) (ne_cmd (by decide)) (ne_cmd (by decide))]; unfold ask; rw [if_neg (by rintro ⟨h, _⟩; revert h; rw [wdAt_head]; decide), if_neg (by rintro ⟨h, _⟩; revert h; rw [wdAt_head]; decide), if_neg (by rintro ⟨h, _⟩; revert h; rw [wdAt_head]; decide), if_neg (by rw [wdAt_head]; decide), if_pos ⟨rfl, by rw [List.length_cons, h]⟩]
end
end Go.Proofs.YtbkhnljaajajiaaGreatDoor
namespace Go.Proofs.YtbkhnljaajajiaaGreatDoor
open Go.ChangeShapes Go.WideShapes Go.ChangeAt Go.RowKit Go.Shelf
structure Kept2 (g1 g2 : Nat) (w w' : World) : Prop where
 os : w'.os = w.os
 tape : w'.tape = w.tape
 output : w'.output = w.output
 size : w.heap.size ≤ w'.heap.size
 block : ∀ k, k < w.heap.size → k ≠ g1 → k ≠ g2 → w'.heap[k]? = w.heap[k]?
section
variable {g1 g2 B : Nat} {w w1 w2 : World}
theorem Kept2.refl (w : World) : Kept2 g1 g2 w w := ⟨rfl, rfl, rfl, Nat.le_refl _, fun _ _ _ _ => rfl⟩
theorem Kept2.of (h : Below w.heap.size w w1) : Kept2 g1 g2 w w1 := ⟨h.os, h.tape, h.output, h.size, fun k hk _ _ => h.block k hk⟩
theorem Kept2.drew (h : Kept2 g1 g2 w w1) : Kept2 g1 g2 w w1.drew := ⟨h.os, h.tape, h.output, h.size, h.block⟩
theorem Kept2.trans (h : Kept2 g1 g2 w w1) (h2 : Kept2 g1 g2 w1 w2) : Kept2 g1 g2 w w2 :=
 ⟨h2.os.trans h.os, h2.tape.trans h.tape, h2.output.trans h.output, Nat.le_trans h.size h2.size, fun k hk e1 e2 => (h2.block k (Nat.lt_of_lt_of_le hk h.size) e1 e2).trans (h.block k hk e1 e2)⟩
theorem Kept2.set (h : Kept2 g1 g2 w w1) (p : Addr) (hp : p.block = g1 ∨ p.block = g2) (u : Value) : Kept2 g1 g2 w (w1.setCell p u) :=
 ⟨h.os, h.tape, h.output, by simpa using h.size, fun k hk e1 e2 => (Below.heap_setCell w1 p u k (fun e => hp.elim (fun h => e1 (e.trans h)) (fun h => e2 (e.trans h)))).trans (h.block k hk e1 e2)⟩
theorem Kept2.below (h : Kept2 g1 g2 w w1) (h1 : B ≤ g1) (h2 : B ≤ g2) (hB : B ≤ w.heap.size) : Below B w w1 := ⟨h.os, h.tape, h.output, h.size, fun k hk => h.block k (by omega) (by omega) (by omega)⟩
theorem Kept2.blk {b : Nat} {t : TypeId} {cs : Array Value} (h : Kept2 g1 g2 w w1) (hb : Blk w b t cs) (h1 : b ≠ g1) (h2 : b ≠ g2) : Blk w1 b t cs := (h.block b hb.lt h1 h2).trans hb
theorem Kept2.cell {p : Addr} {u : Value} (h : Kept2 g1 g2 w w1) (hc : w.cell? p = some u) (h1 : p.block ≠ g1) (h2 : p.block ≠ g2) : w1.cell? p = some u :=
 (World.cell?_of_block (h.block p.block (World.block_lt_of_cell? _ _ hc) h1 h2)).trans hc
end
def LIn (w : World) (gF gW n : Nat) (F : Nat → Tk) (V : Nat → Nat) : Prop :=
 ∃ csF csW : Array Value, Blk w gF 103 csF ∧ csF.size = n * 3 ∧ (∀ j, j < n → csF[j * 3]? = some (.int .i64 (F j).brief) ∧ csF[j * 3 + 1]? = some (.int .i64 ((F j).width : Int)) ∧ csF[j * 3 + 2]? = some (.int .i64 ((F j).cost : Int))) ∧
  Blk w gW 3 csW ∧ csW.size = n + 1 ∧ ∀ j, j ≤ n → csW[j]? = some (.int .i64 ((V j : Nat) : Int))
theorem LIn.keep {w w' : World} {gF gW n : Nat} {F : Nat → Tk} {V : Nat → Nat} (h : LIn w gF gW n F V) (hb : Below w.heap.size w w') : LIn w' gF gW n F V := by
 obtain ⟨csF, csW, h1, h2, h3, h4, h5, h6⟩ := h; exact ⟨csF, csW, h1.below hb, h2, h3, h4.below hb, h5, h6⟩
def updT {α : Type} (F : Nat → α) (i : Nat) (x : α) (j : Nat) : α := if j = i then x else F j
theorem updT_same {α : Type} (F : Nat → α) (i : Nat) (x : α) : updT F i x i = x := if_pos rfl
theorem updT_ne {α : Type} (F : Nat → α) {i j : Nat} (x : α) (h : j ≠ i) : updT F i x j = F j := if_neg h
theorem LIn.set {w : World} {gF gW n i : Nat} {F : Nat → Tk} {V : Nat → Nat} (h : LIn w gF gW n F V) (hne : gF ≠ gW) (hi : i < n) (t : Tk) (m : Nat) :
  LIn ((((w.setCell ⟨gF, i * 3, none⟩ (.int .i64 t.brief)).setCell ⟨gF, i * 3 + 1, none⟩ (.int .i64 (t.width : Int))).setCell ⟨gF, i * 3 + 2, none⟩ (.int .i64 (t.cost : Int))).setCell ⟨gW, i, none⟩ (.int .i64 (m : Int))) gF gW n (updT F i t) (updT V i m) := by
 obtain ⟨csF, csW, h1, h2, h3, h4, h5, h6⟩ := h; refine ⟨_, _, ((((h1.set (i * 3) _).set (i * 3 + 1) _).set (i * 3 + 2) _).far (p := ⟨gW, i, none⟩) hne _), by simp [h2], fun j hj => ?_, (((h4.far (p := ⟨gF, i * 3, none⟩) (Ne.symm hne) _).far (p := ⟨gF, i * 3 + 1, none⟩) (Ne.symm hne) _).far (p := ⟨gF, i * 3 + 2, none⟩) (Ne.symm hne) _).set i _, by simp [h5], fun j hj => ?_⟩
 ·by_cases e : j = i
  ·subst e; rw [updT_same]; refine ⟨?_, ?_, ?_⟩
   ·rw [Array.getElem?_setIfInBounds_ne (by omega), Array.getElem?_setIfInBounds_ne (by omega), Array.getElem?_setIfInBounds_self_of_lt (by omega)]
   ·rw [Array.getElem?_setIfInBounds_ne (by omega), Array.getElem?_setIfInBounds_self_of_lt (by simp; omega)]
   ·rw [Array.getElem?_setIfInBounds_self_of_lt (by simp; omega)]
  ·rw [updT_ne _ _ e]; obtain ⟨g1, g2, g3⟩ := h3 j hj; refine ⟨?_, ?_, ?_⟩
   ·rw [Array.getElem?_setIfInBounds_ne (by omega), Array.getElem?_setIfInBounds_ne (by omega), Array.getElem?_setIfInBounds_ne (by omega)]; exact g1
   ·rw [Array.getElem?_setIfInBounds_ne (by omega), Array.getElem?_setIfInBounds_ne (by omega), Array.getElem?_setIfInBounds_ne (by omega)]; exact g2
   ·rw [Array.getElem?_setIfInBounds_ne (by omega), Array.getElem?_setIfInBounds_ne (by omega), Array.getElem?_setIfInBounds_ne (by omega)]; exact g3
 ·by_cases e : j = i
  ·subst e; rw [updT_same, Array.getElem?_setIfInBounds_self_of_lt (by omega)]
  ·rw [updT_ne _ _ e, Array.getElem?_setIfInBounds_ne (by omega)]; exact h6 j hj
structure VEnv (gF gW p3 p6 p7 n : Nat) (w : World) : Prop where
 c3 : w.cell? ⟨p3, 0, none⟩ = some (.func (.func 64) #[] #[])
 c6 : w.cell? ⟨p6, 0, none⟩ = some (.slice (some ⟨gF, 0, none⟩) n n)
 c7 : w.cell? ⟨p7, 0, none⟩ = some (.slice (some ⟨gW, 0, none⟩) (n + 1) (n + 1))
 n3 : p3 ≠ gF ∧ p3 ≠ gW
 n6 : p6 ≠ gF ∧ p6 ≠ gW
 n7 : p7 ≠ gF ∧ p7 ≠ gW
 nn : gF ≠ gW
theorem VEnv.kept {gF gW p3 p6 p7 n : Nat} {w w' : World} (h : VEnv gF gW p3 p6 p7 n w) (hk : Kept2 gF gW w w') : VEnv gF gW p3 p6 p7 n w' :=
 ⟨hk.cell h.c3 h.n3.1 h.n3.2, hk.cell h.c6 h.n6.1 h.n6.2, hk.cell h.c7 h.n7.1 h.n7.2, h.n3, h.n6, h.n7, h.nn⟩
theorem tokenCost (b z k : Int) (w : World) : Calls Tryz.prog 64 #[.agg #[.int .i64 b, .int .i64 z, .int .i64 k]] w fun e w' => e = .returned (.int .i64 k) ∧ Below w.heap.size w w' := by
 have b0 : Below w.heap.size w (w.alloc (.cells #[.int .i64 b, .int .i64 z, .int .i64 k] 103)) := (Below.refl _ _).alloc (Nat.le_refl _) _; go_enter Tryz.func64, Tryz.ntmps64
 go_wp2; go_ret; exact ⟨rfl, b0⟩
def nextL (n i : Nat) (t : Tk) (F : Nat → Tk) (V : Nat → Nat) (gF gW : Nat) (w' : World) : Prop :=
 if (F i).width = 0 ∨ t.cost + V (i + t.width) < V i then LIn w' gF gW n (updT F i t) (updT V i (t.cost + V (i + t.width))) else LIn w' gF gW n F V
set_option maxHeartbeats 3200000 in
theorem leastFn {gF gW p3 p6 p7 n : Nat} (i : Nat) (t : Tk) (F : Nat → Tk) (V : Nat → Nat) (w : World) (hi : i < n) (hn : n ≤ 20) (ht : i + t.width ≤ n) (hc : t.cost ≤ 100) (hV : ∀ j, j ≤ n → V j ≤ 1000) (hE : VEnv gF gW p3 p6 p7 n w) (hL : LIn w gF gW n F V) :
  Calls Tryz.prog 126 #[.int .i64 (i : Int), .agg #[.int .i64 t.brief, .int .i64 (t.width : Int), .int .i64 (t.cost : Int)], .pointer (some ⟨p3, 0, none⟩), .pointer (some ⟨p7, 0, none⟩), .pointer (some ⟨p6, 0, none⟩)] w fun e w' => e = .returned (.tuple #[]) ∧ nextL n i t F V gF gW w' ∧ Kept2 gF gW w w' := by
 have b0 : Below w.heap.size w (w.alloc (.cells #[.int .i64 t.brief, .int .i64 (t.width : Int), .int .i64 (t.cost : Int)] 103)) := (Below.refl _ _).alloc (Nat.le_refl _) _; have HE0 := uH hE; have hVi := hV i (by omega); have hVt := hV (i + t.width) ht; have HE := uH (hE.kept (Kept2.of b0)); have HL := uH (hL.keep b0); have x0 := newcell w #[.int .i64 t.brief, .int .i64 (t.width : Int), .int .i64 (t.cost : Int)] 103 0 _ rfl; have x1 := newcell w #[.int .i64 t.brief, .int .i64 (t.width : Int), .int .i64 (t.cost : Int)] 103 1 _ rfl; have x2 := newcell w #[.int .i64 t.brief, .int .i64 (t.width : Int), .int .i64 (t.cost : Int)] 103 2 _ rfl; obtain ⟨csF, csW, h1, h2, h3, h4, h5, h6⟩ := HL.out; have y3 := HE.out.c3; have y7 := HE.out.c7; have y6 := HE.out.c6; have yw := (h4.cell (i + t.width)).trans (h6 _ ht); have HB0 := uH b0; have HCost := uH (fun W => tokenCost t.brief t.width t.cost W); have HX := uH (And.intro x0 (And.intro x1 x2)); have r0 := qcell x0; have r1 := qcell x1; have r2 := qcell x2; have q3 := qcell y3; have q7 := qcell y7; have qw := qcell yw; have hw1 : IntKind.i64.wrap ((i : Int) + (t.width : Int)) = (i : Int) + (t.width : Int) := IntWalk.i64_in _ (by omega); have hw2 : IntKind.i64.wrap ((t.cost : Int) + ((V (i + t.width) : Nat) : Int)) = (t.cost : Int) + ((V (i + t.width) : Nat) : Int) := IntWalk.i64_in _ (by omega); have l1 : (0 : Int) ≤ (i : Int) + (t.width : Int) := (by omega); have l2 : (i : Int) + (t.width : Int) < (n : Int) + 1 := (by omega); have hnn : ((i : Int) + (t.width : Int)).toNat = i + t.width := (by omega); have HGl : Hid (gF < w.heap.size ∧ gW < w.heap.size) := uH (by obtain ⟨a1, a2, a3, a4, a5, a6, a7, a8⟩ := hL; exact ⟨a3.lt, a6.lt⟩); clear hE hL hV h1 h2 h3 h4 h5 h6 b0; go_enter Tryz.func126, Tryz.ntmps126
 (go_wp2_with fail); go_region_held3 (fun w' => w'.cell? ⟨w.heap.size, 0, none⟩ = some (.int .i64 t.brief) ∧ w'.cell? ⟨w.heap.size, 1, none⟩ = some (.int .i64 (t.width : Int)) ∧ w'.cell? ⟨w.heap.size, 2, none⟩ = some (.int .i64 (t.cost : Int)) ∧ w'.cell? ⟨p3, 0, none⟩ = some (.func (.func 64) #[] #[]) ∧ w'.cell? ⟨p7, 0, none⟩ = some (.slice (some ⟨gW, 0, none⟩) (n + 1) (n + 1)) ∧ w'.cell? ⟨gW, i + t.width, none⟩ = some (.int .i64 ((V (i + t.width) : Nat) : Int))) (first | (exact ⟨by assumption, by assumption, by assumption, by assumption, by assumption, by assumption⟩) | go_keep)
  (first
   | (go_at_call 64; refine (HCost.out _).mono ?_; rintro e w5 ⟨rfl, hb5⟩; have m0 := kcell hb5 (show World.cell? (World.drew _) _ = _ from x0); have m1 := kcell hb5 (show World.cell? (World.drew _) _ = _ from x1); have m2 := kcell hb5 (show World.cell? (World.drew _) _ = _ from x2); have m3 := kcell hb5 (show World.cell? (World.drew _) _ = _ from y3); have m7 := kcell hb5 (show World.cell? (World.drew _) _ = _ from y7); have mw := kcell hb5 (show World.cell? (World.drew _) _ = _ from yw)))
 have hb6 := below_next ((Below.refl _ _).drew) hb5; have HE5 := uH (HE.out.kept (Kept2.of hb6)); have HL5 := uH (HL.out.keep hb6); have HK5 : Hid (Kept2 gF gW w w5) := uH ((Kept2.of HB0.out).trans (Kept2.of hb6)); obtain ⟨csF, csW, h1, h2, h3, h4, h5, h6⟩ := HL5.out; obtain ⟨f0, f1, f2⟩ := h3 i hi; have e0 := (h1.cell (i * 3)).trans f0; have e1 := (h1.cell (i * 3 + 1)).trans f1; have e2 := (h1.cell (i * 3 + 2)).trans f2; have g0 := h1.free (i * 3); have g1 := h1.free (i * 3 + 1); have g2 := h1.free (i * 3 + 2); have ew := (h4.cell i).trans (h6 i (by omega)); have gw := h4.free i; have m6 := HE5.out.c6; have i1 : (0 : Int) ≤ (i : Int) := (by omega); have i2 : (i : Int) < (n : Int) := (by omega); have i3 : (i : Int) < (n : Int) + 1 := (by omega); have hnn := HE5.out.nn; have HSet := uH (fun m => LIn.set HL5.out hnn hi t m); have HKs : Hid (∀ m : Nat, Kept2 gF gW w ((((w5.setCell ⟨gF, i * 3, none⟩ (.int .i64 t.brief)).setCell ⟨gF, i * 3 + 1, none⟩ (.int .i64 (t.width : Int))).setCell ⟨gF, i * 3 + 2, none⟩ (.int .i64 (t.cost : Int))).setCell ⟨gW, i, none⟩ (.int .i64 (m : Int)))) := uH (fun m => (((HK5.out.set _ (.inl rfl) _).set _ (.inl rfl) _).set _ (.inl rfl) _).set _ (.inr rfl) _); have HWhole : Hid (((t.cost + V (i + t.width) : Nat) : Int) = (t.cost : Int) + ((V (i + t.width) : Nat) : Int)) := uH (by omega); clear h1 h2 h3 h4 h5 h6 f0 f1 f2 HE HL HX HB0 HCost HE0 y3 y6 y7 yw x0 x1 x2 q3 q7 qw r0 r1 r2 hb5 hb6; have ne1 : ¬ p7 = gF := HE5.out.n7.1; have ne2 : ¬ p7 = gW := HE5.out.n7.2; have ne3 : ¬ p6 = gF := HE5.out.n6.1; have ne4 : ¬ p6 = gW := HE5.out.n6.2; have ne5 : ¬ gF = gW := hnn; have ne6 : ¬ gW = gF := fun e => hnn e.symm; have ne7 : ¬ gF = p7 := fun e => ne1 e.symm; have ne8 : ¬ gW = p7 := fun e => ne2 e.symm; have ne9 : ¬ gF = p6 := fun e => ne3 e.symm; have neA : ¬ gW = p6 := fun e => ne4 e.symm; have neB : ¬ w.heap.size = gF := fun e => by
  have := HGl.out.1; omega
 have neC : ¬ w.heap.size = gW := fun e => by
  have := HGl.out.2; omega
 have neD : ¬ gF = w.heap.size := fun e => neB e.symm; have neE : ¬ gW = w.heap.size := fun e => neC e.symm; by_cases hz : (F i).width = 0 ∨ t.cost + V (i + t.width) < V i
 ·have HN : Hid (∀ W, LIn W gF gW n (updT F i t) (updT V i (t.cost + V (i + t.width))) → nextL n i t F V gF gW W) := uH (fun W h => by unfold nextL; rw [if_pos hz]; exact h); have hset := HSet.out (t.cost + V (i + t.width)); have hks := HKs.out (t.cost + V (i + t.width)); rw [HWhole.out] at hset hks; have HS1 := uH hset; have HK1 := uH hks; clear hset hks HSet HKs; by_cases hz1 : (F i).width = 0
  ·have z0 : (((F i).width : Int) == 0) = true := (by rw [hz1]; rfl); clear hz hz1; (go_wp2_with fail); go_region
   all_goals
    go_wp2; first | go_end0 | skip
    exact ⟨rfl, HN.out _ HS1.out, HK1.out.drew⟩
  ·have z0 : (((F i).width : Int) == 0) = false := (by simp; omega); have z1 : (t.cost : Int) + ((V (i + t.width) : Nat) : Int) < ((V i : Nat) : Int) := (by omega); clear hz hz1; (go_wp2_with fail); go_region
   all_goals
    go_wp2; first | go_end0 | skip
    exact ⟨rfl, HN.out _ HS1.out, HK1.out.drew⟩
 ·have HN : Hid (nextL n i t F V gF gW w5) := uH (by unfold nextL; rw [if_neg hz]; exact HL5.out); have z0 : (((F i).width : Int) == 0) = false := (by simp; omega); have z1 : ¬ (t.cost : Int) + ((V (i + t.width) : Nat) : Int) < ((V i : Nat) : Int) := (by omega); clear hz HSet HKs; go_wp2; first | go_end0 | skip
  exact ⟨rfl, HN.out, HK5.out⟩
theorem LIn.congr {w : World} {gF gW n : Nat} {F F' : Nat → Tk} {V V' : Nat → Nat} (h : LIn w gF gW n F V) (h1 : ∀ j, j < n → F' j = F j) (h2 : ∀ j, j ≤ n → V' j = V j) : LIn w gF gW n F' V' := by
 obtain ⟨csF, csW, a1, a2, a3, a4, a5, a6⟩ := h; exact ⟨csF, csW, a1, a2, fun j hj => by rw [h1 j hj]; exact a3 j hj, a4, a5, fun j hj => by rw [h2 j hj]; exact a6 j hj⟩
def FkT (bs : List Bf) (ws : List Wd) (i j : Nat) : Tk := if i ≤ j then (firstT bs (ws.drop j)).1 else ⟨0, 0, 0⟩
def VkT (bs : List Bf) (ws : List Wd) (i j : Nat) : Nat := if i ≤ j then costOf bs (ws.drop j) else 0
theorem toks_ok {bs : List Bf} {ws : List Wd} (hv : brsB bs = true) (hs : spB ws = true) {i : Nat} (hi : i < ws.length) {t : Tk} (ht : t ∈ toksAt bs (ws.drop i)) : 1 ≤ t.width ∧ i + t.width ≤ ws.length ∧ t.cost ≤ 100 := by
 rcases List.mem_append.1 ht with hm | hm
 ·obtain ⟨j, b, h1, h2, rfl⟩ := (toksG_mem bs 0).1 hm; have hb := List.mem_of_getElem? h1; have h3 := hitB_len h2; rw [List.length_drop] at h3; have h4 := valid_one hv b hb; have h5 := (markB_len (bfB_iff.1 (brsB_mem hv b hb)).1).2; exact ⟨h4, by show i + b.words.length ≤ ws.length; omega, by show b.mark.length ≤ 100; omega⟩
 ·rw [List.mem_singleton] at hm; subst hm; refine ⟨Nat.le_refl _, by show i + 1 ≤ ws.length; omega, ?_⟩; rw [List.drop_eq_getElem_cons hi]
  show (ws[i]).length ≤ 100
  have := word_len12 ((spB_iff.1 hs).1 _ (List.getElem_mem hi)); omega
def tkAt (ts : List Tk) (k : Nat) : Tk := ts.getD k ⟨0, 0, 0⟩
theorem tkAt_some {ts : List Tk} {k : Nat} (h : k < ts.length) : ts[k]? = some (tkAt ts k) := by simp [tkAt, List.getD_eq_getElem?_getD, h]
theorem TkOwn.at_ {w : World} {B L c k : Nat} {A : Option Addr} {ts : List Tk} (h : TkOwn w B (.slice A L c) ts) (hl : ts.length = L) (hk : k < L) :
  ∃ b off, A = some ⟨b, off, none⟩ ∧ B ≤ b ∧ w.cell? ⟨b, off + k * 3, none⟩ = some (.int .i64 (tkAt ts k).brief) ∧ w.cell? ⟨b, off + k * 3 + 1, none⟩ = some (.int .i64 ((tkAt ts k).width : Int)) ∧ w.cell? ⟨b, off + k * 3 + 2, none⟩ = some (.int .i64 ((tkAt ts k).cost : Int)) := by
 unfold TkOwn at h; rw [hl] at h; obtain ⟨b, off, eA, hbB, hc⟩ := (Row.of_own h).2 (by omega); have hs := tkAt_some (ts := ts) (k := k) (by omega); have hB : B ≤ b := (by subst eA; exact ownG_base h rfl); refine ⟨b, off, eA, hB, ?_, ?_, ?_⟩
 ·have := hc (k * 3 + 0) _ (flat_at tkC_len ts k _ 0 (.int .i64 (tkAt ts k).brief) hs rfl); simpa using this
 ·have := hc (k * 3 + 1) _ (flat_at tkC_len ts k _ 1 (.int .i64 ((tkAt ts k).width : Int)) hs rfl)
  rwa [← Nat.add_assoc] at this
 ·have := hc (k * 3 + 2) _ (flat_at tkC_len ts k _ 2 (.int .i64 ((tkAt ts k).cost : Int)) hs rfl)
  rwa [← Nat.add_assoc] at this
def keepN (bs : List Bf) (ws : List Wd) (i k : Nat) : Tk × Nat := ((toksAt bs (ws.drop i)).take k).foldl (keepT bs (ws.drop i)) emptyT
theorem keepN_succ {bs : List Bf} {ws : List Wd} {i k : Nat} (h : k < (toksAt bs (ws.drop i)).length) : keepN bs ws i (k + 1) = keepT bs (ws.drop i) (keepN bs ws i k) (tkAt (toksAt bs (ws.drop i)) k) := by
 unfold keepN; have h2 := tkAt_some h; rw [List.getElem?_eq_getElem h] at h2; injection h2 with h2; rw [List.take_succ_eq_append_getElem h, List.foldl_append, h2]; rfl
theorem keepN_all (bs : List Bf) (ws : List Wd) (i : Nat) : keepN bs ws i (toksAt bs (ws.drop i)).length = firstT bs (ws.drop i) := by unfold keepN firstT; rw [List.take_length]
theorem nextL_keep {bs : List Bf} {ws : List Wd} {i k gF gW : Nat} {W : World} {t : Tk} (hw : 1 ≤ t.width) (h : nextL ws.length i t (updT (FkT bs ws (i + 1)) i (keepN bs ws i k).1) (updT (VkT bs ws (i + 1)) i (keepN bs ws i k).2) gF gW W) :
  LIn W gF gW ws.length (updT (FkT bs ws (i + 1)) i (keepT bs (ws.drop i) (keepN bs ws i k) t).1) (updT (VkT bs ws (i + 1)) i (keepT bs (ws.drop i) (keepN bs ws i k) t).2) := by
 have e1 : updT (VkT bs ws (i + 1)) i (keepN bs ws i k).2 (i + t.width) = costOf bs ((ws.drop i).drop t.width) := by
  rw [updT_ne _ _ (by omega)]; unfold VkT; rw [if_pos (by omega), List.drop_drop]
 unfold nextL at h; rw [updT_same, updT_same, e1] at h; unfold keepT wholeT; split at h
 ·rename_i hc
  rw [if_pos hc]; refine LIn.congr h (fun j _ => ?_) (fun j _ => ?_)
  ·by_cases e : j = i
   ·subst e; rw [updT_same, updT_same]
   ·rw [updT_ne _ _ e, updT_ne _ _ e, updT_ne _ _ e]
  ·by_cases e : j = i
   ·subst e; rw [updT_same, updT_same]
   ·rw [updT_ne _ _ e, updT_ne _ _ e, updT_ne _ _ e]
 ·rename_i hc
  rw [if_neg hc]; exact h
theorem tables_start {bs : List Bf} {ws : List Wd} {i gF gW : Nat} {W : World} (h : LIn W gF gW ws.length (FkT bs ws (i + 1)) (VkT bs ws (i + 1))) :
  LIn W gF gW ws.length (updT (FkT bs ws (i + 1)) i (keepN bs ws i 0).1) (updT (VkT bs ws (i + 1)) i (keepN bs ws i 0).2) := by
 refine LIn.congr h (fun j _ => ?_) (fun j _ => ?_)
 ·by_cases e : j = i
  ·subst e; rw [updT_same]; unfold FkT; rw [if_neg (by omega)]; rfl
  ·rw [updT_ne _ _ e]
 ·by_cases e : j = i
  ·subst e; rw [updT_same]; unfold VkT; rw [if_neg (by omega)]; rfl
  ·rw [updT_ne _ _ e]
theorem tables_end {bs : List Bf} {ws : List Wd} {i gF gW : Nat} {W : World} (h1 : ∀ b ∈ bs, 1 ≤ b.words.length) (hi : i < ws.length) (h : LIn W gF gW ws.length (updT (FkT bs ws (i + 1)) i (firstT bs (ws.drop i)).1) (updT (VkT bs ws (i + 1)) i (firstT bs (ws.drop i)).2)) :
  LIn W gF gW ws.length (FkT bs ws i) (VkT bs ws i) := by
 have hf := (firstT_is h1 (ws := ws.drop i) (by rw [List.length_drop]; omega)).1; refine LIn.congr h (fun j _ => ?_) (fun j _ => ?_)
 ·by_cases e : j = i
  ·subst e; rw [updT_same]; unfold FkT; rw [if_pos (Nat.le_refl _)]
  ·rw [updT_ne _ _ e]; unfold FkT; by_cases h2 : i ≤ j
   ·rw [if_pos h2, if_pos (by omega)]
   ·rw [if_neg h2, if_neg (by omega)]
 ·by_cases e : j = i
  ·subst e; rw [updT_same, hf]; unfold VkT; rw [if_pos (Nat.le_refl _)]
  ·rw [updT_ne _ _ e]; unfold VkT; by_cases h2 : i ≤ j
   ·rw [if_pos h2, if_pos (by omega)]
   ·rw [if_neg h2, if_neg (by omega)]
theorem BrsIn.below {w w' : World} {B n c : Nat} {A : Option Addr} {xs : List Br} (h : BrsIn w B A n c xs) (hb : Below B w w') : BrsIn w' B A n c xs :=
 ⟨h.1, h.2.1, h.2.2.1, h.2.2.2.1.below hb, fun x hx => WdsIn.below (h.2.2.2.2 x hx) hb⟩
theorem BrsIn.more {w : World} {B B' n c : Nat} {A : Option Addr} {xs : List Br} (h : BrsIn w B A n c xs) (hB : B ≤ B') : BrsIn w B' A n c xs :=
 ⟨h.1, h.2.1, h.2.2.1, h.2.2.2.1.more hB, fun x hx => WdsIn.more (h.2.2.2.2 x hx) hB⟩
theorem keepN_bd {bs : List Bf} {ws : List Wd} {i : Nat} (hv : brsB bs = true) (hs : spB ws = true) (hi : i < ws.length) : ∀ k, (keepN bs ws i k).2 ≤ 1000 := by
 intro k; induction k with
 | zero => exact Nat.zero_le _
 | succ k ih =>
  by_cases hk : k < (toksAt bs (ws.drop i)).length
  ·rw [keepN_succ hk]; unfold keepT; split
   ·have h1 := toks_ok hv hs hi (List.mem_of_getElem? (tkAt_some hk)); have h2 := cost240 (valid_one hv) hs (i + (tkAt (toksAt bs (ws.drop i)) k).width)
    show wholeT bs (ws.drop i) _ ≤ 1000
    unfold wholeT; rw [List.drop_drop]; omega
   ·exact ih
  ·have : keepN bs ws i (k + 1) = keepN bs ws i k := by
    unfold keepN; rw [List.take_of_length_le (by omega), List.take_of_length_le (by omega)]
   rw [this]; exact ih
theorem vk_bd {bs : List Bf} {ws : List Wd} {i k : Nat} (h1 : ∀ b ∈ bs, 1 ≤ b.words.length) (hv : brsB bs = true) (hs : spB ws = true) (hi : i < ws.length) (j : Nat) : updT (VkT bs ws (i + 1)) i (keepN bs ws i k).2 j ≤ 1000 := by
 by_cases e : j = i
 ·subst e; rw [updT_same]; exact keepN_bd hv hs hi k
 ·rw [updT_ne _ _ e]; unfold VkT; split
  ·have := cost240 h1 hs j; omega
  ·omega
def cbV (p3 p6 p7 : Nat) : Value := .func (.func 126) #[] #[.pointer (some ⟨p3, 0, none⟩), .pointer (some ⟨p7, 0, none⟩), .pointer (some ⟨p6, 0, none⟩)]
set_option maxHeartbeats 3200000 in
theorem visitAll {gF gW p3 p6 p7 Bd : Nat} (A : Option Addr) (n c : Nat) (xs : List Br) (A' : Option Addr) (n' c' : Nat) (ws : List Wd) (hv : brsB (xs.map Br.dat) = true) (hs : spB ws = true) (hF : Bd ≤ gF) (hG : Bd ≤ gW) :
  ∀ (m i : Nat) (w : World), i + m = n' → BrsIn w Bd A n c xs → WdsIn w Bd A' n' c' ws → Bd ≤ w.heap.size → VEnv gF gW p3 p6 p7 n' w → LIn w gF gW n' (FkT (xs.map Br.dat) ws n') (VkT (xs.map Br.dat) ws n') →
  Calls Tryz.prog 125 #[deskV A n c A' n' c', .int .i64 (i : Int), cbV p3 p6 p7] w fun e w' => e = .returned (.tuple #[]) ∧ LIn w' gF gW n' (FkT (xs.map Br.dat) ws i) (VkT (xs.map Br.dat) ws i) ∧ Kept2 gF gW w w' := by
 intro m; induction m with
 | zero =>
  intro i w hi h h' hB hE hL; obtain rfl : i = n' := (by omega); have hn20 : i ≤ 20 := (by have := (spB_iff.1 hs).2; rw [h'.1] at this; exact this); have b0 : Below w.heap.size w (w.alloc (.cells #[.slice A n c, .slice A' i c'] 97)) := (Below.refl _ _).alloc (Nat.le_refl _) _; have HF := uH (hL.keep b0); have HK : Hid (Kept2 gF gW w (w.alloc (.cells #[.slice A n c, .slice A' i c'] 97))) := uH (Kept2.of b0); clear h h' hE hL hs hv b0; unfold deskV cbV; go_enter Tryz.func125, Tryz.ntmps125
  go_wp2; first | go_end0 | refine bodyPost_ret (results_none rfl _ _ _) rfl ?_
  exact ⟨rfl, HF.out, HK.out⟩
 | succ m ih =>
  intro i w hi h h' hB hE hL; have hn20 : n' ≤ 20 := (by have := (spB_iff.1 hs).2; rw [h'.1] at this; exact this); have hlt : i < n' := (by omega); have HL' := uH h'.1; have hv1 := valid_one hv; have HOne := uH hv1; have HV := uH hv; have HSp := uH hs; have i0 : (0 : Int) ≤ (i : Int) := (by omega); have i1 : (i : Int) < (n' : Int) := (by omega); have b0 : Below w.heap.size w (w.alloc (.cells #[.slice A n c, .slice A' n' c'] 97)) := (Below.refl _ _).alloc (Nat.le_refl _) _; have KD : Hid (Blk (w.alloc (.cells #[.slice A n c, .slice A' n' c'] 97)) w.heap.size 97 #[.slice A n c, .slice A' n' c']) := uH (Blk.new _ _ _); have k0 := KD.out.cell 0; have k1 := KD.out.cell 1; have hBb : Below Bd w (w.alloc (.cells #[.slice A n c, .slice A' n' c'] 97)) := b0.mono hB; have hgl : gF < w.heap.size ∧ gW < w.heap.size := (by obtain ⟨a1, a2, a3, a4, a5, a6, a7, a8⟩ := hL; exact ⟨a3.lt, a6.lt⟩); have HIH := uH (ih (i + 1) _ (by omega) (h.below hBb) (h'.below hBb) (by simp; omega) (hE.kept (Kept2.of b0)) (hL.keep b0)); have HE := uH hE; have HBr := uH (h.below hBb); have HWs := uH (h'.below hBb); have HK0 : Hid (Kept2 gF gW w (w.alloc (.cells #[.slice A n c, .slice A' n' c'] 97))) := uH (Kept2.of b0); have HBa : Hid (Bd ≤ (w.alloc (.cells #[.slice A n c, .slice A' n' c'] 97)).heap.size) := uH (by simp; omega); unfold deskV cbV at HIH ⊢; rw [show (((i + 1 : Nat) : Int)) = (i : Int) + 1 by omega] at HIH; clear h h' hE hL ih hs hv hv1 hBb hi b0; go_enter Tryz.func125, Tryz.ntmps125
  (go_wp2_with fail); refine HIH.out.mono ?_; rintro e w1 ⟨rfl, hL1, hK1⟩; have hb1 := hK1.below hF hG HBa.out; have HBr1 := uH (HBr.out.below hb1); have HWs1 := uH (HWs.out.below hb1); have hB1 : Bd ≤ w1.heap.size := Nat.le_trans HBa.out hb1.size; have HK1 := uH (HK0.out.trans hK1); have KD1 : Hid (Blk w1 w.heap.size 97 #[.slice A n c, .slice A' n' c']) := uH (hK1.blk KD.out (by omega) (by omega)); have m0 := KD1.out.cell 0; have m1 := KD1.out.cell 1; have HL1 := uH hL1; have HTk := uH (implTokensAt A n c xs A' n' c' ws i w1 HV.out HSp.out hlt (HBr1.out.more hB1) (HWs1.out.more hB1)); unfold deskV at HTk; clear hK1 hb1 hL1 HIH HBr HWs HK0 k0 k1; (go_wp2_with fail); refine HTk.out.mono ?_; rintro e w2 ⟨⟨A6, c6, rfl, hO⟩, hb2⟩; have HO := uH hO; have hz2 := hb2.size; have hz1 := HK1.out.size; have HE2 := uH ((HE.out.kept HK1.out).kept (Kept2.of hb2)); have HL2 : Hid (LIn w2 gF gW n' (updT (FkT (xs.map Br.dat) ws (i + 1)) i (keepN (xs.map Br.dat) ws i 0).1) (updT (VkT (xs.map Br.dat) ws (i + 1)) i (keepN (xs.map Br.dat) ws i 0).2)) := uH (by
   have := HL1.out.keep hb2; rw [← HL'.out] at this ⊢; exact tables_start this)
  have HK2 : Hid (Kept2 gF gW w w2) := uH (HK1.out.trans (Kept2.of hb2)); clear hO hb2 HTk HL1 HK1 m0 m1; obtain ⟨L, hLn⟩ : ∃ L, L = (toksAt (xs.map Br.dat) (ws.drop i)).length := ⟨_, rfl⟩; rw [← hLn] at HO ⊢; have HLn := uH hLn.symm; have HAll : Hid (keepN (xs.map Br.dat) ws i L = firstT (xs.map Br.dat) (ws.drop i)) := uH (by rw [hLn]; exact keepN_all _ _ _); have hL20 : L ≤ 1000000 := by
   have h1 := toksG_len (ws.drop i) (xs.map Br.dat) 0; have h2 := (brsB_iff.1 HV.out).1; rw [hLn]; unfold toksAt; rw [List.length_append]; simp at h1 h2 ⊢; omega
  clear hLn; go_wp2; go_loopw [22] (fun s22 wr => ∃ k : Nat, k ≤ L ∧ s22 = .int .i64 k ∧ Hid (LIn wr gF gW n' (updT (FkT (xs.map Br.dat) ws (i + 1)) i (keepN (xs.map Br.dat) ws i k).1) (updT (VkT (xs.map Br.dat) ws (i + 1)) i (keepN (xs.map Br.dat) ws i k).2)) ∧ Kept2 gF gW w2 wr) (fun s22 _ => L - (intOf s22).toNat)
  case atStart => exact ⟨0, Nat.zero_le _, rfl, HL2, Kept2.refl _⟩
  case round =>
   obtain ⟨k, hk, rfl, HLr, hkr⟩ := hrel; have hzr := hkr.size; have j1 : (0 : Int) ≤ (k : Int) := (by omega); by_cases hlk : k < L
   ·have j2 : (k : Int) < (L : Int) := (by omega); obtain ⟨b, off, rfl, hbb, c0, c1, c2⟩ := HO.out.at_ HLn.out hlk; have d0 := hkr.cell c0 (by show b ≠ gF; omega) (by show b ≠ gW; omega); have d1 := hkr.cell c1 (by show b ≠ gF; omega) (by show b ≠ gW; omega); have d2 := hkr.cell c2 (by show b ≠ gF; omega) (by show b ≠ gW; omega); have hmem : tkAt (toksAt (xs.map Br.dat) (ws.drop i)) k ∈ toksAt (xs.map Br.dat) (ws.drop i) := List.mem_of_getElem? (tkAt_some (by rw [HLn.out]; exact hlk)); obtain ⟨t1, t2, t3⟩ := toks_ok HV.out HSp.out (by rw [HL'.out]; exact hlt) hmem; rw [HL'.out] at t2; have HNx : Hid (∀ W, nextL n' i (tkAt (toksAt (xs.map Br.dat) (ws.drop i)) k) (updT (FkT (xs.map Br.dat) ws (i + 1)) i (keepN (xs.map Br.dat) ws i k).1) (updT (VkT (xs.map Br.dat) ws (i + 1)) i (keepN (xs.map Br.dat) ws i k).2) gF gW W → LIn W gF gW n' (updT (FkT (xs.map Br.dat) ws (i + 1)) i (keepN (xs.map Br.dat) ws i (k + 1)).1) (updT (VkT (xs.map Br.dat) ws (i + 1)) i (keepN (xs.map Br.dat) ws i (k + 1)).2)) := uH (fun W hN => by
     rw [keepN_succ (by rw [HLn.out]; exact hlk)]; rw [← HL'.out] at hN ⊢; exact nextL_keep t1 hN)
    have HVb : Hid (∀ j, j ≤ n' → updT (VkT (xs.map Br.dat) ws (i + 1)) i (keepN (xs.map Br.dat) ws i k).2 j ≤ 1000) := uH (fun j hj => vk_bd HOne.out HV.out HSp.out (by rw [HL'.out]; exact hlt) j); generalize tkAt (toksAt (xs.map Br.dat) (ws.drop i)) k = t at *; have ba : Below wr.heap.size wr (wr.alloc (.cells #[.int .i64 t.brief, .int .i64 (t.width : Int), .int .i64 (t.cost : Int)] 103)) := (Below.refl _ _).alloc (Nat.le_refl _) _; have HC := uH (leastFn (p3 := p3) (p6 := p6) (p7 := p7) i t _ _ _ hlt hn20 t2 t3 HVb.out ((HE2.out.kept hkr).kept (Kept2.of ba)) (HLr.out.keep ba)); have HKa : Hid (Kept2 gF gW w2 (wr.alloc (.cells #[.int .i64 t.brief, .int .i64 (t.width : Int), .int .i64 (t.cost : Int)] 103))) := uH (hkr.trans (Kept2.of ba)); clear HLr hkr ba HVb hmem c0 c1 c2; (go_wp2_with fail); refine HC.out.mono ?_; rintro e w5 ⟨rfl, hN5, hK5⟩; have HL5 := uH (HNx.out w5 hN5); have hk5 := HKa.out.trans hK5; clear hN5 hK5 HC HKa HNx d0 d1 d2; go_wp2; go_roundw
    case rel => exact ⟨k + 1, by omega, by go_num, HL5, hk5⟩
    case measure => simp [intOf] <;> omega
   ·obtain rfl : k = L := (by omega); have HF : Hid (LIn wr gF gW n' (FkT (xs.map Br.dat) ws i) (VkT (xs.map Br.dat) ws i)) := uH (by
     have := HLr.out; rw [HAll.out] at this; rw [← HL'.out] at this ⊢; exact tables_end HOne.out (by rw [HL'.out]; exact hlt) this)
    have hkf := HK2.out.trans hkr; clear HLr hkr; go_wp2; first | go_end0 | refine bodyPost_ret (results_none rfl _ _ _) rfl ?_
    exact ⟨rfl, HF.out, hkf⟩
end Go.Proofs.YtbkhnljaajajiaaGreatDoor
