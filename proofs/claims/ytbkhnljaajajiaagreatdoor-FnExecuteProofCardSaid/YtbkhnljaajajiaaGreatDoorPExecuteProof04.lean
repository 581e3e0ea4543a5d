/-
  Contracts and plain laws that the proofs lean on. Conditions: as each says.
-/
import Derived.Test.YtbkhnljaajajiaaGreatDoorPExecuteProof03
set_option maxRecDepth 100000
set_option linter.unusedSimpArgs false
set_option linter.unusedVariables false
set_option linter.unnecessarySimpa false
namespace Go.Proofs.YtbkhnljaajajiaaGreatDoor
open Go.ChangeShapes Go.WideShapes Go.ChangeAt Go.RowKit
def speechL (ws:List Wd):Wd:=cmdL cSpeech ws
theorem speech_step {s:St} {ws:List Wd} (h:spB ws=true):lineS s (cutB 32 (speechL ws))=({ s with sp:=ws },sayOk):=by
 unfold speechL;rw [cmdL_cut (by decide) (fun l hl=>word_plain ((spB_iff.1 h).1 l hl)),line_speech,if_pos h];rfl
end Go.Proofs.YtbkhnljaajajiaaGreatDoor
