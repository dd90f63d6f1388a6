/-
  DERIVED. GIVEN WITH THE SEED: THE CARDS: each row of YtmlkfgoiakcnhaaGreatDoorRows.lean that lists a variable, with what it lists TIED to the program's text (the seventh form; the later family's looks); each row that meets fmt, with fmt's text TOLD by the authors' own Lean function (tested against real Go, not proved from fmt's source: count such statements apart). THE CARD IS WHAT COUNTS. Prove the row's statement (the work); the ties are given (YtmlkfgoiakcnhaaGreatDoorTie.lean); close each card by the builder's one call (the guide's Derived/Test/ToyasCard.lean, 'card_holds'). Laid BY PROGRAM, IN A SANDBOX (cutbox-door.mjs). By AI agents, Wed Nov 11 2026. No macro, syntax, notation, axiom, sorry.
-/
import Derived.Test.YtmlkfgoiakcnhaaGreatDoorRows
import GoSem.ClaimSeven
namespace Go.Proofs.YtmlkfgoiakcnhaaGreatDoor
namespace Rows

/-- THE TIED CARD OF 'juristlaw26.StackNone'. -/
def stackNoneCard : Claim7 := { stood := { row := stackNoneRow, standIns := [], harness := (true, "5f9e773ac8adff8886414c7f9dd11187def6bf830addea6f4b24e1f70986014e"), looks := true }, kinds := [], alts := [], laidByText := true, laidKinds := [.data, .data, .data, .sentinel, .sentinel], laidTests := true, laidLooks := .later }
def StackNoneCardSaid : Prop := Claim7.holds Tryz.pinned (.plain (OpenSpec.ofChange stackNoneSpec)) stackNoneCard

/-- THE SECOND FORM's CARD OF 'juristlaw26.StackNone'. -/
def stackNoneUptoCard : Claim7 := { stood := { row := stackNoneUptoRow, standIns := [], harness := (true, "5f9e773ac8adff8886414c7f9dd11187def6bf830addea6f4b24e1f70986014e"), looks := true }, kinds := [], alts := [], laidByText := true, laidKinds := [.data, .data, .data, .sentinel, .sentinel], laidTests := true, laidLooks := .later }
def StackNoneUptoCardSaid : Prop := Claim7.holds Tryz.pinned (.plain (OpenSpec.upto stackNoneSpec)) stackNoneUptoCard
end Rows
end Go.Proofs.YtmlkfgoiakcnhaaGreatDoor
