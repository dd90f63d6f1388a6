/-
  DERIVED. GIVEN WITH THE SEED: THE CARDS: each row of YtlhbgpjimopjeaaGreatDoorRows.lean that lists a variable, with what it lists TIED to the program's text (the seventh form; the later family's looks); each row that meets fmt, with fmt's text TOLD by the authors' own Lean function (tested against real Go, not proved from fmt's source: count such statements apart). THE CARD IS WHAT COUNTS. Prove the row's statement (the work); the ties are given (YtlhbgpjimopjeaaGreatDoorTie.lean); close each card by the builder's one call (the guide's Derived/Test/ToyasCard.lean, 'card_holds'). Laid BY PROGRAM, IN A SANDBOX (cutbox-door.mjs). By AI agents, Wed Nov 11 2026. No macro, syntax, notation, axiom, sorry.
-/
import Derived.Test.YtlhbgpjimopjeaaGreatDoorRows
import GoSem.ClaimSeven
namespace Go.Proofs.YtlhbgpjimopjeaaGreatDoor
namespace Rows

/-- THE TIED CARD OF 'juristlaw07.ElabNone'. -/
def elabNoneCard : Claim7 := { stood := { row := elabNoneRow, standIns := [], harness := (true, "e3ad900a769fb525dcf06d81d858d209b2025be8504744f7bda729677bf6f8fd"), looks := true }, kinds := [], alts := [], laidByText := true, laidKinds := [.data, .data, .data, .sentinel, .sentinel], laidTests := true, laidLooks := .later }
def ElabNoneCardSaid : Prop := Claim7.holds Tryz.pinned (.plain (OpenSpec.ofChange elabNoneSpec)) elabNoneCard

/-- THE TIED CARD OF 'juristlaw10.RewriteNone'. -/
def rewriteNoneCard : Claim7 := { stood := { row := rewriteNoneRow, standIns := [], harness := (true, "e3ad900a769fb525dcf06d81d858d209b2025be8504744f7bda729677bf6f8fd"), looks := true }, kinds := [], alts := [], laidByText := true, laidKinds := [.data, .data, .data, .sentinel, .sentinel], laidTests := true, laidLooks := .later }
def RewriteNoneCardSaid : Prop := Claim7.holds Tryz.pinned (.plain (OpenSpec.ofChange rewriteNoneSpec)) rewriteNoneCard

/-- THE TIED CARD OF 'juristlaw13.GatesNone'. -/
def gatesNoneCard : Claim7 := { stood := { row := gatesNoneRow, standIns := [], harness := (true, "e3ad900a769fb525dcf06d81d858d209b2025be8504744f7bda729677bf6f8fd"), looks := true }, kinds := [], alts := [], laidByText := true, laidKinds := [.data, .data, .data, .sentinel, .sentinel], laidTests := true, laidLooks := .later }
def GatesNoneCardSaid : Prop := Claim7.holds Tryz.pinned (.plain (OpenSpec.ofChange gatesNoneSpec)) gatesNoneCard

/-- THE SECOND FORM's CARD OF 'juristlaw07.ElabNone'. -/
def elabNoneUptoCard : Claim7 := { stood := { row := elabNoneUptoRow, standIns := [], harness := (true, "e3ad900a769fb525dcf06d81d858d209b2025be8504744f7bda729677bf6f8fd"), looks := true }, kinds := [], alts := [], laidByText := true, laidKinds := [.data, .data, .data, .sentinel, .sentinel], laidTests := true, laidLooks := .later }
def ElabNoneUptoCardSaid : Prop := Claim7.holds Tryz.pinned (.plain (OpenSpec.upto elabNoneSpec)) elabNoneUptoCard

/-- THE SECOND FORM's CARD OF 'juristlaw10.RewriteNone'. -/
def rewriteNoneUptoCard : Claim7 := { stood := { row := rewriteNoneUptoRow, standIns := [], harness := (true, "e3ad900a769fb525dcf06d81d858d209b2025be8504744f7bda729677bf6f8fd"), looks := true }, kinds := [], alts := [], laidByText := true, laidKinds := [.data, .data, .data, .sentinel, .sentinel], laidTests := true, laidLooks := .later }
def RewriteNoneUptoCardSaid : Prop := Claim7.holds Tryz.pinned (.plain (OpenSpec.upto rewriteNoneSpec)) rewriteNoneUptoCard

/-- THE SECOND FORM's CARD OF 'juristlaw13.GatesNone'. -/
def gatesNoneUptoCard : Claim7 := { stood := { row := gatesNoneUptoRow, standIns := [], harness := (true, "e3ad900a769fb525dcf06d81d858d209b2025be8504744f7bda729677bf6f8fd"), looks := true }, kinds := [], alts := [], laidByText := true, laidKinds := [.data, .data, .data, .sentinel, .sentinel], laidTests := true, laidLooks := .later }
def GatesNoneUptoCardSaid : Prop := Claim7.holds Tryz.pinned (.plain (OpenSpec.upto gatesNoneSpec)) gatesNoneUptoCard
end Rows
end Go.Proofs.YtlhbgpjimopjeaaGreatDoor
