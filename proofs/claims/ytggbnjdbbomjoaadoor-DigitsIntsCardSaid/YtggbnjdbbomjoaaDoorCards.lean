/-
  DERIVED. GIVEN WITH THE SEED: THE CARDS: each row of YtggbnjdbbomjoaaDoorRows.lean that lists a variable, with what it lists TIED to the program's text (the seventh form; the later family's looks); each row that meets fmt, with fmt's text TOLD by the authors' own Lean function (tested against real Go, not proved from fmt's source: count such statements apart). THE CARD IS WHAT COUNTS. Prove the row's statement (the work); the ties are given (YtggbnjdbbomjoaaDoorTie.lean); close each card by the builder's one call (the guide's Derived/Test/ToyasCard.lean, 'card_holds'). Laid BY PROGRAM, IN A SANDBOX (cutbox-door.mjs). By AI agents, Wed Nov 11 2026. No macro, syntax, notation, axiom, sorry.
-/
import Derived.Test.YtggbnjdbbomjoaaDoorRows
import GoSem.ClaimSeven
namespace Go.Proofs.YtggbnjdbbomjoaaDoor
namespace Rows

/-- THE TIED CARD OF 'juristlaw01.DigitsReads'. -/
def digitsReadsCard : Claim7 := { stood := { row := digitsReadsRow, standIns := [], harness := (true, "6ef7b9d43a2d3d9aba502a74fa3940d09fe82ff4dd2df0d3f75a93c36131a331"), looks := true }, kinds := [], alts := [], laidByText := true, laidKinds := [.data, .data, .data, .sentinel, .sentinel], laidTests := true, laidLooks := .later }
def DigitsReadsCardSaid : Prop := Claim7.holds Tryd.pinned (.plain (OpenSpec.ofChange digitsReadsSpec)) digitsReadsCard

/-- THE TIED CARD OF 'juristlaw01.DigitsThere'. -/
def digitsThereCard : Claim7 := { stood := { row := digitsThereRow, standIns := [], harness := (true, "6ef7b9d43a2d3d9aba502a74fa3940d09fe82ff4dd2df0d3f75a93c36131a331"), looks := true }, kinds := [], alts := [], laidByText := true, laidKinds := [.data, .data, .data, .sentinel, .sentinel], laidTests := true, laidLooks := .later }
def DigitsThereCardSaid : Prop := Claim7.holds Tryd.pinned (.plain (OpenSpec.ofChange digitsThereSpec)) digitsThereCard

/-- THE TIED CARD OF 'juristlaw01.DigitsAdds'. -/
def digitsAddsCard : Claim7 := { stood := { row := digitsAddsRow, standIns := [], harness := (true, "6ef7b9d43a2d3d9aba502a74fa3940d09fe82ff4dd2df0d3f75a93c36131a331"), looks := true }, kinds := [], alts := [], laidByText := true, laidKinds := [.data, .data, .data, .sentinel, .sentinel], laidTests := true, laidLooks := .later }
def DigitsAddsCardSaid : Prop := Claim7.holds Tryd.pinned (.plain (OpenSpec.ofChange digitsAddsSpec)) digitsAddsCard

/-- THE TIED CARD OF 'juristlaw01.DigitsInts'. -/
def digitsIntsCard : Claim7 := { stood := { row := digitsIntsRow, standIns := [], harness := (true, "6ef7b9d43a2d3d9aba502a74fa3940d09fe82ff4dd2df0d3f75a93c36131a331"), looks := true }, kinds := [], alts := [], laidByText := true, laidKinds := [.data, .data, .data, .sentinel, .sentinel], laidTests := true, laidLooks := .later }
def DigitsIntsCardSaid : Prop := Claim7.holds Tryd.pinned (.plain (OpenSpec.ofChange digitsIntsSpec)) digitsIntsCard

/-- THE TIED CARD OF 'juristlaw01.DigitsBack'. -/
def digitsBackCard : Claim7 := { stood := { row := digitsBackRow, standIns := [], harness := (true, "6ef7b9d43a2d3d9aba502a74fa3940d09fe82ff4dd2df0d3f75a93c36131a331"), looks := true }, kinds := [], alts := [], laidByText := true, laidKinds := [.data, .data, .data, .sentinel, .sentinel], laidTests := true, laidLooks := .later }
def DigitsBackCardSaid : Prop := Claim7.holds Tryd.pinned (.plain (OpenSpec.ofChange digitsBackSpec)) digitsBackCard

/-- THE TIED CARD OF 'juristlaw01.DigitsWrites'. -/
def digitsWritesCard : Claim7 := { stood := { row := digitsWritesRow, standIns := [], harness := (true, "6ef7b9d43a2d3d9aba502a74fa3940d09fe82ff4dd2df0d3f75a93c36131a331"), looks := true }, kinds := [], alts := [], laidByText := true, laidKinds := [.data, .data, .data, .sentinel, .sentinel], laidTests := true, laidLooks := .later }
def DigitsWritesCardSaid : Prop := Claim7.holds Tryd.pinned (.plain (OpenSpec.ofChange digitsWritesSpec)) digitsWritesCard

/-- THE SECOND FORM's CARD OF 'juristlaw01.DigitsReads'. -/
def digitsReadsUptoCard : Claim7 := { stood := { row := digitsReadsUptoRow, standIns := [], harness := (true, "6ef7b9d43a2d3d9aba502a74fa3940d09fe82ff4dd2df0d3f75a93c36131a331"), looks := true }, kinds := [], alts := [], laidByText := true, laidKinds := [.data, .data, .data, .sentinel, .sentinel], laidTests := true, laidLooks := .later }
def DigitsReadsUptoCardSaid : Prop := Claim7.holds Tryd.pinned (.plain (OpenSpec.upto digitsReadsSpec)) digitsReadsUptoCard

/-- THE SECOND FORM's CARD OF 'juristlaw01.DigitsThere'. -/
def digitsThereUptoCard : Claim7 := { stood := { row := digitsThereUptoRow, standIns := [], harness := (true, "6ef7b9d43a2d3d9aba502a74fa3940d09fe82ff4dd2df0d3f75a93c36131a331"), looks := true }, kinds := [], alts := [], laidByText := true, laidKinds := [.data, .data, .data, .sentinel, .sentinel], laidTests := true, laidLooks := .later }
def DigitsThereUptoCardSaid : Prop := Claim7.holds Tryd.pinned (.plain (OpenSpec.upto digitsThereSpec)) digitsThereUptoCard

/-- THE SECOND FORM's CARD OF 'juristlaw01.DigitsAdds'. -/
def digitsAddsUptoCard : Claim7 := { stood := { row := digitsAddsUptoRow, standIns := [], harness := (true, "6ef7b9d43a2d3d9aba502a74fa3940d09fe82ff4dd2df0d3f75a93c36131a331"), looks := true }, kinds := [], alts := [], laidByText := true, laidKinds := [.data, .data, .data, .sentinel, .sentinel], laidTests := true, laidLooks := .later }
def DigitsAddsUptoCardSaid : Prop := Claim7.holds Tryd.pinned (.plain (OpenSpec.upto digitsAddsSpec)) digitsAddsUptoCard

/-- THE SECOND FORM's CARD OF 'juristlaw01.DigitsInts'. -/
def digitsIntsUptoCard : Claim7 := { stood := { row := digitsIntsUptoRow, standIns := [], harness := (true, "6ef7b9d43a2d3d9aba502a74fa3940d09fe82ff4dd2df0d3f75a93c36131a331"), looks := true }, kinds := [], alts := [], laidByText := true, laidKinds := [.data, .data, .data, .sentinel, .sentinel], laidTests := true, laidLooks := .later }
def DigitsIntsUptoCardSaid : Prop := Claim7.holds Tryd.pinned (.plain (OpenSpec.upto digitsIntsSpec)) digitsIntsUptoCard

/-- THE SECOND FORM's CARD OF 'juristlaw01.DigitsBack'. -/
def digitsBackUptoCard : Claim7 := { stood := { row := digitsBackUptoRow, standIns := [], harness := (true, "6ef7b9d43a2d3d9aba502a74fa3940d09fe82ff4dd2df0d3f75a93c36131a331"), looks := true }, kinds := [], alts := [], laidByText := true, laidKinds := [.data, .data, .data, .sentinel, .sentinel], laidTests := true, laidLooks := .later }
def DigitsBackUptoCardSaid : Prop := Claim7.holds Tryd.pinned (.plain (OpenSpec.upto digitsBackSpec)) digitsBackUptoCard

/-- THE SECOND FORM's CARD OF 'juristlaw01.DigitsWrites'. -/
def digitsWritesUptoCard : Claim7 := { stood := { row := digitsWritesUptoRow, standIns := [], harness := (true, "6ef7b9d43a2d3d9aba502a74fa3940d09fe82ff4dd2df0d3f75a93c36131a331"), looks := true }, kinds := [], alts := [], laidByText := true, laidKinds := [.data, .data, .data, .sentinel, .sentinel], laidTests := true, laidLooks := .later }
def DigitsWritesUptoCardSaid : Prop := Claim7.holds Tryd.pinned (.plain (OpenSpec.upto digitsWritesSpec)) digitsWritesUptoCard
end Rows
end Go.Proofs.YtggbnjdbbomjoaaDoor
