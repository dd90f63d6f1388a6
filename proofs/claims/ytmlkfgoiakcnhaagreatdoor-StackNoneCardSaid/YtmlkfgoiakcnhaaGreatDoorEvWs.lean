/- The abstract run of the stack's known ends in true. -/
import Derived.Test.YtmlkfgoiakcnhaaGreatDoorEvV
namespace Go.Proofs.YtmlkfgoiakcnhaaGreatDoor
open Go
set_option maxRecDepth 1000000 in
theorem stackKnown_run : lawE tab 1000000 5 .nil = true := by kernel_rfl
end Go.Proofs.YtmlkfgoiakcnhaaGreatDoor
