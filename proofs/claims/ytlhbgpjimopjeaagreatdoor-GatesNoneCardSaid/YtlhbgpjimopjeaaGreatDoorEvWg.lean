/- The abstract runs of GatesNone and RewriteNone end in true. -/
import Derived.Test.YtlhbgpjimopjeaaGreatDoorEvV
namespace Go.Proofs.YtlhbgpjimopjeaaGreatDoor
open Go
set_option maxRecDepth 1000000 in
theorem gatesNone_run : lawE tab 1000000 5 (.cons (.unkI .i64) (.cons (.unkI .i64) (.cons (.unkI .i64) .nil))) = true := by kernel_rfl
theorem gatesNone_calls (x y z : Int) (w : World) : Calls Tryz.prog 5 #[.int .i64 x, .int .i64 y, .int .i64 z] w fun e w' => e = .returned (.bool true) ∧ RowKit.Below w.heap.size w w' :=
  calls_run tabOk gatesNone_run fun σ => by simp only [VRs, VR]; exact ⟨_, _, rfl, ⟨x, rfl⟩, _, _, rfl, ⟨y, rfl⟩, _, _, rfl, ⟨z, rfl⟩, rfl⟩
end Go.Proofs.YtlhbgpjimopjeaaGreatDoor
