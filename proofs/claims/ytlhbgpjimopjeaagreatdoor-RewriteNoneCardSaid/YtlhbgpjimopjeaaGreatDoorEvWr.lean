/- The abstract runs of RewriteNone end in true: at 0, 1, 2, below and above. -/
import Derived.Test.YtlhbgpjimopjeaaGreatDoorEvV
namespace Go.Proofs.YtlhbgpjimopjeaaGreatDoor
open Go
set_option maxRecDepth 1000000 in
theorem rewriteNone_run0 : lawE tab 1000000 4 (.cons (.int .i64 0) .nil) = true := by kernel_rfl
set_option maxRecDepth 1000000 in
theorem rewriteNone_run1 : lawE tab 1000000 4 (.cons (.int .i64 1) .nil) = true := by kernel_rfl
set_option maxRecDepth 1000000 in
theorem rewriteNone_run2 : lawE tab 1000000 4 (.cons (.int .i64 2) .nil) = true := by kernel_rfl
set_option maxRecDepth 1000000 in
theorem rewriteNone_runN : lawE tab 1000000 4 (.cons (.rng .i64 (-9223372036854775808) (-1)) .nil) = true := by kernel_rfl
set_option maxRecDepth 1000000 in
theorem rewriteNone_runB : lawE tab 1000000 4 (.cons (.rng .i64 3 9223372036854775807) .nil) = true := by kernel_rfl
theorem rewriteNone_calls (x : Int) (h1 : -9223372036854775808 ≤ x) (h2 : x ≤ 9223372036854775807) (w : World) : Calls Tryz.prog 4 #[.int .i64 x] w fun e w' => e = .returned (.bool true) ∧ RowKit.Below w.heap.size w w' := by
  by_cases c0 : x < 0
  · exact calls_run tabOk rewriteNone_runN fun σ => by simp only [VRs, VR]; exact ⟨_, _, rfl, ⟨x, rfl, h1, by omega⟩, rfl⟩
  · by_cases c1 : 3 ≤ x
    · exact calls_run tabOk rewriteNone_runB fun σ => by simp only [VRs, VR]; exact ⟨_, _, rfl, ⟨x, rfl, c1, h2⟩, rfl⟩
    · have hx : x = 0 ∨ x = 1 ∨ x = 2 := by omega
      rcases hx with rfl | rfl | rfl
      · exact calls_run tabOk rewriteNone_run0 fun σ => by simp only [VRs, VR]; exact ⟨_, _, rfl, rfl, rfl⟩
      · exact calls_run tabOk rewriteNone_run1 fun σ => by simp only [VRs, VR]; exact ⟨_, _, rfl, rfl, rfl⟩
      · exact calls_run tabOk rewriteNone_run2 fun σ => by simp only [VRs, VR]; exact ⟨_, _, rfl, rfl, rfl⟩
end Go.Proofs.YtlhbgpjimopjeaaGreatDoor
