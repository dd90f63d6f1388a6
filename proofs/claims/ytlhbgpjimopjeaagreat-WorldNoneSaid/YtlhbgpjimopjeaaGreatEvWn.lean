/- Without a store layer 9 refuses: the abstract runs. -/
import Derived.Test.YtlhbgpjimopjeaaGreatEvV
import Derived.Test.YtlhbgpjimopjeaaGreatEvX
namespace Go.Proofs.YtlhbgpjimopjeaaGreat
open Go Go.RowKit
def unkW : EV := .agg (.cons .unkL (.cons .unkL .nil))
def refused (v : EV) : EV := .tup (.cons v (.cons (.int .i64 1) .nil))
set_option maxRecDepth 1000000 in
theorem worldValue_run : answerE tab 1000000 23 (.cons .ptr0 (.cons unkW (.cons (.unkI .i64) .nil))) (refused (.agg (.cons (.int .i64 0) (.cons (.bool false) (.cons (.int .i64 0) (.cons (.int .i64 0) (.cons (.int .i64 0) .nil))))))) = true := by kernel_rfl
set_option maxRecDepth 1000000 in
theorem worldValues_run : answerE tab 1000000 24 (.cons .ptr0 (.cons unkW (.cons .unkL .nil))) (refused .slice0) = true := by kernel_rfl
set_option maxRecDepth 1000000 in
theorem worldHolds_run : answerE tab 1000000 25 (.cons .ptr0 (.cons unkW (.cons .unkL .nil))) (refused (.bool false)) = true := by kernel_rfl

theorem worldValue_nil {w : World} {A0 A1 : Option Addr} {n0 c0 n1 c1 : Nat} {t : Int} : Calls Tryz.prog 23 #[.pointer none, .agg #[.slice A0 n0 c0, .slice A1 n1 c1], .int .i64 t] w fun e w' =>
    e = .returned (.tuple #[.agg #[.int .i64 0, .bool false, .int .i64 0, .int .i64 0, .int .i64 0], .int .i64 1]) ∧ Below w.heap.size w w' :=
  calls_tuple tabOk worldValue_run rfl (fun σ => by simp only [VRs, VR, unkW]; exact ⟨_, _, rfl, rfl, _, _, rfl, ⟨_, rfl, _, _, rfl, ⟨_, _, _, rfl⟩, _, _, rfl, ⟨_, _, _, rfl⟩, rfl⟩, _, _, rfl, ⟨_, rfl⟩, rfl⟩)
theorem worldValues_nil {w : World} {A0 A1 A2 : Option Addr} {n0 c0 n1 c1 n2 c2 : Nat} : Calls Tryz.prog 24 #[.pointer none, .agg #[.slice A0 n0 c0, .slice A1 n1 c1], .slice A2 n2 c2] w fun e w' =>
    e = .returned (.tuple #[.slice none 0 0, .int .i64 1]) ∧ Below w.heap.size w w' :=
  calls_tuple tabOk worldValues_run rfl (fun σ => by simp only [VRs, VR, unkW]; exact ⟨_, _, rfl, rfl, _, _, rfl, ⟨_, rfl, _, _, rfl, ⟨_, _, _, rfl⟩, _, _, rfl, ⟨_, _, _, rfl⟩, rfl⟩, _, _, rfl, ⟨_, _, _, rfl⟩, rfl⟩)
theorem worldHolds_nil {w : World} {A0 A1 A2 : Option Addr} {n0 c0 n1 c1 n2 c2 : Nat} : Calls Tryz.prog 25 #[.pointer none, .agg #[.slice A0 n0 c0, .slice A1 n1 c1], .slice A2 n2 c2] w fun e w' =>
    e = .returned (.tuple #[.bool false, .int .i64 1]) ∧ Below w.heap.size w w' :=
  calls_tuple tabOk worldHolds_run rfl (fun σ => by simp only [VRs, VR, unkW]; exact ⟨_, _, rfl, rfl, _, _, rfl, ⟨_, rfl, _, _, rfl, ⟨_, _, _, rfl⟩, _, _, rfl, ⟨_, _, _, rfl⟩, rfl⟩, _, _, rfl, ⟨_, _, _, rfl⟩, rfl⟩)
end Go.Proofs.YtlhbgpjimopjeaaGreat
