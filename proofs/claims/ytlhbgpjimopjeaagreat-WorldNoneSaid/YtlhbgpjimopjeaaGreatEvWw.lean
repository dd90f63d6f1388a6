/- The abstract run of the worlds' known ends in true. -/
import Derived.Test.YtlhbgpjimopjeaaGreatEvV
namespace Go.Proofs.YtlhbgpjimopjeaaGreat
open Go
set_option maxRecDepth 1000000 in
theorem worldKnown_run : lawE tab 1000000 17 .nil = true := by kernel_rfl
end Go.Proofs.YtlhbgpjimopjeaaGreat
