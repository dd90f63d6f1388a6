/- The abstract runs of DiffNone and PurifyNone end in true. -/
import Derived.Test.YtlhbgpjimopjeaaEvV
namespace Go.Proofs.Ytlhbgpjimopjeaa
open Go
set_option maxRecDepth 1000000 in
theorem diffNone_run : lawE tab 1000000 3 (.cons (.unkI .i64) (.cons (.unkI .i64) .nil)) = true := by kernel_rfl
set_option maxRecDepth 1000000 in
theorem purifyNone_run : lawE tab 1000000 4 (.cons (.unkI .i64) (.cons (.unkI .i64) .nil)) = true := by kernel_rfl
end Go.Proofs.Ytlhbgpjimopjeaa
