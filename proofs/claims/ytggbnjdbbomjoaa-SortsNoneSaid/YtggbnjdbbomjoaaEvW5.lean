/- The abstract run of SortsNone ends in true. -/
import Derived.Test.YtggbnjdbbomjoaaEvV
namespace Go.Proofs.Ytggbnjdbbomjoaa
open Go
set_option maxRecDepth 1000000 in
theorem sortsNone_run : lawE tab 1000000 5 (.cons .unkS (.cons (.unkI .i64) .nil)) = true := by kernel_rfl
end Go.Proofs.Ytggbnjdbbomjoaa
