/- A stack that is not there refuses: the abstract runs. -/
import Derived.Test.YtmlkfgoiakcnhaaGreatDoorEvV
import Derived.Test.YtmlkfgoiakcnhaaGreatDoorEvX
namespace Go.Proofs.YtmlkfgoiakcnhaaGreatDoor
open Go Go.RowKit
def tree0 : EV := .agg (.cons (.bool false) (.cons (.int .u8 0) (.cons (.str []) (.cons (.int .i64 0) (.cons .slice0 .nil)))))
def treeU : EV := .agg (.cons .unkB (.cons (.unkI .u8) (.cons .unkS (.cons (.unkI .i64) (.cons .unkL .nil)))))
def e1 : EV := .int .i64 1
set_option maxRecDepth 1000000 in
theorem sn_term : answerE tab 1000000 6 (.cons .ptr0 (.cons treeU .nil)) (.tup (.cons (.int .i64 0) (.cons e1 .nil))) = true := by kernel_rfl
set_option maxRecDepth 1000000 in
theorem sn_logic : answerE tab 1000000 8 (.cons .ptr0 .nil) e1 = true := by kernel_rfl
set_option maxRecDepth 1000000 in
theorem sn_set : answerE tab 1000000 9 (.cons .ptr0 (.cons (.agg (.cons .unkB (.cons .unkB (.cons .unkB .nil)))) .nil)) e1 = true := by kernel_rfl
set_option maxRecDepth 1000000 in
theorem sn_declareSort : answerE tab 1000000 10 (.cons .ptr0 (.cons .unkS .nil)) e1 = true := by kernel_rfl
set_option maxRecDepth 1000000 in
theorem sn_declareFun : answerE tab 1000000 11 (.cons .ptr0 (.cons .unkS (.cons .slice0 (.cons tree0 .nil)))) e1 = true := by kernel_rfl
set_option maxRecDepth 1000000 in
theorem sn_defineFun : answerE tab 1000000 12 (.cons .ptr0 (.cons .unkS (.cons .unkL (.cons .slice0 (.cons tree0 (.cons tree0 .nil)))))) e1 = true := by kernel_rfl
set_option maxRecDepth 1000000 in
theorem sn_assert : answerE tab 1000000 13 (.cons .ptr0 (.cons tree0 .nil)) e1 = true := by kernel_rfl
set_option maxRecDepth 1000000 in
theorem sn_push : answerE tab 1000000 14 (.cons .ptr0 (.cons (.unkI .i64) .nil)) e1 = true := by kernel_rfl
set_option maxRecDepth 1000000 in
theorem sn_pop : answerE tab 1000000 15 (.cons .ptr0 (.cons (.unkI .i64) .nil)) e1 = true := by kernel_rfl
set_option maxRecDepth 1000000 in
theorem sn_hasLogic : answerE tab 1000000 16 (.cons .ptr0 .nil) (.bool false) = true := by kernel_rfl
set_option maxRecDepth 1000000 in
theorem sn_level : answerE tab 1000000 17 (.cons .ptr0 .nil) (.int .i64 0) = true := by kernel_rfl
set_option maxRecDepth 1000000 in
theorem sn_assertions : answerE tab 1000000 18 (.cons .ptr0 .nil) .slice0 = true := by kernel_rfl
set_option maxRecDepth 1000000 in
theorem sn_book : answerE tab 1000000 19 (.cons .ptr0 .nil) .ptr0 = true := by kernel_rfl
set_option maxRecDepth 1000000 in
theorem sn_options : answerE tab 1000000 20 (.cons .ptr0 .nil) (.agg (.cons (.bool false) (.cons (.bool false) (.cons (.bool false) .nil)))) = true := by kernel_rfl
end Go.Proofs.YtmlkfgoiakcnhaaGreatDoor
