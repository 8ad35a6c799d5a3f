/- The law CostDoubles: what is behind the count of rules, carried out. Conditions: none. -/
import Derived.Test.YtjnomlphjnnbnaaGreatDoorC1
set_option maxRecDepth 100000
namespace Go.W
theorem run10 : runC 10 = true := by kernel_rfl
theorem run9 : runC 9 = true := by kernel_rfl
theorem run8 : runC 8 = true := by kernel_rfl
theorem run7 : runC 7 = true := by kernel_rfl
theorem run6 : runC 6 = true := by kernel_rfl
end Go.W
