/- The law CostDoubles: what is behind the count of rules, carried out. Conditions: none. -/
import Derived.Test.YtjnomlphjnnbnaaGreatDoorC1
set_option maxRecDepth 100000
namespace Go.W
theorem run12 : runC 12 = true := by kernel_rfl
theorem run11 : runC 11 = true := by kernel_rfl
theorem run4 : runC 4 = true := by kernel_rfl
theorem run5 : runC 5 = true := by kernel_rfl
end Go.W
