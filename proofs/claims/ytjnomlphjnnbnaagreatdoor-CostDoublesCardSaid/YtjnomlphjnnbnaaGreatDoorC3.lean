/- The law CostDoubles: what is behind the count of rules, carried out. Conditions: none. -/
import Derived.Test.YtjnomlphjnnbnaaGreatDoorC1
set_option maxRecDepth 100000
namespace Go.W
theorem run14 : runC 14 = true := by kernel_rfl
theorem run13 : runC 13 = true := by kernel_rfl
theorem run3 : runC 3 = true := by kernel_rfl
end Go.W
