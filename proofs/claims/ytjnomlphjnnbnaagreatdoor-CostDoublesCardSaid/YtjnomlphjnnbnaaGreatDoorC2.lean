/- The law CostDoubles: what is behind the count of rules, carried out. Conditions: none. -/
import Derived.Test.YtjnomlphjnnbnaaGreatDoorC1
set_option maxRecDepth 100000
namespace Go.W
theorem run16 : runC 16 = true := by kernel_rfl
theorem run15 : runC 15 = true := by kernel_rfl
end Go.W
