/- The evaluator AM: the closed law, part 5. -/
import Derived.Test.YtakcafdfbnibkaaGreatDoorR0
set_option maxRecDepth 100000
namespace Go.Proofs.YtakcafdfbnibkaaGreatDoor
open Go.AM
theorem k83 : checks Ev (callT Ev (listed 1000 l82) 60) e83 = true := by decide +kernel
theorem k84 : checks Ev (callT Ev (listed 1000 l83) 60) e84 = true := by decide +kernel
theorem k85 : checks Ev (callT Ev (listed 1000 l84) 60) e85 = true := by decide +kernel
end Go.Proofs.YtakcafdfbnibkaaGreatDoor
