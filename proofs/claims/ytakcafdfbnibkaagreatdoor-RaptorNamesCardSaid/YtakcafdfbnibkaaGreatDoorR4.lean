/- The evaluator AM: the closed law, part 4. -/
import Derived.Test.YtakcafdfbnibkaaGreatDoorR0
set_option maxRecDepth 100000
namespace Go.Proofs.YtakcafdfbnibkaaGreatDoor
open Go.AM
theorem k75 : checks Ev (callT Ev (listed 1000 l74) 60) e75 = true := by decide +kernel
theorem k76 : checks Ev (callT Ev (listed 1000 l75) 60) e76 = true := by decide +kernel
theorem k77 : checks Ev (callT Ev (listed 1000 l76) 60) e77 = true := by decide +kernel
theorem k78 : checks Ev (callT Ev (listed 1000 l77) 60) e78 = true := by decide +kernel
theorem k79 : checks Ev (callT Ev (listed 1000 l78) 60) e79 = true := by decide +kernel
theorem k80 : checks Ev (callT Ev (listed 1000 l79) 60) e80 = true := by decide +kernel
theorem k81 : checks Ev (callT Ev (listed 1000 l80) 60) e81 = true := by decide +kernel
theorem k82 : checks Ev (callT Ev (listed 1000 l81) 60) e82 = true := by decide +kernel
end Go.Proofs.YtakcafdfbnibkaaGreatDoor
