/- The evaluator AM: the closed law, part 2. -/
import Derived.Test.YtakcafdfbnibkaaGreatDoorR0
set_option maxRecDepth 100000
namespace Go.Proofs.YtakcafdfbnibkaaGreatDoor
open Go.AM
theorem k29 : checks Ev (callT Ev (listed 1000 l28) 60) e29 = true := by decide +kernel
theorem k30 : checks Ev (callT Ev (listed 1000 l29) 60) e30 = true := by decide +kernel
theorem k31 : checks Ev (callT Ev (listed 1000 l30) 60) e31 = true := by decide +kernel
theorem k32 : checks Ev (callT Ev (listed 1000 l31) 60) e32 = true := by decide +kernel
theorem k33 : checks Ev (callT Ev (listed 1000 l32) 60) e33 = true := by decide +kernel
theorem k34 : checks Ev (callT Ev (listed 1000 l33) 60) e34 = true := by decide +kernel
theorem k35 : checks Ev (callT Ev (listed 1000 l34) 60) e35 = true := by decide +kernel
theorem k36 : checks Ev (callT Ev (listed 1000 l35) 60) e36 = true := by decide +kernel
theorem k37 : checks Ev (callT Ev (listed 1000 l36) 60) e37 = true := by decide +kernel
theorem k38 : checks Ev (callT Ev (listed 1000 l37) 60) e38 = true := by decide +kernel
theorem k39 : checks Ev (callT Ev (listed 1000 l38) 60) e39 = true := by decide +kernel
theorem k40 : checks Ev (callT Ev (listed 1000 l39) 60) e40 = true := by decide +kernel
theorem k41 : checks Ev (callT Ev (listed 1000 l40) 60) e41 = true := by decide +kernel
theorem k42 : checks Ev (callT Ev (listed 1000 l41) 60) e42 = true := by decide +kernel
theorem k43 : checks Ev (callT Ev (listed 1000 l42) 60) e43 = true := by decide +kernel
theorem k44 : checks Ev (callT Ev (listed 1000 l43) 60) e44 = true := by decide +kernel
theorem k45 : checks Ev (callT Ev (listed 1000 l44) 60) e45 = true := by decide +kernel
theorem k46 : checks Ev (callT Ev (listed 1000 l45) 60) e46 = true := by decide +kernel
end Go.Proofs.YtakcafdfbnibkaaGreatDoor
