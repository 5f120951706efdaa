/- The evaluator AM: the closed law, part 3. -/
import Derived.Test.YtakcafdfbnibkaaGreatDoorR0
set_option maxRecDepth 100000
namespace Go.Proofs.YtakcafdfbnibkaaGreatDoor
open Go.AM
theorem k47 : checks Ev (callT Ev (listed 1000 l46) 60) e47 = true := by decide +kernel
theorem k48 : checks Ev (callT Ev (listed 1000 l47) 60) e48 = true := by decide +kernel
theorem k49 : checks Ev (callT Ev (listed 1000 l48) 60) e49 = true := by decide +kernel
theorem k50 : checks Ev (callT Ev (listed 1000 l49) 60) e50 = true := by decide +kernel
theorem k51 : checks Ev (callT Ev (listed 1000 l50) 60) e51 = true := by decide +kernel
theorem k52 : checks Ev (callT Ev (listed 1000 l51) 60) e52 = true := by decide +kernel
theorem k53 : checks Ev (callT Ev (listed 1000 l52) 60) e53 = true := by decide +kernel
theorem k54 : checks Ev (callT Ev (listed 1000 l53) 60) e54 = true := by decide +kernel
theorem k55 : checks Ev (callT Ev (listed 1000 l54) 60) e55 = true := by decide +kernel
theorem k56 : checks Ev (callT Ev (listed 1000 l55) 60) e56 = true := by decide +kernel
theorem k57 : checks Ev (callT Ev (listed 1000 l56) 60) e57 = true := by decide +kernel
theorem k58 : checks Ev (callT Ev (listed 1000 l57) 60) e58 = true := by decide +kernel
theorem k59 : checks Ev (callT Ev (listed 1000 l58) 60) e59 = true := by decide +kernel
theorem k60 : checks Ev (callT Ev (listed 1000 l59) 60) e60 = true := by decide +kernel
theorem k61 : checks Ev (callT Ev (listed 1000 l60) 60) e61 = true := by decide +kernel
theorem k62 : checks Ev (callT Ev (listed 1000 l61) 60) e62 = true := by decide +kernel
theorem k63 : checks Ev (callT Ev (listed 1000 l62) 60) e63 = true := by decide +kernel
theorem k64 : checks Ev (callT Ev (listed 1000 l63) 60) e64 = true := by decide +kernel
theorem k65 : checks Ev (callT Ev (listed 1000 l64) 60) e65 = true := by decide +kernel
theorem k66 : checks Ev (callT Ev (listed 1000 l65) 60) e66 = true := by decide +kernel
theorem k67 : checks Ev (callT Ev (listed 1000 l66) 60) e67 = true := by decide +kernel
theorem k68 : checks Ev (callT Ev (listed 1000 l67) 60) e68 = true := by decide +kernel
theorem k69 : checks Ev (callT Ev (listed 1000 l68) 60) e69 = true := by decide +kernel
theorem k70 : checks Ev (callT Ev (listed 1000 l69) 60) e70 = true := by decide +kernel
theorem k71 : checks Ev (callT Ev (listed 1000 l70) 60) e71 = true := by decide +kernel
theorem k72 : checks Ev (callT Ev (listed 1000 l71) 60) e72 = true := by decide +kernel
theorem k73 : checks Ev (callT Ev (listed 1000 l72) 60) e73 = true := by decide +kernel
theorem k74 : checks Ev (callT Ev (listed 1000 l73) 60) e74 = true := by decide +kernel
end Go.Proofs.YtakcafdfbnibkaaGreatDoor
