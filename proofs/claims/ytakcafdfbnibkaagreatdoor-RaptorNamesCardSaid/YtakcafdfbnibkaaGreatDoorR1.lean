/- The evaluator AM: the closed law, part 1. -/
import Derived.Test.YtakcafdfbnibkaaGreatDoorR0
set_option maxRecDepth 100000
namespace Go.Proofs.YtakcafdfbnibkaaGreatDoor
open Go.AM
theorem k0 : checks Ev (callT Ev (listed 1000 []) 60) e0 = true := by decide +kernel
theorem k1 : checks Ev (callT Ev (listed 1000 l0) 60) e1 = true := by decide +kernel
theorem k2 : checks Ev (callT Ev (listed 1000 l1) 60) e2 = true := by decide +kernel
theorem k3 : checks Ev (callT Ev (listed 1000 l2) 60) e3 = true := by decide +kernel
theorem k4 : checks Ev (callT Ev (listed 1000 l3) 60) e4 = true := by decide +kernel
theorem k5 : checks Ev (callT Ev (listed 1000 l4) 60) e5 = true := by decide +kernel
theorem k6 : checks Ev (callT Ev (listed 1000 l5) 60) e6 = true := by decide +kernel
theorem k7 : checks Ev (callT Ev (listed 1000 l6) 60) e7 = true := by decide +kernel
theorem k8 : checks Ev (callT Ev (listed 1000 l7) 60) e8 = true := by decide +kernel
theorem k9 : checks Ev (callT Ev (listed 1000 l8) 60) e9 = true := by decide +kernel
theorem k10 : checks Ev (callT Ev (listed 1000 l9) 60) e10 = true := by decide +kernel
theorem k11 : checks Ev (callT Ev (listed 1000 l10) 60) e11 = true := by decide +kernel
theorem k12 : checks Ev (callT Ev (listed 1000 l11) 60) e12 = true := by decide +kernel
theorem k13 : checks Ev (callT Ev (listed 1000 l12) 60) e13 = true := by decide +kernel
theorem k14 : checks Ev (callT Ev (listed 1000 l13) 60) e14 = true := by decide +kernel
theorem k15 : checks Ev (callT Ev (listed 1000 l14) 60) e15 = true := by decide +kernel
theorem k16 : checks Ev (callT Ev (listed 1000 l15) 60) e16 = true := by decide +kernel
theorem k17 : checks Ev (callT Ev (listed 1000 l16) 60) e17 = true := by decide +kernel
theorem k18 : checks Ev (callT Ev (listed 1000 l17) 60) e18 = true := by decide +kernel
theorem k19 : checks Ev (callT Ev (listed 1000 l18) 60) e19 = true := by decide +kernel
theorem k20 : checks Ev (callT Ev (listed 1000 l19) 60) e20 = true := by decide +kernel
theorem k21 : checks Ev (callT Ev (listed 1000 l20) 60) e21 = true := by decide +kernel
theorem k22 : checks Ev (callT Ev (listed 1000 l21) 60) e22 = true := by decide +kernel
theorem k23 : checks Ev (callT Ev (listed 1000 l22) 60) e23 = true := by decide +kernel
theorem k24 : checks Ev (callT Ev (listed 1000 l23) 60) e24 = true := by decide +kernel
theorem k25 : checks Ev (callT Ev (listed 1000 l24) 60) e25 = true := by decide +kernel
theorem k26 : checks Ev (callT Ev (listed 1000 l25) 60) e26 = true := by decide +kernel
theorem k27 : checks Ev (callT Ev (listed 1000 l26) 60) e27 = true := by decide +kernel
theorem k28 : checks Ev (callT Ev (listed 1000 l27) 60) e28 = true := by decide +kernel
end Go.Proofs.YtakcafdfbnibkaaGreatDoor
