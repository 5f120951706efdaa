/- The evaluator AM: the closed law, part 1. -/
import Derived.Test.YtdgcmbbnpcclmaaGreatG0
set_option maxRecDepth 100000
namespace Go.Proofs.YtdgcmbbnpcclmaaGreat
open Go.AM
theorem k0 : checks Ev (callT Ev (listed 1000 []) 60) e0 = true := by decide +kernel
def l0 : List (FuncId × List AV × AV) := e0 :: []
theorem h0 : AllK l0 := AllK.cons AllK.nil k0
theorem k1 : checks Ev (callT Ev (listed 1000 l0) 60) e1 = true := by decide +kernel
def l1 : List (FuncId × List AV × AV) := e1 :: l0
theorem h1 : AllK l1 := AllK.cons h0 k1
theorem k2 : checks Ev (callT Ev (listed 1000 l1) 60) e2 = true := by decide +kernel
def l2 : List (FuncId × List AV × AV) := e2 :: l1
theorem h2 : AllK l2 := AllK.cons h1 k2
theorem k3 : checks Ev (callT Ev (listed 1000 l2) 60) e3 = true := by decide +kernel
def l3 : List (FuncId × List AV × AV) := e3 :: l2
theorem h3 : AllK l3 := AllK.cons h2 k3
theorem k4 : checks Ev (callT Ev (listed 1000 l3) 60) e4 = true := by decide +kernel
def l4 : List (FuncId × List AV × AV) := e4 :: l3
theorem h4 : AllK l4 := AllK.cons h3 k4
theorem k5 : checks Ev (callT Ev (listed 1000 l4) 60) e5 = true := by decide +kernel
def l5 : List (FuncId × List AV × AV) := e5 :: l4
theorem h5 : AllK l5 := AllK.cons h4 k5
end Go.Proofs.YtdgcmbbnpcclmaaGreat
