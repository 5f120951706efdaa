/- The evaluator AM: the closed law, part 2. -/
import Derived.Test.YtdgcmbbnpcclmaaGreatG1
set_option maxRecDepth 100000
namespace Go.Proofs.YtdgcmbbnpcclmaaGreat
open Go.AM
theorem k6 : checks Ev (callT Ev (listed 1000 l5) 60) e6 = true := by decide +kernel
def l6 : List (FuncId × List AV × AV) := e6 :: l5
theorem h6 : AllK l6 := AllK.cons h5 k6
theorem k7 : checks Ev (callT Ev (listed 1000 l6) 60) e7 = true := by decide +kernel
def l7 : List (FuncId × List AV × AV) := e7 :: l6
theorem h7 : AllK l7 := AllK.cons h6 k7
theorem k8 : checks Ev (callT Ev (listed 1000 l7) 60) e8 = true := by decide +kernel
def l8 : List (FuncId × List AV × AV) := e8 :: l7
theorem h8 : AllK l8 := AllK.cons h7 k8
theorem k9 : checks Ev (callT Ev (listed 1000 l8) 60) e9 = true := by decide +kernel
def l9 : List (FuncId × List AV × AV) := e9 :: l8
theorem h9 : AllK l9 := AllK.cons h8 k9
theorem k10 : checks Ev (callT Ev (listed 1000 l9) 60) e10 = true := by decide +kernel
def l10 : List (FuncId × List AV × AV) := e10 :: l9
theorem h10 : AllK l10 := AllK.cons h9 k10
theorem k11 : checks Ev (callT Ev (listed 1000 l10) 60) e11 = true := by decide +kernel
def l11 : List (FuncId × List AV × AV) := e11 :: l10
theorem h11 : AllK l11 := AllK.cons h10 k11
end Go.Proofs.YtdgcmbbnpcclmaaGreat
