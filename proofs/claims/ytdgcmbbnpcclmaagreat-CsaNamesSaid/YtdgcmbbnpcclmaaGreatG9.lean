/- The evaluator AM: the closed law, part 9. -/
import Derived.Test.YtdgcmbbnpcclmaaGreatG8
set_option maxRecDepth 100000
namespace Go.Proofs.YtdgcmbbnpcclmaaGreat
open Go.AM
theorem k28 : checks Ev (callT Ev (listed 1000 l27) 60) e28 = true := by decide +kernel
def l28 : List (FuncId × List AV × AV) := e28 :: l27
theorem h28 : AllK l28 := AllK.cons h27 k28
theorem k29 : checks Ev (callT Ev (listed 1000 l28) 60) e29 = true := by decide +kernel
def l29 : List (FuncId × List AV × AV) := e29 :: l28
theorem h29 : AllK l29 := AllK.cons h28 k29
theorem k30 : checks Ev (callT Ev (listed 1000 l29) 60) e30 = true := by decide +kernel
def l30 : List (FuncId × List AV × AV) := e30 :: l29
theorem h30 : AllK l30 := AllK.cons h29 k30
end Go.Proofs.YtdgcmbbnpcclmaaGreat
