/- The evaluator AM: the closed law, part 3. -/
import Derived.Test.YtdgcmbbnpcclmaaGreatG2
set_option maxRecDepth 100000
namespace Go.Proofs.YtdgcmbbnpcclmaaGreat
open Go.AM
theorem k12 : checks Ev (callT Ev (listed 1000 l11) 60) e12 = true := by decide +kernel
def l12 : List (FuncId × List AV × AV) := e12 :: l11
theorem h12 : AllK l12 := AllK.cons h11 k12
theorem k13 : checks Ev (callT Ev (listed 1000 l12) 60) e13 = true := by decide +kernel
def l13 : List (FuncId × List AV × AV) := e13 :: l12
theorem h13 : AllK l13 := AllK.cons h12 k13
theorem k14 : checks Ev (callT Ev (listed 1000 l13) 60) e14 = true := by decide +kernel
def l14 : List (FuncId × List AV × AV) := e14 :: l13
theorem h14 : AllK l14 := AllK.cons h13 k14
theorem k15 : checks Ev (callT Ev (listed 1000 l14) 60) e15 = true := by decide +kernel
def l15 : List (FuncId × List AV × AV) := e15 :: l14
theorem h15 : AllK l15 := AllK.cons h14 k15
end Go.Proofs.YtdgcmbbnpcclmaaGreat
