/- The evaluator AM: the closed law, part 7. -/
import Derived.Test.YtdgcmbbnpcclmaaGreatG6
set_option maxRecDepth 100000
namespace Go.Proofs.YtdgcmbbnpcclmaaGreat
open Go.AM
theorem k26 : checks Ev (callT Ev (listed 1000 l25) 60) e26 = true := by decide +kernel
def l26 : List (FuncId × List AV × AV) := e26 :: l25
theorem h26 : AllK l26 := AllK.cons h25 k26
end Go.Proofs.YtdgcmbbnpcclmaaGreat
