/- The evaluator AM: the closed law, part 8. -/
import Derived.Test.YtdgcmbbnpcclmaaGreatG7
set_option maxRecDepth 100000
namespace Go.Proofs.YtdgcmbbnpcclmaaGreat
open Go.AM
theorem k27 : checks Ev (callT Ev (listed 1000 l26) 60) e27 = true := by decide +kernel
def l27 : List (FuncId × List AV × AV) := e27 :: l26
theorem h27 : AllK l27 := AllK.cons h26 k27
end Go.Proofs.YtdgcmbbnpcclmaaGreat
