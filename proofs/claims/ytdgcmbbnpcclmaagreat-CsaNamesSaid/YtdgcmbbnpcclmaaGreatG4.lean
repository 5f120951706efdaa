/- The evaluator AM: the closed law, part 4. -/
import Derived.Test.YtdgcmbbnpcclmaaGreatG3
set_option maxRecDepth 100000
namespace Go.Proofs.YtdgcmbbnpcclmaaGreat
open Go.AM
theorem k16 : checks Ev (callT Ev (listed 1000 l15) 60) e16 = true := by decide +kernel
def l16 : List (FuncId × List AV × AV) := e16 :: l15
theorem h16 : AllK l16 := AllK.cons h15 k16
end Go.Proofs.YtdgcmbbnpcclmaaGreat
