/- The evaluator AM: the closed law, part 6. -/
import Derived.Test.YtdgcmbbnpcclmaaGreatG5
set_option maxRecDepth 100000
namespace Go.Proofs.YtdgcmbbnpcclmaaGreat
open Go.AM
theorem k25 : checks Ev (callT Ev (listed 1000 l24) 60) e25 = true := by decide +kernel
def l25 : List (FuncId × List AV × AV) := e25 :: l24
theorem h25 : AllK l25 := AllK.cons h24 k25
end Go.Proofs.YtdgcmbbnpcclmaaGreat
