/- The evaluator AM: the closed law, part 5. -/
import Derived.Test.YtdgcmbbnpcclmaaGreatG4
set_option maxRecDepth 100000
namespace Go.Proofs.YtdgcmbbnpcclmaaGreat
open Go.AM
theorem k17 : checks Ev (callT Ev (listed 1000 l16) 60) e17 = true := by decide +kernel
def l17 : List (FuncId × List AV × AV) := e17 :: l16
theorem h17 : AllK l17 := AllK.cons h16 k17
theorem k18 : checks Ev (callT Ev (listed 1000 l17) 60) e18 = true := by decide +kernel
def l18 : List (FuncId × List AV × AV) := e18 :: l17
theorem h18 : AllK l18 := AllK.cons h17 k18
theorem k19 : checks Ev (callT Ev (listed 1000 l18) 60) e19 = true := by decide +kernel
def l19 : List (FuncId × List AV × AV) := e19 :: l18
theorem h19 : AllK l19 := AllK.cons h18 k19
theorem k20 : checks Ev (callT Ev (listed 1000 l19) 60) e20 = true := by decide +kernel
def l20 : List (FuncId × List AV × AV) := e20 :: l19
theorem h20 : AllK l20 := AllK.cons h19 k20
theorem k21 : checks Ev (callT Ev (listed 1000 l20) 60) e21 = true := by decide +kernel
def l21 : List (FuncId × List AV × AV) := e21 :: l20
theorem h21 : AllK l21 := AllK.cons h20 k21
theorem k22 : checks Ev (callT Ev (listed 1000 l21) 60) e22 = true := by decide +kernel
def l22 : List (FuncId × List AV × AV) := e22 :: l21
theorem h22 : AllK l22 := AllK.cons h21 k22
theorem k23 : checks Ev (callT Ev (listed 1000 l22) 60) e23 = true := by decide +kernel
def l23 : List (FuncId × List AV × AV) := e23 :: l22
theorem h23 : AllK l23 := AllK.cons h22 k23
theorem k24 : checks Ev (callT Ev (listed 1000 l23) 60) e24 = true := by decide +kernel
def l24 : List (FuncId × List AV × AV) := e24 :: l23
theorem h24 : AllK l24 := AllK.cons h23 k24
end Go.Proofs.YtdgcmbbnpcclmaaGreat
