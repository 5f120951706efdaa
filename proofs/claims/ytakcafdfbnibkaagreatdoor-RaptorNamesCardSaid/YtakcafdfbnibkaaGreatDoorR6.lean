/- The evaluator AM: the closed law, all parts. -/
import Derived.Test.YtakcafdfbnibkaaGreatDoorR1
import Derived.Test.YtakcafdfbnibkaaGreatDoorR2
import Derived.Test.YtakcafdfbnibkaaGreatDoorR3
import Derived.Test.YtakcafdfbnibkaaGreatDoorR4
import Derived.Test.YtakcafdfbnibkaaGreatDoorR5
namespace Go.Proofs.YtakcafdfbnibkaaGreatDoor
open Go.AM
theorem h0 : AllK l0 := AllK.cons AllK.nil k0
theorem h1 : AllK l1 := AllK.cons h0 k1
theorem h2 : AllK l2 := AllK.cons h1 k2
theorem h3 : AllK l3 := AllK.cons h2 k3
theorem h4 : AllK l4 := AllK.cons h3 k4
theorem h5 : AllK l5 := AllK.cons h4 k5
theorem h6 : AllK l6 := AllK.cons h5 k6
theorem h7 : AllK l7 := AllK.cons h6 k7
theorem h8 : AllK l8 := AllK.cons h7 k8
theorem h9 : AllK l9 := AllK.cons h8 k9
theorem h10 : AllK l10 := AllK.cons h9 k10
theorem h11 : AllK l11 := AllK.cons h10 k11
theorem h12 : AllK l12 := AllK.cons h11 k12
theorem h13 : AllK l13 := AllK.cons h12 k13
theorem h14 : AllK l14 := AllK.cons h13 k14
theorem h15 : AllK l15 := AllK.cons h14 k15
theorem h16 : AllK l16 := AllK.cons h15 k16
theorem h17 : AllK l17 := AllK.cons h16 k17
theorem h18 : AllK l18 := AllK.cons h17 k18
theorem h19 : AllK l19 := AllK.cons h18 k19
theorem h20 : AllK l20 := AllK.cons h19 k20
theorem h21 : AllK l21 := AllK.cons h20 k21
theorem h22 : AllK l22 := AllK.cons h21 k22
theorem h23 : AllK l23 := AllK.cons h22 k23
theorem h24 : AllK l24 := AllK.cons h23 k24
theorem h25 : AllK l25 := AllK.cons h24 k25
theorem h26 : AllK l26 := AllK.cons h25 k26
theorem h27 : AllK l27 := AllK.cons h26 k27
theorem h28 : AllK l28 := AllK.cons h27 k28
theorem h29 : AllK l29 := AllK.cons h28 k29
theorem h30 : AllK l30 := AllK.cons h29 k30
theorem h31 : AllK l31 := AllK.cons h30 k31
theorem h32 : AllK l32 := AllK.cons h31 k32
theorem h33 : AllK l33 := AllK.cons h32 k33
theorem h34 : AllK l34 := AllK.cons h33 k34
theorem h35 : AllK l35 := AllK.cons h34 k35
theorem h36 : AllK l36 := AllK.cons h35 k36
theorem h37 : AllK l37 := AllK.cons h36 k37
theorem h38 : AllK l38 := AllK.cons h37 k38
theorem h39 : AllK l39 := AllK.cons h38 k39
theorem h40 : AllK l40 := AllK.cons h39 k40
theorem h41 : AllK l41 := AllK.cons h40 k41
theorem h42 : AllK l42 := AllK.cons h41 k42
theorem h43 : AllK l43 := AllK.cons h42 k43
theorem h44 : AllK l44 := AllK.cons h43 k44
theorem h45 : AllK l45 := AllK.cons h44 k45
theorem h46 : AllK l46 := AllK.cons h45 k46
theorem h47 : AllK l47 := AllK.cons h46 k47
theorem h48 : AllK l48 := AllK.cons h47 k48
theorem h49 : AllK l49 := AllK.cons h48 k49
theorem h50 : AllK l50 := AllK.cons h49 k50
theorem h51 : AllK l51 := AllK.cons h50 k51
theorem h52 : AllK l52 := AllK.cons h51 k52
theorem h53 : AllK l53 := AllK.cons h52 k53
theorem h54 : AllK l54 := AllK.cons h53 k54
theorem h55 : AllK l55 := AllK.cons h54 k55
theorem h56 : AllK l56 := AllK.cons h55 k56
theorem h57 : AllK l57 := AllK.cons h56 k57
theorem h58 : AllK l58 := AllK.cons h57 k58
theorem h59 : AllK l59 := AllK.cons h58 k59
theorem h60 : AllK l60 := AllK.cons h59 k60
theorem h61 : AllK l61 := AllK.cons h60 k61
theorem h62 : AllK l62 := AllK.cons h61 k62
theorem h63 : AllK l63 := AllK.cons h62 k63
theorem h64 : AllK l64 := AllK.cons h63 k64
theorem h65 : AllK l65 := AllK.cons h64 k65
theorem h66 : AllK l66 := AllK.cons h65 k66
theorem h67 : AllK l67 := AllK.cons h66 k67
theorem h68 : AllK l68 := AllK.cons h67 k68
theorem h69 : AllK l69 := AllK.cons h68 k69
theorem h70 : AllK l70 := AllK.cons h69 k70
theorem h71 : AllK l71 := AllK.cons h70 k71
theorem h72 : AllK l72 := AllK.cons h71 k72
theorem h73 : AllK l73 := AllK.cons h72 k73
theorem h74 : AllK l74 := AllK.cons h73 k74
theorem h75 : AllK l75 := AllK.cons h74 k75
theorem h76 : AllK l76 := AllK.cons h75 k76
theorem h77 : AllK l77 := AllK.cons h76 k77
theorem h78 : AllK l78 := AllK.cons h77 k78
theorem h79 : AllK l79 := AllK.cons h78 k79
theorem h80 : AllK l80 := AllK.cons h79 k80
theorem h81 : AllK l81 := AllK.cons h80 k81
theorem h82 : AllK l82 := AllK.cons h81 k82
theorem h83 : AllK l83 := AllK.cons h82 k83
theorem h84 : AllK l84 := AllK.cons h83 k84
theorem h85 : AllK l85 := AllK.cons h84 k85
end Go.Proofs.YtakcafdfbnibkaaGreatDoor
