/-
  The abstract machine and the functions of the law, 4: texts put together.
-/
import Derived.Test.YtkjnanfkclijcaaDoorUnifyEquationsPkB
import Derived.Test.YtkjnanfkclijcaaDoorProg
import Derived.Test.YtkjnanfkclijcaaDoorUnifyEquationsPkC
/-
  THE FUNCTIONS THAT A LAW REACHES, as texts of the abstract machine (written by a program out of the translation).
-/
namespace Go.Proofs.YtkjnanfkclijcaaDoor.Am.CU
open Go Go.Proofs.YtkjnanfkclijcaaDoor.Am
set_option linter.unusedVariables false
set_option maxRecDepth 100000

/-- purlin/purlinlaw08.UnifyEquations -/
def a3 : AFunc := ⟨59, (.seq (.region [⟨some 2, .move (.const (.bool false)), none⟩]) (.seq (.region [⟨some 11, .move (.tmp 0), none⟩, ⟨some 12, .call .shared 14 [(.tmp 11)], none⟩, ⟨some 3, .move (.tmp 12), none⟩]) (.seq (.region [⟨some 14, .move (.tmp 3), none⟩, ⟨some 15, .call .shared 15 [(.tmp 14)], none⟩, ⟨some 13, .move (.tmp 15), none⟩, ⟨some 16, .extract (.tmp 13) 0, none⟩, ⟨some 17, .extract (.tmp 13) 1, none⟩, ⟨some 18, .extract (.tmp 13) 2, none⟩, ⟨some 4, .move (.tmp 16), none⟩, ⟨some 5, .move (.tmp 17), none⟩, ⟨some 6, .move (.tmp 18), none⟩]) (.seq (.region [⟨some 20, .move (.tmp 0), none⟩, ⟨some 21, .call .shared 16 [(.tmp 20)], none⟩, ⟨some 19, .move (.tmp 21), none⟩, ⟨some 22, .extract (.tmp 19) 0, none⟩, ⟨some 23, .extract (.tmp 19) 1, none⟩, ⟨some 24, .extract (.tmp 19) 2, none⟩, ⟨some 7, .move (.tmp 22), none⟩, ⟨some 8, .move (.tmp 23), none⟩, ⟨some 9, .move (.tmp 24), none⟩]) (.seq (.seq (.region [⟨some 25, .call .iso 17 [], none⟩, ⟨some 26, .not (.tmp 25), none⟩, ⟨some 27, .move (.tmp 26), none⟩, ⟨some 28, .move (.tmp 4), some (27, false)⟩, ⟨some 29, .move (.tmp 7), some (27, false)⟩, ⟨some 30, .call .shared 18 [(.tmp 28), (.tmp 29)], some (27, false)⟩, ⟨some 31, .not (.tmp 30), some (27, false)⟩, ⟨some 32, .pick (.tmp 27) (.const (.bool true)) (.tmp 31), none⟩, ⟨some 33, .move (.tmp 32), none⟩, ⟨some 34, .move (.tmp 5), some (33, false)⟩, ⟨some 35, .move (.tmp 8), some (33, false)⟩, ⟨some 36, .call .shared 18 [(.tmp 34), (.tmp 35)], some (33, false)⟩, ⟨some 37, .not (.tmp 36), some (33, false)⟩, ⟨some 38, .pick (.tmp 33) (.const (.bool true)) (.tmp 37), none⟩, ⟨some 39, .move (.tmp 38), none⟩, ⟨some 40, .move (.tmp 6), some (39, false)⟩, ⟨some 41, .move (.tmp 9), some (39, false)⟩, ⟨some 42, .bop true (.tmp 40) (.tmp 41), some (39, false)⟩, ⟨some 43, .pick (.tmp 39) (.const (.bool true)) (.tmp 42), none⟩]) (.cond (.tmp 43) (.seq (.region [⟨some 2, .move (.const (.bool false)), none⟩]) .ret) .skip)) (.seq (.region [⟨some 44, .build [.nilslice, .nilslice, .nilslice, .nilslice, .nilslice] [], none⟩, ⟨some 45, .box (.tmp 44), none⟩, ⟨some 10, .move (.tmp 45), none⟩]) (.seq (.region [⟨some 46, .move (.tmp 10), none⟩, ⟨some 47, .move (.tmp 4), none⟩, ⟨some 48, .call .shared 19 [(.tmp 46), (.tmp 47)], none⟩]) (.seq (.region [⟨some 49, .move (.tmp 10), none⟩, ⟨some 50, .move (.tmp 5), none⟩, ⟨some 51, .call .shared 19 [(.tmp 49), (.tmp 50)], none⟩]) (.seq (.region [⟨some 52, .move (.tmp 10), none⟩, ⟨some 53, .call .shared 20 [(.tmp 52)], none⟩, ⟨some 54, .move (.tmp 53), none⟩, ⟨some 55, .move (.tmp 3), some (54, true)⟩, ⟨some 56, .move (.tmp 0), some (54, true)⟩, ⟨some 57, .call .shared 21 [(.tmp 55), (.tmp 56)], some (54, true)⟩, ⟨some 58, .pick (.tmp 54) (.tmp 57) (.const (.bool false)), none⟩, ⟨some 2, .move (.tmp 58), none⟩]) .ret))))))))), [.tmp 2]⟩

/-- purlin/purlinmem.HandTerm -/
def a14 : AFunc := ⟨5, (.seq (.region [⟨some 2, .move (.const .nilslice), none⟩]) (.seq (.region [⟨some 3, .move (.tmp 0), none⟩, ⟨some 4, .call .shared 59 [(.tmp 3)], none⟩, ⟨some 2, .move (.tmp 4), none⟩]) .ret)), [.tmp 2]⟩

/-- purlin/unify.Equation -/
def a15 : AFunc := ⟨22, (.seq (.region [⟨some 2, .move (.const .nilslice), none⟩, ⟨some 3, .move (.const .nilslice), none⟩, ⟨some 4, .move (.const (.bool false)), none⟩]) (.seq (.seq (.region [⟨some 6, .move (.tmp 0), none⟩, ⟨some 7, .call .shared 60 [(.tmp 6)], none⟩, ⟨some 8, .not (.tmp 7), none⟩, ⟨some 9, .move (.tmp 8), none⟩, ⟨some 10, .move (.tmp 0), some (9, false)⟩, ⟨some 11, .call .shared 61 [(.tmp 10), (.const (.str [61])), (.const (.int .i64 2))], some (9, false)⟩, ⟨some 12, .not (.tmp 11), some (9, false)⟩, ⟨some 13, .pick (.tmp 9) (.const (.bool true)) (.tmp 12), none⟩]) (.cond (.tmp 13) (.seq (.region [⟨some 2, .move (.const .nilslice), none⟩, ⟨some 3, .move (.const .nilslice), none⟩, ⟨some 4, .move (.const (.bool false)), none⟩]) .ret) .skip)) (.seq (.region [⟨some 14, .move (.tmp 0), none⟩, ⟨some 15, .call .shared 62 [(.tmp 14)], none⟩, ⟨some 5, .move (.tmp 15), none⟩]) (.seq (.region [⟨some 16, .move (.tmp 5), none⟩, ⟨some 17, .iaddr 1 (.tmp 16) (.const (.int .i64 0)), none⟩, ⟨some 18, .load 1 false (.tmp 17), none⟩, ⟨some 19, .move (.tmp 5), none⟩, ⟨some 20, .iaddr 1 (.tmp 19) (.const (.int .i64 1)), none⟩, ⟨some 21, .load 1 false (.tmp 20), none⟩, ⟨some 2, .move (.tmp 18), none⟩, ⟨some 3, .move (.tmp 21), none⟩, ⟨some 4, .move (.const (.bool true)), none⟩]) .ret)))), [.tmp 2, .tmp 3, .tmp 4]⟩

/-- purlin/purlinref08.Equation -/
def a16 : AFunc := ⟨22, (.seq (.region [⟨some 2, .move (.const .nilslice), none⟩, ⟨some 3, .move (.const .nilslice), none⟩, ⟨some 4, .move (.const (.bool false)), none⟩]) (.seq (.seq (.region [⟨some 6, .move (.tmp 0), none⟩, ⟨some 7, .call .shared 63 [(.tmp 6)], none⟩, ⟨some 8, .not (.tmp 7), none⟩, ⟨some 9, .move (.tmp 8), none⟩, ⟨some 10, .move (.tmp 0), some (9, false)⟩, ⟨some 11, .call .shared 64 [(.tmp 10), (.const (.str [61])), (.const (.int .i64 2))], some (9, false)⟩, ⟨some 12, .not (.tmp 11), some (9, false)⟩, ⟨some 13, .pick (.tmp 9) (.const (.bool true)) (.tmp 12), none⟩]) (.cond (.tmp 13) (.seq (.region [⟨some 2, .move (.const .nilslice), none⟩, ⟨some 3, .move (.const .nilslice), none⟩, ⟨some 4, .move (.const (.bool false)), none⟩]) .ret) .skip)) (.seq (.region [⟨some 14, .move (.tmp 0), none⟩, ⟨some 15, .call .shared 65 [(.tmp 14)], none⟩, ⟨some 5, .move (.tmp 15), none⟩]) (.seq (.region [⟨some 16, .move (.tmp 5), none⟩, ⟨some 17, .iaddr 1 (.tmp 16) (.const (.int .i64 0)), none⟩, ⟨some 18, .load 1 false (.tmp 17), none⟩, ⟨some 19, .move (.tmp 5), none⟩, ⟨some 20, .iaddr 1 (.tmp 19) (.const (.int .i64 1)), none⟩, ⟨some 21, .load 1 false (.tmp 20), none⟩, ⟨some 2, .move (.tmp 18), none⟩, ⟨some 3, .move (.tmp 21), none⟩, ⟨some 4, .move (.const (.bool true)), none⟩]) .ret)))), [.tmp 2, .tmp 3, .tmp 4]⟩

/-- purlin/purlinlaw08.live -/
def a17 : AFunc := ⟨72, (.seq (.region [⟨some 0, .move (.const (.bool false)), none⟩]) (.seq (.region [⟨some 8, .build [(.int .i64 0), (.int .i64 0)] [(0, 1, (.const (.int .i64 1)))], none⟩, ⟨some 9, .build [(.int .u8 0), (.str []), (.int .i64 0), (.int .i64 0), (.int .i64 0)] [(0, 1, (.const (.int .u8 4))), (3, 2, (.tmp 8))], none⟩, ⟨some 10, .lit 5 [(.int .u8 0), (.str []), (.int .i64 0), (.int .i64 0), (.int .i64 0)] true 1 [(0, (.tmp 9))], none⟩, ⟨some 1, .move (.tmp 10), none⟩]) (.seq (.region [⟨some 11, .build [(.int .i64 0), (.int .i64 0)] [(1, 1, (.const (.int .i64 5)))], none⟩, ⟨some 12, .build [(.int .u8 0), (.str []), (.int .i64 0), (.int .i64 0), (.int .i64 0)] [(0, 1, (.const (.int .u8 4))), (3, 2, (.tmp 11))], none⟩, ⟨some 13, .lit 5 [(.int .u8 0), (.str []), (.int .i64 0), (.int .i64 0), (.int .i64 0)] true 1 [(0, (.tmp 12))], none⟩, ⟨some 2, .move (.tmp 13), none⟩]) (.seq (.region [⟨some 14, .call .shared 66 [], none⟩, ⟨some 15, .move (.tmp 2), none⟩, ⟨some 16, .move (.tmp 1), none⟩, ⟨some 17, .call .shared 23 [(.tmp 14), (.tmp 15), (.tmp 16)], none⟩, ⟨some 3, .alloc [(.int .u8 0), (.int .i64 0), (.int .i64 0), .nilslice, .nilslice], none⟩, ⟨none, .store 5 (.tmp 3) (.tmp 17), none⟩]) (.seq (.region [⟨some 18, .move (.tmp 1), none⟩, ⟨some 19, .move (.tmp 1), none⟩, ⟨some 20, .call .shared 23 [(.const .nilptr), (.tmp 18), (.tmp 19)], none⟩, ⟨some 4, .alloc [(.int .u8 0), (.int .i64 0), (.int .i64 0), .nilslice, .nilslice], none⟩, ⟨none, .store 5 (.tmp 4) (.tmp 20), none⟩]) (.seq (.region [⟨some 22, .move (.tmp 1), none⟩, ⟨some 23, .build [(.int .u8 0), (.str []), (.int .i64 0), (.int .i64 0), (.int .i64 0)] [(0, 1, (.const (.int .u8 1))), (2, 1, (.const (.int .i64 3)))], none⟩, ⟨some 24, .lit 5 [(.int .u8 0), (.str []), (.int .i64 0), (.int .i64 0), (.int .i64 0)] true 1 [(0, (.tmp 23))], none⟩, ⟨some 25, .lit 1 [.nilslice] false 2 [(0, (.tmp 22)), (1, (.tmp 24))], none⟩, ⟨some 26, .call .shared 67 [(.const (.str [61])), (.tmp 25)], none⟩, ⟨some 21, .move (.tmp 26), none⟩, ⟨some 27, .extract (.tmp 21) 0, none⟩, ⟨some 28, .extract (.tmp 21) 1, none⟩, ⟨some 5, .move (.tmp 27), none⟩, ⟨some 6, .move (.tmp 28), none⟩]) (.seq (.region [⟨some 29, .move (.tmp 5), none⟩, ⟨some 30, .move (.tmp 5), none⟩, ⟨some 31, .lit 1 [.nilslice] false 2 [(0, (.tmp 29)), (1, (.tmp 30))], none⟩, ⟨some 32, .call .shared 68 [(.const .nilptr), (.const (.int .i64 9)), (.tmp 31)], none⟩, ⟨some 7, .alloc [(.int .u8 0), .nilslice, .nilslice, (.int .i64 0)], none⟩, ⟨none, .store 4 (.tmp 7) (.tmp 32), none⟩]) (.seq (.region [⟨some 33, .faddr 0 (.tmp 3), none⟩, ⟨some 34, .load 1 false (.tmp 33), none⟩, ⟨some 35, .iop .eql (.tmp 34) (.const (.int .u8 2)), none⟩, ⟨some 36, .move (.tmp 35), none⟩, ⟨some 37, .faddr 1 (.tmp 3), some (36, true)⟩, ⟨some 38, .load 2 true (.tmp 37), some (36, true)⟩, ⟨some 39, .move (.tmp 1), some (36, true)⟩, ⟨some 40, .iaddr 5 (.tmp 39) (.const (.int .i64 0)), some (36, true)⟩, ⟨some 41, .faddr 3 (.tmp 40), some (36, true)⟩, ⟨some 42, .load 2 true (.tmp 41), some (36, true)⟩, ⟨some 43, .eqs false [.i, .i] (.tmp 38) (.tmp 42), some (36, true)⟩, ⟨some 44, .pick (.tmp 36) (.tmp 43) (.const (.bool false)), none⟩, ⟨some 45, .move (.tmp 44), none⟩, ⟨some 46, .faddr 3 (.tmp 3), some (45, true)⟩, ⟨some 47, .load 1 false (.tmp 46), some (45, true)⟩, ⟨some 48, .move (.tmp 2), some (45, true)⟩, ⟨some 49, .call .shared 18 [(.tmp 47), (.tmp 48)], some (45, true)⟩, ⟨some 50, .pick (.tmp 45) (.tmp 49) (.const (.bool false)), none⟩, ⟨some 51, .move (.tmp 50), none⟩, ⟨some 52, .faddr 0 (.tmp 4), some (51, true)⟩, ⟨some 53, .load 1 false (.tmp 52), some (51, true)⟩, ⟨some 54, .iop .eql (.tmp 53) (.const (.int .u8 1)), some (51, true)⟩, ⟨some 55, .pick (.tmp 51) (.tmp 54) (.const (.bool false)), none⟩, ⟨some 56, .move (.tmp 55), none⟩, ⟨some 57, .faddr 0 (.tmp 7), some (56, true)⟩, ⟨some 58, .load 1 false (.tmp 57), some (56, true)⟩, ⟨some 59, .iop .eql (.tmp 58) (.const (.int .u8 1)), some (56, true)⟩, ⟨some 60, .pick (.tmp 56) (.tmp 59) (.const (.bool false)), none⟩, ⟨some 61, .move (.tmp 60), none⟩, ⟨some 62, .faddr 3 (.tmp 7), some (61, true)⟩, ⟨some 63, .load 1 false (.tmp 62), some (61, true)⟩, ⟨some 64, .iop .eql (.tmp 63) (.const (.int .i64 2)), some (61, true)⟩, ⟨some 65, .pick (.tmp 61) (.tmp 64) (.const (.bool false)), none⟩, ⟨some 66, .move (.tmp 65), none⟩, ⟨some 67, .faddr 1 (.tmp 7), some (66, true)⟩, ⟨some 68, .load 1 false (.tmp 67), some (66, true)⟩, ⟨some 69, .lenS (.tmp 68), some (66, true)⟩, ⟨some 70, .iop .eql (.tmp 69) (.const (.int .i64 1)), some (66, true)⟩, ⟨some 71, .pick (.tmp 66) (.tmp 70) (.const (.bool false)), none⟩, ⟨some 0, .move (.tmp 71), none⟩]) .ret)))))))), [.tmp 0]⟩

/-- purlin/purlinref01.Equal -/
def a18 : AFunc := ⟨26, (.seq (.region [⟨some 4, .move (.const (.bool false)), none⟩]) (.seq (.seq (.region [⟨some 6, .move (.tmp 0), none⟩, ⟨some 7, .lenS (.tmp 6), none⟩, ⟨some 8, .move (.tmp 1), none⟩, ⟨some 9, .lenS (.tmp 8), none⟩, ⟨some 10, .iop .neq (.tmp 7) (.tmp 9), none⟩]) (.cond (.tmp 10) (.seq (.region [⟨some 4, .move (.const (.bool false)), none⟩]) .ret) .skip)) (.seq (.seq (.region [⟨some 5, .move (.const (.int .i64 0)), none⟩]) (.block 0 (.loop [0, 1, 5] (.seq (.seq (.region [⟨some 11, .move (.tmp 5), none⟩, ⟨some 12, .move (.tmp 0), none⟩, ⟨some 13, .lenS (.tmp 12), none⟩, ⟨some 14, .iop .lss (.tmp 11) (.tmp 13), none⟩]) (.cond (.tmp 14) .skip (.exit 0))) (.seq (.block 1 (.seq (.region [⟨some 17, .move (.tmp 0), none⟩, ⟨some 18, .move (.tmp 5), none⟩, ⟨some 19, .iaddr 5 (.tmp 17) (.tmp 18), none⟩, ⟨some 20, .load 5 true (.tmp 19), none⟩, ⟨some 21, .move (.tmp 1), none⟩, ⟨some 22, .move (.tmp 5), none⟩, ⟨some 23, .iaddr 5 (.tmp 21) (.tmp 22), none⟩, ⟨some 24, .load 5 true (.tmp 23), none⟩, ⟨some 25, .eqs true [.i, .s, .i, .i, .i] (.tmp 20) (.tmp 24), none⟩]) (.cond (.tmp 25) (.seq (.region [⟨some 4, .move (.const (.bool false)), none⟩]) .ret) .skip))) (.region [⟨some 15, .move (.tmp 5), none⟩, ⟨some 16, .iop .add (.tmp 15) (.const (.int .i64 1)), none⟩, ⟨some 5, .move (.tmp 16), none⟩])))))) (.seq (.region [⟨some 4, .move (.const (.bool true)), none⟩]) .ret)))), [.tmp 4]⟩

/-- (*purlin/purlinmem.Book).TakeTerm -/
def a19 : AFunc := ⟨7, (.region [⟨some 4, .move (.tmp 0), none⟩, ⟨some 5, .move (.tmp 1), none⟩, ⟨some 6, .call .shared 69 [(.tmp 4), (.tmp 5)], none⟩]), []⟩

/-- (*purlin/purlinmem.Book).Alone -/
def a20 : AFunc := ⟨26, (.seq (.region [⟨some 2, .move (.const (.bool false)), none⟩]) (.seq (.region [⟨some 4, .move (.tmp 0), none⟩, ⟨some 5, .call .shared 70 [(.tmp 4)], none⟩, ⟨some 6, .move (.tmp 5), none⟩, ⟨some 7, .move (.tmp 0), some (6, true)⟩, ⟨some 8, .call .shared 71 [(.tmp 7)], some (6, true)⟩, ⟨some 9, .pick (.tmp 6) (.tmp 8) (.const (.bool false)), none⟩, ⟨some 10, .move (.tmp 9), none⟩, ⟨some 11, .move (.tmp 0), some (10, true)⟩, ⟨some 12, .call .shared 72 [(.tmp 11)], some (10, true)⟩, ⟨some 13, .pick (.tmp 10) (.tmp 12) (.const (.bool false)), none⟩, ⟨some 14, .move (.tmp 13), none⟩, ⟨some 15, .move (.tmp 0), some (14, true)⟩, ⟨some 16, .call .shared 73 [(.tmp 15)], some (14, true)⟩, ⟨some 17, .pick (.tmp 14) (.tmp 16) (.const (.bool false)), none⟩, ⟨some 18, .move (.tmp 17), none⟩, ⟨some 19, .move (.tmp 0), some (18, true)⟩, ⟨some 20, .call .shared 74 [(.tmp 19)], some (18, true)⟩, ⟨some 21, .pick (.tmp 18) (.tmp 20) (.const (.bool false)), none⟩, ⟨some 3, .move (.tmp 21), none⟩]) (.seq (.region [⟨some 22, .move (.tmp 0), none⟩, ⟨some 23, .build [.nilslice, .nilslice, .nilslice, .nilslice, .nilslice] [], none⟩, ⟨some 24, .nilCheck (.tmp 22), none⟩, ⟨none, .store 5 (.tmp 24) (.tmp 23), none⟩]) (.seq (.region [⟨some 25, .move (.tmp 3), none⟩, ⟨some 2, .move (.tmp 25), none⟩]) .ret)))), [.tmp 2]⟩

/-- purlin/purlinmem.KeptTerm -/
def a21 : AFunc := ⟨8, (.seq (.region [⟨some 4, .move (.const (.bool false)), none⟩]) (.seq (.region [⟨some 5, .move (.tmp 0), none⟩, ⟨some 6, .move (.tmp 1), none⟩, ⟨some 7, .call .shared 75 [(.tmp 5), (.tmp 6)], none⟩, ⟨some 4, .move (.tmp 7), none⟩]) .ret)), [.tmp 4]⟩

/-- purlin/unify.Step -/
def a23 : AFunc := ⟨113, (.seq (.region [⟨some 6, .alloc [(.int .u8 0), (.int .i64 0), (.int .i64 0), .nilslice, .nilslice], none⟩]) (.seq (.seq (.region [⟨some 15, .move (.tmp 1), none⟩, ⟨some 16, .call .shared 78 [(.tmp 15)], none⟩, ⟨some 17, .not (.tmp 16), none⟩, ⟨some 18, .move (.tmp 17), none⟩, ⟨some 19, .move (.tmp 2), some (18, false)⟩, ⟨some 20, .call .shared 78 [(.tmp 19)], some (18, false)⟩, ⟨some 21, .not (.tmp 20), some (18, false)⟩, ⟨some 22, .pick (.tmp 18) (.const (.bool true)) (.tmp 21), none⟩]) (.cond (.tmp 22) (.seq (.region [⟨some 23, .build [(.int .u8 0), (.int .i64 0), (.int .i64 0), .nilslice, .nilslice] [(0, 1, (.const (.int .u8 4)))], none⟩, ⟨none, .store 5 (.tmp 6) (.tmp 23), none⟩]) .ret) .skip)) (.seq (.region [⟨some 24, .move (.tmp 0), none⟩, ⟨some 25, .move (.tmp 1), none⟩, ⟨some 26, .call .shared 48 [(.tmp 24), (.tmp 25)], none⟩, ⟨some 27, .move (.tmp 0), none⟩, ⟨some 28, .move (.tmp 2), none⟩, ⟨some 29, .call .shared 48 [(.tmp 27), (.tmp 28)], none⟩, ⟨some 1, .move (.tmp 26), none⟩, ⟨some 2, .move (.tmp 29), none⟩]) (.seq (.ahead [⟨some 30, .move (.tmp 1), none⟩, ⟨some 31, .iaddr 5 (.tmp 30) (.const (.int .i64 0)), none⟩, ⟨some 32, .load 5 true (.tmp 31), none⟩, ⟨some 33, .move (.tmp 2), none⟩, ⟨some 34, .iaddr 5 (.tmp 33) (.const (.int .i64 0)), none⟩, ⟨some 35, .load 5 true (.tmp 34), none⟩, ⟨some 7, .alloc [(.int .u8 0), (.str []), (.int .i64 0), (.int .i64 0), (.int .i64 0)], none⟩, ⟨some 8, .alloc [(.int .u8 0), (.str []), (.int .i64 0), (.int .i64 0), (.int .i64 0)], none⟩, ⟨none, .store 5 (.tmp 7) (.tmp 32), none⟩, ⟨none, .store 5 (.tmp 8) (.tmp 35), none⟩] [(5, 8)]) (.seq (.block 0 (.seq (.region [⟨some 37, .load 5 true (.tmp 7), none⟩, ⟨some 38, .load 5 true (.tmp 8), none⟩, ⟨some 39, .eqs false [.i, .s, .i, .i, .i] (.tmp 37) (.tmp 38), none⟩, ⟨some 40, .move (.tmp 39), none⟩, ⟨some 41, .faddr 0 (.tmp 7), some (40, true)⟩, ⟨some 42, .load 1 false (.tmp 41), some (40, true)⟩, ⟨some 43, .iop .neq (.tmp 42) (.const (.int .u8 3)), some (40, true)⟩, ⟨some 44, .pick (.tmp 40) (.tmp 43) (.const (.bool false)), none⟩, ⟨some 36, .move (.tmp 44), none⟩]) (.cond (.tmp 36) (.seq (.region [⟨some 45, .build [(.int .u8 0), (.int .i64 0), (.int .i64 0), .nilslice, .nilslice] [(0, 1, (.const (.int .u8 1)))], none⟩, ⟨none, .store 5 (.tmp 6) (.tmp 45), none⟩]) .ret) (.seq (.region [⟨some 47, .faddr 0 (.tmp 7), none⟩, ⟨some 48, .load 1 false (.tmp 47), none⟩, ⟨some 49, .iop .eql (.tmp 48) (.const (.int .u8 4)), none⟩, ⟨some 50, .move (.tmp 49), none⟩, ⟨some 51, .faddr 0 (.tmp 8), some (50, true)⟩, ⟨some 52, .load 1 false (.tmp 51), some (50, true)⟩, ⟨some 53, .iop .neq (.tmp 52) (.const (.int .u8 4)), some (50, true)⟩, ⟨some 54, .move (.tmp 53), some (50, true)⟩, ⟨some 55, .faddr 3 (.tmp 8), some (54, false)⟩, ⟨some 56, .load 2 true (.tmp 55), some (54, false)⟩, ⟨some 57, .faddr 3 (.tmp 7), some (54, false)⟩, ⟨some 58, .load 2 true (.tmp 57), some (54, false)⟩, ⟨some 59, .call .shared 79 [(.tmp 56), (.tmp 58)], some (54, false)⟩, ⟨some 60, .pick (.tmp 54) (.const (.bool true)) (.tmp 59), some (50, true)⟩, ⟨some 61, .pick (.tmp 50) (.tmp 60) (.const (.bool false)), none⟩, ⟨some 46, .move (.tmp 61), none⟩]) (.cond (.tmp 46) (.seq (.drawn [⟨some 62, .faddr 3 (.tmp 7), none⟩, ⟨some 63, .load 2 true (.tmp 62), none⟩, ⟨some 64, .move (.tmp 2), none⟩, ⟨some 65, .call .shared 80 [(.tmp 64)], none⟩, ⟨some 66, .build [(.int .u8 0), (.int .i64 0), (.int .i64 0), .nilslice, .nilslice] [(0, 1, (.const (.int .u8 2))), (1, 2, (.tmp 63)), (3, 1, (.tmp 65))], none⟩, ⟨none, .store 5 (.tmp 6) (.tmp 66), none⟩] [(1, 3)]) .ret) (.seq (.region [⟨some 68, .faddr 0 (.tmp 8), none⟩, ⟨some 69, .load 1 false (.tmp 68), none⟩, ⟨some 70, .iop .eql (.tmp 69) (.const (.int .u8 4)), none⟩, ⟨some 67, .move (.tmp 70), none⟩]) (.cond (.tmp 67) (.seq (.drawn [⟨some 71, .faddr 3 (.tmp 8), none⟩, ⟨some 72, .load 2 true (.tmp 71), none⟩, ⟨some 73, .move (.tmp 1), none⟩, ⟨some 74, .call .shared 80 [(.tmp 73)], none⟩, ⟨some 75, .build [(.int .u8 0), (.int .i64 0), (.int .i64 0), .nilslice, .nilslice] [(0, 1, (.const (.int .u8 2))), (1, 2, (.tmp 72)), (3, 1, (.tmp 74))], none⟩, ⟨none, .store 5 (.tmp 6) (.tmp 75), none⟩] [(1, 3)]) .ret) (.seq (.region [⟨some 77, .load 5 true (.tmp 7), none⟩, ⟨some 78, .load 5 true (.tmp 8), none⟩, ⟨some 79, .eqs true [.i, .s, .i, .i, .i] (.tmp 77) (.tmp 78), none⟩, ⟨some 76, .move (.tmp 79), none⟩]) (.cond (.tmp 76) (.seq (.region [⟨some 80, .build [(.int .u8 0), (.int .i64 0), (.int .i64 0), .nilslice, .nilslice] [(0, 1, (.const (.int .u8 4)))], none⟩, ⟨none, .store 5 (.tmp 6) (.tmp 80), none⟩]) .ret) .skip))))))))) (.seq (.region [⟨some 81, .move (.tmp 1), none⟩, ⟨some 82, .call .shared 62 [(.tmp 81)], none⟩, ⟨some 83, .move (.tmp 2), none⟩, ⟨some 84, .call .shared 62 [(.tmp 83)], none⟩, ⟨some 9, .move (.tmp 82), none⟩, ⟨some 10, .move (.tmp 84), none⟩]) (.seq (.region [⟨some 11, .move (.const .nilslice), none⟩]) (.seq (.seq (.region [⟨some 85, .move (.tmp 9), none⟩, ⟨some 86, .lenS (.tmp 85), none⟩, ⟨some 87, .move (.const (.int .i64 0)), none⟩]) (.block 1 (.loop [6, 9, 10, 11, 86, 87] (.seq (.region [⟨some 88, .iop .lss (.tmp 87) (.tmp 86), none⟩]) (.seq (.cond (.tmp 88) .skip (.exit 1)) (.seq (.block 2 (.seq (.region [⟨some 89, .move (.tmp 87), none⟩, ⟨some 12, .move (.tmp 89), none⟩]) (.seq (.region [⟨some 91, .move (.tmp 9), none⟩, ⟨some 92, .move (.tmp 12), none⟩, ⟨some 93, .iaddr 1 (.tmp 91) (.tmp 92), none⟩, ⟨some 94, .load 1 false (.tmp 93), none⟩, ⟨some 95, .move (.tmp 10), none⟩, ⟨some 96, .move (.tmp 12), none⟩, ⟨some 97, .iaddr 1 (.tmp 95) (.tmp 96), none⟩, ⟨some 98, .load 1 false (.tmp 97), none⟩, ⟨some 99, .lit 1 [.nilslice] false 2 [(0, (.tmp 94)), (1, (.tmp 98))], none⟩, ⟨some 100, .call .shared 81 [(.const (.str [61])), (.tmp 99)], none⟩, ⟨some 90, .move (.tmp 100), none⟩, ⟨some 101, .extract (.tmp 90) 0, none⟩, ⟨some 102, .extract (.tmp 90) 1, none⟩, ⟨some 13, .move (.tmp 101), none⟩, ⟨some 14, .move (.tmp 102), none⟩]) (.seq (.seq (.region [⟨some 103, .move (.tmp 14), none⟩, ⟨some 104, .iop .neq (.tmp 103) (.const (.int .i64 0)), none⟩]) (.cond (.tmp 104) (.seq (.region [⟨some 105, .build [(.int .u8 0), (.int .i64 0), (.int .i64 0), .nilslice, .nilslice] [(0, 1, (.const (.int .u8 4)))], none⟩, ⟨none, .store 5 (.tmp 6) (.tmp 105), none⟩]) .ret) .skip)) (.region [⟨some 106, .move (.tmp 11), none⟩, ⟨some 107, .move (.tmp 13), none⟩, ⟨some 108, .lit 1 [.nilslice] false 1 [(0, (.tmp 107))], none⟩, ⟨some 109, .append 1 24 (.tmp 106) (.tmp 108), none⟩, ⟨some 11, .move (.tmp 109), none⟩]))))) (.region [⟨some 110, .iop .add (.tmp 87) (.const (.int .i64 1)), none⟩, ⟨some 87, .move (.tmp 110), none⟩]))))))) (.seq (.region [⟨some 111, .move (.tmp 11), none⟩, ⟨some 112, .build [(.int .u8 0), (.int .i64 0), (.int .i64 0), .nilslice, .nilslice] [(0, 1, (.const (.int .u8 3))), (4, 1, (.tmp 111))], none⟩, ⟨none, .store 5 (.tmp 6) (.tmp 112), none⟩]) .ret))))))))), [.cell 6 5 true]⟩

/-- (*purlin/heap.Heap).Bind -/
def a37 : AFunc := ⟨56, (.seq (.region [⟨some 4, .box (.tmp 1), none⟩, ⟨some 6, .move (.const (.int .i64 0)), none⟩]) (.seq (.seq (.region [⟨some 9, .move (.tmp 0), none⟩, ⟨some 10, .eqnil false .p (.tmp 9), none⟩]) (.cond (.tmp 10) (.seq (.region [⟨some 6, .move (.const (.int .i64 1)), none⟩]) .ret) .skip)) (.seq (.seq (.region [⟨some 11, .faddr 0 (.tmp 4), none⟩, ⟨some 12, .load 1 false (.tmp 11), none⟩, ⟨some 13, .iop .lss (.tmp 12) (.const (.int .i64 0)), none⟩, ⟨some 14, .move (.tmp 13), none⟩, ⟨some 15, .load 2 true (.tmp 4), some (14, false)⟩, ⟨some 16, .call .shared 90 [(.tmp 15)], some (14, false)⟩, ⟨some 17, .lenS (.tmp 16), some (14, false)⟩, ⟨some 18, .iop .eql (.tmp 17) (.const (.int .i64 0)), some (14, false)⟩, ⟨some 19, .pick (.tmp 14) (.const (.bool true)) (.tmp 18), none⟩, ⟨some 20, .move (.tmp 19), none⟩, ⟨some 21, .move (.tmp 2), some (20, false)⟩, ⟨some 22, .call .shared 78 [(.tmp 21)], some (20, false)⟩, ⟨some 23, .not (.tmp 22), some (20, false)⟩, ⟨some 24, .pick (.tmp 20) (.const (.bool true)) (.tmp 23), none⟩]) (.cond (.tmp 24) (.seq (.region [⟨some 6, .move (.const (.int .i64 6)), none⟩]) .ret) .skip)) (.seq (.seq (.region [⟨some 26, .move (.tmp 0), none⟩, ⟨some 27, .nilCheck (.tmp 26), none⟩, ⟨some 28, .faddr 0 (.tmp 27), none⟩, ⟨some 29, .load 1 false (.tmp 28), none⟩, ⟨some 30, .load 2 true (.tmp 4), none⟩, ⟨some 31, .lookup true [.i, .i] .nilslice (.tmp 29) (.tmp 30) true, none⟩, ⟨some 25, .move (.tmp 31), none⟩, ⟨some 32, .extract (.tmp 25) 0, none⟩, ⟨some 33, .extract (.tmp 25) 1, none⟩, ⟨some 7, .move (.tmp 32), none⟩, ⟨some 8, .move (.tmp 33), none⟩]) (.seq (.region [⟨some 34, .move (.tmp 8), none⟩]) (.cond (.tmp 34) (.seq (.region [⟨some 6, .move (.const (.int .i64 70)), none⟩]) .ret) .skip))) (.seq (.seq (.region [⟨some 35, .move (.tmp 2), none⟩, ⟨some 36, .iaddr 5 (.tmp 35) (.const (.int .i64 0)), none⟩, ⟨some 37, .faddr 0 (.tmp 36), none⟩, ⟨some 38, .load 1 false (.tmp 37), none⟩, ⟨some 39, .iop .eql (.tmp 38) (.const (.int .u8 4)), none⟩, ⟨some 40, .move (.tmp 39), none⟩, ⟨some 41, .move (.tmp 2), some (40, true)⟩, ⟨some 42, .iaddr 5 (.tmp 41) (.const (.int .i64 0)), some (40, true)⟩, ⟨some 43, .faddr 3 (.tmp 42), some (40, true)⟩, ⟨some 44, .load 2 true (.tmp 43), some (40, true)⟩, ⟨some 45, .load 2 true (.tmp 4), some (40, true)⟩, ⟨some 46, .call .shared 79 [(.tmp 44), (.tmp 45)], some (40, true)⟩, ⟨some 47, .not (.tmp 46), some (40, true)⟩, ⟨some 48, .pick (.tmp 40) (.tmp 47) (.const (.bool false)), none⟩]) (.cond (.tmp 48) (.seq (.region [⟨some 6, .move (.const (.int .i64 71)), none⟩]) .ret) .skip)) (.seq (.region [⟨some 49, .move (.tmp 0), none⟩, ⟨some 50, .nilCheck (.tmp 49), none⟩, ⟨some 51, .faddr 0 (.tmp 50), none⟩, ⟨some 52, .load 1 false (.tmp 51), none⟩, ⟨some 53, .load 2 true (.tmp 4), none⟩, ⟨some 54, .move (.tmp 2), none⟩, ⟨some 55, .call .iso 80 [(.tmp 54)], none⟩, ⟨none, .mapset true [.i, .i] (.tmp 52) (.tmp 53) (.tmp 55), none⟩]) (.seq (.region [⟨some 6, .move (.const (.int .i64 0)), none⟩]) .ret))))))), [.tmp 6]⟩

/-- (*purlin/heap.Heap).Deref -/
def a48 : AFunc := ⟨9, (.seq (.region [⟨some 4, .move (.const .nilslice), none⟩]) (.seq (.region [⟨some 5, .move (.tmp 0), none⟩, ⟨some 6, .move (.tmp 1), none⟩, ⟨some 7, .call .shared 106 [(.tmp 5), (.tmp 6)], none⟩, ⟨some 8, .call .shared 80 [(.tmp 7)], none⟩, ⟨some 4, .move (.tmp 8), none⟩]) .ret)), [.tmp 4]⟩

/-- (*purlin/heap.Heap).Fork -/
def a50 : AFunc := ⟨12, (.seq (.region [⟨some 2, .move (.const .nilptr), none⟩]) (.seq (.seq (.region [⟨some 3, .move (.tmp 0), none⟩, ⟨some 4, .eqnil false .p (.tmp 3), none⟩]) (.cond (.tmp 4) (.seq (.region [⟨some 2, .move (.const .nilptr), none⟩]) .ret) .skip)) (.seq (.region [⟨some 5, .move (.tmp 0), none⟩, ⟨some 6, .nilCheck (.tmp 5), none⟩, ⟨some 7, .faddr 0 (.tmp 6), none⟩, ⟨some 8, .load 1 false (.tmp 7), none⟩, ⟨some 9, .call .shared 107 [(.tmp 8)], none⟩, ⟨some 10, .build [.nilmap] [(0, 1, (.tmp 9))], none⟩, ⟨some 11, .box (.tmp 10), none⟩, ⟨some 2, .move (.tmp 11), none⟩]) .ret))), [.tmp 2]⟩

/-- purlin/purlinmem.HandCells -/
def a59 : AFunc := ⟨44, (.seq (.region [⟨some 2, .move (.const .nilslice), none⟩]) (.seq (.region [⟨some 6, .move (.tmp 0), none⟩, ⟨some 7, .lenS (.tmp 6), none⟩, ⟨some 8, .iop .add (.tmp 7) (.const (.int .i64 9)), none⟩, ⟨some 9, .mkslice 5 48 [(.int .u8 0), (.str []), (.int .i64 0), (.int .i64 0), (.int .i64 0)] true (.tmp 8) (.tmp 8), none⟩, ⟨some 3, .move (.tmp 9), none⟩]) (.seq (.seq (.region [⟨some 4, .move (.const (.int .i64 0)), none⟩]) (.block 0 (.loop [0, 3, 4] (.seq (.seq (.region [⟨some 10, .move (.tmp 4), none⟩, ⟨some 11, .move (.tmp 0), none⟩, ⟨some 12, .lenS (.tmp 11), none⟩, ⟨some 13, .iop .lss (.tmp 10) (.tmp 12), none⟩]) (.cond (.tmp 13) .skip (.exit 0))) (.seq (.block 1 (.region [⟨some 16, .move (.tmp 3), none⟩, ⟨some 17, .move (.tmp 4), none⟩, ⟨some 18, .move (.tmp 0), none⟩, ⟨some 19, .move (.tmp 4), none⟩, ⟨some 20, .iaddr 5 (.tmp 18) (.tmp 19), none⟩, ⟨some 21, .load 5 true (.tmp 20), none⟩, ⟨some 22, .iaddr 5 (.tmp 16) (.tmp 17), none⟩, ⟨none, .store 5 (.tmp 22) (.tmp 21), none⟩])) (.region [⟨some 14, .move (.tmp 4), none⟩, ⟨some 15, .iop .add (.tmp 14) (.const (.int .i64 1)), none⟩, ⟨some 4, .move (.tmp 15), none⟩])))))) (.seq (.seq (.region [⟨some 23, .move (.tmp 0), none⟩, ⟨some 24, .lenS (.tmp 23), none⟩, ⟨some 5, .move (.tmp 24), none⟩]) (.block 2 (.loop [0, 3, 5] (.seq (.seq (.region [⟨some 25, .move (.tmp 5), none⟩, ⟨some 26, .move (.tmp 3), none⟩, ⟨some 27, .lenS (.tmp 26), none⟩, ⟨some 28, .iop .lss (.tmp 25) (.tmp 27), none⟩]) (.cond (.tmp 28) .skip (.exit 2))) (.seq (.block 3 (.region [⟨some 31, .move (.tmp 3), none⟩, ⟨some 32, .move (.tmp 5), none⟩, ⟨some 33, .move (.tmp 5), none⟩, ⟨some 34, .iop .sub (.const (.int .i64 (-700))) (.tmp 33), none⟩, ⟨some 35, .move (.tmp 0), none⟩, ⟨some 36, .lenS (.tmp 35), none⟩, ⟨some 37, .iop .add (.tmp 34) (.tmp 36), none⟩, ⟨some 38, .build [(.int .u8 0), (.str []), (.int .i64 0), (.int .i64 0), (.int .i64 0)] [(2, 1, (.tmp 37))], none⟩, ⟨some 39, .iaddr 5 (.tmp 31) (.tmp 32), none⟩, ⟨none, .store 5 (.tmp 39) (.tmp 38), none⟩])) (.region [⟨some 29, .move (.tmp 5), none⟩, ⟨some 30, .iop .add (.tmp 29) (.const (.int .i64 1)), none⟩, ⟨some 5, .move (.tmp 30), none⟩])))))) (.seq (.region [⟨some 40, .move (.tmp 3), none⟩, ⟨some 41, .move (.tmp 0), none⟩, ⟨some 42, .lenS (.tmp 41), none⟩, ⟨some 43, .sliceOp 5 (.tmp 40) none (some (.tmp 42)) none, none⟩, ⟨some 2, .move (.tmp 43), none⟩]) .ret))))), [.tmp 2]⟩

/-- purlin/term.Right -/
def a60 : AFunc := ⟨21, (.seq (.region [⟨some 2, .move (.const (.bool false)), none⟩]) (.seq (.seq (.region [⟨some 3, .move (.tmp 0), none⟩, ⟨some 4, .lenS (.tmp 3), none⟩, ⟨some 5, .iop .eql (.tmp 4) (.const (.int .i64 0)), none⟩, ⟨some 6, .move (.tmp 5), none⟩, ⟨some 7, .move (.tmp 0), some (6, false)⟩, ⟨some 8, .lenS (.tmp 7), some (6, false)⟩, ⟨some 9, .iop .gtr (.tmp 8) (.const (.int .i64 256)), some (6, false)⟩, ⟨some 10, .pick (.tmp 6) (.const (.bool true)) (.tmp 9), none⟩, ⟨some 11, .move (.tmp 10), none⟩, ⟨some 12, .move (.tmp 0), some (11, false)⟩, ⟨some 13, .call .shared 113 [(.tmp 12), (.const (.int .i64 0))], some (11, false)⟩, ⟨some 14, .move (.tmp 0), some (11, false)⟩, ⟨some 15, .lenS (.tmp 14), some (11, false)⟩, ⟨some 16, .iop .neq (.tmp 13) (.tmp 15), some (11, false)⟩, ⟨some 17, .pick (.tmp 11) (.const (.bool true)) (.tmp 16), none⟩]) (.cond (.tmp 17) (.seq (.region [⟨some 2, .move (.const (.bool false)), none⟩]) .ret) .skip)) (.seq (.region [⟨some 18, .move (.tmp 0), none⟩, ⟨some 19, .call .shared 114 [(.tmp 18), (.const (.func 115 [] []))], none⟩, ⟨some 20, .not (.tmp 19), none⟩, ⟨some 2, .move (.tmp 20), none⟩]) .ret))), [.tmp 2]⟩

/-- purlin/term.Is -/
def a61 : AFunc := ⟨42, (.seq (.region [⟨some 6, .move (.const (.bool false)), none⟩]) (.seq (.seq (.region [⟨some 7, .move (.tmp 0), none⟩, ⟨some 8, .lenS (.tmp 7), none⟩, ⟨some 9, .iop .eql (.tmp 8) (.const (.int .i64 0)), none⟩, ⟨some 10, .move (.tmp 9), none⟩, ⟨some 11, .move (.tmp 0), some (10, false)⟩, ⟨some 12, .iaddr 5 (.tmp 11) (.const (.int .i64 0)), some (10, false)⟩, ⟨some 13, .faddr 1 (.tmp 12), some (10, false)⟩, ⟨some 14, .load 1 false (.tmp 13), some (10, false)⟩, ⟨some 15, .move (.tmp 1), some (10, false)⟩, ⟨some 16, .sop .neq (.tmp 14) (.tmp 15), some (10, false)⟩, ⟨some 17, .pick (.tmp 10) (.const (.bool true)) (.tmp 16), none⟩]) (.cond (.tmp 17) (.seq (.region [⟨some 6, .move (.const (.bool false)), none⟩]) .ret) .skip)) (.seq (.region [⟨some 18, .move (.tmp 0), none⟩, ⟨some 19, .iaddr 5 (.tmp 18) (.const (.int .i64 0)), none⟩, ⟨some 20, .faddr 0 (.tmp 19), none⟩, ⟨some 21, .load 1 false (.tmp 20), none⟩, ⟨some 22, .iop .eql (.tmp 21) (.const (.int .u8 3)), none⟩, ⟨some 23, .move (.tmp 22), none⟩, ⟨some 24, .move (.tmp 0), some (23, true)⟩, ⟨some 25, .iaddr 5 (.tmp 24) (.const (.int .i64 0)), some (23, true)⟩, ⟨some 26, .faddr 2 (.tmp 25), some (23, true)⟩, ⟨some 27, .load 1 false (.tmp 26), some (23, true)⟩, ⟨some 28, .move (.tmp 2), some (23, true)⟩, ⟨some 29, .iop .eql (.tmp 27) (.tmp 28), some (23, true)⟩, ⟨some 30, .pick (.tmp 23) (.tmp 29) (.const (.bool false)), none⟩, ⟨some 31, .move (.tmp 30), none⟩, ⟨some 32, .move (.tmp 2), some (31, false)⟩, ⟨some 33, .iop .eql (.tmp 32) (.const (.int .i64 0)), some (31, false)⟩, ⟨some 34, .move (.tmp 33), some (31, false)⟩, ⟨some 35, .move (.tmp 0), some (34, true)⟩, ⟨some 36, .iaddr 5 (.tmp 35) (.const (.int .i64 0)), some (34, true)⟩, ⟨some 37, .faddr 0 (.tmp 36), some (34, true)⟩, ⟨some 38, .load 1 false (.tmp 37), some (34, true)⟩, ⟨some 39, .iop .eql (.tmp 38) (.const (.int .u8 2)), some (34, true)⟩, ⟨some 40, .pick (.tmp 34) (.tmp 39) (.const (.bool false)), some (31, false)⟩, ⟨some 41, .pick (.tmp 31) (.const (.bool true)) (.tmp 40), none⟩, ⟨some 6, .move (.tmp 41), none⟩]) .ret))), [.tmp 6]⟩

/-- purlin/term.Args -/
def a62 : AFunc := ⟨33, (.seq (.region [⟨some 2, .move (.const .nilslice), none⟩]) (.seq (.seq (.region [⟨some 6, .move (.tmp 0), none⟩, ⟨some 7, .call .shared 60 [(.tmp 6)], none⟩, ⟨some 8, .not (.tmp 7), none⟩, ⟨some 9, .move (.tmp 8), none⟩, ⟨some 10, .move (.tmp 0), some (9, false)⟩, ⟨some 11, .iaddr 5 (.tmp 10) (.const (.int .i64 0)), some (9, false)⟩, ⟨some 12, .faddr 0 (.tmp 11), some (9, false)⟩, ⟨some 13, .load 1 false (.tmp 12), some (9, false)⟩, ⟨some 14, .iop .neq (.tmp 13) (.const (.int .u8 3)), some (9, false)⟩, ⟨some 15, .pick (.tmp 9) (.const (.bool true)) (.tmp 14), none⟩]) (.cond (.tmp 15) (.seq (.region [⟨some 2, .move (.const .nilslice), none⟩]) .ret) .skip)) (.seq (.region [⟨some 3, .move (.const .nilslice), none⟩]) (.seq (.seq (.region [⟨some 4, .move (.const (.int .i64 1)), none⟩]) (.block 0 (.loop [0, 3, 4] (.seq (.seq (.region [⟨some 16, .move (.tmp 4), none⟩, ⟨some 17, .move (.tmp 0), none⟩, ⟨some 18, .lenS (.tmp 17), none⟩, ⟨some 19, .iop .lss (.tmp 16) (.tmp 18), none⟩]) (.cond (.tmp 19) .skip (.exit 0))) (.block 1 (.seq (.region [⟨some 20, .move (.tmp 0), none⟩, ⟨some 21, .move (.tmp 4), none⟩, ⟨some 22, .call .shared 113 [(.tmp 20), (.tmp 21)], none⟩, ⟨some 5, .move (.tmp 22), none⟩]) (.seq (.region [⟨some 23, .move (.tmp 3), none⟩, ⟨some 24, .move (.tmp 0), none⟩, ⟨some 25, .move (.tmp 4), none⟩, ⟨some 26, .move (.tmp 5), none⟩, ⟨some 27, .sliceOp 5 (.tmp 24) (some (.tmp 25)) (some (.tmp 26)) none, none⟩, ⟨some 28, .call .shared 80 [(.tmp 27)], none⟩, ⟨some 29, .lit 1 [.nilslice] false 1 [(0, (.tmp 28))], none⟩, ⟨some 30, .append 1 24 (.tmp 23) (.tmp 29), none⟩, ⟨some 3, .move (.tmp 30), none⟩]) (.region [⟨some 31, .move (.tmp 5), none⟩, ⟨some 4, .move (.tmp 31), none⟩])))))))) (.seq (.region [⟨some 32, .move (.tmp 3), none⟩, ⟨some 2, .move (.tmp 32), none⟩]) .ret))))), [.tmp 2]⟩

/-- purlin/purlinref01.Right -/
def a63 : AFunc := ⟨29, (.seq (.region [⟨some 2, .move (.const (.bool false)), none⟩]) (.seq (.seq (.region [⟨some 4, .move (.tmp 0), none⟩, ⟨some 5, .lenS (.tmp 4), none⟩, ⟨some 6, .iop .lss (.tmp 5) (.const (.int .i64 1)), none⟩, ⟨some 7, .move (.tmp 6), none⟩, ⟨some 8, .move (.tmp 0), some (7, false)⟩, ⟨some 9, .lenS (.tmp 8), some (7, false)⟩, ⟨some 10, .iop .gtr (.tmp 9) (.const (.int .i64 256)), some (7, false)⟩, ⟨some 11, .pick (.tmp 7) (.const (.bool true)) (.tmp 10), none⟩]) (.cond (.tmp 11) (.seq (.region [⟨some 2, .move (.const (.bool false)), none⟩]) .ret) .skip)) (.seq (.seq (.region [⟨some 3, .move (.const (.int .i64 0)), none⟩]) (.block 0 (.loop [0, 3] (.seq (.seq (.region [⟨some 12, .move (.tmp 3), none⟩, ⟨some 13, .move (.tmp 0), none⟩, ⟨some 14, .lenS (.tmp 13), none⟩, ⟨some 15, .iop .lss (.tmp 12) (.tmp 14), none⟩]) (.cond (.tmp 15) .skip (.exit 0))) (.seq (.block 1 (.seq (.region [⟨some 18, .move (.tmp 0), none⟩, ⟨some 19, .move (.tmp 3), none⟩, ⟨some 20, .iaddr 5 (.tmp 18) (.tmp 19), none⟩, ⟨some 21, .load 5 true (.tmp 20), none⟩, ⟨some 22, .call .shared 117 [(.tmp 21)], none⟩, ⟨some 23, .not (.tmp 22), none⟩]) (.cond (.tmp 23) (.seq (.region [⟨some 2, .move (.const (.bool false)), none⟩]) .ret) .skip))) (.region [⟨some 16, .move (.tmp 3), none⟩, ⟨some 17, .iop .add (.tmp 16) (.const (.int .i64 1)), none⟩, ⟨some 3, .move (.tmp 17), none⟩])))))) (.seq (.region [⟨some 24, .move (.tmp 0), none⟩, ⟨some 25, .call .shared 118 [(.tmp 24), (.const (.int .i64 0))], none⟩, ⟨some 26, .move (.tmp 0), none⟩, ⟨some 27, .lenS (.tmp 26), none⟩, ⟨some 28, .iop .eql (.tmp 25) (.tmp 27), none⟩, ⟨some 2, .move (.tmp 28), none⟩]) .ret)))), [.tmp 2]⟩

/-- purlin/purlinref01.Is -/
def a64 : AFunc := ⟨42, (.seq (.region [⟨some 6, .move (.const (.bool false)), none⟩]) (.seq (.seq (.region [⟨some 7, .move (.tmp 0), none⟩, ⟨some 8, .lenS (.tmp 7), none⟩, ⟨some 9, .iop .eql (.tmp 8) (.const (.int .i64 0)), none⟩, ⟨some 10, .move (.tmp 9), none⟩, ⟨some 11, .move (.tmp 0), some (10, false)⟩, ⟨some 12, .iaddr 5 (.tmp 11) (.const (.int .i64 0)), some (10, false)⟩, ⟨some 13, .faddr 1 (.tmp 12), some (10, false)⟩, ⟨some 14, .load 1 false (.tmp 13), some (10, false)⟩, ⟨some 15, .move (.tmp 1), some (10, false)⟩, ⟨some 16, .sop .neq (.tmp 14) (.tmp 15), some (10, false)⟩, ⟨some 17, .pick (.tmp 10) (.const (.bool true)) (.tmp 16), none⟩]) (.cond (.tmp 17) (.seq (.region [⟨some 6, .move (.const (.bool false)), none⟩]) .ret) .skip)) (.seq (.region [⟨some 18, .move (.tmp 0), none⟩, ⟨some 19, .iaddr 5 (.tmp 18) (.const (.int .i64 0)), none⟩, ⟨some 20, .faddr 0 (.tmp 19), none⟩, ⟨some 21, .load 1 false (.tmp 20), none⟩, ⟨some 22, .iop .eql (.tmp 21) (.const (.int .u8 3)), none⟩, ⟨some 23, .move (.tmp 22), none⟩, ⟨some 24, .move (.tmp 0), some (23, true)⟩, ⟨some 25, .iaddr 5 (.tmp 24) (.const (.int .i64 0)), some (23, true)⟩, ⟨some 26, .faddr 2 (.tmp 25), some (23, true)⟩, ⟨some 27, .load 1 false (.tmp 26), some (23, true)⟩, ⟨some 28, .move (.tmp 2), some (23, true)⟩, ⟨some 29, .iop .eql (.tmp 27) (.tmp 28), some (23, true)⟩, ⟨some 30, .pick (.tmp 23) (.tmp 29) (.const (.bool false)), none⟩, ⟨some 31, .move (.tmp 30), none⟩, ⟨some 32, .move (.tmp 2), some (31, false)⟩, ⟨some 33, .iop .eql (.tmp 32) (.const (.int .i64 0)), some (31, false)⟩, ⟨some 34, .move (.tmp 33), some (31, false)⟩, ⟨some 35, .move (.tmp 0), some (34, true)⟩, ⟨some 36, .iaddr 5 (.tmp 35) (.const (.int .i64 0)), some (34, true)⟩, ⟨some 37, .faddr 0 (.tmp 36), some (34, true)⟩, ⟨some 38, .load 1 false (.tmp 37), some (34, true)⟩, ⟨some 39, .iop .eql (.tmp 38) (.const (.int .u8 2)), some (34, true)⟩, ⟨some 40, .pick (.tmp 34) (.tmp 39) (.const (.bool false)), some (31, false)⟩, ⟨some 41, .pick (.tmp 31) (.const (.bool true)) (.tmp 40), none⟩, ⟨some 6, .move (.tmp 41), none⟩]) .ret))), [.tmp 6]⟩

/-- purlin/purlinref01.Args -/
def a65 : AFunc := ⟨33, (.seq (.region [⟨some 2, .move (.const .nilslice), none⟩]) (.seq (.seq (.region [⟨some 6, .move (.tmp 0), none⟩, ⟨some 7, .call .shared 63 [(.tmp 6)], none⟩, ⟨some 8, .not (.tmp 7), none⟩, ⟨some 9, .move (.tmp 8), none⟩, ⟨some 10, .move (.tmp 0), some (9, false)⟩, ⟨some 11, .iaddr 5 (.tmp 10) (.const (.int .i64 0)), some (9, false)⟩, ⟨some 12, .faddr 0 (.tmp 11), some (9, false)⟩, ⟨some 13, .load 1 false (.tmp 12), some (9, false)⟩, ⟨some 14, .iop .neq (.tmp 13) (.const (.int .u8 3)), some (9, false)⟩, ⟨some 15, .pick (.tmp 9) (.const (.bool true)) (.tmp 14), none⟩]) (.cond (.tmp 15) (.seq (.region [⟨some 2, .move (.const .nilslice), none⟩]) .ret) .skip)) (.seq (.region [⟨some 3, .move (.const .nilslice), none⟩]) (.seq (.seq (.region [⟨some 4, .move (.const (.int .i64 1)), none⟩]) (.block 0 (.loop [0, 3, 4] (.seq (.seq (.region [⟨some 16, .move (.tmp 4), none⟩, ⟨some 17, .move (.tmp 0), none⟩, ⟨some 18, .lenS (.tmp 17), none⟩, ⟨some 19, .iop .lss (.tmp 16) (.tmp 18), none⟩]) (.cond (.tmp 19) .skip (.exit 0))) (.block 1 (.seq (.region [⟨some 20, .move (.tmp 0), none⟩, ⟨some 21, .move (.tmp 4), none⟩, ⟨some 22, .call .shared 118 [(.tmp 20), (.tmp 21)], none⟩, ⟨some 5, .move (.tmp 22), none⟩]) (.seq (.region [⟨some 23, .move (.tmp 3), none⟩, ⟨some 24, .move (.tmp 0), none⟩, ⟨some 25, .move (.tmp 4), none⟩, ⟨some 26, .move (.tmp 5), none⟩, ⟨some 27, .sliceOp 5 (.tmp 24) (some (.tmp 25)) (some (.tmp 26)) none, none⟩, ⟨some 28, .call .shared 119 [(.tmp 27)], none⟩, ⟨some 29, .lit 1 [.nilslice] false 1 [(0, (.tmp 28))], none⟩, ⟨some 30, .append 1 24 (.tmp 23) (.tmp 29), none⟩, ⟨some 3, .move (.tmp 30), none⟩]) (.region [⟨some 31, .move (.tmp 5), none⟩, ⟨some 4, .move (.tmp 31), none⟩])))))))) (.seq (.region [⟨some 32, .move (.tmp 3), none⟩, ⟨some 2, .move (.tmp 32), none⟩]) .ret))))), [.tmp 2]⟩

/-- purlin/heap.New -/
def a66 : AFunc := ⟨4, (.seq (.region [⟨some 0, .move (.const .nilptr), none⟩]) (.seq (.region [⟨some 1, .mkmap, none⟩, ⟨some 2, .build [.nilmap] [(0, 1, (.tmp 1))], none⟩, ⟨some 3, .box (.tmp 2), none⟩, ⟨some 0, .move (.tmp 3), none⟩]) .ret)), [.tmp 0]⟩

/-- purlin/purlinref01.Make -/
def a67 : AFunc := ⟨47, (.seq (.region [⟨some 4, .move (.const .nilslice), none⟩, ⟨some 5, .move (.const (.int .i64 0)), none⟩]) (.seq (.region [⟨some 10, .move (.tmp 0), none⟩, ⟨some 11, .move (.tmp 1), none⟩, ⟨some 12, .lenS (.tmp 11), none⟩, ⟨some 13, .build [(.int .u8 0), (.str []), (.int .i64 0), (.int .i64 0), (.int .i64 0)] [(0, 1, (.const (.int .u8 3))), (1, 1, (.tmp 10)), (2, 1, (.tmp 12))], none⟩, ⟨some 6, .alloc [(.int .u8 0), (.str []), (.int .i64 0), (.int .i64 0), (.int .i64 0)], none⟩, ⟨none, .store 5 (.tmp 6) (.tmp 13), none⟩]) (.seq (.region [⟨some 14, .load 5 true (.tmp 6), none⟩, ⟨some 15, .lit 5 [(.int .u8 0), (.str []), (.int .i64 0), (.int .i64 0), (.int .i64 0)] true 1 [(0, (.tmp 14))], none⟩, ⟨some 7, .move (.tmp 15), none⟩]) (.seq (.seq (.region [⟨some 8, .move (.const (.int .i64 0)), none⟩]) (.block 0 (.loop [1, 6, 7, 8] (.seq (.seq (.region [⟨some 16, .move (.tmp 8), none⟩, ⟨some 17, .move (.tmp 1), none⟩, ⟨some 18, .lenS (.tmp 17), none⟩, ⟨some 19, .iop .lss (.tmp 16) (.tmp 18), none⟩]) (.cond (.tmp 19) .skip (.exit 0))) (.seq (.block 1 (.seq (.region [⟨some 22, .move (.tmp 1), none⟩, ⟨some 23, .move (.tmp 8), none⟩, ⟨some 24, .iaddr 1 (.tmp 22) (.tmp 23), none⟩, ⟨some 25, .load 1 false (.tmp 24), none⟩, ⟨some 26, .call .shared 63 [(.tmp 25)], none⟩, ⟨some 27, .not (.tmp 26), none⟩]) (.cond (.tmp 27) (.seq (.region [⟨some 4, .move (.const .nilslice), none⟩, ⟨some 5, .move (.const (.int .i64 6)), none⟩]) .ret) .skip))) (.region [⟨some 20, .move (.tmp 8), none⟩, ⟨some 21, .iop .add (.tmp 20) (.const (.int .i64 1)), none⟩, ⟨some 8, .move (.tmp 21), none⟩])))))) (.seq (.seq (.region [⟨some 28, .load 5 true (.tmp 6), none⟩, ⟨some 29, .call .shared 117 [(.tmp 28)], none⟩, ⟨some 30, .not (.tmp 29), none⟩]) (.cond (.tmp 30) (.seq (.region [⟨some 4, .move (.const .nilslice), none⟩, ⟨some 5, .move (.const (.int .i64 6)), none⟩]) .ret) .skip)) (.seq (.seq (.region [⟨some 9, .move (.const (.int .i64 0)), none⟩]) (.block 2 (.loop [1, 7, 9] (.seq (.seq (.region [⟨some 31, .move (.tmp 9), none⟩, ⟨some 32, .move (.tmp 1), none⟩, ⟨some 33, .lenS (.tmp 32), none⟩, ⟨some 34, .iop .lss (.tmp 31) (.tmp 33), none⟩]) (.cond (.tmp 34) .skip (.exit 2))) (.seq (.block 3 (.region [⟨some 37, .move (.tmp 7), none⟩, ⟨some 38, .move (.tmp 1), none⟩, ⟨some 39, .move (.tmp 9), none⟩, ⟨some 40, .iaddr 1 (.tmp 38) (.tmp 39), none⟩, ⟨some 41, .load 1 false (.tmp 40), none⟩, ⟨some 42, .append 5 48 (.tmp 37) (.tmp 41), none⟩, ⟨some 7, .move (.tmp 42), none⟩])) (.region [⟨some 35, .move (.tmp 9), none⟩, ⟨some 36, .iop .add (.tmp 35) (.const (.int .i64 1)), none⟩, ⟨some 9, .move (.tmp 36), none⟩])))))) (.seq (.seq (.region [⟨some 43, .move (.tmp 7), none⟩, ⟨some 44, .lenS (.tmp 43), none⟩, ⟨some 45, .iop .gtr (.tmp 44) (.const (.int .i64 256)), none⟩]) (.cond (.tmp 45) (.seq (.region [⟨some 4, .move (.const .nilslice), none⟩, ⟨some 5, .move (.const (.int .i64 5)), none⟩]) .ret) .skip)) (.seq (.region [⟨some 46, .move (.tmp 7), none⟩, ⟨some 4, .move (.tmp 46), none⟩, ⟨some 5, .move (.const (.int .i64 0)), none⟩]) .ret)))))))), [.tmp 4, .tmp 5]⟩

/-- purlin/unify.Solve -/
def a68 : AFunc := ⟨125, (.seq (.region [⟨some 6, .alloc [(.int .u8 0), .nilslice, .nilslice, (.int .i64 0)], none⟩]) (.seq (.seq (.region [⟨some 21, .move (.tmp 2), none⟩, ⟨some 22, .lenS (.tmp 21), none⟩, ⟨some 23, .move (.const (.int .i64 0)), none⟩]) (.block 0 (.loop [0, 1, 2, 6, 21, 22, 23] (.seq (.region [⟨some 24, .iop .lss (.tmp 23) (.tmp 22), none⟩]) (.seq (.cond (.tmp 24) .skip (.exit 0)) (.seq (.block 1 (.seq (.region [⟨some 25, .iaddr 1 (.tmp 21) (.tmp 23), none⟩, ⟨some 26, .load 1 false (.tmp 25), none⟩, ⟨some 8, .move (.tmp 26), none⟩]) (.seq (.region [⟨some 28, .move (.tmp 8), none⟩, ⟨some 29, .call .shared 15 [(.tmp 28)], none⟩, ⟨some 27, .move (.tmp 29), none⟩, ⟨some 30, .extract (.tmp 27) 0, none⟩, ⟨some 31, .extract (.tmp 27) 1, none⟩, ⟨some 32, .extract (.tmp 27) 2, none⟩, ⟨some 9, .move (.tmp 30), none⟩, ⟨some 10, .move (.tmp 31), none⟩, ⟨some 11, .move (.tmp 32), none⟩]) (.seq (.region [⟨some 33, .move (.tmp 11), none⟩, ⟨some 34, .not (.tmp 33), none⟩, ⟨some 35, .move (.tmp 34), none⟩, ⟨some 36, .move (.tmp 8), some (35, false)⟩, ⟨some 37, .call .shared 78 [(.tmp 36)], some (35, false)⟩, ⟨some 38, .not (.tmp 37), some (35, false)⟩, ⟨some 39, .pick (.tmp 35) (.const (.bool true)) (.tmp 38), none⟩]) (.cond (.tmp 39) (.seq (.region [⟨some 40, .build [(.int .u8 0), .nilslice, .nilslice, (.int .i64 0)] [(0, 1, (.const (.int .u8 2)))], none⟩, ⟨none, .store 4 (.tmp 6) (.tmp 40), none⟩]) .ret) .skip))))) (.region [⟨some 41, .iop .add (.tmp 23) (.const (.int .i64 1)), none⟩, ⟨some 23, .move (.tmp 41), none⟩]))))))) (.seq (.region [⟨some 42, .move (.tmp 0), none⟩, ⟨some 43, .call .shared 50 [(.tmp 42)], none⟩, ⟨some 12, .move (.tmp 43), none⟩]) (.seq (.seq (.region [⟨some 44, .move (.tmp 12), none⟩, ⟨some 45, .eqnil false .p (.tmp 44), none⟩]) (.cond (.tmp 45) (.region [⟨some 46, .call .shared 66 [], none⟩, ⟨some 12, .move (.tmp 46), none⟩]) .skip)) (.seq (.region [⟨some 47, .move (.tmp 2), none⟩, ⟨some 48, .call .shared 88 [(.tmp 47)], none⟩, ⟨some 13, .move (.tmp 48), none⟩]) (.seq (.region [⟨some 14, .alloc [(.int .u8 0), .nilslice, .nilslice, (.int .i64 0)], none⟩]) (.seq (.block 2 (.loop [1, 6, 12, 13, 14] (.seq (.seq (.region [⟨some 49, .move (.tmp 13), none⟩, ⟨some 50, .lenS (.tmp 49), none⟩, ⟨some 51, .iop .gtr (.tmp 50) (.const (.int .i64 0)), none⟩, ⟨some 52, .move (.tmp 51), none⟩, ⟨some 53, .faddr 3 (.tmp 14), some (52, true)⟩, ⟨some 54, .load 1 false (.tmp 53), some (52, true)⟩, ⟨some 55, .move (.tmp 1), some (52, true)⟩, ⟨some 56, .iop .lss (.tmp 54) (.tmp 55), some (52, true)⟩, ⟨some 57, .pick (.tmp 52) (.tmp 56) (.const (.bool false)), none⟩]) (.cond (.tmp 57) .skip (.exit 2))) (.block 3 (.seq (.region [⟨some 59, .move (.tmp 13), none⟩, ⟨some 60, .iaddr 1 (.tmp 59) (.const (.int .i64 0)), none⟩, ⟨some 61, .load 1 false (.tmp 60), none⟩, ⟨some 62, .call .shared 15 [(.tmp 61)], none⟩, ⟨some 58, .move (.tmp 62), none⟩, ⟨some 63, .extract (.tmp 58) 0, none⟩, ⟨some 64, .extract (.tmp 58) 1, none⟩, ⟨some 65, .extract (.tmp 58) 2, none⟩, ⟨some 15, .move (.tmp 63), none⟩, ⟨some 16, .move (.tmp 64), none⟩, ⟨some 17, .move (.tmp 65), none⟩]) (.seq (.region [⟨some 66, .move (.tmp 13), none⟩, ⟨some 67, .sliceOp 1 (.tmp 66) (some (.const (.int .i64 1))) none none, none⟩, ⟨some 13, .move (.tmp 67), none⟩]) (.seq (.region [⟨some 68, .faddr 3 (.tmp 14), none⟩, ⟨some 69, .load 1 false (.tmp 68), none⟩, ⟨some 70, .iop .add (.tmp 69) (.const (.int .i64 1)), none⟩, ⟨some 71, .faddr 3 (.tmp 14), none⟩, ⟨none, .store 1 (.tmp 71) (.tmp 70), none⟩]) (.seq (.region [⟨some 72, .move (.tmp 12), none⟩, ⟨some 73, .move (.tmp 15), none⟩, ⟨some 74, .move (.tmp 16), none⟩, ⟨some 75, .call .shared 23 [(.tmp 72), (.tmp 73), (.tmp 74)], none⟩, ⟨some 18, .alloc [(.int .u8 0), (.int .i64 0), (.int .i64 0), .nilslice, .nilslice], none⟩, ⟨none, .store 5 (.tmp 18) (.tmp 75), none⟩]) (.seq (.region [⟨some 76, .faddr 0 (.tmp 18), none⟩, ⟨some 77, .load 1 false (.tmp 76), none⟩]) (.block 4 (.seq (.region [⟨some 79, .iop .eql (.tmp 77) (.const (.int .u8 4)), none⟩, ⟨some 78, .move (.tmp 79), none⟩]) (.cond (.tmp 78) (.seq (.region [⟨some 80, .faddr 3 (.tmp 14), none⟩, ⟨some 81, .load 1 false (.tmp 80), none⟩, ⟨some 82, .build [(.int .u8 0), .nilslice, .nilslice, (.int .i64 0)] [(0, 1, (.const (.int .u8 2))), (3, 1, (.tmp 81))], none⟩, ⟨none, .store 4 (.tmp 6) (.tmp 82), none⟩]) .ret) (.seq (.region [⟨some 84, .iop .eql (.tmp 77) (.const (.int .u8 2)), none⟩, ⟨some 83, .move (.tmp 84), none⟩]) (.cond (.tmp 83) (.seq (.region [⟨some 85, .move (.tmp 12), none⟩, ⟨some 86, .faddr 1 (.tmp 18), none⟩, ⟨some 87, .load 2 true (.tmp 86), none⟩, ⟨some 88, .faddr 3 (.tmp 18), none⟩, ⟨some 89, .load 1 false (.tmp 88), none⟩, ⟨some 90, .call .shared 37 [(.tmp 85), (.tmp 87), (.tmp 89)], none⟩]) (.region [⟨some 91, .faddr 1 (.tmp 14), none⟩, ⟨some 92, .load 1 false (.tmp 91), none⟩, ⟨some 93, .faddr 1 (.tmp 18), none⟩, ⟨some 94, .load 2 true (.tmp 93), none⟩, ⟨some 95, .faddr 3 (.tmp 18), none⟩, ⟨some 96, .load 1 false (.tmp 95), none⟩, ⟨some 97, .build [(.int .i64 0), (.int .i64 0), .nilslice] [(0, 2, (.tmp 94)), (2, 1, (.tmp 96))], none⟩, ⟨some 98, .lit 3 [(.int .i64 0), (.int .i64 0), .nilslice] true 1 [(0, (.tmp 97))], none⟩, ⟨some 99, .append 3 40 (.tmp 92) (.tmp 98), none⟩, ⟨some 100, .faddr 1 (.tmp 14), none⟩, ⟨none, .store 1 (.tmp 100) (.tmp 99), none⟩])) (.seq (.region [⟨some 102, .iop .eql (.tmp 77) (.const (.int .u8 3)), none⟩, ⟨some 101, .move (.tmp 102), none⟩]) (.cond (.tmp 101) (.region [⟨some 103, .faddr 4 (.tmp 18), none⟩, ⟨some 104, .load 1 false (.tmp 103), none⟩, ⟨some 105, .move (.tmp 13), none⟩, ⟨some 106, .lit 1 [.nilslice] false 2 [(0, (.tmp 104)), (1, (.tmp 105))], none⟩, ⟨some 107, .call .shared 120 [(.tmp 106)], none⟩, ⟨some 13, .move (.tmp 107), none⟩]) .skip)))))))))))))))) (.seq (.region [⟨some 108, .faddr 0 (.tmp 14), none⟩, ⟨none, .store 1 (.tmp 108) (.const (.int .u8 1)), none⟩]) (.seq (.seq (.region [⟨some 109, .move (.tmp 13), none⟩, ⟨some 110, .lenS (.tmp 109), none⟩, ⟨some 111, .move (.const (.int .i64 0)), none⟩]) (.block 5 (.loop [6, 14, 109, 110, 111] (.seq (.region [⟨some 112, .iop .lss (.tmp 111) (.tmp 110), none⟩]) (.seq (.cond (.tmp 112) .skip (.exit 5)) (.seq (.block 6 (.seq (.region [⟨some 113, .iaddr 1 (.tmp 109) (.tmp 111), none⟩, ⟨some 114, .load 1 false (.tmp 113), none⟩, ⟨some 20, .move (.tmp 114), none⟩]) (.seq (.region [⟨some 115, .faddr 0 (.tmp 14), none⟩, ⟨none, .store 1 (.tmp 115) (.const (.int .u8 3)), none⟩]) (.drawn [⟨some 116, .faddr 2 (.tmp 14), none⟩, ⟨some 117, .load 1 false (.tmp 116), none⟩, ⟨some 118, .move (.tmp 20), none⟩, ⟨some 119, .call .shared 80 [(.tmp 118)], none⟩, ⟨some 120, .lit 1 [.nilslice] false 1 [(0, (.tmp 119))], none⟩, ⟨some 121, .append 1 24 (.tmp 117) (.tmp 120), none⟩, ⟨some 122, .faddr 2 (.tmp 14), none⟩, ⟨none, .store 1 (.tmp 122) (.tmp 121), none⟩] [(1, 3)])))) (.region [⟨some 123, .iop .add (.tmp 111) (.const (.int .i64 1)), none⟩, ⟨some 111, .move (.tmp 123), none⟩]))))))) (.seq (.region [⟨some 124, .load 4 true (.tmp 14), none⟩, ⟨none, .store 4 (.tmp 6) (.tmp 124), none⟩]) .ret)))))))))), [.cell 6 4 true]⟩

/-- (*purlin/purlinmem.Book).TakeCells -/
def a69 : AFunc := ⟨14, (.region [⟨some 4, .move (.tmp 0), none⟩, ⟨some 5, .move (.tmp 0), none⟩, ⟨some 6, .nilCheck (.tmp 5), none⟩, ⟨some 7, .faddr 3 (.tmp 6), none⟩, ⟨some 8, .load 1 false (.tmp 7), none⟩, ⟨some 9, .move (.tmp 1), none⟩, ⟨some 10, .lit 1 [.nilslice] false 1 [(0, (.tmp 9))], none⟩, ⟨some 11, .append 1 24 (.tmp 8) (.tmp 10), none⟩, ⟨some 12, .nilCheck (.tmp 4), none⟩, ⟨some 13, .faddr 3 (.tmp 12), none⟩, ⟨none, .store 1 (.tmp 13) (.tmp 11), none⟩]), []⟩

/-- (*purlin/purlinmem.Book).aloneBytes -/
def a70 : AFunc := ⟨131, (.seq (.region [⟨some 2, .move (.const (.bool false)), none⟩]) (.seq (.seq (.region [⟨some 3, .move (.const (.int .i64 0)), none⟩]) (.block 0 (.loop [0, 3] (.seq (.seq (.region [⟨some 12, .move (.tmp 3), none⟩, ⟨some 13, .move (.tmp 0), none⟩, ⟨some 14, .nilCheck (.tmp 13), none⟩, ⟨some 15, .faddr 0 (.tmp 14), none⟩, ⟨some 16, .load 1 false (.tmp 15), none⟩, ⟨some 17, .lenS (.tmp 16), none⟩, ⟨some 18, .iop .lss (.tmp 12) (.tmp 17), none⟩]) (.cond (.tmp 18) .skip (.exit 0))) (.seq (.block 1 (.seq (.region [⟨some 4, .move (.const (.int .i64 0)), none⟩]) (.block 2 (.loop [0, 3, 4] (.seq (.seq (.region [⟨some 21, .move (.tmp 4), none⟩, ⟨some 22, .move (.tmp 0), none⟩, ⟨some 23, .nilCheck (.tmp 22), none⟩, ⟨some 24, .faddr 0 (.tmp 23), none⟩, ⟨some 25, .load 1 false (.tmp 24), none⟩, ⟨some 26, .move (.tmp 3), none⟩, ⟨some 27, .iaddr 1 (.tmp 25) (.tmp 26), none⟩, ⟨some 28, .load 1 false (.tmp 27), none⟩, ⟨some 29, .lenS (.tmp 28), none⟩, ⟨some 30, .iop .lss (.tmp 21) (.tmp 29), none⟩]) (.cond (.tmp 30) .skip (.exit 2))) (.seq (.block 3 (.region [⟨some 33, .move (.tmp 0), none⟩, ⟨some 34, .nilCheck (.tmp 33), none⟩, ⟨some 35, .faddr 0 (.tmp 34), none⟩, ⟨some 36, .load 1 false (.tmp 35), none⟩, ⟨some 37, .move (.tmp 3), none⟩, ⟨some 38, .iaddr 1 (.tmp 36) (.tmp 37), none⟩, ⟨some 39, .load 1 false (.tmp 38), none⟩, ⟨some 40, .move (.tmp 4), none⟩, ⟨some 41, .move (.tmp 3), none⟩, ⟨some 42, .iop .rem (.tmp 41) (.const (.int .i64 200)), none⟩, ⟨some 43, .iop .add (.const (.int .i64 48)) (.tmp 42), none⟩, ⟨some 44, .convI .u8 (.tmp 43), none⟩, ⟨some 45, .iaddr 1 (.tmp 39) (.tmp 40), none⟩, ⟨none, .store 1 (.tmp 45) (.tmp 44), none⟩])) (.region [⟨some 31, .move (.tmp 4), none⟩, ⟨some 32, .iop .add (.tmp 31) (.const (.int .i64 1)), none⟩, ⟨some 4, .move (.tmp 32), none⟩]))))))) (.region [⟨some 19, .move (.tmp 3), none⟩, ⟨some 20, .iop .add (.tmp 19) (.const (.int .i64 1)), none⟩, ⟨some 3, .move (.tmp 20), none⟩])))))) (.seq (.region [⟨some 5, .move (.const .nilslice), none⟩]) (.seq (.seq (.region [⟨some 6, .move (.const (.int .i64 0)), none⟩]) (.block 4 (.loop [0, 5, 6] (.seq (.seq (.region [⟨some 46, .move (.tmp 6), none⟩, ⟨some 47, .move (.tmp 0), none⟩, ⟨some 48, .nilCheck (.tmp 47), none⟩, ⟨some 49, .faddr 0 (.tmp 48), none⟩, ⟨some 50, .load 1 false (.tmp 49), none⟩, ⟨some 51, .lenS (.tmp 50), none⟩, ⟨some 52, .iop .lss (.tmp 46) (.tmp 51), none⟩]) (.cond (.tmp 52) .skip (.exit 4))) (.seq (.block 5 (.seq (.region [⟨some 55, .move (.tmp 0), none⟩, ⟨some 56, .nilCheck (.tmp 55), none⟩, ⟨some 57, .faddr 0 (.tmp 56), none⟩, ⟨some 58, .load 1 false (.tmp 57), none⟩, ⟨some 59, .move (.tmp 6), none⟩, ⟨some 60, .iaddr 1 (.tmp 58) (.tmp 59), none⟩, ⟨some 61, .load 1 false (.tmp 60), none⟩, ⟨some 7, .move (.tmp 61), none⟩]) (.seq (.seq (.region [⟨some 8, .move (.const (.int .i64 0)), none⟩]) (.block 6 (.loop [0, 5, 6, 7, 8] (.seq (.seq (.region [⟨some 62, .move (.tmp 8), none⟩, ⟨some 63, .iop .lss (.tmp 62) (.const (.int .i64 20)), none⟩]) (.cond (.tmp 63) .skip (.exit 6))) (.seq (.block 7 (.region [⟨some 66, .move (.tmp 7), none⟩, ⟨some 67, .move (.tmp 6), none⟩, ⟨some 68, .iop .rem (.tmp 67) (.const (.int .i64 200)), none⟩, ⟨some 69, .iop .add (.const (.int .i64 48)) (.tmp 68), none⟩, ⟨some 70, .convI .u8 (.tmp 69), none⟩, ⟨some 71, .lit 1 [(.int .u8 0)] false 1 [(0, (.tmp 70))], none⟩, ⟨some 72, .append 1 1 (.tmp 66) (.tmp 71), none⟩, ⟨some 7, .move (.tmp 72), none⟩])) (.region [⟨some 64, .move (.tmp 8), none⟩, ⟨some 65, .iop .add (.tmp 64) (.const (.int .i64 1)), none⟩, ⟨some 8, .move (.tmp 65), none⟩])))))) (.region [⟨some 73, .move (.tmp 5), none⟩, ⟨some 74, .move (.tmp 7), none⟩, ⟨some 75, .lit 1 [.nilslice] false 1 [(0, (.tmp 74))], none⟩, ⟨some 76, .append 1 24 (.tmp 73) (.tmp 75), none⟩, ⟨some 5, .move (.tmp 76), none⟩])))) (.region [⟨some 53, .move (.tmp 6), none⟩, ⟨some 54, .iop .add (.tmp 53) (.const (.int .i64 1)), none⟩, ⟨some 6, .move (.tmp 54), none⟩])))))) (.seq (.seq (.region [⟨some 9, .move (.const (.int .i64 0)), none⟩]) (.block 8 (.loop [0, 5, 9] (.seq (.seq (.region [⟨some 77, .move (.tmp 9), none⟩, ⟨some 78, .move (.tmp 5), none⟩, ⟨some 79, .lenS (.tmp 78), none⟩, ⟨some 80, .iop .lss (.tmp 77) (.tmp 79), none⟩]) (.cond (.tmp 80) .skip (.exit 8))) (.seq (.block 9 (.seq (.seq (.region [⟨some 10, .move (.const (.int .i64 0)), none⟩]) (.block 10 (.loop [0, 5, 9, 10] (.seq (.seq (.region [⟨some 83, .move (.tmp 10), none⟩, ⟨some 84, .move (.tmp 5), none⟩, ⟨some 85, .move (.tmp 9), none⟩, ⟨some 86, .iaddr 1 (.tmp 84) (.tmp 85), none⟩, ⟨some 87, .load 1 false (.tmp 86), none⟩, ⟨some 88, .lenS (.tmp 87), none⟩, ⟨some 89, .iop .lss (.tmp 83) (.tmp 88), none⟩]) (.cond (.tmp 89) .skip (.exit 10))) (.seq (.block 11 (.seq (.region [⟨some 92, .move (.tmp 5), none⟩, ⟨some 93, .move (.tmp 9), none⟩, ⟨some 94, .iaddr 1 (.tmp 92) (.tmp 93), none⟩, ⟨some 95, .load 1 false (.tmp 94), none⟩, ⟨some 96, .move (.tmp 10), none⟩, ⟨some 97, .iaddr 1 (.tmp 95) (.tmp 96), none⟩, ⟨some 98, .load 1 false (.tmp 97), none⟩, ⟨some 99, .move (.tmp 9), none⟩, ⟨some 100, .iop .rem (.tmp 99) (.const (.int .i64 200)), none⟩, ⟨some 101, .iop .add (.const (.int .i64 48)) (.tmp 100), none⟩, ⟨some 102, .convI .u8 (.tmp 101), none⟩, ⟨some 103, .iop .neq (.tmp 98) (.tmp 102), none⟩]) (.cond (.tmp 103) (.seq (.region [⟨some 2, .move (.const (.bool false)), none⟩]) .ret) .skip))) (.region [⟨some 90, .move (.tmp 10), none⟩, ⟨some 91, .iop .add (.tmp 90) (.const (.int .i64 1)), none⟩, ⟨some 10, .move (.tmp 91), none⟩])))))) (.seq (.region [⟨some 11, .move (.const (.int .i64 0)), none⟩]) (.block 12 (.loop [0, 5, 9, 11] (.seq (.seq (.region [⟨some 104, .move (.tmp 11), none⟩, ⟨some 105, .move (.tmp 0), none⟩, ⟨some 106, .nilCheck (.tmp 105), none⟩, ⟨some 107, .faddr 0 (.tmp 106), none⟩, ⟨some 108, .load 1 false (.tmp 107), none⟩, ⟨some 109, .move (.tmp 9), none⟩, ⟨some 110, .iaddr 1 (.tmp 108) (.tmp 109), none⟩, ⟨some 111, .load 1 false (.tmp 110), none⟩, ⟨some 112, .lenS (.tmp 111), none⟩, ⟨some 113, .iop .lss (.tmp 104) (.tmp 112), none⟩]) (.cond (.tmp 113) .skip (.exit 12))) (.seq (.block 13 (.seq (.region [⟨some 116, .move (.tmp 0), none⟩, ⟨some 117, .nilCheck (.tmp 116), none⟩, ⟨some 118, .faddr 0 (.tmp 117), none⟩, ⟨some 119, .load 1 false (.tmp 118), none⟩, ⟨some 120, .move (.tmp 9), none⟩, ⟨some 121, .iaddr 1 (.tmp 119) (.tmp 120), none⟩, ⟨some 122, .load 1 false (.tmp 121), none⟩, ⟨some 123, .move (.tmp 11), none⟩, ⟨some 124, .iaddr 1 (.tmp 122) (.tmp 123), none⟩, ⟨some 125, .load 1 false (.tmp 124), none⟩, ⟨some 126, .move (.tmp 9), none⟩, ⟨some 127, .iop .rem (.tmp 126) (.const (.int .i64 200)), none⟩, ⟨some 128, .iop .add (.const (.int .i64 48)) (.tmp 127), none⟩, ⟨some 129, .convI .u8 (.tmp 128), none⟩, ⟨some 130, .iop .neq (.tmp 125) (.tmp 129), none⟩]) (.cond (.tmp 130) (.seq (.region [⟨some 2, .move (.const (.bool false)), none⟩]) .ret) .skip))) (.region [⟨some 114, .move (.tmp 11), none⟩, ⟨some 115, .iop .add (.tmp 114) (.const (.int .i64 1)), none⟩, ⟨some 11, .move (.tmp 115), none⟩])))))))) (.region [⟨some 81, .move (.tmp 9), none⟩, ⟨some 82, .iop .add (.tmp 81) (.const (.int .i64 1)), none⟩, ⟨some 9, .move (.tmp 82), none⟩])))))) (.seq (.region [⟨some 2, .move (.const (.bool true)), none⟩]) .ret)))))), [.tmp 2]⟩

/-- (*purlin/purlinmem.Book).aloneTexts -/
def a71 : AFunc := ⟨123, (.seq (.region [⟨some 2, .move (.const (.bool false)), none⟩]) (.seq (.seq (.region [⟨some 3, .move (.const (.int .i64 0)), none⟩]) (.block 0 (.loop [0, 3] (.seq (.seq (.region [⟨some 12, .move (.tmp 3), none⟩, ⟨some 13, .move (.tmp 0), none⟩, ⟨some 14, .nilCheck (.tmp 13), none⟩, ⟨some 15, .faddr 1 (.tmp 14), none⟩, ⟨some 16, .load 1 false (.tmp 15), none⟩, ⟨some 17, .lenS (.tmp 16), none⟩, ⟨some 18, .iop .lss (.tmp 12) (.tmp 17), none⟩]) (.cond (.tmp 18) .skip (.exit 0))) (.seq (.block 1 (.seq (.region [⟨some 4, .move (.const (.int .i64 0)), none⟩]) (.block 2 (.loop [0, 3, 4] (.seq (.seq (.region [⟨some 21, .move (.tmp 4), none⟩, ⟨some 22, .move (.tmp 0), none⟩, ⟨some 23, .nilCheck (.tmp 22), none⟩, ⟨some 24, .faddr 1 (.tmp 23), none⟩, ⟨some 25, .load 1 false (.tmp 24), none⟩, ⟨some 26, .move (.tmp 3), none⟩, ⟨some 27, .iaddr 1 (.tmp 25) (.tmp 26), none⟩, ⟨some 28, .load 1 false (.tmp 27), none⟩, ⟨some 29, .lenS (.tmp 28), none⟩, ⟨some 30, .iop .lss (.tmp 21) (.tmp 29), none⟩]) (.cond (.tmp 30) .skip (.exit 2))) (.seq (.block 3 (.drawn [⟨some 33, .move (.tmp 0), none⟩, ⟨some 34, .nilCheck (.tmp 33), none⟩, ⟨some 35, .faddr 1 (.tmp 34), none⟩, ⟨some 36, .load 1 false (.tmp 35), none⟩, ⟨some 37, .move (.tmp 3), none⟩, ⟨some 38, .iaddr 1 (.tmp 36) (.tmp 37), none⟩, ⟨some 39, .load 1 false (.tmp 38), none⟩, ⟨some 40, .move (.tmp 4), none⟩, ⟨some 41, .move (.tmp 3), none⟩, ⟨some 42, .call .shared 121 [(.tmp 41)], none⟩, ⟨some 43, .iaddr 1 (.tmp 39) (.tmp 40), none⟩, ⟨none, .store 1 (.tmp 43) (.tmp 42), none⟩] [(3, 9), (6, 9)])) (.region [⟨some 31, .move (.tmp 4), none⟩, ⟨some 32, .iop .add (.tmp 31) (.const (.int .i64 1)), none⟩, ⟨some 4, .move (.tmp 32), none⟩]))))))) (.region [⟨some 19, .move (.tmp 3), none⟩, ⟨some 20, .iop .add (.tmp 19) (.const (.int .i64 1)), none⟩, ⟨some 3, .move (.tmp 20), none⟩])))))) (.seq (.region [⟨some 5, .move (.const .nilslice), none⟩]) (.seq (.seq (.region [⟨some 6, .move (.const (.int .i64 0)), none⟩]) (.block 4 (.loop [0, 5, 6] (.seq (.seq (.region [⟨some 44, .move (.tmp 6), none⟩, ⟨some 45, .move (.tmp 0), none⟩, ⟨some 46, .nilCheck (.tmp 45), none⟩, ⟨some 47, .faddr 1 (.tmp 46), none⟩, ⟨some 48, .load 1 false (.tmp 47), none⟩, ⟨some 49, .lenS (.tmp 48), none⟩, ⟨some 50, .iop .lss (.tmp 44) (.tmp 49), none⟩]) (.cond (.tmp 50) .skip (.exit 4))) (.seq (.block 5 (.seq (.region [⟨some 53, .move (.tmp 0), none⟩, ⟨some 54, .nilCheck (.tmp 53), none⟩, ⟨some 55, .faddr 1 (.tmp 54), none⟩, ⟨some 56, .load 1 false (.tmp 55), none⟩, ⟨some 57, .move (.tmp 6), none⟩, ⟨some 58, .iaddr 1 (.tmp 56) (.tmp 57), none⟩, ⟨some 59, .load 1 false (.tmp 58), none⟩, ⟨some 7, .move (.tmp 59), none⟩]) (.seq (.seq (.region [⟨some 8, .move (.const (.int .i64 0)), none⟩]) (.block 6 (.loop [0, 5, 6, 7, 8] (.seq (.seq (.region [⟨some 60, .move (.tmp 8), none⟩, ⟨some 61, .iop .lss (.tmp 60) (.const (.int .i64 20)), none⟩]) (.cond (.tmp 61) .skip (.exit 6))) (.seq (.block 7 (.region [⟨some 64, .move (.tmp 7), none⟩, ⟨some 65, .move (.tmp 6), none⟩, ⟨some 66, .call .shared 121 [(.tmp 65)], none⟩, ⟨some 67, .lit 1 [(.str [])] false 1 [(0, (.tmp 66))], none⟩, ⟨some 68, .append 1 16 (.tmp 64) (.tmp 67), none⟩, ⟨some 7, .move (.tmp 68), none⟩])) (.region [⟨some 62, .move (.tmp 8), none⟩, ⟨some 63, .iop .add (.tmp 62) (.const (.int .i64 1)), none⟩, ⟨some 8, .move (.tmp 63), none⟩])))))) (.region [⟨some 69, .move (.tmp 5), none⟩, ⟨some 70, .move (.tmp 7), none⟩, ⟨some 71, .lit 1 [.nilslice] false 1 [(0, (.tmp 70))], none⟩, ⟨some 72, .append 1 24 (.tmp 69) (.tmp 71), none⟩, ⟨some 5, .move (.tmp 72), none⟩])))) (.region [⟨some 51, .move (.tmp 6), none⟩, ⟨some 52, .iop .add (.tmp 51) (.const (.int .i64 1)), none⟩, ⟨some 6, .move (.tmp 52), none⟩])))))) (.seq (.seq (.region [⟨some 9, .move (.const (.int .i64 0)), none⟩]) (.block 8 (.loop [0, 5, 9] (.seq (.seq (.region [⟨some 73, .move (.tmp 9), none⟩, ⟨some 74, .move (.tmp 5), none⟩, ⟨some 75, .lenS (.tmp 74), none⟩, ⟨some 76, .iop .lss (.tmp 73) (.tmp 75), none⟩]) (.cond (.tmp 76) .skip (.exit 8))) (.seq (.block 9 (.seq (.seq (.region [⟨some 10, .move (.const (.int .i64 0)), none⟩]) (.block 10 (.loop [0, 5, 9, 10] (.seq (.seq (.region [⟨some 79, .move (.tmp 10), none⟩, ⟨some 80, .move (.tmp 5), none⟩, ⟨some 81, .move (.tmp 9), none⟩, ⟨some 82, .iaddr 1 (.tmp 80) (.tmp 81), none⟩, ⟨some 83, .load 1 false (.tmp 82), none⟩, ⟨some 84, .lenS (.tmp 83), none⟩, ⟨some 85, .iop .lss (.tmp 79) (.tmp 84), none⟩]) (.cond (.tmp 85) .skip (.exit 10))) (.seq (.block 11 (.seq (.drawn [⟨some 88, .move (.tmp 5), none⟩, ⟨some 89, .move (.tmp 9), none⟩, ⟨some 90, .iaddr 1 (.tmp 88) (.tmp 89), none⟩, ⟨some 91, .load 1 false (.tmp 90), none⟩, ⟨some 92, .move (.tmp 10), none⟩, ⟨some 93, .iaddr 1 (.tmp 91) (.tmp 92), none⟩, ⟨some 94, .load 1 false (.tmp 93), none⟩, ⟨some 95, .move (.tmp 9), none⟩, ⟨some 96, .call .shared 121 [(.tmp 95)], none⟩, ⟨some 97, .sop .neq (.tmp 94) (.tmp 96), none⟩] [(3, 8), (6, 8)]) (.cond (.tmp 97) (.seq (.region [⟨some 2, .move (.const (.bool false)), none⟩]) .ret) .skip))) (.region [⟨some 86, .move (.tmp 10), none⟩, ⟨some 87, .iop .add (.tmp 86) (.const (.int .i64 1)), none⟩, ⟨some 10, .move (.tmp 87), none⟩])))))) (.seq (.region [⟨some 11, .move (.const (.int .i64 0)), none⟩]) (.block 12 (.loop [0, 5, 9, 11] (.seq (.seq (.region [⟨some 98, .move (.tmp 11), none⟩, ⟨some 99, .move (.tmp 0), none⟩, ⟨some 100, .nilCheck (.tmp 99), none⟩, ⟨some 101, .faddr 1 (.tmp 100), none⟩, ⟨some 102, .load 1 false (.tmp 101), none⟩, ⟨some 103, .move (.tmp 9), none⟩, ⟨some 104, .iaddr 1 (.tmp 102) (.tmp 103), none⟩, ⟨some 105, .load 1 false (.tmp 104), none⟩, ⟨some 106, .lenS (.tmp 105), none⟩, ⟨some 107, .iop .lss (.tmp 98) (.tmp 106), none⟩]) (.cond (.tmp 107) .skip (.exit 12))) (.seq (.block 13 (.seq (.drawn [⟨some 110, .move (.tmp 0), none⟩, ⟨some 111, .nilCheck (.tmp 110), none⟩, ⟨some 112, .faddr 1 (.tmp 111), none⟩, ⟨some 113, .load 1 false (.tmp 112), none⟩, ⟨some 114, .move (.tmp 9), none⟩, ⟨some 115, .iaddr 1 (.tmp 113) (.tmp 114), none⟩, ⟨some 116, .load 1 false (.tmp 115), none⟩, ⟨some 117, .move (.tmp 11), none⟩, ⟨some 118, .iaddr 1 (.tmp 116) (.tmp 117), none⟩, ⟨some 119, .load 1 false (.tmp 118), none⟩, ⟨some 120, .move (.tmp 9), none⟩, ⟨some 121, .call .shared 121 [(.tmp 120)], none⟩, ⟨some 122, .sop .neq (.tmp 119) (.tmp 121), none⟩] [(3, 11), (6, 11), (9, 11)]) (.cond (.tmp 122) (.seq (.region [⟨some 2, .move (.const (.bool false)), none⟩]) .ret) .skip))) (.region [⟨some 108, .move (.tmp 11), none⟩, ⟨some 109, .iop .add (.tmp 108) (.const (.int .i64 1)), none⟩, ⟨some 11, .move (.tmp 109), none⟩])))))))) (.region [⟨some 77, .move (.tmp 9), none⟩, ⟨some 78, .iop .add (.tmp 77) (.const (.int .i64 1)), none⟩, ⟨some 9, .move (.tmp 78), none⟩])))))) (.seq (.region [⟨some 2, .move (.const (.bool true)), none⟩]) .ret)))))), [.tmp 2]⟩

/-- (*purlin/purlinmem.Book).aloneInts -/
def a72 : AFunc := ⟨123, (.seq (.region [⟨some 2, .move (.const (.bool false)), none⟩]) (.seq (.seq (.region [⟨some 3, .move (.const (.int .i64 0)), none⟩]) (.block 0 (.loop [0, 3] (.seq (.seq (.region [⟨some 12, .move (.tmp 3), none⟩, ⟨some 13, .move (.tmp 0), none⟩, ⟨some 14, .nilCheck (.tmp 13), none⟩, ⟨some 15, .faddr 2 (.tmp 14), none⟩, ⟨some 16, .load 1 false (.tmp 15), none⟩, ⟨some 17, .lenS (.tmp 16), none⟩, ⟨some 18, .iop .lss (.tmp 12) (.tmp 17), none⟩]) (.cond (.tmp 18) .skip (.exit 0))) (.seq (.block 1 (.seq (.region [⟨some 4, .move (.const (.int .i64 0)), none⟩]) (.block 2 (.loop [0, 3, 4] (.seq (.seq (.region [⟨some 21, .move (.tmp 4), none⟩, ⟨some 22, .move (.tmp 0), none⟩, ⟨some 23, .nilCheck (.tmp 22), none⟩, ⟨some 24, .faddr 2 (.tmp 23), none⟩, ⟨some 25, .load 1 false (.tmp 24), none⟩, ⟨some 26, .move (.tmp 3), none⟩, ⟨some 27, .iaddr 1 (.tmp 25) (.tmp 26), none⟩, ⟨some 28, .load 1 false (.tmp 27), none⟩, ⟨some 29, .lenS (.tmp 28), none⟩, ⟨some 30, .iop .lss (.tmp 21) (.tmp 29), none⟩]) (.cond (.tmp 30) .skip (.exit 2))) (.seq (.block 3 (.region [⟨some 33, .move (.tmp 0), none⟩, ⟨some 34, .nilCheck (.tmp 33), none⟩, ⟨some 35, .faddr 2 (.tmp 34), none⟩, ⟨some 36, .load 1 false (.tmp 35), none⟩, ⟨some 37, .move (.tmp 3), none⟩, ⟨some 38, .iaddr 1 (.tmp 36) (.tmp 37), none⟩, ⟨some 39, .load 1 false (.tmp 38), none⟩, ⟨some 40, .move (.tmp 4), none⟩, ⟨some 41, .move (.tmp 3), none⟩, ⟨some 42, .iop .sub (.const (.int .i64 (-9000))) (.tmp 41), none⟩, ⟨some 43, .iaddr 1 (.tmp 39) (.tmp 40), none⟩, ⟨none, .store 1 (.tmp 43) (.tmp 42), none⟩])) (.region [⟨some 31, .move (.tmp 4), none⟩, ⟨some 32, .iop .add (.tmp 31) (.const (.int .i64 1)), none⟩, ⟨some 4, .move (.tmp 32), none⟩]))))))) (.region [⟨some 19, .move (.tmp 3), none⟩, ⟨some 20, .iop .add (.tmp 19) (.const (.int .i64 1)), none⟩, ⟨some 3, .move (.tmp 20), none⟩])))))) (.seq (.region [⟨some 5, .move (.const .nilslice), none⟩]) (.seq (.seq (.region [⟨some 6, .move (.const (.int .i64 0)), none⟩]) (.block 4 (.loop [0, 5, 6] (.seq (.seq (.region [⟨some 44, .move (.tmp 6), none⟩, ⟨some 45, .move (.tmp 0), none⟩, ⟨some 46, .nilCheck (.tmp 45), none⟩, ⟨some 47, .faddr 2 (.tmp 46), none⟩, ⟨some 48, .load 1 false (.tmp 47), none⟩, ⟨some 49, .lenS (.tmp 48), none⟩, ⟨some 50, .iop .lss (.tmp 44) (.tmp 49), none⟩]) (.cond (.tmp 50) .skip (.exit 4))) (.seq (.block 5 (.seq (.region [⟨some 53, .move (.tmp 0), none⟩, ⟨some 54, .nilCheck (.tmp 53), none⟩, ⟨some 55, .faddr 2 (.tmp 54), none⟩, ⟨some 56, .load 1 false (.tmp 55), none⟩, ⟨some 57, .move (.tmp 6), none⟩, ⟨some 58, .iaddr 1 (.tmp 56) (.tmp 57), none⟩, ⟨some 59, .load 1 false (.tmp 58), none⟩, ⟨some 7, .move (.tmp 59), none⟩]) (.seq (.seq (.region [⟨some 8, .move (.const (.int .i64 0)), none⟩]) (.block 6 (.loop [0, 5, 6, 7, 8] (.seq (.seq (.region [⟨some 60, .move (.tmp 8), none⟩, ⟨some 61, .iop .lss (.tmp 60) (.const (.int .i64 20)), none⟩]) (.cond (.tmp 61) .skip (.exit 6))) (.seq (.block 7 (.region [⟨some 64, .move (.tmp 7), none⟩, ⟨some 65, .move (.tmp 6), none⟩, ⟨some 66, .iop .sub (.const (.int .i64 (-9000))) (.tmp 65), none⟩, ⟨some 67, .lit 1 [(.int .i64 0)] false 1 [(0, (.tmp 66))], none⟩, ⟨some 68, .append 1 8 (.tmp 64) (.tmp 67), none⟩, ⟨some 7, .move (.tmp 68), none⟩])) (.region [⟨some 62, .move (.tmp 8), none⟩, ⟨some 63, .iop .add (.tmp 62) (.const (.int .i64 1)), none⟩, ⟨some 8, .move (.tmp 63), none⟩])))))) (.region [⟨some 69, .move (.tmp 5), none⟩, ⟨some 70, .move (.tmp 7), none⟩, ⟨some 71, .lit 1 [.nilslice] false 1 [(0, (.tmp 70))], none⟩, ⟨some 72, .append 1 24 (.tmp 69) (.tmp 71), none⟩, ⟨some 5, .move (.tmp 72), none⟩])))) (.region [⟨some 51, .move (.tmp 6), none⟩, ⟨some 52, .iop .add (.tmp 51) (.const (.int .i64 1)), none⟩, ⟨some 6, .move (.tmp 52), none⟩])))))) (.seq (.seq (.region [⟨some 9, .move (.const (.int .i64 0)), none⟩]) (.block 8 (.loop [0, 5, 9] (.seq (.seq (.region [⟨some 73, .move (.tmp 9), none⟩, ⟨some 74, .move (.tmp 5), none⟩, ⟨some 75, .lenS (.tmp 74), none⟩, ⟨some 76, .iop .lss (.tmp 73) (.tmp 75), none⟩]) (.cond (.tmp 76) .skip (.exit 8))) (.seq (.block 9 (.seq (.seq (.region [⟨some 10, .move (.const (.int .i64 0)), none⟩]) (.block 10 (.loop [0, 5, 9, 10] (.seq (.seq (.region [⟨some 79, .move (.tmp 10), none⟩, ⟨some 80, .move (.tmp 5), none⟩, ⟨some 81, .move (.tmp 9), none⟩, ⟨some 82, .iaddr 1 (.tmp 80) (.tmp 81), none⟩, ⟨some 83, .load 1 false (.tmp 82), none⟩, ⟨some 84, .lenS (.tmp 83), none⟩, ⟨some 85, .iop .lss (.tmp 79) (.tmp 84), none⟩]) (.cond (.tmp 85) .skip (.exit 10))) (.seq (.block 11 (.seq (.region [⟨some 88, .move (.tmp 5), none⟩, ⟨some 89, .move (.tmp 9), none⟩, ⟨some 90, .iaddr 1 (.tmp 88) (.tmp 89), none⟩, ⟨some 91, .load 1 false (.tmp 90), none⟩, ⟨some 92, .move (.tmp 10), none⟩, ⟨some 93, .iaddr 1 (.tmp 91) (.tmp 92), none⟩, ⟨some 94, .load 1 false (.tmp 93), none⟩, ⟨some 95, .move (.tmp 9), none⟩, ⟨some 96, .iop .sub (.const (.int .i64 (-9000))) (.tmp 95), none⟩, ⟨some 97, .iop .neq (.tmp 94) (.tmp 96), none⟩]) (.cond (.tmp 97) (.seq (.region [⟨some 2, .move (.const (.bool false)), none⟩]) .ret) .skip))) (.region [⟨some 86, .move (.tmp 10), none⟩, ⟨some 87, .iop .add (.tmp 86) (.const (.int .i64 1)), none⟩, ⟨some 10, .move (.tmp 87), none⟩])))))) (.seq (.region [⟨some 11, .move (.const (.int .i64 0)), none⟩]) (.block 12 (.loop [0, 5, 9, 11] (.seq (.seq (.region [⟨some 98, .move (.tmp 11), none⟩, ⟨some 99, .move (.tmp 0), none⟩, ⟨some 100, .nilCheck (.tmp 99), none⟩, ⟨some 101, .faddr 2 (.tmp 100), none⟩, ⟨some 102, .load 1 false (.tmp 101), none⟩, ⟨some 103, .move (.tmp 9), none⟩, ⟨some 104, .iaddr 1 (.tmp 102) (.tmp 103), none⟩, ⟨some 105, .load 1 false (.tmp 104), none⟩, ⟨some 106, .lenS (.tmp 105), none⟩, ⟨some 107, .iop .lss (.tmp 98) (.tmp 106), none⟩]) (.cond (.tmp 107) .skip (.exit 12))) (.seq (.block 13 (.seq (.region [⟨some 110, .move (.tmp 0), none⟩, ⟨some 111, .nilCheck (.tmp 110), none⟩, ⟨some 112, .faddr 2 (.tmp 111), none⟩, ⟨some 113, .load 1 false (.tmp 112), none⟩, ⟨some 114, .move (.tmp 9), none⟩, ⟨some 115, .iaddr 1 (.tmp 113) (.tmp 114), none⟩, ⟨some 116, .load 1 false (.tmp 115), none⟩, ⟨some 117, .move (.tmp 11), none⟩, ⟨some 118, .iaddr 1 (.tmp 116) (.tmp 117), none⟩, ⟨some 119, .load 1 false (.tmp 118), none⟩, ⟨some 120, .move (.tmp 9), none⟩, ⟨some 121, .iop .sub (.const (.int .i64 (-9000))) (.tmp 120), none⟩, ⟨some 122, .iop .neq (.tmp 119) (.tmp 121), none⟩]) (.cond (.tmp 122) (.seq (.region [⟨some 2, .move (.const (.bool false)), none⟩]) .ret) .skip))) (.region [⟨some 108, .move (.tmp 11), none⟩, ⟨some 109, .iop .add (.tmp 108) (.const (.int .i64 1)), none⟩, ⟨some 11, .move (.tmp 109), none⟩])))))))) (.region [⟨some 77, .move (.tmp 9), none⟩, ⟨some 78, .iop .add (.tmp 77) (.const (.int .i64 1)), none⟩, ⟨some 9, .move (.tmp 78), none⟩])))))) (.seq (.region [⟨some 2, .move (.const (.bool true)), none⟩]) .ret)))))), [.tmp 2]⟩

/-- (*purlin/purlinmem.Book).aloneCells -/
def a73 : AFunc := ⟨127, (.seq (.region [⟨some 2, .move (.const (.bool false)), none⟩]) (.seq (.seq (.region [⟨some 3, .move (.const (.int .i64 0)), none⟩]) (.block 0 (.loop [0, 3] (.seq (.seq (.region [⟨some 12, .move (.tmp 3), none⟩, ⟨some 13, .move (.tmp 0), none⟩, ⟨some 14, .nilCheck (.tmp 13), none⟩, ⟨some 15, .faddr 3 (.tmp 14), none⟩, ⟨some 16, .load 1 false (.tmp 15), none⟩, ⟨some 17, .lenS (.tmp 16), none⟩, ⟨some 18, .iop .lss (.tmp 12) (.tmp 17), none⟩]) (.cond (.tmp 18) .skip (.exit 0))) (.seq (.block 1 (.seq (.region [⟨some 4, .move (.const (.int .i64 0)), none⟩]) (.block 2 (.loop [0, 3, 4] (.seq (.seq (.region [⟨some 21, .move (.tmp 4), none⟩, ⟨some 22, .move (.tmp 0), none⟩, ⟨some 23, .nilCheck (.tmp 22), none⟩, ⟨some 24, .faddr 3 (.tmp 23), none⟩, ⟨some 25, .load 1 false (.tmp 24), none⟩, ⟨some 26, .move (.tmp 3), none⟩, ⟨some 27, .iaddr 1 (.tmp 25) (.tmp 26), none⟩, ⟨some 28, .load 1 false (.tmp 27), none⟩, ⟨some 29, .lenS (.tmp 28), none⟩, ⟨some 30, .iop .lss (.tmp 21) (.tmp 29), none⟩]) (.cond (.tmp 30) .skip (.exit 2))) (.seq (.block 3 (.region [⟨some 33, .move (.tmp 0), none⟩, ⟨some 34, .nilCheck (.tmp 33), none⟩, ⟨some 35, .faddr 3 (.tmp 34), none⟩, ⟨some 36, .load 1 false (.tmp 35), none⟩, ⟨some 37, .move (.tmp 3), none⟩, ⟨some 38, .iaddr 1 (.tmp 36) (.tmp 37), none⟩, ⟨some 39, .load 1 false (.tmp 38), none⟩, ⟨some 40, .move (.tmp 4), none⟩, ⟨some 41, .move (.tmp 3), none⟩, ⟨some 42, .iop .sub (.const (.int .i64 (-9000))) (.tmp 41), none⟩, ⟨some 43, .build [(.int .u8 0), (.str []), (.int .i64 0), (.int .i64 0), (.int .i64 0)] [(2, 1, (.tmp 42))], none⟩, ⟨some 44, .iaddr 5 (.tmp 39) (.tmp 40), none⟩, ⟨none, .store 5 (.tmp 44) (.tmp 43), none⟩])) (.region [⟨some 31, .move (.tmp 4), none⟩, ⟨some 32, .iop .add (.tmp 31) (.const (.int .i64 1)), none⟩, ⟨some 4, .move (.tmp 32), none⟩]))))))) (.region [⟨some 19, .move (.tmp 3), none⟩, ⟨some 20, .iop .add (.tmp 19) (.const (.int .i64 1)), none⟩, ⟨some 3, .move (.tmp 20), none⟩])))))) (.seq (.region [⟨some 5, .move (.const .nilslice), none⟩]) (.seq (.seq (.region [⟨some 6, .move (.const (.int .i64 0)), none⟩]) (.block 4 (.loop [0, 5, 6] (.seq (.seq (.region [⟨some 45, .move (.tmp 6), none⟩, ⟨some 46, .move (.tmp 0), none⟩, ⟨some 47, .nilCheck (.tmp 46), none⟩, ⟨some 48, .faddr 3 (.tmp 47), none⟩, ⟨some 49, .load 1 false (.tmp 48), none⟩, ⟨some 50, .lenS (.tmp 49), none⟩, ⟨some 51, .iop .lss (.tmp 45) (.tmp 50), none⟩]) (.cond (.tmp 51) .skip (.exit 4))) (.seq (.block 5 (.seq (.region [⟨some 54, .move (.tmp 0), none⟩, ⟨some 55, .nilCheck (.tmp 54), none⟩, ⟨some 56, .faddr 3 (.tmp 55), none⟩, ⟨some 57, .load 1 false (.tmp 56), none⟩, ⟨some 58, .move (.tmp 6), none⟩, ⟨some 59, .iaddr 1 (.tmp 57) (.tmp 58), none⟩, ⟨some 60, .load 1 false (.tmp 59), none⟩, ⟨some 7, .move (.tmp 60), none⟩]) (.seq (.seq (.region [⟨some 8, .move (.const (.int .i64 0)), none⟩]) (.block 6 (.loop [0, 5, 6, 7, 8] (.seq (.seq (.region [⟨some 61, .move (.tmp 8), none⟩, ⟨some 62, .iop .lss (.tmp 61) (.const (.int .i64 20)), none⟩]) (.cond (.tmp 62) .skip (.exit 6))) (.seq (.block 7 (.region [⟨some 65, .move (.tmp 7), none⟩, ⟨some 66, .move (.tmp 6), none⟩, ⟨some 67, .iop .sub (.const (.int .i64 (-9000))) (.tmp 66), none⟩, ⟨some 68, .build [(.int .u8 0), (.str []), (.int .i64 0), (.int .i64 0), (.int .i64 0)] [(2, 1, (.tmp 67))], none⟩, ⟨some 69, .lit 5 [(.int .u8 0), (.str []), (.int .i64 0), (.int .i64 0), (.int .i64 0)] true 1 [(0, (.tmp 68))], none⟩, ⟨some 70, .append 5 48 (.tmp 65) (.tmp 69), none⟩, ⟨some 7, .move (.tmp 70), none⟩])) (.region [⟨some 63, .move (.tmp 8), none⟩, ⟨some 64, .iop .add (.tmp 63) (.const (.int .i64 1)), none⟩, ⟨some 8, .move (.tmp 64), none⟩])))))) (.region [⟨some 71, .move (.tmp 5), none⟩, ⟨some 72, .move (.tmp 7), none⟩, ⟨some 73, .lit 1 [.nilslice] false 1 [(0, (.tmp 72))], none⟩, ⟨some 74, .append 1 24 (.tmp 71) (.tmp 73), none⟩, ⟨some 5, .move (.tmp 74), none⟩])))) (.region [⟨some 52, .move (.tmp 6), none⟩, ⟨some 53, .iop .add (.tmp 52) (.const (.int .i64 1)), none⟩, ⟨some 6, .move (.tmp 53), none⟩])))))) (.seq (.seq (.region [⟨some 9, .move (.const (.int .i64 0)), none⟩]) (.block 8 (.loop [0, 5, 9] (.seq (.seq (.region [⟨some 75, .move (.tmp 9), none⟩, ⟨some 76, .move (.tmp 5), none⟩, ⟨some 77, .lenS (.tmp 76), none⟩, ⟨some 78, .iop .lss (.tmp 75) (.tmp 77), none⟩]) (.cond (.tmp 78) .skip (.exit 8))) (.seq (.block 9 (.seq (.seq (.region [⟨some 10, .move (.const (.int .i64 0)), none⟩]) (.block 10 (.loop [0, 5, 9, 10] (.seq (.seq (.region [⟨some 81, .move (.tmp 10), none⟩, ⟨some 82, .move (.tmp 5), none⟩, ⟨some 83, .move (.tmp 9), none⟩, ⟨some 84, .iaddr 1 (.tmp 82) (.tmp 83), none⟩, ⟨some 85, .load 1 false (.tmp 84), none⟩, ⟨some 86, .lenS (.tmp 85), none⟩, ⟨some 87, .iop .lss (.tmp 81) (.tmp 86), none⟩]) (.cond (.tmp 87) .skip (.exit 10))) (.seq (.block 11 (.seq (.region [⟨some 90, .move (.tmp 5), none⟩, ⟨some 91, .move (.tmp 9), none⟩, ⟨some 92, .iaddr 1 (.tmp 90) (.tmp 91), none⟩, ⟨some 93, .load 1 false (.tmp 92), none⟩, ⟨some 94, .move (.tmp 10), none⟩, ⟨some 95, .iaddr 5 (.tmp 93) (.tmp 94), none⟩, ⟨some 96, .load 5 true (.tmp 95), none⟩, ⟨some 97, .move (.tmp 9), none⟩, ⟨some 98, .iop .sub (.const (.int .i64 (-9000))) (.tmp 97), none⟩, ⟨some 99, .build [(.int .u8 0), (.str []), (.int .i64 0), (.int .i64 0), (.int .i64 0)] [(2, 1, (.tmp 98))], none⟩, ⟨some 100, .eqs true [.i, .s, .i, .i, .i] (.tmp 96) (.tmp 99), none⟩]) (.cond (.tmp 100) (.seq (.region [⟨some 2, .move (.const (.bool false)), none⟩]) .ret) .skip))) (.region [⟨some 88, .move (.tmp 10), none⟩, ⟨some 89, .iop .add (.tmp 88) (.const (.int .i64 1)), none⟩, ⟨some 10, .move (.tmp 89), none⟩])))))) (.seq (.region [⟨some 11, .move (.const (.int .i64 0)), none⟩]) (.block 12 (.loop [0, 5, 9, 11] (.seq (.seq (.region [⟨some 101, .move (.tmp 11), none⟩, ⟨some 102, .move (.tmp 0), none⟩, ⟨some 103, .nilCheck (.tmp 102), none⟩, ⟨some 104, .faddr 3 (.tmp 103), none⟩, ⟨some 105, .load 1 false (.tmp 104), none⟩, ⟨some 106, .move (.tmp 9), none⟩, ⟨some 107, .iaddr 1 (.tmp 105) (.tmp 106), none⟩, ⟨some 108, .load 1 false (.tmp 107), none⟩, ⟨some 109, .lenS (.tmp 108), none⟩, ⟨some 110, .iop .lss (.tmp 101) (.tmp 109), none⟩]) (.cond (.tmp 110) .skip (.exit 12))) (.seq (.block 13 (.seq (.region [⟨some 113, .move (.tmp 0), none⟩, ⟨some 114, .nilCheck (.tmp 113), none⟩, ⟨some 115, .faddr 3 (.tmp 114), none⟩, ⟨some 116, .load 1 false (.tmp 115), none⟩, ⟨some 117, .move (.tmp 9), none⟩, ⟨some 118, .iaddr 1 (.tmp 116) (.tmp 117), none⟩, ⟨some 119, .load 1 false (.tmp 118), none⟩, ⟨some 120, .move (.tmp 11), none⟩, ⟨some 121, .iaddr 5 (.tmp 119) (.tmp 120), none⟩, ⟨some 122, .load 5 true (.tmp 121), none⟩, ⟨some 123, .move (.tmp 9), none⟩, ⟨some 124, .iop .sub (.const (.int .i64 (-9000))) (.tmp 123), none⟩, ⟨some 125, .build [(.int .u8 0), (.str []), (.int .i64 0), (.int .i64 0), (.int .i64 0)] [(2, 1, (.tmp 124))], none⟩, ⟨some 126, .eqs true [.i, .s, .i, .i, .i] (.tmp 122) (.tmp 125), none⟩]) (.cond (.tmp 126) (.seq (.region [⟨some 2, .move (.const (.bool false)), none⟩]) .ret) .skip))) (.region [⟨some 111, .move (.tmp 11), none⟩, ⟨some 112, .iop .add (.tmp 111) (.const (.int .i64 1)), none⟩, ⟨some 11, .move (.tmp 112), none⟩])))))))) (.region [⟨some 79, .move (.tmp 9), none⟩, ⟨some 80, .iop .add (.tmp 79) (.const (.int .i64 1)), none⟩, ⟨some 9, .move (.tmp 80), none⟩])))))) (.seq (.region [⟨some 2, .move (.const (.bool true)), none⟩]) .ret)))))), [.tmp 2]⟩

/-- (*purlin/purlinmem.Book).aloneNames -/
def a74 : AFunc := ⟨127, (.seq (.region [⟨some 2, .move (.const (.bool false)), none⟩]) (.seq (.seq (.region [⟨some 3, .move (.const (.int .i64 0)), none⟩]) (.block 0 (.loop [0, 3] (.seq (.seq (.region [⟨some 12, .move (.tmp 3), none⟩, ⟨some 13, .move (.tmp 0), none⟩, ⟨some 14, .nilCheck (.tmp 13), none⟩, ⟨some 15, .faddr 4 (.tmp 14), none⟩, ⟨some 16, .load 1 false (.tmp 15), none⟩, ⟨some 17, .lenS (.tmp 16), none⟩, ⟨some 18, .iop .lss (.tmp 12) (.tmp 17), none⟩]) (.cond (.tmp 18) .skip (.exit 0))) (.seq (.block 1 (.seq (.region [⟨some 4, .move (.const (.int .i64 0)), none⟩]) (.block 2 (.loop [0, 3, 4] (.seq (.seq (.region [⟨some 21, .move (.tmp 4), none⟩, ⟨some 22, .move (.tmp 0), none⟩, ⟨some 23, .nilCheck (.tmp 22), none⟩, ⟨some 24, .faddr 4 (.tmp 23), none⟩, ⟨some 25, .load 1 false (.tmp 24), none⟩, ⟨some 26, .move (.tmp 3), none⟩, ⟨some 27, .iaddr 1 (.tmp 25) (.tmp 26), none⟩, ⟨some 28, .load 1 false (.tmp 27), none⟩, ⟨some 29, .lenS (.tmp 28), none⟩, ⟨some 30, .iop .lss (.tmp 21) (.tmp 29), none⟩]) (.cond (.tmp 30) .skip (.exit 2))) (.seq (.block 3 (.region [⟨some 33, .move (.tmp 0), none⟩, ⟨some 34, .nilCheck (.tmp 33), none⟩, ⟨some 35, .faddr 4 (.tmp 34), none⟩, ⟨some 36, .load 1 false (.tmp 35), none⟩, ⟨some 37, .move (.tmp 3), none⟩, ⟨some 38, .iaddr 1 (.tmp 36) (.tmp 37), none⟩, ⟨some 39, .load 1 false (.tmp 38), none⟩, ⟨some 40, .move (.tmp 4), none⟩, ⟨some 41, .move (.tmp 3), none⟩, ⟨some 42, .iop .sub (.const (.int .i64 (-9000))) (.tmp 41), none⟩, ⟨some 43, .build [(.int .i64 0), (.int .i64 0)] [(0, 1, (.tmp 42))], none⟩, ⟨some 44, .iaddr 2 (.tmp 39) (.tmp 40), none⟩, ⟨none, .store 2 (.tmp 44) (.tmp 43), none⟩])) (.region [⟨some 31, .move (.tmp 4), none⟩, ⟨some 32, .iop .add (.tmp 31) (.const (.int .i64 1)), none⟩, ⟨some 4, .move (.tmp 32), none⟩]))))))) (.region [⟨some 19, .move (.tmp 3), none⟩, ⟨some 20, .iop .add (.tmp 19) (.const (.int .i64 1)), none⟩, ⟨some 3, .move (.tmp 20), none⟩])))))) (.seq (.region [⟨some 5, .move (.const .nilslice), none⟩]) (.seq (.seq (.region [⟨some 6, .move (.const (.int .i64 0)), none⟩]) (.block 4 (.loop [0, 5, 6] (.seq (.seq (.region [⟨some 45, .move (.tmp 6), none⟩, ⟨some 46, .move (.tmp 0), none⟩, ⟨some 47, .nilCheck (.tmp 46), none⟩, ⟨some 48, .faddr 4 (.tmp 47), none⟩, ⟨some 49, .load 1 false (.tmp 48), none⟩, ⟨some 50, .lenS (.tmp 49), none⟩, ⟨some 51, .iop .lss (.tmp 45) (.tmp 50), none⟩]) (.cond (.tmp 51) .skip (.exit 4))) (.seq (.block 5 (.seq (.region [⟨some 54, .move (.tmp 0), none⟩, ⟨some 55, .nilCheck (.tmp 54), none⟩, ⟨some 56, .faddr 4 (.tmp 55), none⟩, ⟨some 57, .load 1 false (.tmp 56), none⟩, ⟨some 58, .move (.tmp 6), none⟩, ⟨some 59, .iaddr 1 (.tmp 57) (.tmp 58), none⟩, ⟨some 60, .load 1 false (.tmp 59), none⟩, ⟨some 7, .move (.tmp 60), none⟩]) (.seq (.seq (.region [⟨some 8, .move (.const (.int .i64 0)), none⟩]) (.block 6 (.loop [0, 5, 6, 7, 8] (.seq (.seq (.region [⟨some 61, .move (.tmp 8), none⟩, ⟨some 62, .iop .lss (.tmp 61) (.const (.int .i64 20)), none⟩]) (.cond (.tmp 62) .skip (.exit 6))) (.seq (.block 7 (.region [⟨some 65, .move (.tmp 7), none⟩, ⟨some 66, .move (.tmp 6), none⟩, ⟨some 67, .iop .sub (.const (.int .i64 (-9000))) (.tmp 66), none⟩, ⟨some 68, .build [(.int .i64 0), (.int .i64 0)] [(0, 1, (.tmp 67))], none⟩, ⟨some 69, .lit 2 [(.int .i64 0), (.int .i64 0)] true 1 [(0, (.tmp 68))], none⟩, ⟨some 70, .append 2 16 (.tmp 65) (.tmp 69), none⟩, ⟨some 7, .move (.tmp 70), none⟩])) (.region [⟨some 63, .move (.tmp 8), none⟩, ⟨some 64, .iop .add (.tmp 63) (.const (.int .i64 1)), none⟩, ⟨some 8, .move (.tmp 64), none⟩])))))) (.region [⟨some 71, .move (.tmp 5), none⟩, ⟨some 72, .move (.tmp 7), none⟩, ⟨some 73, .lit 1 [.nilslice] false 1 [(0, (.tmp 72))], none⟩, ⟨some 74, .append 1 24 (.tmp 71) (.tmp 73), none⟩, ⟨some 5, .move (.tmp 74), none⟩])))) (.region [⟨some 52, .move (.tmp 6), none⟩, ⟨some 53, .iop .add (.tmp 52) (.const (.int .i64 1)), none⟩, ⟨some 6, .move (.tmp 53), none⟩])))))) (.seq (.seq (.region [⟨some 9, .move (.const (.int .i64 0)), none⟩]) (.block 8 (.loop [0, 5, 9] (.seq (.seq (.region [⟨some 75, .move (.tmp 9), none⟩, ⟨some 76, .move (.tmp 5), none⟩, ⟨some 77, .lenS (.tmp 76), none⟩, ⟨some 78, .iop .lss (.tmp 75) (.tmp 77), none⟩]) (.cond (.tmp 78) .skip (.exit 8))) (.seq (.block 9 (.seq (.seq (.region [⟨some 10, .move (.const (.int .i64 0)), none⟩]) (.block 10 (.loop [0, 5, 9, 10] (.seq (.seq (.region [⟨some 81, .move (.tmp 10), none⟩, ⟨some 82, .move (.tmp 5), none⟩, ⟨some 83, .move (.tmp 9), none⟩, ⟨some 84, .iaddr 1 (.tmp 82) (.tmp 83), none⟩, ⟨some 85, .load 1 false (.tmp 84), none⟩, ⟨some 86, .lenS (.tmp 85), none⟩, ⟨some 87, .iop .lss (.tmp 81) (.tmp 86), none⟩]) (.cond (.tmp 87) .skip (.exit 10))) (.seq (.block 11 (.seq (.region [⟨some 90, .move (.tmp 5), none⟩, ⟨some 91, .move (.tmp 9), none⟩, ⟨some 92, .iaddr 1 (.tmp 90) (.tmp 91), none⟩, ⟨some 93, .load 1 false (.tmp 92), none⟩, ⟨some 94, .move (.tmp 10), none⟩, ⟨some 95, .iaddr 2 (.tmp 93) (.tmp 94), none⟩, ⟨some 96, .load 2 true (.tmp 95), none⟩, ⟨some 97, .move (.tmp 9), none⟩, ⟨some 98, .iop .sub (.const (.int .i64 (-9000))) (.tmp 97), none⟩, ⟨some 99, .build [(.int .i64 0), (.int .i64 0)] [(0, 1, (.tmp 98))], none⟩, ⟨some 100, .eqs true [.i, .i] (.tmp 96) (.tmp 99), none⟩]) (.cond (.tmp 100) (.seq (.region [⟨some 2, .move (.const (.bool false)), none⟩]) .ret) .skip))) (.region [⟨some 88, .move (.tmp 10), none⟩, ⟨some 89, .iop .add (.tmp 88) (.const (.int .i64 1)), none⟩, ⟨some 10, .move (.tmp 89), none⟩])))))) (.seq (.region [⟨some 11, .move (.const (.int .i64 0)), none⟩]) (.block 12 (.loop [0, 5, 9, 11] (.seq (.seq (.region [⟨some 101, .move (.tmp 11), none⟩, ⟨some 102, .move (.tmp 0), none⟩, ⟨some 103, .nilCheck (.tmp 102), none⟩, ⟨some 104, .faddr 4 (.tmp 103), none⟩, ⟨some 105, .load 1 false (.tmp 104), none⟩, ⟨some 106, .move (.tmp 9), none⟩, ⟨some 107, .iaddr 1 (.tmp 105) (.tmp 106), none⟩, ⟨some 108, .load 1 false (.tmp 107), none⟩, ⟨some 109, .lenS (.tmp 108), none⟩, ⟨some 110, .iop .lss (.tmp 101) (.tmp 109), none⟩]) (.cond (.tmp 110) .skip (.exit 12))) (.seq (.block 13 (.seq (.region [⟨some 113, .move (.tmp 0), none⟩, ⟨some 114, .nilCheck (.tmp 113), none⟩, ⟨some 115, .faddr 4 (.tmp 114), none⟩, ⟨some 116, .load 1 false (.tmp 115), none⟩, ⟨some 117, .move (.tmp 9), none⟩, ⟨some 118, .iaddr 1 (.tmp 116) (.tmp 117), none⟩, ⟨some 119, .load 1 false (.tmp 118), none⟩, ⟨some 120, .move (.tmp 11), none⟩, ⟨some 121, .iaddr 2 (.tmp 119) (.tmp 120), none⟩, ⟨some 122, .load 2 true (.tmp 121), none⟩, ⟨some 123, .move (.tmp 9), none⟩, ⟨some 124, .iop .sub (.const (.int .i64 (-9000))) (.tmp 123), none⟩, ⟨some 125, .build [(.int .i64 0), (.int .i64 0)] [(0, 1, (.tmp 124))], none⟩, ⟨some 126, .eqs true [.i, .i] (.tmp 122) (.tmp 125), none⟩]) (.cond (.tmp 126) (.seq (.region [⟨some 2, .move (.const (.bool false)), none⟩]) .ret) .skip))) (.region [⟨some 111, .move (.tmp 11), none⟩, ⟨some 112, .iop .add (.tmp 111) (.const (.int .i64 1)), none⟩, ⟨some 11, .move (.tmp 112), none⟩])))))))) (.region [⟨some 79, .move (.tmp 9), none⟩, ⟨some 80, .iop .add (.tmp 79) (.const (.int .i64 1)), none⟩, ⟨some 9, .move (.tmp 80), none⟩])))))) (.seq (.region [⟨some 2, .move (.const (.bool true)), none⟩]) .ret)))))), [.tmp 2]⟩

/-- purlin/purlinmem.KeptCells -/
def a75 : AFunc := ⟨35, (.seq (.region [⟨some 4, .move (.const (.bool false)), none⟩]) (.seq (.seq (.region [⟨some 7, .move (.tmp 0), none⟩, ⟨some 8, .move (.tmp 1), none⟩, ⟨some 9, .call .shared 122 [(.tmp 7), (.tmp 8)], none⟩, ⟨some 10, .not (.tmp 9), none⟩]) (.cond (.tmp 10) (.seq (.region [⟨some 4, .move (.const (.bool false)), none⟩]) .ret) .skip)) (.seq (.region [⟨some 11, .move (.tmp 0), none⟩, ⟨some 12, .move (.tmp 1), none⟩, ⟨some 13, .lenS (.tmp 12), none⟩, ⟨some 14, .iop .add (.tmp 13) (.const (.int .i64 9)), none⟩, ⟨some 15, .sliceOp 5 (.tmp 11) none (some (.tmp 14)) none, none⟩, ⟨some 5, .move (.tmp 15), none⟩]) (.seq (.seq (.region [⟨some 16, .move (.tmp 1), none⟩, ⟨some 17, .lenS (.tmp 16), none⟩, ⟨some 6, .move (.tmp 17), none⟩]) (.block 0 (.loop [1, 5, 6] (.seq (.seq (.region [⟨some 18, .move (.tmp 6), none⟩, ⟨some 19, .move (.tmp 5), none⟩, ⟨some 20, .lenS (.tmp 19), none⟩, ⟨some 21, .iop .lss (.tmp 18) (.tmp 20), none⟩]) (.cond (.tmp 21) .skip (.exit 0))) (.seq (.block 1 (.seq (.region [⟨some 24, .move (.tmp 5), none⟩, ⟨some 25, .move (.tmp 6), none⟩, ⟨some 26, .iaddr 5 (.tmp 24) (.tmp 25), none⟩, ⟨some 27, .load 5 true (.tmp 26), none⟩, ⟨some 28, .move (.tmp 6), none⟩, ⟨some 29, .iop .sub (.const (.int .i64 (-700))) (.tmp 28), none⟩, ⟨some 30, .move (.tmp 1), none⟩, ⟨some 31, .lenS (.tmp 30), none⟩, ⟨some 32, .iop .add (.tmp 29) (.tmp 31), none⟩, ⟨some 33, .build [(.int .u8 0), (.str []), (.int .i64 0), (.int .i64 0), (.int .i64 0)] [(2, 1, (.tmp 32))], none⟩, ⟨some 34, .eqs true [.i, .s, .i, .i, .i] (.tmp 27) (.tmp 33), none⟩]) (.cond (.tmp 34) (.seq (.region [⟨some 4, .move (.const (.bool false)), none⟩]) .ret) .skip))) (.region [⟨some 22, .move (.tmp 6), none⟩, ⟨some 23, .iop .add (.tmp 22) (.const (.int .i64 1)), none⟩, ⟨some 6, .move (.tmp 23), none⟩])))))) (.seq (.region [⟨some 4, .move (.const (.bool true)), none⟩]) .ret))))), [.tmp 4]⟩

/-- purlin/term.Global -/
def a78 : AFunc := ⟨10, (.seq (.region [⟨some 2, .move (.const (.bool false)), none⟩]) (.seq (.region [⟨some 3, .move (.tmp 0), none⟩, ⟨some 4, .call .shared 60 [(.tmp 3)], none⟩, ⟨some 5, .move (.tmp 4), none⟩, ⟨some 6, .move (.tmp 0), some (5, true)⟩, ⟨some 7, .call .shared 114 [(.tmp 6), (.const (.func 124 [] []))], some (5, true)⟩, ⟨some 8, .not (.tmp 7), some (5, true)⟩, ⟨some 9, .pick (.tmp 5) (.tmp 8) (.const (.bool false)), none⟩, ⟨some 2, .move (.tmp 9), none⟩]) .ret)), [.tmp 2]⟩

/-- purlin/term.Less -/
def a79 : AFunc := ⟨24, (.seq (.region [⟨some 2, .box (.tmp 0), none⟩, ⟨some 3, .box (.tmp 1), none⟩, ⟨some 4, .move (.const (.bool false)), none⟩]) (.seq (.region [⟨some 5, .faddr 0 (.tmp 2), none⟩, ⟨some 6, .load 1 false (.tmp 5), none⟩, ⟨some 7, .faddr 0 (.tmp 3), none⟩, ⟨some 8, .load 1 false (.tmp 7), none⟩, ⟨some 9, .iop .lss (.tmp 6) (.tmp 8), none⟩, ⟨some 10, .move (.tmp 9), none⟩, ⟨some 11, .faddr 0 (.tmp 2), some (10, false)⟩, ⟨some 12, .load 1 false (.tmp 11), some (10, false)⟩, ⟨some 13, .faddr 0 (.tmp 3), some (10, false)⟩, ⟨some 14, .load 1 false (.tmp 13), some (10, false)⟩, ⟨some 15, .iop .eql (.tmp 12) (.tmp 14), some (10, false)⟩, ⟨some 16, .move (.tmp 15), some (10, false)⟩, ⟨some 17, .faddr 1 (.tmp 2), some (16, true)⟩, ⟨some 18, .load 1 false (.tmp 17), some (16, true)⟩, ⟨some 19, .faddr 1 (.tmp 3), some (16, true)⟩, ⟨some 20, .load 1 false (.tmp 19), some (16, true)⟩, ⟨some 21, .iop .lss (.tmp 18) (.tmp 20), some (16, true)⟩, ⟨some 22, .pick (.tmp 16) (.tmp 21) (.const (.bool false)), some (10, false)⟩, ⟨some 23, .pick (.tmp 10) (.const (.bool true)) (.tmp 22), none⟩, ⟨some 4, .move (.tmp 23), none⟩]) .ret)), [.tmp 4]⟩

/-- slices.Clone[purlin/api.Term,purlin/api.Cell] -/
def a80 : AFunc := ⟨8, (.seq (.region [⟨some 2, .move (.const .nilslice), none⟩]) (.seq (.seq (.region [⟨some 3, .move (.tmp 0), none⟩, ⟨some 4, .eqnil false .s (.tmp 3), none⟩]) (.cond (.tmp 4) (.seq (.region [⟨some 2, .move (.const .nilslice), none⟩]) .ret) .skip)) (.seq (.region [⟨some 5, .lit 5 [(.int .u8 0), (.str []), (.int .i64 0), (.int .i64 0), (.int .i64 0)] true 0 [], none⟩, ⟨some 6, .move (.tmp 0), none⟩, ⟨some 7, .append 5 48 (.tmp 5) (.tmp 6), none⟩, ⟨some 2, .move (.tmp 7), none⟩]) .ret))), [.tmp 2]⟩

/-- purlin/term.Make -/
def a81 : AFunc := ⟨32, (.seq (.region [⟨some 4, .move (.const .nilslice), none⟩, ⟨some 5, .move (.const (.int .i64 0)), none⟩]) (.seq (.region [⟨some 8, .move (.tmp 0), none⟩, ⟨some 9, .move (.tmp 1), none⟩, ⟨some 10, .lenS (.tmp 9), none⟩, ⟨some 11, .build [(.int .u8 0), (.str []), (.int .i64 0), (.int .i64 0), (.int .i64 0)] [(0, 1, (.const (.int .u8 3))), (1, 1, (.tmp 8)), (2, 1, (.tmp 10))], none⟩, ⟨some 6, .alloc [(.int .u8 0), (.str []), (.int .i64 0), (.int .i64 0), (.int .i64 0)], none⟩, ⟨none, .store 5 (.tmp 6) (.tmp 11), none⟩]) (.seq (.seq (.drawn [⟨some 12, .faddr 0 (.tmp 6), none⟩, ⟨some 13, .load 1 false (.tmp 12), none⟩, ⟨some 14, .call .shared 116 [(.tmp 13)], none⟩, ⟨some 15, .field 0 1 false (.tmp 14), none⟩, ⟨some 16, .load 5 true (.tmp 6), none⟩, ⟨some 17, .callv .shared (.tmp 15) [(.tmp 16)], none⟩, ⟨some 18, .not (.tmp 17), none⟩, ⟨some 19, .move (.tmp 18), none⟩, ⟨some 20, .move (.tmp 1), some (19, false)⟩, ⟨some 21, .call .shared 125 [(.tmp 20), (.const (.func 126 [] []))], some (19, false)⟩, ⟨some 22, .pick (.tmp 19) (.const (.bool true)) (.tmp 21), none⟩] [(4, 2)]) (.cond (.tmp 22) (.seq (.region [⟨some 4, .move (.const .nilslice), none⟩, ⟨some 5, .move (.const (.int .i64 6)), none⟩]) .ret) .skip)) (.seq (.drawn [⟨some 23, .load 5 true (.tmp 6), none⟩, ⟨some 24, .lit 5 [(.int .u8 0), (.str []), (.int .i64 0), (.int .i64 0), (.int .i64 0)] true 1 [(0, (.tmp 23))], none⟩, ⟨some 25, .move (.tmp 1), none⟩, ⟨some 26, .call .shared 127 [(.tmp 25)], none⟩, ⟨some 27, .append 5 48 (.tmp 24) (.tmp 26), none⟩, ⟨some 7, .move (.tmp 27), none⟩] [(0, 3)]) (.seq (.seq (.region [⟨some 28, .move (.tmp 7), none⟩, ⟨some 29, .lenS (.tmp 28), none⟩, ⟨some 30, .iop .gtr (.tmp 29) (.const (.int .i64 256)), none⟩]) (.cond (.tmp 30) (.seq (.region [⟨some 4, .move (.const .nilslice), none⟩, ⟨some 5, .move (.const (.int .i64 5)), none⟩]) .ret) .skip)) (.seq (.region [⟨some 31, .move (.tmp 7), none⟩, ⟨some 4, .move (.tmp 31), none⟩, ⟨some 5, .move (.const (.int .i64 0)), none⟩]) .ret)))))), [.tmp 4, .tmp 5]⟩

/-- slices.Clone[[]purlin/api.Term,purlin/api.Term] -/
def a88 : AFunc := ⟨8, (.seq (.region [⟨some 2, .move (.const .nilslice), none⟩]) (.seq (.seq (.region [⟨some 3, .move (.tmp 0), none⟩, ⟨some 4, .eqnil false .s (.tmp 3), none⟩]) (.cond (.tmp 4) (.seq (.region [⟨some 2, .move (.const .nilslice), none⟩]) .ret) .skip)) (.seq (.region [⟨some 5, .lit 1 [.nilslice] false 0 [], none⟩, ⟨some 6, .move (.tmp 0), none⟩, ⟨some 7, .append 1 24 (.tmp 5) (.tmp 6), none⟩, ⟨some 2, .move (.tmp 7), none⟩]) .ret))), [.tmp 2]⟩

/-- purlin/term.OfVar -/
def a90 : AFunc := ⟨6, (.seq (.region [⟨some 1, .box (.tmp 0), none⟩, ⟨some 2, .move (.const .nilslice), none⟩]) (.seq (.region [⟨some 3, .load 2 true (.tmp 1), none⟩, ⟨some 4, .build [(.int .u8 0), (.str []), (.int .i64 0), (.int .i64 0), (.int .i64 0)] [(0, 1, (.const (.int .u8 4))), (3, 2, (.tmp 3))], none⟩, ⟨some 5, .call .shared 137 [(.tmp 4)], none⟩, ⟨some 2, .move (.tmp 5), none⟩]) .ret)), [.tmp 2]⟩

/-- (*purlin/heap.Heap).value -/
def a100 : AFunc := ⟨21, (.seq (.region [⟨some 3, .box (.tmp 1), none⟩, ⟨some 4, .move (.const .nilslice), none⟩, ⟨some 5, .move (.const (.bool false)), none⟩]) (.seq (.seq (.region [⟨some 8, .move (.tmp 0), none⟩, ⟨some 9, .eqnil false .p (.tmp 8), none⟩]) (.cond (.tmp 9) (.seq (.region [⟨some 4, .move (.const .nilslice), none⟩, ⟨some 5, .move (.const (.bool false)), none⟩]) .ret) .skip)) (.seq (.region [⟨some 11, .move (.tmp 0), none⟩, ⟨some 12, .nilCheck (.tmp 11), none⟩, ⟨some 13, .faddr 0 (.tmp 12), none⟩, ⟨some 14, .load 1 false (.tmp 13), none⟩, ⟨some 15, .load 2 true (.tmp 3), none⟩, ⟨some 16, .lookup true [.i, .i] .nilslice (.tmp 14) (.tmp 15) true, none⟩, ⟨some 10, .move (.tmp 16), none⟩, ⟨some 17, .extract (.tmp 10) 0, none⟩, ⟨some 18, .extract (.tmp 10) 1, none⟩, ⟨some 6, .move (.tmp 17), none⟩, ⟨some 7, .move (.tmp 18), none⟩]) (.seq (.region [⟨some 19, .move (.tmp 6), none⟩, ⟨some 20, .move (.tmp 7), none⟩, ⟨some 4, .move (.tmp 19), none⟩, ⟨some 5, .move (.tmp 20), none⟩]) .ret)))), [.tmp 4, .tmp 5]⟩

/-- (*purlin/heap.Heap).next -/
def a101 : AFunc := ⟨24, (.seq (.region [⟨some 4, .move (.const .nilslice), none⟩, ⟨some 5, .move (.const (.bool false)), none⟩]) (.seq (.seq (.region [⟨some 6, .move (.tmp 1), none⟩, ⟨some 7, .lenS (.tmp 6), none⟩, ⟨some 8, .iop .neq (.tmp 7) (.const (.int .i64 1)), none⟩, ⟨some 9, .move (.tmp 8), none⟩, ⟨some 10, .move (.tmp 1), some (9, false)⟩, ⟨some 11, .iaddr 5 (.tmp 10) (.const (.int .i64 0)), some (9, false)⟩, ⟨some 12, .faddr 0 (.tmp 11), some (9, false)⟩, ⟨some 13, .load 1 false (.tmp 12), some (9, false)⟩, ⟨some 14, .iop .neq (.tmp 13) (.const (.int .u8 4)), some (9, false)⟩, ⟨some 15, .pick (.tmp 9) (.const (.bool true)) (.tmp 14), none⟩]) (.cond (.tmp 15) (.seq (.region [⟨some 4, .move (.const .nilslice), none⟩, ⟨some 5, .move (.const (.bool false)), none⟩]) .ret) .skip)) (.seq (.region [⟨some 16, .move (.tmp 0), none⟩, ⟨some 17, .move (.tmp 1), none⟩, ⟨some 18, .iaddr 5 (.tmp 17) (.const (.int .i64 0)), none⟩, ⟨some 19, .faddr 3 (.tmp 18), none⟩, ⟨some 20, .load 2 true (.tmp 19), none⟩, ⟨some 21, .call .shared 100 [(.tmp 16), (.tmp 20)], none⟩, ⟨some 22, .extract (.tmp 21) 0, none⟩, ⟨some 23, .extract (.tmp 21) 1, none⟩, ⟨some 4, .move (.tmp 22), none⟩, ⟨some 5, .move (.tmp 23), none⟩]) .ret))), [.tmp 4, .tmp 5]⟩

/-- (*purlin/heap.Heap).follow -/
def a106 : AFunc := ⟨22, (.seq (.region [⟨some 4, .move (.const .nilslice), none⟩]) (.seq (.seq (.region [⟨some 8, .move (.tmp 0), none⟩, ⟨some 9, .move (.tmp 1), none⟩, ⟨some 10, .call .shared 101 [(.tmp 8), (.tmp 9)], none⟩, ⟨some 7, .move (.tmp 10), none⟩, ⟨some 11, .extract (.tmp 7) 0, none⟩, ⟨some 12, .extract (.tmp 7) 1, none⟩, ⟨some 5, .move (.tmp 11), none⟩, ⟨some 6, .move (.tmp 12), none⟩]) (.block 0 (.loop [0, 1, 5, 6] (.seq (.seq (.region [⟨some 13, .move (.tmp 6), none⟩]) (.cond (.tmp 13) .skip (.exit 0))) (.seq (.block 1 (.region [⟨some 20, .move (.tmp 5), none⟩, ⟨some 1, .move (.tmp 20), none⟩])) (.region [⟨some 15, .move (.tmp 0), none⟩, ⟨some 16, .move (.tmp 1), none⟩, ⟨some 17, .call .shared 101 [(.tmp 15), (.tmp 16)], none⟩, ⟨some 14, .move (.tmp 17), none⟩, ⟨some 18, .extract (.tmp 14) 0, none⟩, ⟨some 19, .extract (.tmp 14) 1, none⟩, ⟨some 5, .move (.tmp 18), none⟩, ⟨some 6, .move (.tmp 19), none⟩])))))) (.seq (.region [⟨some 21, .move (.tmp 1), none⟩, ⟨some 4, .move (.tmp 21), none⟩]) .ret))), [.tmp 4]⟩

/-- maps.Clone[map[purlin/api.Name]purlin/api.Term,purlin/api.Name,purlin/api.Term] -/
def a107 : AFunc := ⟨9, (.seq (.region [⟨some 2, .move (.const .nilmap), none⟩]) (.seq (.seq (.region [⟨some 3, .move (.tmp 0), none⟩, ⟨some 4, .eqnil false .m (.tmp 3), none⟩]) (.cond (.tmp 4) (.seq (.region [⟨some 2, .move (.const .nilmap), none⟩]) .ret) .skip)) (.seq (.region [⟨some 5, .move (.tmp 0), none⟩, ⟨some 6, .mkiface 126 (.tmp 5), none⟩, ⟨some 7, .call .shared 144 [(.tmp 6)], none⟩, ⟨some 8, .fail, none⟩, ⟨some 2, .move (.tmp 8), none⟩]) .ret))), [.tmp 2]⟩

/-- purlin/term.End -/
def a113 : AFunc := ⟨41, (.seq (.region [⟨some 4, .move (.const (.int .i64 0)), none⟩]) (.seq (.seq (.region [⟨some 6, .move (.tmp 1), none⟩, ⟨some 7, .iop .lss (.tmp 6) (.const (.int .i64 0)), none⟩, ⟨some 8, .move (.tmp 7), none⟩, ⟨some 9, .move (.tmp 1), some (8, false)⟩, ⟨some 10, .move (.tmp 0), some (8, false)⟩, ⟨some 11, .lenS (.tmp 10), some (8, false)⟩, ⟨some 12, .iop .geq (.tmp 9) (.tmp 11), some (8, false)⟩, ⟨some 13, .pick (.tmp 8) (.const (.bool true)) (.tmp 12), none⟩]) (.cond (.tmp 13) (.seq (.region [⟨some 4, .move (.const (.int .i64 0)), none⟩]) .ret) .skip)) (.seq (.seq (.region [⟨some 5, .move (.const (.int .i64 1)), none⟩]) (.block 0 (.loop [0, 1, 5] (.seq (.seq (.region [⟨some 14, .move (.tmp 5), none⟩, ⟨some 15, .iop .gtr (.tmp 14) (.const (.int .i64 0)), none⟩]) (.cond (.tmp 15) .skip (.exit 0))) (.seq (.block 1 (.seq (.seq (.region [⟨some 18, .move (.tmp 1), none⟩, ⟨some 19, .move (.tmp 0), none⟩, ⟨some 20, .lenS (.tmp 19), none⟩, ⟨some 21, .iop .eql (.tmp 18) (.tmp 20), none⟩, ⟨some 22, .move (.tmp 21), none⟩, ⟨some 23, .move (.tmp 0), some (22, false)⟩, ⟨some 24, .move (.tmp 1), some (22, false)⟩, ⟨some 25, .iaddr 5 (.tmp 23) (.tmp 24), some (22, false)⟩, ⟨some 26, .load 5 true (.tmp 25), some (22, false)⟩, ⟨some 27, .call .shared 151 [(.tmp 26)], some (22, false)⟩, ⟨some 28, .move (.tmp 0), some (22, false)⟩, ⟨some 29, .lenS (.tmp 28), some (22, false)⟩, ⟨some 30, .iop .gtr (.tmp 27) (.tmp 29), some (22, false)⟩, ⟨some 31, .pick (.tmp 22) (.const (.bool true)) (.tmp 30), none⟩]) (.cond (.tmp 31) (.seq (.region [⟨some 4, .move (.const (.int .i64 0)), none⟩]) .ret) .skip)) (.region [⟨some 32, .move (.tmp 5), none⟩, ⟨some 33, .move (.tmp 0), none⟩, ⟨some 34, .move (.tmp 1), none⟩, ⟨some 35, .iaddr 5 (.tmp 33) (.tmp 34), none⟩, ⟨some 36, .load 5 true (.tmp 35), none⟩, ⟨some 37, .call .shared 151 [(.tmp 36)], none⟩, ⟨some 38, .iop .sub (.tmp 37) (.const (.int .i64 1)), none⟩, ⟨some 39, .iop .add (.tmp 32) (.tmp 38), none⟩, ⟨some 5, .move (.tmp 39), none⟩]))) (.region [⟨some 16, .move (.tmp 1), none⟩, ⟨some 17, .iop .add (.tmp 16) (.const (.int .i64 1)), none⟩, ⟨some 1, .move (.tmp 17), none⟩])))))) (.seq (.region [⟨some 40, .move (.tmp 1), none⟩, ⟨some 4, .move (.tmp 40), none⟩]) .ret)))), [.tmp 4]⟩

/-- slices.ContainsFunc[purlin/api.Term,purlin/api.Cell] -/
def a114 : AFunc := ⟨9, (.seq (.region [⟨some 4, .move (.const (.bool false)), none⟩]) (.seq (.region [⟨some 5, .move (.tmp 0), none⟩, ⟨some 6, .move (.tmp 1), none⟩, ⟨some 7, .call .shared 152 [(.tmp 5), (.tmp 6)], none⟩, ⟨some 8, .iop .geq (.tmp 7) (.const (.int .i64 0)), none⟩, ⟨some 4, .move (.tmp 8), none⟩]) .ret)), [.tmp 4]⟩

/-- purlin/term.Right$1 -/
def a115 : AFunc := ⟨10, (.seq (.region [⟨some 1, .box (.tmp 0), none⟩, ⟨some 2, .move (.const (.bool false)), none⟩]) (.seq (.drawn [⟨some 3, .faddr 0 (.tmp 1), none⟩, ⟨some 4, .load 1 false (.tmp 3), none⟩, ⟨some 5, .call .shared 116 [(.tmp 4)], none⟩, ⟨some 6, .field 0 1 false (.tmp 5), none⟩, ⟨some 7, .load 5 true (.tmp 1), none⟩, ⟨some 8, .callv .shared (.tmp 6) [(.tmp 7)], none⟩, ⟨some 9, .not (.tmp 8), none⟩, ⟨some 2, .move (.tmp 9), none⟩] [(4, 2)]) .ret)), [.tmp 2]⟩

/-- purlin/term.rule -/
def a116 : AFunc := ⟨20, (.seq (.region [⟨some 2, .alloc [.nilfunc], none⟩]) (.seq (.region [⟨some 4, .build [.nilfunc] [(0, 1, (.const (.func 153 [] [])))], none⟩, ⟨some 5, .build [.nilfunc] [(0, 1, (.const (.func 155 [] [])))], none⟩, ⟨some 6, .build [.nilfunc] [(0, 1, (.const (.func 157 [] [])))], none⟩, ⟨some 7, .build [.nilfunc] [(0, 1, (.const (.func 159 [] [])))], none⟩, ⟨some 8, .build [.nilfunc, .nilfunc, .nilfunc, .nilfunc, .nilfunc] [(1, 1, (.tmp 4)), (2, 1, (.tmp 5)), (3, 1, (.tmp 6)), (4, 1, (.tmp 7))], none⟩, ⟨some 3, .alloc [.nilfunc, .nilfunc, .nilfunc, .nilfunc, .nilfunc], none⟩, ⟨none, .store 5 (.tmp 3) (.tmp 8), none⟩]) (.seq (.seq (.region [⟨some 9, .move (.tmp 0), none⟩, ⟨some 10, .iop .lss (.tmp 9) (.const (.int .u8 1)), none⟩, ⟨some 11, .move (.tmp 10), none⟩, ⟨some 12, .move (.tmp 0), some (11, false)⟩, ⟨some 13, .convI .i64 (.tmp 12), some (11, false)⟩, ⟨some 14, .iop .geq (.tmp 13) (.const (.int .i64 5)), some (11, false)⟩, ⟨some 15, .pick (.tmp 11) (.const (.bool true)) (.tmp 14), none⟩]) (.cond (.tmp 15) (.seq (.region [⟨some 16, .build [.nilfunc] [(0, 1, (.const (.func 160 [] [])))], none⟩, ⟨none, .store 1 (.tmp 2) (.tmp 16), none⟩]) .ret) .skip)) (.seq (.region [⟨some 17, .move (.tmp 0), none⟩, ⟨some 18, .aaddr 5 1 (.tmp 3) (.tmp 17), none⟩, ⟨some 19, .load 1 true (.tmp 18), none⟩, ⟨none, .store 1 (.tmp 2) (.tmp 19), none⟩]) .ret)))), [.cell 2 1 true]⟩

/-- purlin/purlinref01.cell -/
def a117 : AFunc := ⟨97, (.seq (.region [⟨some 1, .box (.tmp 0), none⟩, ⟨some 2, .move (.const (.bool false)), none⟩]) (.seq (.region [⟨some 4, .faddr 3 (.tmp 1), none⟩, ⟨some 5, .load 2 true (.tmp 4), none⟩, ⟨some 6, .build [(.int .i64 0), (.int .i64 0)] [], none⟩, ⟨some 7, .eqs false [.i, .i] (.tmp 5) (.tmp 6), none⟩, ⟨some 3, .move (.tmp 7), none⟩]) (.seq (.seq (.region [⟨some 8, .faddr 0 (.tmp 1), none⟩, ⟨some 9, .load 1 false (.tmp 8), none⟩]) (.block 0 (.seq (.region [⟨some 11, .iop .eql (.tmp 9) (.const (.int .u8 1)), none⟩, ⟨some 10, .move (.tmp 11), none⟩]) (.cond (.tmp 10) (.seq (.region [⟨some 12, .faddr 1 (.tmp 1), none⟩, ⟨some 13, .load 1 false (.tmp 12), none⟩, ⟨some 14, .sop .eql (.tmp 13) (.const (.str [])), none⟩, ⟨some 15, .move (.tmp 14), none⟩, ⟨some 16, .move (.tmp 3), some (15, true)⟩, ⟨some 17, .pick (.tmp 15) (.tmp 16) (.const (.bool false)), none⟩, ⟨some 18, .move (.tmp 17), none⟩, ⟨some 19, .faddr 2 (.tmp 1), some (18, true)⟩, ⟨some 20, .load 1 false (.tmp 19), some (18, true)⟩, ⟨some 21, .iop .geq (.tmp 20) (.const (.int .i64 (-2147483648))), some (18, true)⟩, ⟨some 22, .pick (.tmp 18) (.tmp 21) (.const (.bool false)), none⟩, ⟨some 23, .move (.tmp 22), none⟩, ⟨some 24, .faddr 2 (.tmp 1), some (23, true)⟩, ⟨some 25, .load 1 false (.tmp 24), some (23, true)⟩, ⟨some 26, .iop .leq (.tmp 25) (.const (.int .i64 2147483648)), some (23, true)⟩, ⟨some 27, .pick (.tmp 23) (.tmp 26) (.const (.bool false)), none⟩, ⟨some 2, .move (.tmp 27), none⟩]) .ret) (.seq (.region [⟨some 29, .iop .eql (.tmp 9) (.const (.int .u8 2)), none⟩, ⟨some 28, .move (.tmp 29), none⟩]) (.cond (.tmp 28) (.seq (.region [⟨some 30, .faddr 1 (.tmp 1), none⟩, ⟨some 31, .load 1 false (.tmp 30), none⟩, ⟨some 32, .call .shared 161 [(.tmp 31)], none⟩, ⟨some 33, .move (.tmp 32), none⟩, ⟨some 34, .move (.tmp 3), some (33, true)⟩, ⟨some 35, .pick (.tmp 33) (.tmp 34) (.const (.bool false)), none⟩, ⟨some 36, .move (.tmp 35), none⟩, ⟨some 37, .faddr 2 (.tmp 1), some (36, true)⟩, ⟨some 38, .load 1 false (.tmp 37), some (36, true)⟩, ⟨some 39, .iop .eql (.tmp 38) (.const (.int .i64 0)), some (36, true)⟩, ⟨some 40, .pick (.tmp 36) (.tmp 39) (.const (.bool false)), none⟩, ⟨some 2, .move (.tmp 40), none⟩]) .ret) (.seq (.region [⟨some 42, .iop .eql (.tmp 9) (.const (.int .u8 3)), none⟩, ⟨some 41, .move (.tmp 42), none⟩]) (.cond (.tmp 41) (.seq (.region [⟨some 43, .move (.tmp 3), none⟩, ⟨some 44, .move (.tmp 43), none⟩, ⟨some 45, .faddr 1 (.tmp 1), some (44, true)⟩, ⟨some 46, .load 1 false (.tmp 45), some (44, true)⟩, ⟨some 47, .call .shared 161 [(.tmp 46)], some (44, true)⟩, ⟨some 48, .move (.tmp 47), some (44, true)⟩, ⟨some 49, .faddr 2 (.tmp 1), some (48, true)⟩, ⟨some 50, .load 1 false (.tmp 49), some (48, true)⟩, ⟨some 51, .iop .geq (.tmp 50) (.const (.int .i64 1)), some (48, true)⟩, ⟨some 52, .pick (.tmp 48) (.tmp 51) (.const (.bool false)), some (44, true)⟩, ⟨some 53, .move (.tmp 52), some (44, true)⟩, ⟨some 54, .faddr 2 (.tmp 1), some (53, true)⟩, ⟨some 55, .load 1 false (.tmp 54), some (53, true)⟩, ⟨some 56, .iop .leq (.tmp 55) (.const (.int .i64 8)), some (53, true)⟩, ⟨some 57, .pick (.tmp 53) (.tmp 56) (.const (.bool false)), some (44, true)⟩, ⟨some 58, .move (.tmp 57), some (44, true)⟩, ⟨some 59, .faddr 1 (.tmp 1), some (58, false)⟩, ⟨some 60, .load 1 false (.tmp 59), some (58, false)⟩, ⟨some 61, .call .shared 162 [(.tmp 60)], some (58, false)⟩, ⟨some 62, .move (.tmp 61), some (58, false)⟩, ⟨some 63, .faddr 2 (.tmp 1), some (62, true)⟩, ⟨some 64, .load 1 false (.tmp 63), some (62, true)⟩, ⟨some 65, .iop .eql (.tmp 64) (.const (.int .i64 2)), some (62, true)⟩, ⟨some 66, .pick (.tmp 62) (.tmp 65) (.const (.bool false)), some (58, false)⟩, ⟨some 67, .pick (.tmp 58) (.const (.bool true)) (.tmp 66), some (44, true)⟩, ⟨some 68, .pick (.tmp 44) (.tmp 67) (.const (.bool false)), none⟩, ⟨some 2, .move (.tmp 68), none⟩]) .ret) (.seq (.region [⟨some 70, .iop .eql (.tmp 9) (.const (.int .u8 4)), none⟩, ⟨some 69, .move (.tmp 70), none⟩]) (.cond (.tmp 69) (.seq (.region [⟨some 71, .faddr 1 (.tmp 1), none⟩, ⟨some 72, .load 1 false (.tmp 71), none⟩, ⟨some 73, .sop .eql (.tmp 72) (.const (.str [])), none⟩, ⟨some 74, .move (.tmp 73), none⟩, ⟨some 75, .faddr 2 (.tmp 1), some (74, true)⟩, ⟨some 76, .load 1 false (.tmp 75), some (74, true)⟩, ⟨some 77, .iop .eql (.tmp 76) (.const (.int .i64 0)), some (74, true)⟩, ⟨some 78, .pick (.tmp 74) (.tmp 77) (.const (.bool false)), none⟩, ⟨some 79, .move (.tmp 78), none⟩, ⟨some 80, .faddr 3 (.tmp 1), some (79, true)⟩, ⟨some 81, .faddr 0 (.tmp 80), some (79, true)⟩, ⟨some 82, .load 1 false (.tmp 81), some (79, true)⟩, ⟨some 83, .iop .geq (.tmp 82) (.const (.int .i64 (-1))), some (79, true)⟩, ⟨some 84, .pick (.tmp 79) (.tmp 83) (.const (.bool false)), none⟩, ⟨some 85, .move (.tmp 84), none⟩, ⟨some 86, .faddr 3 (.tmp 1), some (85, true)⟩, ⟨some 87, .faddr 0 (.tmp 86), some (85, true)⟩, ⟨some 88, .load 1 false (.tmp 87), some (85, true)⟩, ⟨some 89, .iop .leq (.tmp 88) (.const (.int .i64 3)), some (85, true)⟩, ⟨some 90, .pick (.tmp 85) (.tmp 89) (.const (.bool false)), none⟩, ⟨some 91, .move (.tmp 90), none⟩, ⟨some 92, .faddr 3 (.tmp 1), some (91, true)⟩, ⟨some 93, .faddr 1 (.tmp 92), some (91, true)⟩, ⟨some 94, .load 1 false (.tmp 93), some (91, true)⟩, ⟨some 95, .iop .geq (.tmp 94) (.const (.int .i64 0)), some (91, true)⟩, ⟨some 96, .pick (.tmp 91) (.tmp 95) (.const (.bool false)), none⟩, ⟨some 2, .move (.tmp 96), none⟩]) .ret) .skip)))))))))) (.seq (.region [⟨some 2, .move (.const (.bool false)), none⟩]) .ret)))), [.tmp 2]⟩

/-- purlin/purlinref01.End -/
def a118 : AFunc := ⟨54, (.seq (.region [⟨some 4, .move (.const (.int .i64 0)), none⟩]) (.seq (.seq (.region [⟨some 6, .move (.tmp 1), none⟩, ⟨some 7, .iop .lss (.tmp 6) (.const (.int .i64 0)), none⟩, ⟨some 8, .move (.tmp 7), none⟩, ⟨some 9, .move (.tmp 1), some (8, false)⟩, ⟨some 10, .move (.tmp 0), some (8, false)⟩, ⟨some 11, .lenS (.tmp 10), some (8, false)⟩, ⟨some 12, .iop .geq (.tmp 9) (.tmp 11), some (8, false)⟩, ⟨some 13, .pick (.tmp 8) (.const (.bool true)) (.tmp 12), none⟩]) (.cond (.tmp 13) (.seq (.region [⟨some 4, .move (.const (.int .i64 0)), none⟩]) .ret) .skip)) (.seq (.region [⟨some 5, .move (.const (.int .i64 1)), none⟩]) (.seq (.block 0 (.loop [0, 1, 5] (.seq (.seq (.region [⟨some 14, .move (.tmp 5), none⟩, ⟨some 15, .iop .gtr (.tmp 14) (.const (.int .i64 0)), none⟩]) (.cond (.tmp 15) .skip (.exit 0))) (.block 1 (.seq (.seq (.region [⟨some 16, .move (.tmp 1), none⟩, ⟨some 17, .move (.tmp 0), none⟩, ⟨some 18, .lenS (.tmp 17), none⟩, ⟨some 19, .iop .geq (.tmp 16) (.tmp 18), none⟩]) (.cond (.tmp 19) (.seq (.region [⟨some 4, .move (.const (.int .i64 0)), none⟩]) .ret) .skip)) (.seq (.region [⟨some 20, .move (.tmp 5), none⟩, ⟨some 21, .iop .sub (.tmp 20) (.const (.int .i64 1)), none⟩, ⟨some 5, .move (.tmp 21), none⟩]) (.seq (.seq (.region [⟨some 22, .move (.tmp 0), none⟩, ⟨some 23, .move (.tmp 1), none⟩, ⟨some 24, .iaddr 5 (.tmp 22) (.tmp 23), none⟩, ⟨some 25, .faddr 0 (.tmp 24), none⟩, ⟨some 26, .load 1 false (.tmp 25), none⟩, ⟨some 27, .iop .eql (.tmp 26) (.const (.int .u8 3)), none⟩, ⟨some 28, .move (.tmp 27), none⟩, ⟨some 29, .move (.tmp 0), some (28, true)⟩, ⟨some 30, .move (.tmp 1), some (28, true)⟩, ⟨some 31, .iaddr 5 (.tmp 29) (.tmp 30), some (28, true)⟩, ⟨some 32, .faddr 2 (.tmp 31), some (28, true)⟩, ⟨some 33, .load 1 false (.tmp 32), some (28, true)⟩, ⟨some 34, .iop .gtr (.tmp 33) (.const (.int .i64 0)), some (28, true)⟩, ⟨some 35, .pick (.tmp 28) (.tmp 34) (.const (.bool false)), none⟩]) (.cond (.tmp 35) (.seq (.seq (.region [⟨some 36, .move (.tmp 0), none⟩, ⟨some 37, .move (.tmp 1), none⟩, ⟨some 38, .iaddr 5 (.tmp 36) (.tmp 37), none⟩, ⟨some 39, .faddr 2 (.tmp 38), none⟩, ⟨some 40, .load 1 false (.tmp 39), none⟩, ⟨some 41, .move (.tmp 0), none⟩, ⟨some 42, .lenS (.tmp 41), none⟩, ⟨some 43, .iop .gtr (.tmp 40) (.tmp 42), none⟩]) (.cond (.tmp 43) (.seq (.region [⟨some 4, .move (.const (.int .i64 0)), none⟩]) .ret) .skip)) (.region [⟨some 44, .move (.tmp 5), none⟩, ⟨some 45, .move (.tmp 0), none⟩, ⟨some 46, .move (.tmp 1), none⟩, ⟨some 47, .iaddr 5 (.tmp 45) (.tmp 46), none⟩, ⟨some 48, .faddr 2 (.tmp 47), none⟩, ⟨some 49, .load 1 false (.tmp 48), none⟩, ⟨some 50, .iop .add (.tmp 44) (.tmp 49), none⟩, ⟨some 5, .move (.tmp 50), none⟩])) .skip)) (.region [⟨some 51, .move (.tmp 1), none⟩, ⟨some 52, .iop .add (.tmp 51) (.const (.int .i64 1)), none⟩, ⟨some 1, .move (.tmp 52), none⟩])))))))) (.seq (.region [⟨some 53, .move (.tmp 1), none⟩, ⟨some 4, .move (.tmp 53), none⟩]) .ret))))), [.tmp 4]⟩

/-- purlin/purlinref01.copied -/
def a119 : AFunc := ⟨7, (.seq (.region [⟨some 2, .move (.const .nilslice), none⟩]) (.seq (.region [⟨some 3, .move (.const .nilslice), none⟩]) (.seq (.region [⟨some 4, .move (.tmp 3), none⟩, ⟨some 5, .move (.tmp 0), none⟩, ⟨some 6, .append 5 48 (.tmp 4) (.tmp 5), none⟩, ⟨some 2, .move (.tmp 6), none⟩]) .ret))), [.tmp 2]⟩

/-- slices.Concat[[]purlin/api.Term,purlin/api.Term] -/
def a120 : AFunc := ⟨36, (.seq (.region [⟨some 2, .move (.const .nilslice), none⟩]) (.seq (.region [⟨some 3, .move (.const (.int .i64 0)), none⟩]) (.seq (.seq (.region [⟨some 9, .move (.tmp 0), none⟩, ⟨some 10, .lenS (.tmp 9), none⟩, ⟨some 11, .move (.const (.int .i64 0)), none⟩]) (.block 0 (.loop [0, 3, 9, 10, 11] (.seq (.region [⟨some 12, .iop .lss (.tmp 11) (.tmp 10), none⟩]) (.seq (.cond (.tmp 12) .skip (.exit 0)) (.seq (.block 1 (.seq (.region [⟨some 13, .iaddr 1 (.tmp 9) (.tmp 11), none⟩, ⟨some 14, .load 1 false (.tmp 13), none⟩, ⟨some 5, .move (.tmp 14), none⟩]) (.seq (.region [⟨some 15, .move (.tmp 3), none⟩, ⟨some 16, .move (.tmp 5), none⟩, ⟨some 17, .lenS (.tmp 16), none⟩, ⟨some 18, .iop .add (.tmp 15) (.tmp 17), none⟩, ⟨some 3, .move (.tmp 18), none⟩]) (.seq (.region [⟨some 19, .move (.tmp 3), none⟩, ⟨some 20, .iop .lss (.tmp 19) (.const (.int .i64 0)), none⟩]) (.cond (.tmp 20) (.region [⟨some 21, .mkiface 9 (.const (.str [108, 101, 110, 32, 111, 117, 116, 32, 111, 102, 32, 114, 97, 110, 103, 101])), none⟩, ⟨none, .fail, none⟩]) .skip))))) (.region [⟨some 22, .iop .add (.tmp 11) (.const (.int .i64 1)), none⟩, ⟨some 11, .move (.tmp 22), none⟩]))))))) (.seq (.region [⟨some 23, .move (.tmp 3), none⟩, ⟨some 24, .call .shared 163 [(.const .nilslice), (.tmp 23)], none⟩, ⟨some 6, .move (.tmp 24), none⟩]) (.seq (.seq (.region [⟨some 25, .move (.tmp 0), none⟩, ⟨some 26, .lenS (.tmp 25), none⟩, ⟨some 27, .move (.const (.int .i64 0)), none⟩]) (.block 2 (.loop [6, 25, 26, 27] (.seq (.region [⟨some 28, .iop .lss (.tmp 27) (.tmp 26), none⟩]) (.seq (.cond (.tmp 28) .skip (.exit 2)) (.seq (.block 3 (.seq (.region [⟨some 29, .iaddr 1 (.tmp 25) (.tmp 27), none⟩, ⟨some 30, .load 1 false (.tmp 29), none⟩, ⟨some 8, .move (.tmp 30), none⟩]) (.region [⟨some 31, .move (.tmp 6), none⟩, ⟨some 32, .move (.tmp 8), none⟩, ⟨some 33, .append 1 24 (.tmp 31) (.tmp 32), none⟩, ⟨some 6, .move (.tmp 33), none⟩]))) (.region [⟨some 34, .iop .add (.tmp 27) (.const (.int .i64 1)), none⟩, ⟨some 27, .move (.tmp 34), none⟩]))))))) (.seq (.region [⟨some 35, .move (.tmp 6), none⟩, ⟨some 2, .move (.tmp 35), none⟩]) .ret)))))), [.tmp 2]⟩

/-- purlin/purlinmem.text -/
def a121 : AFunc := ⟨20, (.seq (.region [⟨some 2, .move (.const (.str [])), none⟩]) (.seq (.region [⟨some 3, .move (.tmp 0), none⟩, ⟨some 4, .iop .rem (.tmp 3) (.const (.int .i64 26)), none⟩, ⟨some 5, .iop .add (.const (.int .i64 97)) (.tmp 4), none⟩, ⟨some 6, .convI .u8 (.tmp 5), none⟩, ⟨some 7, .move (.tmp 0), none⟩, ⟨some 8, .iop .quo (.tmp 7) (.const (.int .i64 26)), none⟩, ⟨some 9, .iop .rem (.tmp 8) (.const (.int .i64 26)), none⟩, ⟨some 10, .iop .add (.const (.int .i64 97)) (.tmp 9), none⟩, ⟨some 11, .convI .u8 (.tmp 10), none⟩, ⟨some 12, .move (.tmp 0), none⟩, ⟨some 13, .iop .quo (.tmp 12) (.const (.int .i64 676)), none⟩, ⟨some 14, .iop .rem (.tmp 13) (.const (.int .i64 26)), none⟩, ⟨some 15, .iop .add (.const (.int .i64 97)) (.tmp 14), none⟩, ⟨some 16, .convI .u8 (.tmp 15), none⟩, ⟨some 17, .lit 1 [(.int .u8 0)] false 3 [(0, (.tmp 6)), (1, (.tmp 11)), (2, (.tmp 16))], none⟩, ⟨some 18, .fail, none⟩, ⟨some 19, .sop .add (.const (.str [109, 97, 114, 107, 32])) (.tmp 18), none⟩, ⟨some 2, .move (.tmp 19), none⟩]) .ret)), [.tmp 2]⟩

/-- purlin/purlinmem.SameCells -/
def a122 : AFunc := ⟨26, (.seq (.region [⟨some 4, .move (.const (.bool false)), none⟩]) (.seq (.seq (.region [⟨some 6, .move (.tmp 0), none⟩, ⟨some 7, .lenS (.tmp 6), none⟩, ⟨some 8, .move (.tmp 1), none⟩, ⟨some 9, .lenS (.tmp 8), none⟩, ⟨some 10, .iop .neq (.tmp 7) (.tmp 9), none⟩]) (.cond (.tmp 10) (.seq (.region [⟨some 4, .move (.const (.bool false)), none⟩]) .ret) .skip)) (.seq (.seq (.region [⟨some 5, .move (.const (.int .i64 0)), none⟩]) (.block 0 (.loop [0, 1, 5] (.seq (.seq (.region [⟨some 11, .move (.tmp 5), none⟩, ⟨some 12, .move (.tmp 0), none⟩, ⟨some 13, .lenS (.tmp 12), none⟩, ⟨some 14, .iop .lss (.tmp 11) (.tmp 13), none⟩]) (.cond (.tmp 14) .skip (.exit 0))) (.seq (.block 1 (.seq (.region [⟨some 17, .move (.tmp 0), none⟩, ⟨some 18, .move (.tmp 5), none⟩, ⟨some 19, .iaddr 5 (.tmp 17) (.tmp 18), none⟩, ⟨some 20, .load 5 true (.tmp 19), none⟩, ⟨some 21, .move (.tmp 1), none⟩, ⟨some 22, .move (.tmp 5), none⟩, ⟨some 23, .iaddr 5 (.tmp 21) (.tmp 22), none⟩, ⟨some 24, .load 5 true (.tmp 23), none⟩, ⟨some 25, .eqs true [.i, .s, .i, .i, .i] (.tmp 20) (.tmp 24), none⟩]) (.cond (.tmp 25) (.seq (.region [⟨some 4, .move (.const (.bool false)), none⟩]) .ret) .skip))) (.region [⟨some 15, .move (.tmp 5), none⟩, ⟨some 16, .iop .add (.tmp 15) (.const (.int .i64 1)), none⟩, ⟨some 5, .move (.tmp 16), none⟩])))))) (.seq (.region [⟨some 4, .move (.const (.bool true)), none⟩]) .ret)))), [.tmp 4]⟩

/-- purlin/term.Global$1 -/
def a124 : AFunc := ⟨12, (.seq (.region [⟨some 1, .box (.tmp 0), none⟩, ⟨some 2, .move (.const (.bool false)), none⟩]) (.seq (.region [⟨some 3, .faddr 0 (.tmp 1), none⟩, ⟨some 4, .load 1 false (.tmp 3), none⟩, ⟨some 5, .iop .eql (.tmp 4) (.const (.int .u8 4)), none⟩, ⟨some 6, .move (.tmp 5), none⟩, ⟨some 7, .faddr 3 (.tmp 1), some (6, true)⟩, ⟨some 8, .faddr 0 (.tmp 7), some (6, true)⟩, ⟨some 9, .load 1 false (.tmp 8), some (6, true)⟩, ⟨some 10, .iop .eql (.tmp 9) (.const (.int .i64 (-1))), some (6, true)⟩, ⟨some 11, .pick (.tmp 6) (.tmp 10) (.const (.bool false)), none⟩, ⟨some 2, .move (.tmp 11), none⟩]) .ret)), [.tmp 2]⟩

/-- slices.ContainsFunc[[]purlin/api.Term,purlin/api.Term] -/
def a125 : AFunc := ⟨9, (.seq (.region [⟨some 4, .move (.const (.bool false)), none⟩]) (.seq (.region [⟨some 5, .move (.tmp 0), none⟩, ⟨some 6, .move (.tmp 1), none⟩, ⟨some 7, .call .shared 164 [(.tmp 5), (.tmp 6)], none⟩, ⟨some 8, .iop .geq (.tmp 7) (.const (.int .i64 0)), none⟩, ⟨some 4, .move (.tmp 8), none⟩]) .ret)), [.tmp 4]⟩

/-- purlin/term.Make$1 -/
def a126 : AFunc := ⟨6, (.seq (.region [⟨some 2, .move (.const (.bool false)), none⟩]) (.seq (.region [⟨some 3, .move (.tmp 0), none⟩, ⟨some 4, .call .shared 60 [(.tmp 3)], none⟩, ⟨some 5, .not (.tmp 4), none⟩, ⟨some 2, .move (.tmp 5), none⟩]) .ret)), [.tmp 2]⟩

/-- slices.Concat[purlin/api.Term,purlin/api.Cell] -/
def a127 : AFunc := ⟨36, (.seq (.region [⟨some 2, .move (.const .nilslice), none⟩]) (.seq (.region [⟨some 3, .move (.const (.int .i64 0)), none⟩]) (.seq (.seq (.region [⟨some 9, .move (.tmp 0), none⟩, ⟨some 10, .lenS (.tmp 9), none⟩, ⟨some 11, .move (.const (.int .i64 0)), none⟩]) (.block 0 (.loop [0, 3, 9, 10, 11] (.seq (.region [⟨some 12, .iop .lss (.tmp 11) (.tmp 10), none⟩]) (.seq (.cond (.tmp 12) .skip (.exit 0)) (.seq (.block 1 (.seq (.region [⟨some 13, .iaddr 1 (.tmp 9) (.tmp 11), none⟩, ⟨some 14, .load 1 false (.tmp 13), none⟩, ⟨some 5, .move (.tmp 14), none⟩]) (.seq (.region [⟨some 15, .move (.tmp 3), none⟩, ⟨some 16, .move (.tmp 5), none⟩, ⟨some 17, .lenS (.tmp 16), none⟩, ⟨some 18, .iop .add (.tmp 15) (.tmp 17), none⟩, ⟨some 3, .move (.tmp 18), none⟩]) (.seq (.region [⟨some 19, .move (.tmp 3), none⟩, ⟨some 20, .iop .lss (.tmp 19) (.const (.int .i64 0)), none⟩]) (.cond (.tmp 20) (.region [⟨some 21, .mkiface 9 (.const (.str [108, 101, 110, 32, 111, 117, 116, 32, 111, 102, 32, 114, 97, 110, 103, 101])), none⟩, ⟨none, .fail, none⟩]) .skip))))) (.region [⟨some 22, .iop .add (.tmp 11) (.const (.int .i64 1)), none⟩, ⟨some 11, .move (.tmp 22), none⟩]))))))) (.seq (.region [⟨some 23, .move (.tmp 3), none⟩, ⟨some 24, .call .shared 165 [(.const .nilslice), (.tmp 23)], none⟩, ⟨some 6, .move (.tmp 24), none⟩]) (.seq (.seq (.region [⟨some 25, .move (.tmp 0), none⟩, ⟨some 26, .lenS (.tmp 25), none⟩, ⟨some 27, .move (.const (.int .i64 0)), none⟩]) (.block 2 (.loop [6, 25, 26, 27] (.seq (.region [⟨some 28, .iop .lss (.tmp 27) (.tmp 26), none⟩]) (.seq (.cond (.tmp 28) .skip (.exit 2)) (.seq (.block 3 (.seq (.region [⟨some 29, .iaddr 1 (.tmp 25) (.tmp 27), none⟩, ⟨some 30, .load 1 false (.tmp 29), none⟩, ⟨some 8, .move (.tmp 30), none⟩]) (.region [⟨some 31, .move (.tmp 6), none⟩, ⟨some 32, .move (.tmp 8), none⟩, ⟨some 33, .append 5 48 (.tmp 31) (.tmp 32), none⟩, ⟨some 6, .move (.tmp 33), none⟩]))) (.region [⟨some 34, .iop .add (.tmp 27) (.const (.int .i64 1)), none⟩, ⟨some 27, .move (.tmp 34), none⟩]))))))) (.seq (.region [⟨some 35, .move (.tmp 6), none⟩, ⟨some 2, .move (.tmp 35), none⟩]) .ret)))))), [.tmp 2]⟩

/-- purlin/term.single -/
def a137 : AFunc := ⟨9, (.seq (.region [⟨some 1, .box (.tmp 0), none⟩, ⟨some 2, .move (.const .nilslice), none⟩]) (.seq (.seq (.region [⟨some 4, .load 5 true (.tmp 1), none⟩, ⟨some 5, .lit 5 [(.int .u8 0), (.str []), (.int .i64 0), (.int .i64 0), (.int .i64 0)] true 1 [(0, (.tmp 4))], none⟩, ⟨some 3, .move (.tmp 5), none⟩]) (.seq (.region [⟨some 6, .move (.tmp 3), none⟩, ⟨some 7, .call .shared 60 [(.tmp 6)], none⟩]) (.cond (.tmp 7) (.seq (.region [⟨some 8, .move (.tmp 3), none⟩, ⟨some 2, .move (.tmp 8), none⟩]) .ret) .skip))) (.seq (.region [⟨some 2, .move (.const .nilslice), none⟩]) .ret))), [.tmp 2]⟩

/-- purlin/term.parts -/
def a151 : AFunc := ⟨9, (.seq (.region [⟨some 1, .box (.tmp 0), none⟩, ⟨some 2, .move (.const (.int .i64 0)), none⟩]) (.seq (.seq (.region [⟨some 3, .faddr 0 (.tmp 1), none⟩, ⟨some 4, .load 1 false (.tmp 3), none⟩, ⟨some 5, .iop .neq (.tmp 4) (.const (.int .u8 3)), none⟩]) (.cond (.tmp 5) (.seq (.region [⟨some 2, .move (.const (.int .i64 0)), none⟩]) .ret) .skip)) (.seq (.region [⟨some 6, .faddr 2 (.tmp 1), none⟩, ⟨some 7, .load 1 false (.tmp 6), none⟩, ⟨some 8, .maxI [(.tmp 7), (.const (.int .i64 0))], none⟩, ⟨some 2, .move (.tmp 8), none⟩]) .ret))), [.tmp 2]⟩

/-- slices.IndexFunc[purlin/api.Term,purlin/api.Cell] -/
def a152 : AFunc := ⟨19, (.seq (.region [⟨some 4, .move (.const (.int .i64 0)), none⟩]) (.seq (.seq (.region [⟨some 6, .move (.tmp 0), none⟩, ⟨some 7, .lenS (.tmp 6), none⟩, ⟨some 8, .move (.const (.int .i64 0)), none⟩]) (.block 0 (.loop [0, 1, 7, 8] (.seq (.region [⟨some 9, .iop .lss (.tmp 8) (.tmp 7), none⟩]) (.seq (.cond (.tmp 9) .skip (.exit 0)) (.seq (.block 1 (.seq (.region [⟨some 10, .move (.tmp 8), none⟩, ⟨some 5, .move (.tmp 10), none⟩]) (.seq (.region [⟨some 11, .move (.tmp 1), none⟩, ⟨some 12, .move (.tmp 0), none⟩, ⟨some 13, .move (.tmp 5), none⟩, ⟨some 14, .iaddr 5 (.tmp 12) (.tmp 13), none⟩, ⟨some 15, .load 5 true (.tmp 14), none⟩, ⟨some 16, .callv .shared (.tmp 11) [(.tmp 15)], none⟩]) (.cond (.tmp 16) (.seq (.region [⟨some 17, .move (.tmp 5), none⟩, ⟨some 4, .move (.tmp 17), none⟩]) .ret) .skip)))) (.region [⟨some 18, .iop .add (.tmp 8) (.const (.int .i64 1)), none⟩, ⟨some 8, .move (.tmp 18), none⟩]))))))) (.seq (.region [⟨some 4, .move (.const (.int .i64 (-1))), none⟩]) .ret))), [.tmp 4]⟩

/-- purlin/term.rule$1 -/
def a153 : AFunc := ⟨18, (.seq (.region [⟨some 1, .box (.tmp 0), none⟩, ⟨some 2, .move (.const (.bool false)), none⟩]) (.seq (.region [⟨some 3, .faddr 2 (.tmp 1), none⟩, ⟨some 4, .load 1 false (.tmp 3), none⟩, ⟨some 5, .iop .geq (.tmp 4) (.const (.int .i64 (-2147483648))), none⟩, ⟨some 6, .move (.tmp 5), none⟩, ⟨some 7, .faddr 2 (.tmp 1), some (6, true)⟩, ⟨some 8, .load 1 false (.tmp 7), some (6, true)⟩, ⟨some 9, .iop .leq (.tmp 8) (.const (.int .i64 2147483648)), some (6, true)⟩, ⟨some 10, .pick (.tmp 6) (.tmp 9) (.const (.bool false)), none⟩, ⟨some 11, .move (.tmp 10), none⟩, ⟨some 12, .load 5 true (.tmp 1), some (11, true)⟩, ⟨some 13, .faddr 2 (.tmp 1), some (11, true)⟩, ⟨some 14, .load 1 false (.tmp 13), some (11, true)⟩, ⟨some 15, .build [(.int .u8 0), (.str []), (.int .i64 0), (.int .i64 0), (.int .i64 0)] [(0, 1, (.const (.int .u8 1))), (2, 1, (.tmp 14))], some (11, true)⟩, ⟨some 16, .call .shared 154 [(.tmp 12), (.tmp 15)], some (11, true)⟩, ⟨some 17, .pick (.tmp 11) (.tmp 16) (.const (.bool false)), none⟩, ⟨some 2, .move (.tmp 17), none⟩]) .ret)), [.tmp 2]⟩

/-- purlin/term.only -/
def a154 : AFunc := ⟨8, (.seq (.region [⟨some 2, .box (.tmp 0), none⟩, ⟨some 3, .box (.tmp 1), none⟩, ⟨some 4, .move (.const (.bool false)), none⟩]) (.seq (.region [⟨some 5, .load 5 true (.tmp 2), none⟩, ⟨some 6, .load 5 true (.tmp 3), none⟩, ⟨some 7, .eqs false [.i, .s, .i, .i, .i] (.tmp 5) (.tmp 6), none⟩, ⟨some 4, .move (.tmp 7), none⟩]) .ret)), [.tmp 4]⟩

/-- purlin/term.rule$2 -/
def a155 : AFunc := ⟨13, (.seq (.region [⟨some 1, .box (.tmp 0), none⟩, ⟨some 2, .move (.const (.bool false)), none⟩]) (.seq (.region [⟨some 3, .faddr 1 (.tmp 1), none⟩, ⟨some 4, .load 1 false (.tmp 3), none⟩, ⟨some 5, .call .shared 156 [(.tmp 4)], none⟩, ⟨some 6, .move (.tmp 5), none⟩, ⟨some 7, .load 5 true (.tmp 1), some (6, true)⟩, ⟨some 8, .faddr 1 (.tmp 1), some (6, true)⟩, ⟨some 9, .load 1 false (.tmp 8), some (6, true)⟩, ⟨some 10, .build [(.int .u8 0), (.str []), (.int .i64 0), (.int .i64 0), (.int .i64 0)] [(0, 1, (.const (.int .u8 2))), (1, 1, (.tmp 9))], some (6, true)⟩, ⟨some 11, .call .shared 154 [(.tmp 7), (.tmp 10)], some (6, true)⟩, ⟨some 12, .pick (.tmp 6) (.tmp 11) (.const (.bool false)), none⟩, ⟨some 2, .move (.tmp 12), none⟩]) .ret)), [.tmp 2]⟩

/-- purlin/term.IsName -/
def a156 : AFunc := ⟨54, (.seq (.region [⟨some 2, .move (.const (.bool false)), none⟩]) (.seq (.seq (.region [⟨some 6, .move (.tmp 0), none⟩, ⟨some 7, .lenStr (.tmp 6), none⟩, ⟨some 8, .move (.const (.int .i64 0)), none⟩]) (.block 0 (.loop [0, 7, 8] (.seq (.region [⟨some 9, .iop .lss (.tmp 8) (.tmp 7), none⟩]) (.seq (.cond (.tmp 9) .skip (.exit 0)) (.seq (.block 1 (.seq (.region [⟨some 10, .move (.tmp 8), none⟩, ⟨some 3, .move (.tmp 10), none⟩]) (.seq (.region [⟨some 11, .move (.tmp 0), none⟩, ⟨some 12, .move (.tmp 3), none⟩, ⟨some 13, .strIdx (.tmp 11) (.tmp 12), none⟩, ⟨some 4, .move (.tmp 13), none⟩]) (.seq (.region [⟨some 14, .move (.tmp 4), none⟩, ⟨some 15, .iop .geq (.tmp 14) (.const (.int .u8 97)), none⟩, ⟨some 16, .move (.tmp 15), none⟩, ⟨some 17, .move (.tmp 4), some (16, true)⟩, ⟨some 18, .iop .leq (.tmp 17) (.const (.int .u8 122)), some (16, true)⟩, ⟨some 19, .pick (.tmp 16) (.tmp 18) (.const (.bool false)), none⟩, ⟨some 5, .move (.tmp 19), none⟩]) (.seq (.region [⟨some 20, .move (.tmp 5), none⟩, ⟨some 21, .not (.tmp 20), none⟩, ⟨some 22, .move (.tmp 21), none⟩, ⟨some 23, .move (.tmp 3), some (22, true)⟩, ⟨some 24, .iop .eql (.tmp 23) (.const (.int .i64 0)), some (22, true)⟩, ⟨some 25, .move (.tmp 24), some (22, true)⟩, ⟨some 26, .move (.tmp 4), some (25, false)⟩, ⟨some 27, .iop .lss (.tmp 26) (.const (.int .u8 65)), some (25, false)⟩, ⟨some 28, .move (.tmp 27), some (25, false)⟩, ⟨some 29, .move (.tmp 4), some (28, false)⟩, ⟨some 30, .iop .gtr (.tmp 29) (.const (.int .u8 90)), some (28, false)⟩, ⟨some 31, .pick (.tmp 28) (.const (.bool true)) (.tmp 30), some (25, false)⟩, ⟨some 32, .move (.tmp 31), some (25, false)⟩, ⟨some 33, .move (.tmp 4), some (32, true)⟩, ⟨some 34, .iop .lss (.tmp 33) (.const (.int .u8 48)), some (32, true)⟩, ⟨some 35, .move (.tmp 34), some (32, true)⟩, ⟨some 36, .move (.tmp 4), some (35, false)⟩, ⟨some 37, .iop .gtr (.tmp 36) (.const (.int .u8 57)), some (35, false)⟩, ⟨some 38, .pick (.tmp 35) (.const (.bool true)) (.tmp 37), some (32, true)⟩, ⟨some 39, .pick (.tmp 32) (.tmp 38) (.const (.bool false)), some (25, false)⟩, ⟨some 40, .move (.tmp 39), some (25, false)⟩, ⟨some 41, .move (.tmp 4), some (40, true)⟩, ⟨some 42, .iop .neq (.tmp 41) (.const (.int .u8 95)), some (40, true)⟩, ⟨some 43, .pick (.tmp 40) (.tmp 42) (.const (.bool false)), some (25, false)⟩, ⟨some 44, .pick (.tmp 25) (.const (.bool true)) (.tmp 43), some (22, true)⟩, ⟨some 45, .pick (.tmp 22) (.tmp 44) (.const (.bool false)), none⟩]) (.cond (.tmp 45) (.seq (.region [⟨some 2, .move (.const (.bool false)), none⟩]) .ret) .skip)))))) (.region [⟨some 46, .iop .add (.tmp 8) (.const (.int .i64 1)), none⟩, ⟨some 8, .move (.tmp 46), none⟩]))))))) (.seq (.region [⟨some 47, .move (.tmp 0), none⟩, ⟨some 48, .sop .neq (.tmp 47) (.const (.str [])), none⟩, ⟨some 49, .move (.tmp 48), none⟩, ⟨some 50, .move (.tmp 0), some (49, true)⟩, ⟨some 51, .lenStr (.tmp 50), some (49, true)⟩, ⟨some 52, .iop .leq (.tmp 51) (.const (.int .i64 16)), some (49, true)⟩, ⟨some 53, .pick (.tmp 49) (.tmp 52) (.const (.bool false)), none⟩, ⟨some 2, .move (.tmp 53), none⟩]) .ret))), [.tmp 2]⟩

/-- purlin/term.rule$3 -/
def a157 : AFunc := ⟨38, (.seq (.region [⟨some 1, .box (.tmp 0), none⟩, ⟨some 2, .move (.const (.bool false)), none⟩]) (.seq (.region [⟨some 4, .faddr 1 (.tmp 1), none⟩, ⟨some 5, .load 1 false (.tmp 4), none⟩, ⟨some 6, .call .shared 156 [(.tmp 5)], none⟩, ⟨some 7, .move (.tmp 6), none⟩, ⟨some 8, .faddr 2 (.tmp 1), some (7, true)⟩, ⟨some 9, .load 1 false (.tmp 8), some (7, true)⟩, ⟨some 10, .iop .geq (.tmp 9) (.const (.int .i64 1)), some (7, true)⟩, ⟨some 11, .pick (.tmp 7) (.tmp 10) (.const (.bool false)), none⟩, ⟨some 12, .move (.tmp 11), none⟩, ⟨some 13, .faddr 2 (.tmp 1), some (12, true)⟩, ⟨some 14, .load 1 false (.tmp 13), some (12, true)⟩, ⟨some 15, .iop .leq (.tmp 14) (.const (.int .i64 8)), some (12, true)⟩, ⟨some 16, .pick (.tmp 12) (.tmp 15) (.const (.bool false)), none⟩, ⟨some 17, .move (.tmp 16), none⟩, ⟨some 18, .gslice 12 (.glob 0), some (17, false)⟩, ⟨some 19, .faddr 1 (.tmp 1), some (17, false)⟩, ⟨some 20, .load 1 false (.tmp 19), some (17, false)⟩, ⟨some 21, .call .shared 158 [(.tmp 18), (.tmp 20)], some (17, false)⟩, ⟨some 22, .move (.tmp 21), some (17, false)⟩, ⟨some 23, .faddr 2 (.tmp 1), some (22, true)⟩, ⟨some 24, .load 1 false (.tmp 23), some (22, true)⟩, ⟨some 25, .iop .eql (.tmp 24) (.const (.int .i64 2)), some (22, true)⟩, ⟨some 26, .pick (.tmp 22) (.tmp 25) (.const (.bool false)), some (17, false)⟩, ⟨some 27, .pick (.tmp 17) (.const (.bool true)) (.tmp 26), none⟩, ⟨some 3, .move (.tmp 27), none⟩]) (.seq (.region [⟨some 28, .move (.tmp 3), none⟩, ⟨some 29, .move (.tmp 28), none⟩, ⟨some 30, .load 5 true (.tmp 1), some (29, true)⟩, ⟨some 31, .faddr 1 (.tmp 1), some (29, true)⟩, ⟨some 32, .load 1 false (.tmp 31), some (29, true)⟩, ⟨some 33, .faddr 2 (.tmp 1), some (29, true)⟩, ⟨some 34, .load 1 false (.tmp 33), some (29, true)⟩, ⟨some 35, .build [(.int .u8 0), (.str []), (.int .i64 0), (.int .i64 0), (.int .i64 0)] [(0, 1, (.const (.int .u8 3))), (1, 1, (.tmp 32)), (2, 1, (.tmp 34))], some (29, true)⟩, ⟨some 36, .call .shared 154 [(.tmp 30), (.tmp 35)], some (29, true)⟩, ⟨some 37, .pick (.tmp 29) (.tmp 36) (.const (.bool false)), none⟩, ⟨some 2, .move (.tmp 37), none⟩]) .ret))), [.tmp 2]⟩

/-- slices.Contains[[]string,string] -/
def a158 : AFunc := ⟨9, (.seq (.region [⟨some 4, .move (.const (.bool false)), none⟩]) (.seq (.region [⟨some 5, .move (.tmp 0), none⟩, ⟨some 6, .move (.tmp 1), none⟩, ⟨some 7, .call .shared 173 [(.tmp 5), (.tmp 6)], none⟩, ⟨some 8, .iop .geq (.tmp 7) (.const (.int .i64 0)), none⟩, ⟨some 4, .move (.tmp 8), none⟩]) .ret)), [.tmp 4]⟩

/-- purlin/term.rule$4 -/
def a159 : AFunc := ⟨26, (.seq (.region [⟨some 1, .box (.tmp 0), none⟩, ⟨some 2, .move (.const (.bool false)), none⟩]) (.seq (.region [⟨some 3, .faddr 3 (.tmp 1), none⟩, ⟨some 4, .faddr 0 (.tmp 3), none⟩, ⟨some 5, .load 1 false (.tmp 4), none⟩, ⟨some 6, .iop .geq (.tmp 5) (.const (.int .i64 (-1))), none⟩, ⟨some 7, .move (.tmp 6), none⟩, ⟨some 8, .faddr 3 (.tmp 1), some (7, true)⟩, ⟨some 9, .faddr 0 (.tmp 8), some (7, true)⟩, ⟨some 10, .load 1 false (.tmp 9), some (7, true)⟩, ⟨some 11, .iop .lss (.tmp 10) (.const (.int .i64 4)), some (7, true)⟩, ⟨some 12, .pick (.tmp 7) (.tmp 11) (.const (.bool false)), none⟩, ⟨some 13, .move (.tmp 12), none⟩, ⟨some 14, .faddr 3 (.tmp 1), some (13, true)⟩, ⟨some 15, .faddr 1 (.tmp 14), some (13, true)⟩, ⟨some 16, .load 1 false (.tmp 15), some (13, true)⟩, ⟨some 17, .iop .geq (.tmp 16) (.const (.int .i64 0)), some (13, true)⟩, ⟨some 18, .pick (.tmp 13) (.tmp 17) (.const (.bool false)), none⟩, ⟨some 19, .move (.tmp 18), none⟩, ⟨some 20, .load 5 true (.tmp 1), some (19, true)⟩, ⟨some 21, .faddr 3 (.tmp 1), some (19, true)⟩, ⟨some 22, .load 2 true (.tmp 21), some (19, true)⟩, ⟨some 23, .build [(.int .u8 0), (.str []), (.int .i64 0), (.int .i64 0), (.int .i64 0)] [(0, 1, (.const (.int .u8 4))), (3, 2, (.tmp 22))], some (19, true)⟩, ⟨some 24, .call .shared 154 [(.tmp 20), (.tmp 23)], some (19, true)⟩, ⟨some 25, .pick (.tmp 19) (.tmp 24) (.const (.bool false)), none⟩, ⟨some 2, .move (.tmp 25), none⟩]) .ret)), [.tmp 2]⟩

/-- purlin/term.rule$5 -/
def a160 : AFunc := ⟨3, (.seq (.region [⟨some 1, .box (.tmp 0), none⟩, ⟨some 2, .move (.const (.bool false)), none⟩]) (.seq (.region [⟨some 2, .move (.const (.bool false)), none⟩]) .ret)), [.tmp 2]⟩

/-- purlin/purlinref01.IsName -/
def a161 : AFunc := ⟨59, (.seq (.region [⟨some 2, .move (.const (.bool false)), none⟩]) (.seq (.seq (.region [⟨some 5, .move (.tmp 0), none⟩, ⟨some 6, .lenStr (.tmp 5), none⟩, ⟨some 7, .iop .lss (.tmp 6) (.const (.int .i64 1)), none⟩, ⟨some 8, .move (.tmp 7), none⟩, ⟨some 9, .move (.tmp 0), some (8, false)⟩, ⟨some 10, .lenStr (.tmp 9), some (8, false)⟩, ⟨some 11, .iop .gtr (.tmp 10) (.const (.int .i64 16)), some (8, false)⟩, ⟨some 12, .pick (.tmp 8) (.const (.bool true)) (.tmp 11), none⟩, ⟨some 13, .move (.tmp 12), none⟩, ⟨some 14, .move (.tmp 0), some (13, false)⟩, ⟨some 15, .strIdx (.tmp 14) (.const (.int .i64 0)), some (13, false)⟩, ⟨some 16, .iop .lss (.tmp 15) (.const (.int .u8 97)), some (13, false)⟩, ⟨some 17, .pick (.tmp 13) (.const (.bool true)) (.tmp 16), none⟩, ⟨some 18, .move (.tmp 17), none⟩, ⟨some 19, .move (.tmp 0), some (18, false)⟩, ⟨some 20, .strIdx (.tmp 19) (.const (.int .i64 0)), some (18, false)⟩, ⟨some 21, .iop .gtr (.tmp 20) (.const (.int .u8 122)), some (18, false)⟩, ⟨some 22, .pick (.tmp 18) (.const (.bool true)) (.tmp 21), none⟩]) (.cond (.tmp 22) (.seq (.region [⟨some 2, .move (.const (.bool false)), none⟩]) .ret) .skip)) (.seq (.seq (.region [⟨some 3, .move (.const (.int .i64 0)), none⟩]) (.block 0 (.loop [0, 3] (.seq (.seq (.region [⟨some 23, .move (.tmp 3), none⟩, ⟨some 24, .move (.tmp 0), none⟩, ⟨some 25, .lenStr (.tmp 24), none⟩, ⟨some 26, .iop .lss (.tmp 23) (.tmp 25), none⟩]) (.cond (.tmp 26) .skip (.exit 0))) (.seq (.block 1 (.seq (.region [⟨some 29, .move (.tmp 0), none⟩, ⟨some 30, .move (.tmp 3), none⟩, ⟨some 31, .strIdx (.tmp 29) (.tmp 30), none⟩, ⟨some 4, .move (.tmp 31), none⟩]) (.seq (.region [⟨some 32, .move (.tmp 4), none⟩, ⟨some 33, .iop .geq (.tmp 32) (.const (.int .u8 97)), none⟩, ⟨some 34, .move (.tmp 33), none⟩, ⟨some 35, .move (.tmp 4), some (34, true)⟩, ⟨some 36, .iop .leq (.tmp 35) (.const (.int .u8 122)), some (34, true)⟩, ⟨some 37, .pick (.tmp 34) (.tmp 36) (.const (.bool false)), none⟩, ⟨some 38, .move (.tmp 37), none⟩, ⟨some 39, .move (.tmp 4), some (38, false)⟩, ⟨some 40, .iop .geq (.tmp 39) (.const (.int .u8 65)), some (38, false)⟩, ⟨some 41, .move (.tmp 40), some (38, false)⟩, ⟨some 42, .move (.tmp 4), some (41, true)⟩, ⟨some 43, .iop .leq (.tmp 42) (.const (.int .u8 90)), some (41, true)⟩, ⟨some 44, .pick (.tmp 41) (.tmp 43) (.const (.bool false)), some (38, false)⟩, ⟨some 45, .pick (.tmp 38) (.const (.bool true)) (.tmp 44), none⟩, ⟨some 46, .move (.tmp 45), none⟩, ⟨some 47, .move (.tmp 4), some (46, false)⟩, ⟨some 48, .iop .geq (.tmp 47) (.const (.int .u8 48)), some (46, false)⟩, ⟨some 49, .move (.tmp 48), some (46, false)⟩, ⟨some 50, .move (.tmp 4), some (49, true)⟩, ⟨some 51, .iop .leq (.tmp 50) (.const (.int .u8 57)), some (49, true)⟩, ⟨some 52, .pick (.tmp 49) (.tmp 51) (.const (.bool false)), some (46, false)⟩, ⟨some 53, .pick (.tmp 46) (.const (.bool true)) (.tmp 52), none⟩, ⟨some 54, .move (.tmp 53), none⟩, ⟨some 55, .move (.tmp 4), some (54, false)⟩, ⟨some 56, .iop .eql (.tmp 55) (.const (.int .u8 95)), some (54, false)⟩, ⟨some 57, .pick (.tmp 54) (.const (.bool true)) (.tmp 56), none⟩, ⟨some 58, .not (.tmp 57), none⟩]) (.cond (.tmp 58) (.seq (.region [⟨some 2, .move (.const (.bool false)), none⟩]) .ret) .skip)))) (.region [⟨some 27, .move (.tmp 3), none⟩, ⟨some 28, .iop .add (.tmp 27) (.const (.int .i64 1)), none⟩, ⟨some 3, .move (.tmp 28), none⟩])))))) (.seq (.region [⟨some 2, .move (.const (.bool true)), none⟩]) .ret)))), [.tmp 2]⟩

/-- purlin/purlinref01.IsSign -/
def a162 : AFunc := ⟨15, (.seq (.region [⟨some 2, .move (.const (.bool false)), none⟩]) (.seq (.region [⟨some 5, .build [(.str []), (.str []), (.str []), (.str []), (.str []), (.str []), (.str []), (.str []), (.str []), (.str []), (.str []), (.str [])] [(0, 1, (.const (.str [61]))), (1, 1, (.const (.str [58, 61]))), (2, 1, (.const (.str [64]))), (3, 1, (.const (.str [43]))), (4, 1, (.const (.str [45]))), (5, 1, (.const (.str [42]))), (6, 1, (.const (.str [60]))), (7, 1, (.const (.str [61, 60]))), (8, 1, (.const (.str [62]))), (9, 1, (.const (.str [62, 61]))), (10, 1, (.const (.str [61, 58, 61]))), (11, 1, (.const (.str [61, 92, 61])))], none⟩, ⟨some 3, .alloc [(.str []), (.str []), (.str []), (.str []), (.str []), (.str []), (.str []), (.str []), (.str []), (.str []), (.str []), (.str [])], none⟩, ⟨none, .store 12 (.tmp 3) (.tmp 5), none⟩]) (.seq (.seq (.region [⟨some 4, .move (.const (.int .i64 0)), none⟩]) (.block 0 (.loop [0, 3, 4] (.seq (.seq (.region [⟨some 6, .move (.tmp 4), none⟩, ⟨some 7, .iop .lss (.tmp 6) (.const (.int .i64 12)), none⟩]) (.cond (.tmp 7) .skip (.exit 0))) (.seq (.block 1 (.seq (.region [⟨some 10, .move (.tmp 0), none⟩, ⟨some 11, .move (.tmp 4), none⟩, ⟨some 12, .aaddr 12 1 (.tmp 3) (.tmp 11), none⟩, ⟨some 13, .load 1 false (.tmp 12), none⟩, ⟨some 14, .sop .eql (.tmp 10) (.tmp 13), none⟩]) (.cond (.tmp 14) (.seq (.region [⟨some 2, .move (.const (.bool true)), none⟩]) .ret) .skip))) (.region [⟨some 8, .move (.tmp 4), none⟩, ⟨some 9, .iop .add (.tmp 8) (.const (.int .i64 1)), none⟩, ⟨some 4, .move (.tmp 9), none⟩])))))) (.seq (.region [⟨some 2, .move (.const (.bool false)), none⟩]) .ret)))), [.tmp 2]⟩

/-- slices.Grow[[]purlin/api.Term,purlin/api.Term] -/
def a163 : AFunc := ⟨27, (.seq (.region [⟨some 4, .move (.const .nilslice), none⟩]) (.seq (.seq (.region [⟨some 5, .move (.tmp 1), none⟩, ⟨some 6, .iop .lss (.tmp 5) (.const (.int .i64 0)), none⟩]) (.cond (.tmp 6) (.region [⟨some 7, .mkiface 9 (.const (.str [99, 97, 110, 110, 111, 116, 32, 98, 101, 32, 110, 101, 103, 97, 116, 105, 118, 101])), none⟩, ⟨none, .fail, none⟩]) .skip)) (.seq (.seq (.region [⟨some 8, .move (.tmp 1), none⟩, ⟨some 9, .move (.tmp 0), none⟩, ⟨some 10, .capS (.tmp 9), none⟩, ⟨some 11, .move (.tmp 0), none⟩, ⟨some 12, .lenS (.tmp 11), none⟩, ⟨some 13, .iop .sub (.tmp 10) (.tmp 12), none⟩, ⟨some 14, .iop .sub (.tmp 8) (.tmp 13), none⟩, ⟨some 1, .move (.tmp 14), none⟩]) (.seq (.region [⟨some 15, .move (.tmp 1), none⟩, ⟨some 16, .iop .gtr (.tmp 15) (.const (.int .i64 0)), none⟩]) (.cond (.tmp 16) (.region [⟨some 17, .move (.tmp 0), none⟩, ⟨some 18, .move (.tmp 0), none⟩, ⟨some 19, .capS (.tmp 18), none⟩, ⟨some 20, .sliceOp 1 (.tmp 17) none (some (.tmp 19)) none, none⟩, ⟨some 21, .move (.tmp 1), none⟩, ⟨some 22, .appendz 1 24 [.nilslice] false (.tmp 20) (.tmp 21), none⟩, ⟨some 23, .move (.tmp 0), none⟩, ⟨some 24, .lenS (.tmp 23), none⟩, ⟨some 25, .sliceOp 1 (.tmp 22) none (some (.tmp 24)) none, none⟩, ⟨some 0, .move (.tmp 25), none⟩]) .skip))) (.seq (.region [⟨some 26, .move (.tmp 0), none⟩, ⟨some 4, .move (.tmp 26), none⟩]) .ret)))), [.tmp 4]⟩

/-- slices.IndexFunc[[]purlin/api.Term,purlin/api.Term] -/
def a164 : AFunc := ⟨19, (.seq (.region [⟨some 4, .move (.const (.int .i64 0)), none⟩]) (.seq (.seq (.region [⟨some 6, .move (.tmp 0), none⟩, ⟨some 7, .lenS (.tmp 6), none⟩, ⟨some 8, .move (.const (.int .i64 0)), none⟩]) (.block 0 (.loop [0, 1, 7, 8] (.seq (.region [⟨some 9, .iop .lss (.tmp 8) (.tmp 7), none⟩]) (.seq (.cond (.tmp 9) .skip (.exit 0)) (.seq (.block 1 (.seq (.region [⟨some 10, .move (.tmp 8), none⟩, ⟨some 5, .move (.tmp 10), none⟩]) (.seq (.region [⟨some 11, .move (.tmp 1), none⟩, ⟨some 12, .move (.tmp 0), none⟩, ⟨some 13, .move (.tmp 5), none⟩, ⟨some 14, .iaddr 1 (.tmp 12) (.tmp 13), none⟩, ⟨some 15, .load 1 false (.tmp 14), none⟩, ⟨some 16, .callv .shared (.tmp 11) [(.tmp 15)], none⟩]) (.cond (.tmp 16) (.seq (.region [⟨some 17, .move (.tmp 5), none⟩, ⟨some 4, .move (.tmp 17), none⟩]) .ret) .skip)))) (.region [⟨some 18, .iop .add (.tmp 8) (.const (.int .i64 1)), none⟩, ⟨some 8, .move (.tmp 18), none⟩]))))))) (.seq (.region [⟨some 4, .move (.const (.int .i64 (-1))), none⟩]) .ret))), [.tmp 4]⟩

/-- slices.Grow[purlin/api.Term,purlin/api.Cell] -/
def a165 : AFunc := ⟨27, (.seq (.region [⟨some 4, .move (.const .nilslice), none⟩]) (.seq (.seq (.region [⟨some 5, .move (.tmp 1), none⟩, ⟨some 6, .iop .lss (.tmp 5) (.const (.int .i64 0)), none⟩]) (.cond (.tmp 6) (.region [⟨some 7, .mkiface 9 (.const (.str [99, 97, 110, 110, 111, 116, 32, 98, 101, 32, 110, 101, 103, 97, 116, 105, 118, 101])), none⟩, ⟨none, .fail, none⟩]) .skip)) (.seq (.seq (.region [⟨some 8, .move (.tmp 1), none⟩, ⟨some 9, .move (.tmp 0), none⟩, ⟨some 10, .capS (.tmp 9), none⟩, ⟨some 11, .move (.tmp 0), none⟩, ⟨some 12, .lenS (.tmp 11), none⟩, ⟨some 13, .iop .sub (.tmp 10) (.tmp 12), none⟩, ⟨some 14, .iop .sub (.tmp 8) (.tmp 13), none⟩, ⟨some 1, .move (.tmp 14), none⟩]) (.seq (.region [⟨some 15, .move (.tmp 1), none⟩, ⟨some 16, .iop .gtr (.tmp 15) (.const (.int .i64 0)), none⟩]) (.cond (.tmp 16) (.region [⟨some 17, .move (.tmp 0), none⟩, ⟨some 18, .move (.tmp 0), none⟩, ⟨some 19, .capS (.tmp 18), none⟩, ⟨some 20, .sliceOp 5 (.tmp 17) none (some (.tmp 19)) none, none⟩, ⟨some 21, .move (.tmp 1), none⟩, ⟨some 22, .appendz 5 48 [(.int .u8 0), (.str []), (.int .i64 0), (.int .i64 0), (.int .i64 0)] true (.tmp 20) (.tmp 21), none⟩, ⟨some 23, .move (.tmp 0), none⟩, ⟨some 24, .lenS (.tmp 23), none⟩, ⟨some 25, .sliceOp 5 (.tmp 22) none (some (.tmp 24)) none, none⟩, ⟨some 0, .move (.tmp 25), none⟩]) .skip))) (.seq (.region [⟨some 26, .move (.tmp 0), none⟩, ⟨some 4, .move (.tmp 26), none⟩]) .ret)))), [.tmp 4]⟩

/-- slices.Index[[]string,string] -/
def a173 : AFunc := ⟨19, (.seq (.region [⟨some 4, .move (.const (.int .i64 0)), none⟩]) (.seq (.seq (.region [⟨some 6, .move (.tmp 0), none⟩, ⟨some 7, .lenS (.tmp 6), none⟩, ⟨some 8, .move (.const (.int .i64 0)), none⟩]) (.block 0 (.loop [0, 1, 7, 8] (.seq (.region [⟨some 9, .iop .lss (.tmp 8) (.tmp 7), none⟩]) (.seq (.cond (.tmp 9) .skip (.exit 0)) (.seq (.block 1 (.seq (.region [⟨some 10, .move (.tmp 8), none⟩, ⟨some 5, .move (.tmp 10), none⟩]) (.seq (.region [⟨some 11, .move (.tmp 1), none⟩, ⟨some 12, .move (.tmp 0), none⟩, ⟨some 13, .move (.tmp 5), none⟩, ⟨some 14, .iaddr 1 (.tmp 12) (.tmp 13), none⟩, ⟨some 15, .load 1 false (.tmp 14), none⟩, ⟨some 16, .sop .eql (.tmp 11) (.tmp 15), none⟩]) (.cond (.tmp 16) (.seq (.region [⟨some 17, .move (.tmp 5), none⟩, ⟨some 4, .move (.tmp 17), none⟩]) .ret) .skip)))) (.region [⟨some 18, .iop .add (.tmp 8) (.const (.int .i64 1)), none⟩, ⟨some 8, .move (.tmp 18), none⟩]))))))) (.seq (.region [⟨some 4, .move (.const (.int .i64 (-1))), none⟩]) .ret))), [.tmp 4]⟩


def ir0 : FuncId → Option AFunc
  | 3 => some a3
  | 14 => some a14
  | 15 => some a15
  | 16 => some a16
  | 17 => some a17
  | 18 => some a18
  | 19 => some a19
  | 20 => some a20
  | 21 => some a21
  | 23 => some a23
  | 37 => some a37
  | 48 => some a48
  | 50 => some a50
  | 59 => some a59
  | 60 => some a60
  | 61 => some a61
  | 62 => some a62
  | 63 => some a63
  | 64 => some a64
  | 65 => some a65
  | 66 => some a66
  | 67 => some a67
  | 68 => some a68
  | 69 => some a69
  | 70 => some a70
  | 71 => some a71
  | 72 => some a72
  | 73 => some a73
  | 74 => some a74
  | 75 => some a75
  | 78 => some a78
  | 79 => some a79
  | 80 => some a80
  | 81 => some a81
  | 88 => some a88
  | 90 => some a90
  | 100 => some a100
  | 101 => some a101
  | 106 => some a106
  | 107 => some a107
  | _ => none
def ir1 : FuncId → Option AFunc
  | 113 => some a113
  | 114 => some a114
  | 115 => some a115
  | 116 => some a116
  | 117 => some a117
  | 118 => some a118
  | 119 => some a119
  | 120 => some a120
  | 121 => some a121
  | 122 => some a122
  | 124 => some a124
  | 125 => some a125
  | 126 => some a126
  | 127 => some a127
  | 137 => some a137
  | 151 => some a151
  | 152 => some a152
  | 153 => some a153
  | 154 => some a154
  | 155 => some a155
  | 156 => some a156
  | 157 => some a157
  | 158 => some a158
  | 159 => some a159
  | 160 => some a160
  | 161 => some a161
  | 162 => some a162
  | 163 => some a163
  | 164 => some a164
  | 165 => some a165
  | 173 => some a173
  | _ => none
def orF (a b : Option AFunc) : Option AFunc := match a with | some x => some x | none => b
def ir (f : FuncId) : Option AFunc := orF (ir0 f) (ir1 f)
def cfg : Cfg := ⟨ir, fun f => f, fun g => if g = 0 then some [.str [61], .str [58, 61], .str [64], .str [43], .str [45], .str [42], .str [60], .str [61, 60], .str [62], .str [62, 61], .str [61, 58, 61], .str [61, 92, 61]] else none, fun _ => none⟩
end Go.Proofs.YtkjnanfkclijcaaDoor.Am.CU

/-
  EACH TEXT STANDS FOR THE MODEL's FUNCTION: checked by evaluation.
-/
namespace Go.Proofs.YtkjnanfkclijcaaDoor.Am.CU
open Go Go.Proofs.YtkjnanfkclijcaaDoor.Am
set_option linter.unusedVariables false
set_option maxRecDepth 100000
set_option maxHeartbeats 4000000

theorem ok3 : FnOk cfg Tryd.prog 3 a3 := ⟨⟨Tryd.f3, _, Tryd.func3, by decide, rfl, rfl, by kernel_rfl, by kernel_rfl⟩⟩
theorem ok14 : FnOk cfg Tryd.prog 14 a14 := ⟨⟨Tryd.f14, _, Tryd.func14, by decide, rfl, rfl, by kernel_rfl, by kernel_rfl⟩⟩
theorem ok15 : FnOk cfg Tryd.prog 15 a15 := ⟨⟨Tryd.f15, _, Tryd.func15, by decide, rfl, rfl, by kernel_rfl, by kernel_rfl⟩⟩
theorem ok16 : FnOk cfg Tryd.prog 16 a16 := ⟨⟨Tryd.f16, _, Tryd.func16, by decide, rfl, rfl, by kernel_rfl, by kernel_rfl⟩⟩
theorem ok17 : FnOk cfg Tryd.prog 17 a17 := ⟨⟨Tryd.f17, _, Tryd.func17, by decide, rfl, rfl, by kernel_rfl, by kernel_rfl⟩⟩
theorem ok18 : FnOk cfg Tryd.prog 18 a18 := ⟨⟨Tryd.f18, _, Tryd.func18, by decide, rfl, rfl, by kernel_rfl, by kernel_rfl⟩⟩
theorem ok19 : FnOk cfg Tryd.prog 19 a19 := ⟨⟨Tryd.f19, _, Tryd.func19, by decide, rfl, rfl, by kernel_rfl, by kernel_rfl⟩⟩
theorem ok20 : FnOk cfg Tryd.prog 20 a20 := ⟨⟨Tryd.f20, _, Tryd.func20, by decide, rfl, rfl, by kernel_rfl, by kernel_rfl⟩⟩
theorem ok21 : FnOk cfg Tryd.prog 21 a21 := ⟨⟨Tryd.f21, _, Tryd.func21, by decide, rfl, rfl, by kernel_rfl, by kernel_rfl⟩⟩
theorem ok23 : FnOk cfg Tryd.prog 23 a23 := ⟨⟨Tryd.f23, _, Tryd.func23, by decide, rfl, rfl, by kernel_rfl, by kernel_rfl⟩⟩
theorem ok37 : FnOk cfg Tryd.prog 37 a37 := ⟨⟨Tryd.f37, _, Tryd.func37, by decide, rfl, rfl, by kernel_rfl, by kernel_rfl⟩⟩
theorem ok48 : FnOk cfg Tryd.prog 48 a48 := ⟨⟨Tryd.f48, _, Tryd.func48, by decide, rfl, rfl, by kernel_rfl, by kernel_rfl⟩⟩
theorem ok50 : FnOk cfg Tryd.prog 50 a50 := ⟨⟨Tryd.f50, _, Tryd.func50, by decide, rfl, rfl, by kernel_rfl, by kernel_rfl⟩⟩
theorem ok59 : FnOk cfg Tryd.prog 59 a59 := ⟨⟨Tryd.f59, _, Tryd.func59, by decide, rfl, rfl, by kernel_rfl, by kernel_rfl⟩⟩
theorem ok60 : FnOk cfg Tryd.prog 60 a60 := ⟨⟨Tryd.f60, _, Tryd.func60, by decide, rfl, rfl, by kernel_rfl, by kernel_rfl⟩⟩
theorem ok61 : FnOk cfg Tryd.prog 61 a61 := ⟨⟨Tryd.f61, _, Tryd.func61, by decide, rfl, rfl, by kernel_rfl, by kernel_rfl⟩⟩
theorem ok62 : FnOk cfg Tryd.prog 62 a62 := ⟨⟨Tryd.f62, _, Tryd.func62, by decide, rfl, rfl, by kernel_rfl, by kernel_rfl⟩⟩
theorem ok63 : FnOk cfg Tryd.prog 63 a63 := ⟨⟨Tryd.f63, _, Tryd.func63, by decide, rfl, rfl, by kernel_rfl, by kernel_rfl⟩⟩
theorem ok64 : FnOk cfg Tryd.prog 64 a64 := ⟨⟨Tryd.f64, _, Tryd.func64, by decide, rfl, rfl, by kernel_rfl, by kernel_rfl⟩⟩
theorem ok65 : FnOk cfg Tryd.prog 65 a65 := ⟨⟨Tryd.f65, _, Tryd.func65, by decide, rfl, rfl, by kernel_rfl, by kernel_rfl⟩⟩
theorem ok66 : FnOk cfg Tryd.prog 66 a66 := ⟨⟨Tryd.f66, _, Tryd.func66, by decide, rfl, rfl, by kernel_rfl, by kernel_rfl⟩⟩
theorem ok67 : FnOk cfg Tryd.prog 67 a67 := ⟨⟨Tryd.f67, _, Tryd.func67, by decide, rfl, rfl, by kernel_rfl, by kernel_rfl⟩⟩
theorem ok68 : FnOk cfg Tryd.prog 68 a68 := ⟨⟨Tryd.f68, _, Tryd.func68, by decide, rfl, rfl, by kernel_rfl, by kernel_rfl⟩⟩
theorem ok69 : FnOk cfg Tryd.prog 69 a69 := ⟨⟨Tryd.f69, _, Tryd.func69, by decide, rfl, rfl, by kernel_rfl, by kernel_rfl⟩⟩
theorem ok70 : FnOk cfg Tryd.prog 70 a70 := ⟨⟨Tryd.f70, _, Tryd.func70, by decide, rfl, rfl, by kernel_rfl, by kernel_rfl⟩⟩
theorem ok71 : FnOk cfg Tryd.prog 71 a71 := ⟨⟨Tryd.f71, _, Tryd.func71, by decide, rfl, rfl, by kernel_rfl, by kernel_rfl⟩⟩
theorem ok72 : FnOk cfg Tryd.prog 72 a72 := ⟨⟨Tryd.f72, _, Tryd.func72, by decide, rfl, rfl, by kernel_rfl, by kernel_rfl⟩⟩
theorem ok73 : FnOk cfg Tryd.prog 73 a73 := ⟨⟨Tryd.f73, _, Tryd.func73, by decide, rfl, rfl, by kernel_rfl, by kernel_rfl⟩⟩
theorem ok74 : FnOk cfg Tryd.prog 74 a74 := ⟨⟨Tryd.f74, _, Tryd.func74, by decide, rfl, rfl, by kernel_rfl, by kernel_rfl⟩⟩
theorem ok75 : FnOk cfg Tryd.prog 75 a75 := ⟨⟨Tryd.f75, _, Tryd.func75, by decide, rfl, rfl, by kernel_rfl, by kernel_rfl⟩⟩
theorem ok78 : FnOk cfg Tryd.prog 78 a78 := ⟨⟨Tryd.f78, _, Tryd.func78, by decide, rfl, rfl, by kernel_rfl, by kernel_rfl⟩⟩
theorem ok79 : FnOk cfg Tryd.prog 79 a79 := ⟨⟨Tryd.f79, _, Tryd.func79, by decide, rfl, rfl, by kernel_rfl, by kernel_rfl⟩⟩
theorem ok80 : FnOk cfg Tryd.prog 80 a80 := ⟨⟨Tryd.f80, _, Tryd.func80, by decide, rfl, rfl, by kernel_rfl, by kernel_rfl⟩⟩
theorem ok81 : FnOk cfg Tryd.prog 81 a81 := ⟨⟨Tryd.f81, _, Tryd.func81, by decide, rfl, rfl, by kernel_rfl, by kernel_rfl⟩⟩
theorem ok88 : FnOk cfg Tryd.prog 88 a88 := ⟨⟨Tryd.f88, _, Tryd.func88, by decide, rfl, rfl, by kernel_rfl, by kernel_rfl⟩⟩
theorem ok90 : FnOk cfg Tryd.prog 90 a90 := ⟨⟨Tryd.f90, _, Tryd.func90, by decide, rfl, rfl, by kernel_rfl, by kernel_rfl⟩⟩
theorem ok100 : FnOk cfg Tryd.prog 100 a100 := ⟨⟨Tryd.f100, _, Tryd.func100, by decide, rfl, rfl, by kernel_rfl, by kernel_rfl⟩⟩
theorem ok101 : FnOk cfg Tryd.prog 101 a101 := ⟨⟨Tryd.f101, _, Tryd.func101, by decide, rfl, rfl, by kernel_rfl, by kernel_rfl⟩⟩
theorem ok106 : FnOk cfg Tryd.prog 106 a106 := ⟨⟨Tryd.f106, _, Tryd.func106, by decide, rfl, rfl, by kernel_rfl, by kernel_rfl⟩⟩
theorem ok107 : FnOk cfg Tryd.prog 107 a107 := ⟨⟨Tryd.f107, _, Tryd.func107, by decide, rfl, rfl, by kernel_rfl, by kernel_rfl⟩⟩
theorem ok113 : FnOk cfg Tryd.prog 113 a113 := ⟨⟨Tryd.f113, _, Tryd.func113, by decide, rfl, rfl, by kernel_rfl, by kernel_rfl⟩⟩
theorem ok114 : FnOk cfg Tryd.prog 114 a114 := ⟨⟨Tryd.f114, _, Tryd.func114, by decide, rfl, rfl, by kernel_rfl, by kernel_rfl⟩⟩
theorem ok115 : FnOk cfg Tryd.prog 115 a115 := ⟨⟨Tryd.f115, _, Tryd.func115, by decide, rfl, rfl, by kernel_rfl, by kernel_rfl⟩⟩
theorem ok116 : FnOk cfg Tryd.prog 116 a116 := ⟨⟨Tryd.f116, _, Tryd.func116, by decide, rfl, rfl, by kernel_rfl, by kernel_rfl⟩⟩
theorem ok117 : FnOk cfg Tryd.prog 117 a117 := ⟨⟨Tryd.f117, _, Tryd.func117, by decide, rfl, rfl, by kernel_rfl, by kernel_rfl⟩⟩
theorem ok118 : FnOk cfg Tryd.prog 118 a118 := ⟨⟨Tryd.f118, _, Tryd.func118, by decide, rfl, rfl, by kernel_rfl, by kernel_rfl⟩⟩
theorem ok119 : FnOk cfg Tryd.prog 119 a119 := ⟨⟨Tryd.f119, _, Tryd.func119, by decide, rfl, rfl, by kernel_rfl, by kernel_rfl⟩⟩
theorem ok120 : FnOk cfg Tryd.prog 120 a120 := ⟨⟨Tryd.f120, _, Tryd.func120, by decide, rfl, rfl, by kernel_rfl, by kernel_rfl⟩⟩
theorem ok121 : FnOk cfg Tryd.prog 121 a121 := ⟨⟨Tryd.f121, _, Tryd.func121, by decide, rfl, rfl, by kernel_rfl, by kernel_rfl⟩⟩
theorem ok122 : FnOk cfg Tryd.prog 122 a122 := ⟨⟨Tryd.f122, _, Tryd.func122, by decide, rfl, rfl, by kernel_rfl, by kernel_rfl⟩⟩
theorem ok124 : FnOk cfg Tryd.prog 124 a124 := ⟨⟨Tryd.f124, _, Tryd.func124, by decide, rfl, rfl, by kernel_rfl, by kernel_rfl⟩⟩
theorem ok125 : FnOk cfg Tryd.prog 125 a125 := ⟨⟨Tryd.f125, _, Tryd.func125, by decide, rfl, rfl, by kernel_rfl, by kernel_rfl⟩⟩
theorem ok126 : FnOk cfg Tryd.prog 126 a126 := ⟨⟨Tryd.f126, _, Tryd.func126, by decide, rfl, rfl, by kernel_rfl, by kernel_rfl⟩⟩
theorem ok127 : FnOk cfg Tryd.prog 127 a127 := ⟨⟨Tryd.f127, _, Tryd.func127, by decide, rfl, rfl, by kernel_rfl, by kernel_rfl⟩⟩
theorem ok137 : FnOk cfg Tryd.prog 137 a137 := ⟨⟨Tryd.f137, _, Tryd.func137, by decide, rfl, rfl, by kernel_rfl, by kernel_rfl⟩⟩
theorem ok151 : FnOk cfg Tryd.prog 151 a151 := ⟨⟨Tryd.f151, _, Tryd.func151, by decide, rfl, rfl, by kernel_rfl, by kernel_rfl⟩⟩
theorem ok152 : FnOk cfg Tryd.prog 152 a152 := ⟨⟨Tryd.f152, _, Tryd.func152, by decide, rfl, rfl, by kernel_rfl, by kernel_rfl⟩⟩
theorem ok153 : FnOk cfg Tryd.prog 153 a153 := ⟨⟨Tryd.f153, _, Tryd.func153, by decide, rfl, rfl, by kernel_rfl, by kernel_rfl⟩⟩
theorem ok154 : FnOk cfg Tryd.prog 154 a154 := ⟨⟨Tryd.f154, _, Tryd.func154, by decide, rfl, rfl, by kernel_rfl, by kernel_rfl⟩⟩
theorem ok155 : FnOk cfg Tryd.prog 155 a155 := ⟨⟨Tryd.f155, _, Tryd.func155, by decide, rfl, rfl, by kernel_rfl, by kernel_rfl⟩⟩
theorem ok156 : FnOk cfg Tryd.prog 156 a156 := ⟨⟨Tryd.f156, _, Tryd.func156, by decide, rfl, rfl, by kernel_rfl, by kernel_rfl⟩⟩
theorem ok157 : FnOk cfg Tryd.prog 157 a157 := ⟨⟨Tryd.f157, _, Tryd.func157, by decide, rfl, rfl, by kernel_rfl, by kernel_rfl⟩⟩
theorem ok158 : FnOk cfg Tryd.prog 158 a158 := ⟨⟨Tryd.f158, _, Tryd.func158, by decide, rfl, rfl, by kernel_rfl, by kernel_rfl⟩⟩
theorem ok159 : FnOk cfg Tryd.prog 159 a159 := ⟨⟨Tryd.f159, _, Tryd.func159, by decide, rfl, rfl, by kernel_rfl, by kernel_rfl⟩⟩
theorem ok160 : FnOk cfg Tryd.prog 160 a160 := ⟨⟨Tryd.f160, _, Tryd.func160, by decide, rfl, rfl, by kernel_rfl, by kernel_rfl⟩⟩
theorem ok161 : FnOk cfg Tryd.prog 161 a161 := ⟨⟨Tryd.f161, _, Tryd.func161, by decide, rfl, rfl, by kernel_rfl, by kernel_rfl⟩⟩
theorem ok162 : FnOk cfg Tryd.prog 162 a162 := ⟨⟨Tryd.f162, _, Tryd.func162, by decide, rfl, rfl, by kernel_rfl, by kernel_rfl⟩⟩
theorem ok163 : FnOk cfg Tryd.prog 163 a163 := ⟨⟨Tryd.f163, _, Tryd.func163, by decide, rfl, rfl, by kernel_rfl, by kernel_rfl⟩⟩
theorem ok164 : FnOk cfg Tryd.prog 164 a164 := ⟨⟨Tryd.f164, _, Tryd.func164, by decide, rfl, rfl, by kernel_rfl, by kernel_rfl⟩⟩
theorem ok165 : FnOk cfg Tryd.prog 165 a165 := ⟨⟨Tryd.f165, _, Tryd.func165, by decide, rfl, rfl, by kernel_rfl, by kernel_rfl⟩⟩
theorem ok173 : FnOk cfg Tryd.prog 173 a173 := ⟨⟨Tryd.f173, _, Tryd.func173, by decide, rfl, rfl, by kernel_rfl, by kernel_rfl⟩⟩

theorem orF_cases {a b : Option AFunc} {x : AFunc} (h : orF a b = some x) : a = some x ∨ b = some x := by
  unfold orF at h
  split at h
  · exact .inl h
  · exact .inr h
theorem fns0 (f : FuncId) (fn : AFunc) (h : ir0 f = some fn) : FnOk cfg Tryd.prog f fn := by
  unfold ir0 at h
  split at h
  · injection h with h; subst h; exact ok3
  · injection h with h; subst h; exact ok14
  · injection h with h; subst h; exact ok15
  · injection h with h; subst h; exact ok16
  · injection h with h; subst h; exact ok17
  · injection h with h; subst h; exact ok18
  · injection h with h; subst h; exact ok19
  · injection h with h; subst h; exact ok20
  · injection h with h; subst h; exact ok21
  · injection h with h; subst h; exact ok23
  · injection h with h; subst h; exact ok37
  · injection h with h; subst h; exact ok48
  · injection h with h; subst h; exact ok50
  · injection h with h; subst h; exact ok59
  · injection h with h; subst h; exact ok60
  · injection h with h; subst h; exact ok61
  · injection h with h; subst h; exact ok62
  · injection h with h; subst h; exact ok63
  · injection h with h; subst h; exact ok64
  · injection h with h; subst h; exact ok65
  · injection h with h; subst h; exact ok66
  · injection h with h; subst h; exact ok67
  · injection h with h; subst h; exact ok68
  · injection h with h; subst h; exact ok69
  · injection h with h; subst h; exact ok70
  · injection h with h; subst h; exact ok71
  · injection h with h; subst h; exact ok72
  · injection h with h; subst h; exact ok73
  · injection h with h; subst h; exact ok74
  · injection h with h; subst h; exact ok75
  · injection h with h; subst h; exact ok78
  · injection h with h; subst h; exact ok79
  · injection h with h; subst h; exact ok80
  · injection h with h; subst h; exact ok81
  · injection h with h; subst h; exact ok88
  · injection h with h; subst h; exact ok90
  · injection h with h; subst h; exact ok100
  · injection h with h; subst h; exact ok101
  · injection h with h; subst h; exact ok106
  · injection h with h; subst h; exact ok107
  · cases h
theorem fns1 (f : FuncId) (fn : AFunc) (h : ir1 f = some fn) : FnOk cfg Tryd.prog f fn := by
  unfold ir1 at h
  split at h
  · injection h with h; subst h; exact ok113
  · injection h with h; subst h; exact ok114
  · injection h with h; subst h; exact ok115
  · injection h with h; subst h; exact ok116
  · injection h with h; subst h; exact ok117
  · injection h with h; subst h; exact ok118
  · injection h with h; subst h; exact ok119
  · injection h with h; subst h; exact ok120
  · injection h with h; subst h; exact ok121
  · injection h with h; subst h; exact ok122
  · injection h with h; subst h; exact ok124
  · injection h with h; subst h; exact ok125
  · injection h with h; subst h; exact ok126
  · injection h with h; subst h; exact ok127
  · injection h with h; subst h; exact ok137
  · injection h with h; subst h; exact ok151
  · injection h with h; subst h; exact ok152
  · injection h with h; subst h; exact ok153
  · injection h with h; subst h; exact ok154
  · injection h with h; subst h; exact ok155
  · injection h with h; subst h; exact ok156
  · injection h with h; subst h; exact ok157
  · injection h with h; subst h; exact ok158
  · injection h with h; subst h; exact ok159
  · injection h with h; subst h; exact ok160
  · injection h with h; subst h; exact ok161
  · injection h with h; subst h; exact ok162
  · injection h with h; subst h; exact ok163
  · injection h with h; subst h; exact ok164
  · injection h with h; subst h; exact ok165
  · injection h with h; subst h; exact ok173
  · cases h
theorem fns : ∀ f fn, cfg.ir f = some fn → FnOk cfg Tryd.prog f fn := by
  intro f fn h
  rcases orF_cases h with h | h
  · exact fns0 f fn h
  exact fns1 f fn h

theorem all : CfgOk Tryd.prog cfg := ⟨fns, fun _ _ h => by cases h⟩
end Go.Proofs.YtkjnanfkclijcaaDoor.Am.CU

/-
  THE ABSTRACT MACHINE, part 37: the calculus, for regions in any order.
-/
namespace Go.Proofs.YtkjnanfkclijcaaDoor.Am
open Go
set_option linter.unusedVariables false
set_option linter.unusedSimpArgs false

mutual
theorem AVal.beq_self : ∀ v : AVal, AVal.beq v v = true
  | .undef | .nilptr | .nilslice | .nilmap | .nilfunc | .nilIface => rfl
  | .bool b => by simp [AVal.beq]
  | .int k n => by simp [AVal.beq]
  | .str s => by simp [AVal.beq]
  | .ptr a b => by simp [AVal.beq]
  | .eptr a b c e => by simp [AVal.beq]
  | .fptr t cs o => by simp [AVal.beq, AVal.beqL_self cs]
  | .slice a b c e f g => by simp [AVal.beq]
  | .fslice t b sz es => by simp [AVal.beq, AVal.beqL_self es]
  | .map a => by simp [AVal.beq]
  | .fmap t a b => by simp [AVal.beq, AVal.beqL_self a, AVal.beqL_self b]
  | .func f a b => by simp [AVal.beq, AVal.beqL_self a, AVal.beqL_self b]
  | .iface t v => by simp [AVal.beq, AVal.beq_self v]
  | .agg cs => by simp [AVal.beq, AVal.beqL_self cs]
  | .tuple cs => by simp [AVal.beq, AVal.beqL_self cs]
theorem AVal.beqL_self : ∀ v : List AVal, AVal.beqL v v = true
  | [] => rfl
  | v :: vs => by simp [AVal.beqL, AVal.beq_self v, AVal.beqL_self vs]
end

section
variable {cfg : Cfg} {d : Nat}

/-- the operations one by one; the states are kept, and what is asked of the readers is asked in the end -/
def wpD (cfg : Cfg) (d : Nat) (ops : List AOper) (pairs : List (Nat × Nat)) : List AOper → List FS → List AVal → Store → PostF → Prop
  | [], hist, fr, σ, Q => (∀ p ∈ pairs, steady cfg noCall d ops (hist ++ [(fr, σ)]) p = true) ∧ Q fr σ
  | o :: os, hist, fr, σ, Q => wpOs cfg d [o] fr σ (fun fr' σ' => wpD cfg d ops pairs os (hist ++ [(fr, σ)]) fr' σ' Q)

theorem wpD_sound {ops : List AOper} {pairs : List (Nat × Nat)} {Q : PostF} : ∀ (os : List AOper) (hist : List FS) (fr : List AVal) (σ : Store), wpD cfg d ops pairs os hist fr σ Q →
    ∃ n s', stepOs cfg (run cfg n) d os (fr, σ) = some s' ∧ Q s'.1 s'.2 ∧ ∀ p ∈ pairs, steady cfg noCall d ops (hist ++ traceOs cfg (run cfg n) d os (fr, σ)) p = true
  | [], hist, fr, σ, h => ⟨0, (fr, σ), rfl, h.2, h.1⟩
  | o :: os, hist, fr, σ, h => by
    unfold wpD at h
    obtain ⟨n1, s1, e1, h2⟩ := wpOs_sound h
    obtain ⟨n2, s2, e2, hq, hst⟩ := wpD_sound os _ _ _ h2
    have e1' : stepO cfg (run cfg n1) d o (fr, σ) = some s1 := by
      simp only [stepOs] at e1
      split at e1
      · rename_i s hs; rw [hs]; exact e1
      · cases e1
    have f1 := stepO_mono (run_le cfg (Nat.le_max_left n1 n2)) e1'
    obtain ⟨f2, f3⟩ := stepOs_mono (run_le cfg (Nat.le_max_right n1 n2)) e2
    refine ⟨max n1 n2, s2, ?_, hq, fun p hp => ?_⟩
    · simp only [stepOs]; rw [f1]; exact f2
    · have := hst p hp
      rw [List.append_assoc] at this
      simp only [traceOs]
      rw [f1]
      dsimp only
      have e3 : traceOs cfg (run cfg (max n1 n2)) d os s1 = traceOs cfg (run cfg n2) d os (s1.1, s1.2) := f3
      rw [e3]
      exact this

theorem drawnP_eq {ops : List AOper} {pairs : List (Nat × Nat)} {fr : List AVal} {σ : Store} {Q : PostF} {w : Wit Q} (h : wpD cfg d ops pairs ops [] fr σ Q) : drawnP cfg d ops pairs fr σ Q w := by
  obtain ⟨n, s', h1, h2, h3⟩ := wpD_sound ops [] fr σ h
  unfold drawnP
  refine ⟨n, s', h1, ?_, h2⟩
  rw [List.all_eq_true]
  intro p hp
  exact steady_mono (noCall_le _) (by simpa using h3 p hp)

theorem wpD_nil {ops : List AOper} {pairs : List (Nat × Nat)} {hist : List FS} {fr : List AVal} {σ : Store} {Q : PostF} : wpD cfg d ops pairs [] hist fr σ Q = ((∀ p ∈ pairs, steady cfg noCall d ops (hist ++ [(fr, σ)]) p = true) ∧ Q fr σ) := propext Iff.rfl
theorem wpD_cons {ops : List AOper} {pairs : List (Nat × Nat)} {o : AOper} {os : List AOper} {hist : List FS} {fr : List AVal} {σ : Store} {Q : PostF} : wpD cfg d ops pairs (o :: os) hist fr σ Q = wpOs cfg d [o] fr σ (fun fr' σ' => wpD cfg d ops pairs os (hist ++ [(fr, σ)]) fr' σ' Q) := propext Iff.rfl

/-- a reader that reads the same in both stores -/
theorem steady_same {ops : List AOper} {i k : Nat} {T : List FS} {s τ : FS} {o : AOper} {v : AVal} (h1 : ops[i]? = some o) (h2 : T[i]? = some s) (h3 : T[if k < i then k else k + 1]? = some τ) (hg : o.guard = none)
    (e1 : opStep cfg noCall d s.1 s.2 o.op = some (v, s.2)) (e2 : opStep cfg noCall d s.1 τ.2 o.op = some (v, τ.2)) : steady cfg noCall d ops T (i, k) = true := by
  unfold steady
  rw [h1, h2, h3]
  dsimp only
  rw [hg]
  simp only [wantedA]
  rw [e1, e2]
  exact AVal.beq_self v
end
attribute [irreducible] wpD
end Go.Proofs.YtkjnanfkclijcaaDoor.Am

/-
  THE ABSTRACT MACHINE, part 38: the calculus, for regions in any order, when every reader stands behind what it could be drawn ahead of.
-/
namespace Go.Proofs.YtkjnanfkclijcaaDoor.Am
open Go
set_option linter.unusedVariables false
set_option linter.unusedSimpArgs false

def heldP (C : Prop) (fr : List AVal) (σ : Store) (K : List AVal → Store → Prop) (w : Wit K) : Prop := C ∧ K fr σ
theorem heldP_true (fr : List AVal) (σ : Store) (K : List AVal → Store → Prop) (w : Wit K) : heldP True fr σ K w = K fr σ := by simp [heldP]
theorem heldP_of {C : Prop} {fr : List AVal} {σ : Store} {K : List AVal → Store → Prop} {w : Wit K} (h : C) (hk : K fr σ) : heldP C fr σ K w := ⟨h, hk⟩

def hupd (h : Nat → Store) (k : Nat) (σ : Store) : Nat → Store := fun t => if t = k then σ else h t
theorem hupd_apply (h : Nat → Store) (k : Nat) (σ : Store) (t : Nat) : hupd h k σ t = if t = k then σ else h t := by simp only [hupd]

def ksOf : List (Nat × Nat) → Nat → List Nat
  | [], _ => []
  | (a, k) :: ps, i => if a = i then (if k < i then k :: ksOf ps i else ksOf ps i) else ksOf ps i
theorem ksOf_nil (i : Nat) : ksOf [] i = [] := by simp [ksOf]
theorem ksOf_cons (a k : Nat) (ps : List (Nat × Nat)) (i : Nat) : ksOf ((a, k) :: ps) i = if a = i then (if k < i then k :: ksOf ps i else ksOf ps i) else ksOf ps i := by simp [ksOf]
theorem mem_ksOf {ps : List (Nat × Nat)} {i k : Nat} (hk : k < i) : (i, k) ∈ ps → k ∈ ksOf ps i := by
  induction ps with
  | nil => intro h; cases h
  | cons p ps ih =>
    obtain ⟨a, k'⟩ := p
    intro h
    rw [ksOf_cons]
    rcases List.mem_cons.1 h with h | h
    · injection h with h1 h2; subst h1; subst h2; rw [if_pos rfl, if_pos hk]; exact List.mem_cons_self
    · split
      · split
        · exact List.mem_cons_of_mem _ (ih h)
        · exact ih h
      · exact ih h

/-- what is to be seen behind a later operation -/
def addP (P : Store → Prop) : List (Nat × Nat) → Nat → List (Nat × (Store → Prop)) → List (Nat × (Store → Prop))
  | [], _, pe => pe
  | (a, k) :: ps, i, pe => if a = i then (if i < k then (k, P) :: addP P ps i pe else addP P ps i pe) else addP P ps i pe
theorem addP_nil (P : Store → Prop) (i : Nat) (pe : List (Nat × (Store → Prop))) : addP P [] i pe = pe := by simp [addP]
theorem addP_cons (P : Store → Prop) (a k : Nat) (ps : List (Nat × Nat)) (i : Nat) (pe : List (Nat × (Store → Prop))) : addP P ((a, k) :: ps) i pe = if a = i then (if i < k then (k, P) :: addP P ps i pe else addP P ps i pe) else addP P ps i pe := by simp [addP]
theorem mem_addP {P : Store → Prop} {ps : List (Nat × Nat)} {i k : Nat} (hk : i < k) {pe : List (Nat × (Store → Prop))} : (i, k) ∈ ps → (k, P) ∈ addP P ps i pe := by
  induction ps with
  | nil => intro h; cases h
  | cons p ps ih =>
    obtain ⟨a, k'⟩ := p
    intro h
    rw [addP_cons]
    rcases List.mem_cons.1 h with h | h
    · injection h with h1 h2; subst h1; subst h2; rw [if_pos rfl, if_pos hk]; exact List.mem_cons_self
    · split
      · split
        · exact List.mem_cons_of_mem _ (ih h)
        · exact ih h
      · exact ih h
theorem old_addP {P : Store → Prop} {ps : List (Nat × Nat)} {i : Nat} {pe : List (Nat × (Store → Prop))} {x : Nat × (Store → Prop)} (hx : x ∈ pe) : x ∈ addP P ps i pe := by
  induction ps with
  | nil => rw [addP_nil]; exact hx
  | cons p ps ih =>
    obtain ⟨a, k'⟩ := p
    rw [addP_cons]
    split
    · split
      · exact List.mem_cons_of_mem _ ih
      · exact ih
    · exact ih
def dueP (i : Nat) (σ : Store) : List (Nat × (Store → Prop)) → Prop
  | [] => True
  | (k, P) :: r => (if k = i then P σ else True) ∧ dueP i σ r
theorem dueP_nil (i : Nat) (σ : Store) : dueP i σ [] = True := by simp [dueP]
theorem dueP_cons (i : Nat) (σ : Store) (k : Nat) (P : Store → Prop) (r : List (Nat × (Store → Prop))) : dueP i σ ((k, P) :: r) = ((if k = i then P σ else True) ∧ dueP i σ r) := by simp [dueP]
theorem dueP_mem {i : Nat} {σ : Store} {pe : List (Nat × (Store → Prop))} (h : dueP i σ pe) {P : Store → Prop} (hm : (i, P) ∈ pe) : P σ := by
  induction pe with
  | nil => cases hm
  | cons x r ih =>
    obtain ⟨k, P'⟩ := x
    rw [dueP_cons] at h
    rcases List.mem_cons.1 hm with e | e
    · injection e with e1 e2; subst e1; subst e2
      have := h.1
      rwa [if_pos rfl] at this
    · exact ih h.2 e

def guardS (g : Option Bool) (P : Prop) : Prop := match g with
  | some true => P
  | _ => True
theorem guardS_true (P : Prop) : guardS (some true) P = P := propext Iff.rfl
theorem guardS_false (P : Prop) : guardS (some false) P = True := propext Iff.rfl

section
variable {cfg : Cfg} {d : Nat}

def sameP (cfg : Cfg) (d : Nat) (o : AOper) (fr : List AVal) (σ τ : Store) : Prop := guardS (wantedA fr o.guard) (match o.op with
  | .load n agg a => loadV τ n agg (ev cfg fr a) = loadV σ n agg (ev cfg fr a)
  | op => ∃ v σ1 σ2, opStep cfg noCall d fr σ op = some (v, σ1) ∧ opStep cfg noCall d fr τ op = some (v, σ2))
theorem sameP_load (dst : Option Nat) (n : Nat) (agg : Bool) (a : Opnd) (g : Option (Nat × Bool)) (fr : List AVal) (σ τ : Store) :
    sameP cfg d ⟨dst, .load n agg a, g⟩ fr σ τ = guardS (wantedA fr g) (loadV τ n agg (ev cfg fr a) = loadV σ n agg (ev cfg fr a)) := propext Iff.rfl
theorem wantedA_none (fr : List AVal) : wantedA fr none = some true := by simp [wantedA]

def sameAll (cfg : Cfg) (d : Nat) (o : AOper) (fr : List AVal) (σ : Store) (H : Nat → Store) : List Nat → Prop
  | [] => True
  | k :: ks => sameP cfg d o fr σ (H k) ∧ sameAll cfg d o fr σ H ks
theorem sameAll_nil (o : AOper) (fr : List AVal) (σ : Store) (H : Nat → Store) : sameAll cfg d o fr σ H [] = True := propext Iff.rfl
theorem sameAll_cons (o : AOper) (fr : List AVal) (σ : Store) (H : Nat → Store) (k : Nat) (ks : List Nat) : sameAll cfg d o fr σ H (k :: ks) = (sameP cfg d o fr σ (H k) ∧ sameAll cfg d o fr σ H ks) := propext Iff.rfl
theorem sameAll_mem {o : AOper} {fr : List AVal} {σ : Store} {H : Nat → Store} {ks : List Nat} (h : sameAll cfg d o fr σ H ks) {k : Nat} (hk : k ∈ ks) : sameP cfg d o fr σ (H k) := by
  induction ks with
  | nil => cases hk
  | cons a ks ih =>
    rw [sameAll_cons] at h
    rcases List.mem_cons.1 hk with e | e
    · subst e; exact h.1
    · exact ih h.2 e

def wpE (cfg : Cfg) (d : Nat) (pairs : List (Nat × Nat)) : Nat → List AOper → (Nat → Store) → List (Nat × (Store → Prop)) → List AVal → Store → PostF → Prop
  | _, [], _, _, fr, σ, Q => Q fr σ
  | i, o :: os, H, pe, fr, σ, Q => heldP (sameAll cfg d o fr σ H (ksOf pairs i)) fr σ (fun fr σ => wpOs cfg d [o] fr σ (fun fr' σ' => heldP (dueP i σ' (addP (sameP cfg d o fr σ) pairs i pe)) fr' σ' (fun fr' σ' => wpE cfg d pairs (i + 1) os (hupd H i σ) (addP (sameP cfg d o fr σ) pairs i pe) fr' σ' Q) .mk)) .mk
theorem wpE_nil (pairs : List (Nat × Nat)) (i : Nat) (H : Nat → Store) (pe : List (Nat × (Store → Prop))) (fr : List AVal) (σ : Store) (Q : PostF) : wpE cfg d pairs i [] H pe fr σ Q = Q fr σ := propext Iff.rfl
theorem wpE_cons (pairs : List (Nat × Nat)) (i : Nat) (o : AOper) (os : List AOper) (H : Nat → Store) (pe : List (Nat × (Store → Prop))) (fr : List AVal) (σ : Store) (Q : PostF) :
    wpE cfg d pairs i (o :: os) H pe fr σ Q = heldP (sameAll cfg d o fr σ H (ksOf pairs i)) fr σ (fun fr σ => wpOs cfg d [o] fr σ (fun fr' σ' => heldP (dueP i σ' (addP (sameP cfg d o fr σ) pairs i pe)) fr' σ' (fun fr' σ' => wpE cfg d pairs (i + 1) os (hupd H i σ) (addP (sameP cfg d o fr σ) pairs i pe) fr' σ' Q) .mk)) .mk := propext Iff.rfl

theorem same_steady {ops : List AOper} {i k j : Nat} {T : List FS} {fr : List AVal} {σ : Store} {τ : FS} {o : AOper} {n : Nat} {s' : FS} (h1 : ops[i]? = some o) (h2 : T[i]? = some (fr, σ)) (hj : (if k < i then k else k + 1) = j) (h3 : T[j]? = some τ)
    (hs : sameP cfg d o fr σ τ.2) (hr : stepO cfg (run cfg n) d o (fr, σ) = some s') : steady cfg noCall d ops T (i, k) = true := by
  unfold steady
  dsimp only
  rw [h1, h2, hj, h3]
  dsimp only
  cases hw : wantedA fr o.guard with
  | none => rfl
  | some b =>
    cases b with
    | false => rfl
    | true =>
      dsimp only
      unfold sameP at hs
      rw [hw, guardS_true] at hs
      simp only [stepO, hw] at hr
      obtain ⟨dst, op, g⟩ := o
      cases op with
      | load m agg a =>
        dsimp only at hs hr ⊢
        simp only [opStep] at hr ⊢
        rw [hs]
        cases hl : loadV σ m agg (ev cfg fr a) with
        | none => rw [hl] at hr; simp at hr
        | some v => simp [AVal.beq_self]
      | _ =>
        obtain ⟨v, σ1, σ2, e1, e2⟩ := hs
        dsimp only at e1 e2 ⊢
        rw [e1, e2]
        exact AVal.beq_self v

/-- what is still to be seen -/
def Due (cfg : Cfg) (d : Nat) (ops : List AOper) (pairs : List (Nat × Nat)) (hist : List FS) (pe : List (Nat × (Store → Prop))) (i : Nat) : Prop :=
  ∀ p ∈ pairs, p.1 < i → i ≤ p.2 → ∃ (o : AOper) (s s' : FS) (n : Nat), ops[p.1]? = some o ∧ hist[p.1]? = some s ∧ stepO cfg (run cfg n) d o s = some s' ∧ (p.2, sameP cfg d o s.1 s.2) ∈ pe

theorem wpE_sound {ops : List AOper} {pairs : List (Nat × Nat)} {Q : PostF} : ∀ (os : List AOper) (i : Nat) (H : Nat → Store) (pe : List (Nat × (Store → Prop))) (hist : List FS) (fr : List AVal) (σ : Store), hist.length = i → (∀ k, k < i → ∃ τ, hist[k]? = some τ ∧ τ.2 = H k) →
    Due cfg d ops pairs hist pe i → ops.drop i = os → wpE cfg d pairs i os H pe fr σ Q →
    ∃ n s', stepOs cfg (run cfg n) d os (fr, σ) = some s' ∧ Q s'.1 s'.2 ∧ (∀ p ∈ pairs, i ≤ p.1 → p.1 < ops.length → p.2 < p.1 → steady cfg noCall d ops (hist ++ traceOs cfg (run cfg n) d os (fr, σ)) p = true) ∧
      ∀ p ∈ pairs, i ≤ p.2 → p.2 < ops.length → p.1 < p.2 → steady cfg noCall d ops (hist ++ traceOs cfg (run cfg n) d os (fr, σ)) p = true
  | [], i, H, pe, hist, fr, σ, hl, hh, hd, ho, h => ⟨0, (fr, σ), rfl, h, fun p hp h1 h2 h3 => by
      have := congrArg List.length ho
      simp only [List.length_drop, List.length_nil] at this
      omega, fun p hp h1 h2 h3 => by
      have := congrArg List.length ho
      simp only [List.length_drop, List.length_nil] at this
      omega⟩
  | o :: os, i, H, pe, hist, fr, σ, hl, hh, hd, ho, h => by
    rw [wpE_cons] at h
    obtain ⟨hc, h⟩ := h
    obtain ⟨n1, s1, e1, hdu, h2⟩ := wpOs_sound h
    have hi : i < ops.length := by
      have := congrArg List.length ho
      simp only [List.length_drop, List.length_cons] at this
      omega
    have hoi : ops[i]? = some o := by
      have := congrArg (fun l => l[0]?) ho
      simpa using this
    have hos : ops.drop (i + 1) = os := by
      have := congrArg List.tail ho
      simpa using this
    have e1' : stepO cfg (run cfg n1) d o (fr, σ) = some s1 := by
      simp only [stepOs] at e1
      split at e1
      · rename_i s hs; rw [hs]; exact e1
      · cases e1
    have hd' : Due cfg d ops pairs (hist ++ [(fr, σ)]) (addP (sameP cfg d o fr σ) pairs i pe) (i + 1) := by
      intro p hp h1 h2
      by_cases e : p.1 = i
      · obtain ⟨a, k⟩ := p
        dsimp only at e h2 ⊢
        subst e
        exact ⟨o, (fr, σ), s1, n1, hoi, by rw [← hl]; simp, e1', mem_addP (by omega) hp⟩
      · obtain ⟨o', s, s', n, a1, a2, a3, a4⟩ := hd p hp (by omega) (by omega)
        exact ⟨o', s, s', n, a1, by rw [List.getElem?_append_left (by omega)]; exact a2, a3, old_addP a4⟩
    obtain ⟨n2, s2, e2, hq, hst, hst2⟩ := wpE_sound os (i + 1) (hupd H i σ) _ (hist ++ [(fr, σ)]) s1.1 s1.2 (by simp [hl]) (fun k hk => by
      by_cases e : k = i
      · subst e
        exact ⟨(fr, σ), by rw [← hl]; simp, by simp [hupd]⟩
      · obtain ⟨τ, t1, t2⟩ := hh k (by omega)
        exact ⟨τ, by rw [List.getElem?_append_left (by omega)]; exact t1, by simp [hupd, e, t2]⟩) hd' hos h2
    have f1 := stepO_mono (run_le cfg (Nat.le_max_left n1 n2)) e1'
    obtain ⟨f2, f3⟩ := stepOs_mono (run_le cfg (Nat.le_max_right n1 n2)) e2
    have et : traceOs cfg (run cfg (max n1 n2)) d (o :: os) (fr, σ) = (fr, σ) :: traceOs cfg (run cfg n2) d os (s1.1, s1.2) := by
      simp only [traceOs]
      rw [f1]
      dsimp only
      have e3 : traceOs cfg (run cfg (max n1 n2)) d os s1 = traceOs cfg (run cfg n2) d os (s1.1, s1.2) := f3
      rw [e3]
    have th : (traceOs cfg (run cfg n2) d os (s1.1, s1.2))[0]? = some (s1.1, s1.2) := by
      cases os <;> simp [traceOs]
    refine ⟨max n1 n2, s2, ?_, hq, fun p hp hp1 hp2 hp3 => ?_, fun p hp hp1 hp2 hp3 => ?_⟩
    · simp only [stepOs]; rw [f1]; exact f2
    · rw [et]
      by_cases e : p.1 = i
      · obtain ⟨a, k⟩ := p
        dsimp only at e hp3
        subst e
        obtain ⟨τ, t1, t2⟩ := hh k hp3
        refine same_steady hoi (by rw [← hl]; simp) (if_pos hp3) (by rw [List.getElem?_append_left (by omega)]; exact t1) ?_ e1'
        rw [t2]
        exact sameAll_mem hc (mem_ksOf hp3 hp)
      · have := hst p hp (by omega) hp2 hp3
        rw [List.append_assoc] at this
        exact this
    · rw [et]
      by_cases e : p.2 = i
      · obtain ⟨a, k⟩ := p
        dsimp only at e hp3
        subst e
        obtain ⟨o', s, s', n, a1, a2, a3, a4⟩ := hd (a, k) hp hp3 (Nat.le_refl _)
        have hsame := dueP_mem hdu (old_addP a4)
        refine same_steady (τ := (s1.1, s1.2)) a1 (fr := s.1) (σ := s.2) (by rw [List.getElem?_append_left (by omega)]; exact a2) (if_neg (by omega)) ?_ hsame a3
        rw [List.getElem?_append_right (by omega), show k + 1 - hist.length = 1 by omega]
        simpa using th
      · have := hst2 p hp (by omega) hp2 hp3
        rw [List.append_assoc] at this
        exact this

/-- a drawn region, one operation behind the other -/
theorem drawnP_of {ops : List AOper} {pairs : List (Nat × Nat)} {fr : List AVal} {σ : Store} {Q : PostF} {w : Wit Q} (hp : pairs.all (fun p => decide (p.1 < ops.length) && decide (p.2 < ops.length) && !(p.1 == p.2)) = true) (h : wpE cfg d pairs 0 ops (fun _ => []) [] fr σ Q) : drawnP cfg d ops pairs fr σ Q w := by
  obtain ⟨n, s', h1, h2, h3, h4⟩ := wpE_sound (ops := ops) ops 0 (fun _ => []) [] [] fr σ rfl (fun k hk => by omega) (fun p hp h => by omega) rfl h
  unfold drawnP
  refine ⟨n, s', h1, ?_, h2⟩
  rw [List.all_eq_true]
  intro p hp'
  have := List.all_eq_true.1 hp p hp'
  simp only [Bool.and_eq_true, decide_eq_true_eq, Bool.not_eq_true', beq_eq_false_iff_ne] at this
  rcases Nat.lt_or_gt_of_ne this.2 with hlt | hlt
  · have h5 := h4 p hp' (Nat.zero_le _) this.1.2 hlt
    rw [List.nil_append] at h5
    exact steady_mono (noCall_le _) h5
  · have h5 := h3 p hp' (Nat.zero_le _) this.1.1 hlt
    rw [List.nil_append] at h5
    exact steady_mono (noCall_le _) h5
end
attribute [irreducible] wpE heldP sameAll guardS hupd ksOf sameP addP dueP
end Go.Proofs.YtkjnanfkclijcaaDoor.Am

/-
  THE ABSTRACT MACHINE, part 39: the calculus: what holds behind a text may be forgotten in part.
-/
namespace Go.Proofs.YtkjnanfkclijcaaDoor.Am
open Go
set_option linter.unusedVariables false
set_option linter.unusedSimpArgs false

section
variable {cfg : Cfg} {d : Nat}

theorem callP_mono {m : Mode} {f : FuncId} {args : List AVal} {σ : Store} {Q Q' : AVal → Store → Prop} (h : callP cfg d m f args σ Q) (hq : ∀ v σ', Q v σ' → Q' v σ') : callP cfg d m f args σ Q' := by
  cases m with
  | shared => exact Called.mono h hq
  | iso =>
    obtain ⟨a, h1, h2⟩ := h
    exact ⟨a, h1, h2.mono fun v σ1 ⟨v', h3, h4, h5⟩ => ⟨v', h3, h4, hq _ _ h5⟩⟩
theorem opP_wp_mono {fr : List AVal} {σ : Store} {op : AOp} {Q Q' : AVal → Store → Prop} (h : opP cfg d fr σ op Q) (hq : ∀ v σ', Q v σ' → Q' v σ') : opP cfg d fr σ op Q' := by
  have key : opE cfg d fr σ op Q → opE cfg d fr σ op Q' := by
    intro h
    unfold opE optP at h ⊢
    split at h
    · exact hq _ _ h
    · exact h.elim
  cases op with
  | call m f args => exact callP_mono h hq
  | callv m f args =>
    simp only [opP] at h ⊢
    split at h
    · exact callP_mono h hq
    · exact h.elim
  | _ => exact key h
theorem wpOs_mono : ∀ {os : List AOper} {fr : List AVal} {σ : Store} {Q Q' : PostF}, wpOs cfg d os fr σ Q → (∀ fr σ, Q fr σ → Q' fr σ) → wpOs cfg d os fr σ Q'
  | [], fr, σ, Q, Q', h, hq => by unfold wpOs at h ⊢; exact hq _ _ h
  | o :: os, fr, σ, Q, Q', h, hq => by
    unfold wpOs guardP at h ⊢
    split at h
    · rename_i hw; exact opP_wp_mono h fun v σ' h => wpOs_mono h hq
    · rename_i hw; exact wpOs_mono h hq
    · exact h.elim
theorem wpC_mono : ∀ {c : ACode} {fr : List AVal} {σ : Store} {Q Q' : PostC}, wpC cfg d c fr σ Q → (∀ x fr σ, Q x fr σ → Q' x fr σ) → wpC cfg d c fr σ Q'
  | .skip, fr, σ, Q, Q', h, hq => by unfold wpC at h ⊢; exact hq _ _ _ h
  | .region ops, fr, σ, Q, Q', h, hq => by unfold wpC at h ⊢; exact wpOs_mono h fun fr σ => hq _ _ _
  | .drawn ops pairs, fr, σ, Q, Q', h, hq => by
    unfold wpC drawnP at h ⊢
    obtain ⟨n, s', h1, h2, h3⟩ := h
    exact ⟨n, s', h1, h2, hq _ _ _ h3⟩
  | .ahead ops pairs, fr, σ, Q, Q', h, hq => by
    unfold wpC drawnP at h ⊢
    obtain ⟨n, s', h1, h2, h3⟩ := h
    exact ⟨n, s', h1, h2, hq _ _ _ h3⟩
  | .seq a b, fr, σ, Q, Q', h, hq => by
    unfold wpC at h ⊢
    refine wpC_mono h fun x fr σ h => ?_
    unfold seqQ at h ⊢
    cases x with
    | normal => exact wpC_mono h hq
    | exit id => exact hq _ _ _ h
    | ret => exact hq _ _ _ h
  | .cond c a b, fr, σ, Q, Q', h, hq => by
    unfold wpC condP at h ⊢
    split at h
    · exact wpC_mono h hq
    · exact wpC_mono h hq
    · exact h.elim
  | .block id c, fr, σ, Q, Q', h, hq => by
    unfold wpC at h ⊢
    refine wpC_mono h fun x fr σ h => ?_
    unfold blockQ at h ⊢
    cases x <;> exact hq _ _ _ h
  | .loop live c, fr, σ, Q, Q', h, hq => by
    unfold wpC loopP at h ⊢
    obtain ⟨n, x, s', h1, h2⟩ := h
    exact ⟨n, x, s', h1, hq _ _ _ h2⟩
  | .exit id, fr, σ, Q, Q', h, hq => by unfold wpC at h ⊢; exact hq _ _ _ h
  | .ret, fr, σ, Q, Q', h, hq => by unfold wpC at h ⊢; exact hq _ _ _ h
  | .stop, fr, σ, Q, Q', h, hq => by unfold wpC at h; exact h.elim

/-- a block: what is live behind it, and what holds of it -/
theorem block_rule {id : Nat} {c : ACode} {n : Nat} {e : Nat → AVal} {σ : Store} {Q : PostC} (lo : List Nat) (J : AExit → List AVal → Store → Prop)
    (h : wpC cfg d c (Fr' n e) σ (blockQ id fun x fr σ => fr.length = n ∧ J x (lo.map fun t => fr.getD t .undef) σ))
    (post : ∀ x σ (e : Nat → AVal), J x (lo.map e) σ → Q x (Fr' n e) σ) : wpC cfg d c (Fr' n e) σ (blockQ id Q) := by
  refine wpC_mono h fun x fr σ h => ?_
  have key : ∀ x, (fr.length = n ∧ J x (lo.map fun t => fr.getD t .undef) σ) → Q x fr σ := fun x ⟨hl, h2⟩ => by
    have := post x σ (fun t => fr.getD t .undef) h2
    rw [← hl, ← Fr_of] at this
    exact this
  unfold blockQ at h ⊢
  cases x <;> exact key _ h
theorem block_rule' {id : Nat} {c : ACode} {n : Nat} {e : Nat → AVal} {σ : Store} {Q : PostC} (lo : List Nat) (J : AExit → List AVal → Store → Prop)
    (h : wpC cfg d c (Fr' n e) σ (blockQ id fun x fr σ => fr.length = n ∧ J x (lo.map fun t => fr.getD t .undef) σ))
    (post : ∀ x σ (e : Nat → AVal), J x (lo.map e) σ → Q x (Fr' n e) σ) : wpC cfg d (.block id c) (Fr' n e) σ Q := by
  rw [wpC_block]; exact block_rule lo J h post
/-- .. any text -/
theorem cut_rule {c : ACode} {n : Nat} {e : Nat → AVal} {σ : Store} {Q : PostC} (lo : List Nat) (J : AExit → List AVal → Store → Prop)
    (h : wpC cfg d c (Fr' n e) σ (fun x fr σ => fr.length = n ∧ J x (lo.map fun t => fr.getD t .undef) σ))
    (post : ∀ x σ (e : Nat → AVal), J x (lo.map e) σ → Q x (Fr' n e) σ) : wpC cfg d c (Fr' n e) σ Q := by
  refine wpC_mono h fun x fr σ ⟨hl, h2⟩ => ?_
  have := post x σ (fun t => fr.getD t .undef) h2
  rw [← hl, ← Fr_of] at this
  exact this
end
end Go.Proofs.YtkjnanfkclijcaaDoor.Am

/-
  THE ABSTRACT MACHINE, part 40: the calculus' rules in bundles, to be used by one name each.
-/
namespace Go.Proofs.YtkjnanfkclijcaaDoor.Am
open Go

/-- the rules that are used from the outside in -/
theorem WPd : type_of% (And.intro (And.intro (And.intro (And.intro (And.intro (And.intro @wpC_skip @wpC_region) (And.intro @wpC_drawn @wpC_ahead)) (And.intro (And.intro @wpC_seq @wpC_loop) (And.intro @wpC_exit @wpC_ret))) (And.intro (And.intro (And.intro @wpOs_nil @wpOs_guard) (And.intro @seqQ_normal @seqQ_exit)) (And.intro (And.intro @seqQ_ret @blockQ_normal) (And.intro @blockQ_hit (And.intro @blockQ_miss @blockQ_ret))))) (And.intro (And.intro (And.intro (And.intro @endQ_normal @endQ_ret) (And.intro @loopQ_exit @loopQ_ret)) (And.intro (And.intro @wpO_move @wpO_pick) (And.intro @wpO_alloc @wpO_box))) (And.intro (And.intro (And.intro @wpO_build @wpO_lit) (And.intro @wpO_litA @wpO_load)) (And.intro (And.intro @wpO_store @wpO_nilCheck) (And.intro @wpO_iop (And.intro @wpO_sop @wpO_bop)))))) (And.intro (And.intro (And.intro (And.intro (And.intro @wpO_eqs @wpO_eqnil) (And.intro @wpO_not @wpO_neg)) (And.intro (And.intro @wpO_convI @wpO_sliceOp) (And.intro @wpO_substr @wpO_gslice))) (And.intro (And.intro (And.intro @wpO_faddr @wpO_field) (And.intro @wpO_iaddr @wpO_aaddr)) (And.intro (And.intro @wpO_strIdx @wpO_arrIdx) (And.intro @wpO_lenS (And.intro @wpO_lenStr @wpO_lenM))))) (And.intro (And.intro (And.intro (And.intro @wpO_lenA @wpO_capS) (And.intro @wpO_minI @wpO_maxI)) (And.intro (And.intro @wpO_append @wpO_appendz) (And.intro @wpO_mkslice @wpO_extract))) (And.intro (And.intro (And.intro @wpO_mkfunc @wpO_mkmap) (And.intro @wpO_lookup @wpO_mapset)) (And.intro (And.intro @wpO_mapdel @wpO_mkiface) (And.intro @wpO_callS (And.intro @wpO_callI @wpO_callv))))))) := (And.intro (And.intro (And.intro (And.intro (And.intro (And.intro @wpC_skip @wpC_region) (And.intro @wpC_drawn @wpC_ahead)) (And.intro (And.intro @wpC_seq @wpC_loop) (And.intro @wpC_exit @wpC_ret))) (And.intro (And.intro (And.intro @wpOs_nil @wpOs_guard) (And.intro @seqQ_normal @seqQ_exit)) (And.intro (And.intro @seqQ_ret @blockQ_normal) (And.intro @blockQ_hit (And.intro @blockQ_miss @blockQ_ret))))) (And.intro (And.intro (And.intro (And.intro @endQ_normal @endQ_ret) (And.intro @loopQ_exit @loopQ_ret)) (And.intro (And.intro @wpO_move @wpO_pick) (And.intro @wpO_alloc @wpO_box))) (And.intro (And.intro (And.intro @wpO_build @wpO_lit) (And.intro @wpO_litA @wpO_load)) (And.intro (And.intro @wpO_store @wpO_nilCheck) (And.intro @wpO_iop (And.intro @wpO_sop @wpO_bop)))))) (And.intro (And.intro (And.intro (And.intro (And.intro @wpO_eqs @wpO_eqnil) (And.intro @wpO_not @wpO_neg)) (And.intro (And.intro @wpO_convI @wpO_sliceOp) (And.intro @wpO_substr @wpO_gslice))) (And.intro (And.intro (And.intro @wpO_faddr @wpO_field) (And.intro @wpO_iaddr @wpO_aaddr)) (And.intro (And.intro @wpO_strIdx @wpO_arrIdx) (And.intro @wpO_lenS (And.intro @wpO_lenStr @wpO_lenM))))) (And.intro (And.intro (And.intro (And.intro @wpO_lenA @wpO_capS) (And.intro @wpO_minI @wpO_maxI)) (And.intro (And.intro @wpO_append @wpO_appendz) (And.intro @wpO_mkslice @wpO_extract))) (And.intro (And.intro (And.intro @wpO_mkfunc @wpO_mkmap) (And.intro @wpO_lookup @wpO_mapset)) (And.intro (And.intro @wpO_mapdel @wpO_mkiface) (And.intro @wpO_callS (And.intro @wpO_callI @wpO_callv)))))))
/-- the others -/
theorem WPu : type_of% (And.intro (And.intro (And.intro (And.intro (And.intro @wantedA_eq (And.intro @wantV_bool @wantV_hole)) (And.intro @bq_tt (And.intro @bq_ff @bq_tf))) (And.intro (And.intro @bq_ft (And.intro @loopQ_normal @res_one)) (And.intro @res2_tmp (And.intro @res3_tmp @res4_tmp)))) (And.intro (And.intro (And.intro @res_tmp (And.intro @res_cell @pickV_bool)) (And.intro @ncV_ptr (And.intro @ncV_eptr @ncV_fptr))) (And.intro (And.intro @ncV_func (And.intro @bopV_bool @notV_bool)) (And.intro (And.intro @negV_int @fieldV_agg) (And.intro @lenStrV_str @extrV_tuple))))) (And.intro (And.intro (And.intro (And.intro @callvP_func (And.intro @iop_add @iop_sub)) (And.intro @iop_eql (And.intro @iop_neq @iop_lss))) (And.intro (And.intro @iop_leq (And.intro @iop_gtr @iop_geq)) (And.intro (And.intro @Fr_ev @Fr_get) (And.intro @Fr_put @Fr_len)))) (And.intro (And.intro (And.intro @put_none (And.intro @ev_const @upd_apply)) (And.intro @argE_zero (And.intro @argE_succ @argE_nil))) (And.intro (And.intro @liveE_cons (And.intro @stepP_some @optP_some)) (And.intro (And.intro @guardP_true @guardP_false) (And.intro @condP_true @condP_false)))))) := (And.intro (And.intro (And.intro (And.intro (And.intro @wantedA_eq (And.intro @wantV_bool @wantV_hole)) (And.intro @bq_tt (And.intro @bq_ff @bq_tf))) (And.intro (And.intro @bq_ft (And.intro @loopQ_normal @res_one)) (And.intro @res2_tmp (And.intro @res3_tmp @res4_tmp)))) (And.intro (And.intro (And.intro @res_tmp (And.intro @res_cell @pickV_bool)) (And.intro @ncV_ptr (And.intro @ncV_eptr @ncV_fptr))) (And.intro (And.intro @ncV_func (And.intro @bopV_bool @notV_bool)) (And.intro (And.intro @negV_int @fieldV_agg) (And.intro @lenStrV_str @extrV_tuple))))) (And.intro (And.intro (And.intro (And.intro @callvP_func (And.intro @iop_add @iop_sub)) (And.intro @iop_eql (And.intro @iop_neq @iop_lss))) (And.intro (And.intro @iop_leq (And.intro @iop_gtr @iop_geq)) (And.intro (And.intro @Fr_ev @Fr_get) (And.intro @Fr_put @Fr_len)))) (And.intro (And.intro (And.intro @put_none (And.intro @ev_const @upd_apply)) (And.intro @argE_zero (And.intro @argE_succ @argE_nil))) (And.intro (And.intro @liveE_cons (And.intro @stepP_some @optP_some)) (And.intro (And.intro @guardP_true @guardP_false) (And.intro @condP_true @condP_false))))))
/-- for regions in any order -/
theorem WPed : type_of% (And.intro @wpE_cons (And.intro @wpE_nil @sameAll_cons)) := (And.intro @wpE_cons (And.intro @wpE_nil @sameAll_cons))
theorem WPeu : type_of% (And.intro (And.intro (And.intro @addP_nil (And.intro @addP_cons @dueP_nil)) (And.intro @dueP_cons (And.intro @heldP_true @sameAll_nil))) (And.intro (And.intro @sameP_load (And.intro @wantedA_none @guardS_true)) (And.intro (And.intro @guardS_false @ksOf_nil) (And.intro @ksOf_cons @hupd_apply)))) := (And.intro (And.intro (And.intro @addP_nil (And.intro @addP_cons @dueP_nil)) (And.intro @dueP_cons (And.intro @heldP_true @sameAll_nil))) (And.intro (And.intro @sameP_load (And.intro @wantedA_none @guardS_true)) (And.intro (And.intro @guardS_false @ksOf_nil) (And.intro @ksOf_cons @hupd_apply))))
end Go.Proofs.YtkjnanfkclijcaaDoor.Am

/-
  THE ABSTRACT MACHINE, part 41: two rows, alike place by place.
-/
namespace Go.Proofs.YtkjnanfkclijcaaDoor.Am
open Go
set_option linter.unusedVariables false
set_option linter.unusedSimpArgs false

/-- the same once more -/
theorem cp {p : Prop} (h : p) : p := h
inductive Two {α β : Type} (R : α → β → Prop) : List α → List β → Prop
  | nil : Two R [] []
  | cons {a : α} {b : β} {us : List α} {ws : List β} (h : R a b) (t : Two R us ws) : Two R (a :: us) (b :: ws)

section
variable {α β : Type} {R R' : α → β → Prop} {us vs : List α} {ws ys : List β}
theorem Two.len (h : Two R us ws) : us.length = ws.length := by
  induction h with
  | nil => rfl
  | cons _ _ ih => simp [ih]
theorem Two.get (h : Two R us ws) : ∀ {i : Nat} (hi : i < ws.length), ∃ a, us[i]? = some a ∧ R a ws[i] := by
  induction h with
  | nil => intro i hi; simp at hi
  | cons h t ih =>
    intro i hi
    cases i with
    | zero => exact ⟨_, rfl, h⟩
    | succ i => obtain ⟨a, h1, h2⟩ := ih (i := i) (by simpa using hi); exact ⟨a, by simpa using h1, by simpa using h2⟩
theorem Two.at (h : Two R us ws) {i : Nat} {a : α} {b : β} (ha : us[i]? = some a) (hb : ws[i]? = some b) : R a b := by
  obtain ⟨hi, rfl⟩ := List.getElem?_eq_some_iff.1 hb
  obtain ⟨a', h1, h2⟩ := h.get hi
  rw [ha] at h1; injection h1 with h1; subst h1; exact h2
theorem Two.mono (h : Two R us ws) (hm : ∀ a b, R a b → R' a b) : Two R' us ws := by
  induction h with
  | nil => exact .nil
  | cons h _ ih => exact .cons (hm _ _ h) ih
theorem Two.mono_mem (h : Two R us ws) (hm : ∀ a b, a ∈ us → b ∈ ws → R a b → R' a b) : Two R' us ws := by
  induction h with
  | nil => exact .nil
  | cons h _ ih => exact .cons (hm _ _ List.mem_cons_self List.mem_cons_self h) (ih fun a b ha hb => hm a b (List.mem_cons_of_mem _ ha) (List.mem_cons_of_mem _ hb))
theorem Two.append (h : Two R us ws) (h' : Two R vs ys) : Two R (us ++ vs) (ws ++ ys) := by
  induction h with
  | nil => exact h'
  | cons h _ ih => exact .cons h ih
theorem Two.one {a : α} {b : β} (h : R a b) : Two R [a] [b] := .cons h .nil
theorem Two.push (h : Two R us ws) {a : α} {b : β} (h' : R a b) : Two R (us ++ [a]) (ws ++ [b]) := h.append (.one h')
theorem Two.take (h : Two R us ws) : ∀ (n : Nat), Two R (us.take n) (ws.take n) := by
  induction h with
  | nil => intro n; simp; exact .nil
  | cons h _ ih =>
    intro n
    cases n with
    | zero => exact .nil
    | succ n => exact .cons h (ih n)
theorem Two.drop (h : Two R us ws) : ∀ (n : Nat), Two R (us.drop n) (ws.drop n) := by
  induction h with
  | nil => intro n; simp; exact .nil
  | cons h t ih =>
    intro n
    cases n with
    | zero => exact .cons h t
    | succ n => exact ih n
theorem Two.of_get (hl : us.length = ws.length) (h : ∀ (i : Nat) (a : α) (b : β), us[i]? = some a → ws[i]? = some b → R a b) : Two R us ws := by
  induction us generalizing ws with
  | nil => cases ws with
    | nil => exact .nil
    | cons b ws => simp at hl
  | cons a us ih => cases ws with
    | nil => simp at hl
    | cons b ws => exact .cons (h 0 a b rfl rfl) (ih (by simpa using hl) fun i x y hx hy => h (i + 1) x y (by simpa using hx) (by simpa using hy))
theorem Two.mem_left (h : Two R us ws) {a : α} (ha : a ∈ us) : ∃ b, b ∈ ws ∧ R a b := by
  induction h with
  | nil => cases ha
  | cons h _ ih =>
    rcases List.mem_cons.1 ha with rfl | ha
    · exact ⟨_, List.mem_cons_self, h⟩
    · obtain ⟨b, h1, h2⟩ := ih ha; exact ⟨b, List.mem_cons_of_mem _ h1, h2⟩
end

/-- a literal that nobody writes -/
theorem elems_fs (sz t : Nat) (b : Bool) (σ : Store) (es : List AVal) : elems sz σ (.fslice t b sz es) = some es := by simp
end Go.Proofs.YtkjnanfkclijcaaDoor.Am

/-
  THE ABSTRACT MACHINE, part 42: what texts of whatever code need.
-/
namespace Go.Proofs.YtkjnanfkclijcaaDoor.Am
open Go
set_option linter.unusedVariables false
set_option linter.unusedSimpArgs false

theorem load_cells {σ : Store} {id : Nat} {cs : List AVal} (h : σ[id]? = some (.cells cs)) (off : Nat) : loadV σ 1 false (.ptr id off) = cs[off]? := by
  simp [loadV, behind, h]
theorem store_cells {σ : Store} {id : Nat} {cs : List AVal} (h : σ[id]? = some (.cells cs)) {off : Nat} (ho : off < cs.length) {v : AVal} (hv : v.one = true) : storeV σ 1 (.ptr id off) v = some (σ.set id (.cells (cs.set off v))) := by
  have hc : v.cells = [v] := by cases v <;> simp_all [AVal.one]
  have e : splice cs off [v] = cs.set off v := by
    rw [List.set_eq_take_append_cons_drop, if_pos ho]; simp [splice]
  simp only [storeV, hc, h, e, List.length_singleton, List.all_cons, List.all_nil, hv, Bool.and_true, and_self, if_true]
  rw [if_pos (by omega)]
theorem faddr_ptr (o id off : Nat) : faddrV o (.ptr id off) = some (.ptr id (off + o)) := rfl
theorem isnil_ptr (id off : Nat) : isNil .p (.ptr id off) = some false := rfl
theorem set_same {σ : Store} {id : Nat} {o : AObj} (h : σ[id]? = some o) : σ.set id o = σ := by
  refine List.ext_getElem? fun i => ?_
  rw [List.getElem?_set]
  split
  · rename_i hi; subst hi
    have := (List.getElem?_eq_some_iff.1 h).1
    rw [if_pos this, h]
  · rfl
theorem get_set {σ : Store} {id : Nat} {o o' : AObj} (h : σ[id]? = some o) : (σ.set id o')[id]? = some o' := List.getElem?_set_self (List.getElem?_eq_some_iff.1 h).1
theorem cells_agg (cs : List AVal) : (AVal.agg cs).cells = cs := rfl
theorem Own.one {σ : Store} {sz : Nat} {v : AVal} {es : List AVal} (h : Own σ sz v es) : v.one = true := h.sl.one
theorem grows_nil (σ : Store) : Grows [] σ := ⟨Nat.zero_le _, fun i hi => absurd hi (Nat.not_lt_zero _)⟩
theorem SlOf.isnil {σ : Store} {sz : Nat} {v : AVal} {es : List AVal} (h : SlOf σ sz v es) : ∃ b, isNil .s v = some b ∧ (b = true → v = .nilslice ∧ es = []) := by
  rcases h.cases with ⟨rfl, rfl⟩ | ⟨t, full, rfl⟩ | ⟨id, ep, off, cap, sz', xs, epo, fl, rfl, _⟩
  · exact ⟨true, rfl, fun _ => ⟨rfl, rfl⟩⟩
  · exact ⟨false, rfl, fun h => by cases h⟩
  · exact ⟨false, rfl, fun h => by cases h⟩
theorem byte_neq (a b : UInt8) : ((a.toNat : Int) != (b.toNat : Int)) = decide (a ≠ b) := by
  by_cases h : a = b
  · subst h; simp
  · have : (a.toNat : Int) ≠ (b.toNat : Int) := fun e => h (UInt8.toNat_inj.1 (by omega))
    simp [h, this]
theorem take_succ_eq {α : Type} {x y : List α} {k : Nat} (hx : k < x.length) (hy : k < y.length) (h : x.take k = y.take k) (e : x[k] = y[k]) : x.take (k + 1) = y.take (k + 1) := by
  rw [List.take_add_one, List.take_add_one, h, List.getElem?_eq_getElem hx, List.getElem?_eq_getElem hy, e]
theorem lit_addr {l : AVal} {es cs : List AVal} {sz i : Nat} (hl : SlOf [] sz l es) (hi : i < es.length) (he : es[i] = .agg cs) (k : IntKind) : ∃ t, iaddrV sz l (.int k i) = some (.fptr t cs 0) := by
  rcases hl.cases with ⟨rfl, rfl⟩ | ⟨t, full, rfl⟩ | ⟨id, ep, off, cap, sz', xs, epo, fl, rfl, ho, _⟩
  · simp at hi
  · exact ⟨t, by simp [iaddrV, List.getElem?_eq_getElem hi, he, AVal.cells]⟩
  · cases ho
theorem faddr_f (o t off : Nat) (cs : List AVal) : faddrV o (.fptr t cs off) = some (.fptr t cs (off + o)) := rfl
theorem load_f {σ : Store} (t off : Nat) (cs : List AVal) : loadV σ 1 false (.fptr t cs off) = cs[off]? := by simp [loadV, behind]
theorem store2_cells {σ : Store} {ic : Nat} {a b x y : AVal} (h : σ[ic]? = some (.cells [a, b])) (hx : x.one = true) (hy : y.one = true) : storeV σ 2 (.ptr ic 0) (.agg [x, y]) = some (σ.set ic (.cells [x, y])) := by
  have ha : [x, y].all AVal.one = true := by rw [List.all_cons, hx, List.all_cons, hy]; rfl
  simp only [storeV, AVal.cells, List.length_cons, List.length_nil, ha, h]
  simp [splice]
theorem load2_cells {σ : Store} {ic : Nat} {a b : AVal} (h : σ[ic]? = some (.cells [a, b])) : loadV σ 2 true (.ptr ic 0) = some (.agg [a, b]) := by
  simp [loadV, behind, h]
theorem arr_iaddr {sz id ep off len : Nat} {cap : Option Nat} {i : Nat} (hi : i < len) (k : IntKind) : iaddrV sz (.slice sz id ep off len cap) (.int k i) = some (.eptr id ep (off + i) 0) := by
  have e : (0 : Int) ≤ (i : Int) ∧ (i : Int) < (len : Int) := by omega
  simp [iaddrV, e]
theorem arr_store1 {σ : Store} {id ep fl i : Nat} {es : List AVal} (h : σ[id]? = some (.arr 1 es ep fl)) (hi : i < es.length) {x : AVal} (hx : x.one = true) (he : (es[i]).one = true) :
    storeV σ 1 (.eptr id ep i 0) x = some (σ.set id (.arr 1 (es.set i x) ep ep)) := by
  have hc : x.cells = [x] := by cases x <;> simp_all [AVal.one]
  have hc2 : (es[i]).cells = [es[i]] := by generalize es[i] = y at he; cases y <;> simp_all [AVal.one]
  have hr : (es[i]).reform [x] = x := by generalize es[i] = y at he; cases y <;> simp_all [AVal.one, AVal.reform]
  simp only [storeV, hc, List.length_singleton, List.all_cons, List.all_nil, hx, Bool.and_true, and_self, if_true, h, List.getElem?_eq_getElem hi, hc2, splice, List.take_zero, List.nil_append, Nat.zero_add, List.drop_one, List.tail_cons, List.append_nil, hr]
  rw [if_pos ⟨trivial, Nat.le_refl _⟩]
theorem arr_load1 {σ : Store} {id ep epo fl i : Nat} {es : List AVal} (h : σ[id]? = some (.arr 1 es epo fl)) (hf : fl ≤ ep) (hi : i < es.length) (he : (es[i]).one = true) : loadV σ 1 false (.eptr id ep i 0) = some es[i] := by
  have hc2 : (es[i]).cells = [es[i]] := by generalize es[i] = y at he; cases y <;> simp_all [AVal.one]
  simp only [loadV, behind, h, hf, if_true, List.getElem?_eq_getElem hi, Option.map_some, hc2, ld]; rfl
theorem take_set_succ {α : Type} {l y : List α} {k : Nat} (hk : k < l.length) (hy : k < y.length) (h : l.take k = y.take k) : (l.set k y[k]).take (k + 1) = y.take (k + 1) := by
  refine List.ext_getElem? fun i => ?_
  rw [List.getElem?_take, List.getElem?_take, List.getElem?_set]
  split
  · rename_i hi
    by_cases e : k = i
    · subst e; simp [hk, List.getElem?_eq_getElem hy]
    · rw [if_neg e]
      have := congrArg (fun z => z[i]?) h
      simp only [List.getElem?_take] at this
      rwa [if_pos (by omega), if_pos (by omega)] at this
  · rfl
theorem Own.noCell {σ : Store} {sz : Nat} {v : AVal} {es cs : List AVal} {id : Nat} (h : Own σ sz v es) (ho : σ[id]? = some (.cells cs)) : v.sid ≠ some id := by
  intro hs
  rcases h.own with ⟨rfl, _⟩ | ⟨t, rfl⟩ | ⟨id', ep, off, cap, xs, epo, fl, rfl, h1, _⟩
  · cases hs
  · cases hs
  · injection hs with hs; subst hs; rw [ho] at h1; cases h1
theorem SlOf.noCell {σ : Store} {sz : Nat} {v : AVal} {es cs : List AVal} {id : Nat} (h : SlOf σ sz v es) (ho : σ[id]? = some (.cells cs)) : v.sid ≠ some id := by
  intro hs
  rcases h.cases with ⟨rfl, _⟩ | ⟨t, f, rfl⟩ | ⟨id', ep, off, cap, sz', xs, epo, fl, rfl, h1, _⟩
  · cases hs
  · cases hs
  · injection hs with hs; subst hs; rw [ho] at h1; cases h1
/-- slices of elements of two sizes lie apart -/
theorem Own.sizes {σ : Store} {sz sz' : Nat} {u v : AVal} {a b : List AVal} (h : Own σ sz u a) (h' : Own σ sz' v b) (hn : sz ≠ sz') {i : Nat} (hu : u.sid = some i) : v.sid ≠ some i := by
  intro hv
  rcases h.own with ⟨rfl, _⟩ | ⟨t, rfl⟩ | ⟨id, ep, off, cap, xs, epo, fl, rfl, h1, _⟩
  · cases hu
  · cases hu
  · rcases h'.own with ⟨rfl, _⟩ | ⟨t, rfl⟩ | ⟨id', ep', off', cap', xs', epo', fl', rfl, h2, _⟩
    · cases hv
    · cases hv
    · injection hu with hu; injection hv with hv
      subst hu; subst hv
      rw [h1] at h2; injection h2 with h2; injection h2 with h2; exact hn h2
theorem loadN_cells {σ : Store} {id : Nat} {cs : List AVal} (h : σ[id]? = some (.cells cs)) {n : Nat} (hn : cs.length = n) : loadV σ n true (.ptr id 0) = some (.agg cs) := by
  subst hn; simp [loadV, behind, h]
theorem storeN_cells {σ : Store} {id : Nat} {cs cs' : List AVal} (h : σ[id]? = some (.cells cs)) {n : Nat} (hn : cs.length = n) (hn' : cs'.length = n) (h1 : cs'.all AVal.one = true) : storeV σ n (.ptr id 0) (.agg cs') = some (σ.set id (.cells cs')) := by
  have e : splice cs 0 cs' = cs' := by
    simp only [splice, List.take_zero, List.nil_append, Nat.zero_add]
    rw [List.drop_eq_nil_of_le (by omega), List.append_nil]
  simp only [storeV, AVal.cells, hn', h1, h, e, Nat.zero_add, hn, Nat.le_refl, and_self, if_true]
theorem set_last (σ : Store) (o o' : AObj) : (σ ++ [o]).set σ.length o' = σ ++ [o'] := by simp
/-- a cell of what a pointer leads to -/
theorem faddr_load {σ : Store} {p : AVal} {cs : List AVal} {off : Nat} (h : behind σ p = some (cs, off)) (o : Nat) : ∃ q, faddrV o p = some q ∧ loadV σ 1 false q = cs[off + o]? := by
  cases p with
  | ptr i k =>
    simp only [behind] at h
    split at h
    · rename_i cs' ho
      injection h with h; injection h with h1 h2; subst h1; subst h2
      exact ⟨.ptr i (k + o), rfl, load_cells ho _⟩
    · cases h
  | eptr i ep j k =>
    simp only [behind] at h
    split at h
    · rename_i sz es epo fl ho
      split at h
      · rename_i hf
        rw [Option.map_eq_some_iff] at h
        obtain ⟨e, he, h⟩ := h
        injection h with h1 h2; subst h1; subst h2
        exact ⟨.eptr i ep j (k + o), rfl, by simp only [loadV, behind, ho, if_pos hf, he, Option.map_some]; rfl⟩
      · cases h
    · cases h
  | fptr t cs' k =>
    simp only [behind, Option.some.injEq, Prod.mk.injEq] at h
    obtain ⟨rfl, rfl⟩ := h
    exact ⟨.fptr t cs' (k + o), rfl, by simp [loadV, behind]⟩
  | _ => simp [behind] at h
/-- int(uint(k) % uint(n)) -/
theorem umod (k : Int) (n : Nat) (h0 : 0 < n) (hn : n < 2 ^ 62) : ∃ u r : Nat, r < n ∧ convV .u64 (.int .i64 k) = some (.int .u64 (u : Int)) ∧ convV .u64 (.int .i64 (n : Int)) = some (.int .u64 (n : Int)) ∧
    iopV .rem (.int .u64 (u : Int)) (.int .u64 (n : Int)) = some (.int .u64 (r : Int)) ∧ convV .i64 (.int .u64 (r : Int)) = some (.int .i64 (r : Int)) := by
  refine ⟨(k % 18446744073709551616).toNat, (k % 18446744073709551616).toNat % n, Nat.mod_lt _ h0, ?_, ?_, ?_, ?_⟩
  · rw [convV_int]
    have : IntKind.u64.wrap k = k % 18446744073709551616 := by simp [IntKind.wrap, IntKind.signed, IntKind.bits]
    rw [this, Int.toNat_of_nonneg (by omega)]
  · rw [convV_int, wrap_u64 (by omega) (by omega)]
  · rw [iop_rem, if_neg (by omega), Int.tmod_eq_emod_of_nonneg (by omega)]; rfl
  · have := Nat.mod_lt (k % 18446744073709551616).toNat h0
    rw [convV_int, wrap_i64 (by omega) (by omega)]
end Go.Proofs.YtkjnanfkclijcaaDoor.Am

/-
  THE ABSTRACT MACHINE, part 43: guarded operations without a case for each guard: what is not done leaves a hole.
  (written by smgen.py)
-/
namespace Go.Proofs.YtkjnanfkclijcaaDoor.Am
open Go
set_option linter.unusedVariables false
set_option linter.unusedSimpArgs false

/-- a value that is there if g -/
def condV (g : Bool) (v : AVal) : AVal := if g then v else .tuple []
theorem condV_true (v : AVal) : condV true v = v := rfl
theorem condV_false (v : AVal) : condV false v = .tuple [] := rfl
theorem condV_twice (g : Bool) (v : AVal) : condV g (condV g v) = condV g v := by cases g <;> rfl
theorem wantV_cond (b g c : Bool) : wantV b (condV g (.bool c)) = some (g && (c == b)) := by cases g <;> rfl

section
variable {cfg : Cfg} {d : Nat} {fr : List AVal} {σ : Store} {K : PostF}

def gstepP (g : Bool) (x : Option AVal) (fr : List AVal) (σ : Store) (K : List AVal → Store → AVal → Prop) (w : Wit K) : Prop := if g then stepP x fr σ K .mk else K fr σ (.tuple [])
theorem gstepP_some (g : Bool) (v : AVal) (fr : List AVal) (σ : Store) (R : List AVal → Store → AVal → Prop) (w : Wit R) : gstepP g (some v) fr σ R w = R fr σ (condV g v) := by
  cases g
  · rfl
  · simp only [gstepP, if_true, stepP_some, condV]
theorem gstepP_as {g : Bool} {x y : Option AVal} (h : g = true → x = y) (fr : List AVal) (σ : Store) (R : List AVal → Store → AVal → Prop) (w : Wit R) : gstepP g x fr σ R w = gstepP g y fr σ R w := by
  cases g
  · rfl
  · rw [h rfl]
theorem gp_of {o : Option Nat} {op : AOp} {os : List AOper} {x : Option AVal} (h : ∀ K, wpOs cfg d (⟨o, op, none⟩ :: os) fr σ K = stepP x fr σ (fun fr σ v => wpOs cfg d os (put fr o v) σ K) .mk) {g : Bool} {w : Wit (fun K => wpOs cfg d (⟨o, op, none⟩ :: os) fr σ K)} {w' : Wit (fun K => wpOs cfg d os (put fr o (.tuple [])) σ K)} {w'' : Wit K} :
    guardP (some g) (fun K => wpOs cfg d (⟨o, op, none⟩ :: os) fr σ K) (fun K => wpOs cfg d os (put fr o (.tuple [])) σ K) K w w' w'' = gstepP g x fr σ (fun fr σ v => wpOs cfg d os (put fr o v) σ K) .mk := by
  cases g
  · rw [guardP_false]; rfl
  · rw [guardP_true, h]; rfl

theorem gpO_move (o : Option Nat) (os : List AOper) (x : Opnd) {g : Bool} {w : Wit (fun K => wpOs cfg d (⟨o, .move x, none⟩ :: os) fr σ K)} {w1 : Wit (fun K => wpOs cfg d os (put fr o (.tuple [])) σ K)} {w2 : Wit K} : guardP (some g) (fun K => wpOs cfg d (⟨o, .move x, none⟩ :: os) fr σ K) (fun K => wpOs cfg d os (put fr o (.tuple [])) σ K) K w w1 w2 = gstepP g (some (ev cfg fr x)) fr σ (fun fr σ v => wpOs cfg d os (put fr o v) σ K) .mk :=
  gp_of fun K => wpO_move o os x
theorem gpO_pick (o : Option Nat) (os : List AOper) (c a b : Opnd) {g : Bool} {w : Wit (fun K => wpOs cfg d (⟨o, .pick c a b, none⟩ :: os) fr σ K)} {w1 : Wit (fun K => wpOs cfg d os (put fr o (.tuple [])) σ K)} {w2 : Wit K} : guardP (some g) (fun K => wpOs cfg d (⟨o, .pick c a b, none⟩ :: os) fr σ K) (fun K => wpOs cfg d os (put fr o (.tuple [])) σ K) K w w1 w2 = gstepP g (pickV (ev cfg fr c) (ev cfg fr a) (ev cfg fr b)) fr σ (fun fr σ v => wpOs cfg d os (put fr o v) σ K) .mk :=
  gp_of fun K => wpO_pick o os c a b
theorem gpO_iop (o : Option Nat) (os : List AOper) (op : BinOp) (x y : Opnd) {g : Bool} {w : Wit (fun K => wpOs cfg d (⟨o, .iop op x y, none⟩ :: os) fr σ K)} {w1 : Wit (fun K => wpOs cfg d os (put fr o (.tuple [])) σ K)} {w2 : Wit K} : guardP (some g) (fun K => wpOs cfg d (⟨o, .iop op x y, none⟩ :: os) fr σ K) (fun K => wpOs cfg d os (put fr o (.tuple [])) σ K) K w w1 w2 = gstepP g (iopV op (ev cfg fr x) (ev cfg fr y)) fr σ (fun fr σ v => wpOs cfg d os (put fr o v) σ K) .mk :=
  gp_of fun K => wpO_iop o os op x y
theorem gpO_sop (o : Option Nat) (os : List AOper) (op : BinOp) (x y : Opnd) {g : Bool} {w : Wit (fun K => wpOs cfg d (⟨o, .sop op x y, none⟩ :: os) fr σ K)} {w1 : Wit (fun K => wpOs cfg d os (put fr o (.tuple [])) σ K)} {w2 : Wit K} : guardP (some g) (fun K => wpOs cfg d (⟨o, .sop op x y, none⟩ :: os) fr σ K) (fun K => wpOs cfg d os (put fr o (.tuple [])) σ K) K w w1 w2 = gstepP g (sopV op (ev cfg fr x) (ev cfg fr y)) fr σ (fun fr σ v => wpOs cfg d os (put fr o v) σ K) .mk :=
  gp_of fun K => wpO_sop o os op x y
theorem gpO_bop (o : Option Nat) (os : List AOper) (neg : Bool) (x y : Opnd) {g : Bool} {w : Wit (fun K => wpOs cfg d (⟨o, .bop neg x y, none⟩ :: os) fr σ K)} {w1 : Wit (fun K => wpOs cfg d os (put fr o (.tuple [])) σ K)} {w2 : Wit K} : guardP (some g) (fun K => wpOs cfg d (⟨o, .bop neg x y, none⟩ :: os) fr σ K) (fun K => wpOs cfg d os (put fr o (.tuple [])) σ K) K w w1 w2 = gstepP g (bopV neg (ev cfg fr x) (ev cfg fr y)) fr σ (fun fr σ v => wpOs cfg d os (put fr o v) σ K) .mk :=
  gp_of fun K => wpO_bop o os neg x y
theorem gpO_eqs (o : Option Nat) (os : List AOper) (neg : Bool) (ks : List EK) (x y : Opnd) {g : Bool} {w : Wit (fun K => wpOs cfg d (⟨o, .eqs neg ks x y, none⟩ :: os) fr σ K)} {w1 : Wit (fun K => wpOs cfg d os (put fr o (.tuple [])) σ K)} {w2 : Wit K} : guardP (some g) (fun K => wpOs cfg d (⟨o, .eqs neg ks x y, none⟩ :: os) fr σ K) (fun K => wpOs cfg d os (put fr o (.tuple [])) σ K) K w w1 w2 = gstepP g ((eqsV ks (ev cfg fr x) (ev cfg fr y)).map fun (b : Bool) => (.bool (if neg then !b else b))) fr σ (fun fr σ v => wpOs cfg d os (put fr o v) σ K) .mk :=
  gp_of fun K => (wpO_eqs o os neg ks x y).trans (by cases eqsV ks (ev cfg fr x) (ev cfg fr y) <;> unfold stepP <;> rfl)
theorem gpO_eqnil (o : Option Nat) (os : List AOper) (neg : Bool) (k : NK) (x : Opnd) {g : Bool} {w : Wit (fun K => wpOs cfg d (⟨o, .eqnil neg k x, none⟩ :: os) fr σ K)} {w1 : Wit (fun K => wpOs cfg d os (put fr o (.tuple [])) σ K)} {w2 : Wit K} : guardP (some g) (fun K => wpOs cfg d (⟨o, .eqnil neg k x, none⟩ :: os) fr σ K) (fun K => wpOs cfg d os (put fr o (.tuple [])) σ K) K w w1 w2 = gstepP g ((isNil k (ev cfg fr x)).map fun (b : Bool) => (.bool (if neg then !b else b))) fr σ (fun fr σ v => wpOs cfg d os (put fr o v) σ K) .mk :=
  gp_of fun K => (wpO_eqnil o os neg k x).trans (by cases isNil k (ev cfg fr x) <;> unfold stepP <;> rfl)
theorem gpO_not (o : Option Nat) (os : List AOper) (x : Opnd) {g : Bool} {w : Wit (fun K => wpOs cfg d (⟨o, .not x, none⟩ :: os) fr σ K)} {w1 : Wit (fun K => wpOs cfg d os (put fr o (.tuple [])) σ K)} {w2 : Wit K} : guardP (some g) (fun K => wpOs cfg d (⟨o, .not x, none⟩ :: os) fr σ K) (fun K => wpOs cfg d os (put fr o (.tuple [])) σ K) K w w1 w2 = gstepP g (notV (ev cfg fr x)) fr σ (fun fr σ v => wpOs cfg d os (put fr o v) σ K) .mk :=
  gp_of fun K => wpO_not o os x
theorem gpO_convI (o : Option Nat) (os : List AOper) (k : IntKind) (x : Opnd) {g : Bool} {w : Wit (fun K => wpOs cfg d (⟨o, .convI k x, none⟩ :: os) fr σ K)} {w1 : Wit (fun K => wpOs cfg d os (put fr o (.tuple [])) σ K)} {w2 : Wit K} : guardP (some g) (fun K => wpOs cfg d (⟨o, .convI k x, none⟩ :: os) fr σ K) (fun K => wpOs cfg d os (put fr o (.tuple [])) σ K) K w w1 w2 = gstepP g (convV k (ev cfg fr x)) fr σ (fun fr σ v => wpOs cfg d os (put fr o v) σ K) .mk :=
  gp_of fun K => wpO_convI o os k x
theorem gpO_faddr (o : Option Nat) (os : List AOper) (off : Nat) (x : Opnd) {g : Bool} {w : Wit (fun K => wpOs cfg d (⟨o, .faddr off x, none⟩ :: os) fr σ K)} {w1 : Wit (fun K => wpOs cfg d os (put fr o (.tuple [])) σ K)} {w2 : Wit K} : guardP (some g) (fun K => wpOs cfg d (⟨o, .faddr off x, none⟩ :: os) fr σ K) (fun K => wpOs cfg d os (put fr o (.tuple [])) σ K) K w w1 w2 = gstepP g (faddrV off (ev cfg fr x)) fr σ (fun fr σ v => wpOs cfg d os (put fr o v) σ K) .mk :=
  gp_of fun K => wpO_faddr o os off x
theorem gpO_field (o : Option Nat) (os : List AOper) (off n : Nat) (agg : Bool) (x : Opnd) {g : Bool} {w : Wit (fun K => wpOs cfg d (⟨o, .field off n agg x, none⟩ :: os) fr σ K)} {w1 : Wit (fun K => wpOs cfg d os (put fr o (.tuple [])) σ K)} {w2 : Wit K} : guardP (some g) (fun K => wpOs cfg d (⟨o, .field off n agg x, none⟩ :: os) fr σ K) (fun K => wpOs cfg d os (put fr o (.tuple [])) σ K) K w w1 w2 = gstepP g (fieldV off n agg (ev cfg fr x)) fr σ (fun fr σ v => wpOs cfg d os (put fr o v) σ K) .mk :=
  gp_of fun K => wpO_field o os off n agg x
theorem gpO_iaddr (o : Option Nat) (os : List AOper) (sz : Nat) (x i : Opnd) {g : Bool} {w : Wit (fun K => wpOs cfg d (⟨o, .iaddr sz x i, none⟩ :: os) fr σ K)} {w1 : Wit (fun K => wpOs cfg d os (put fr o (.tuple [])) σ K)} {w2 : Wit K} : guardP (some g) (fun K => wpOs cfg d (⟨o, .iaddr sz x i, none⟩ :: os) fr σ K) (fun K => wpOs cfg d os (put fr o (.tuple [])) σ K) K w w1 w2 = gstepP g (iaddrV sz (ev cfg fr x) (ev cfg fr i)) fr σ (fun fr σ v => wpOs cfg d os (put fr o v) σ K) .mk :=
  gp_of fun K => wpO_iaddr o os sz x i
theorem gpO_aaddr (o : Option Nat) (os : List AOper) (len sz : Nat) (x i : Opnd) {g : Bool} {w : Wit (fun K => wpOs cfg d (⟨o, .aaddr len sz x i, none⟩ :: os) fr σ K)} {w1 : Wit (fun K => wpOs cfg d os (put fr o (.tuple [])) σ K)} {w2 : Wit K} : guardP (some g) (fun K => wpOs cfg d (⟨o, .aaddr len sz x i, none⟩ :: os) fr σ K) (fun K => wpOs cfg d os (put fr o (.tuple [])) σ K) K w w1 w2 = gstepP g (aaddrV len sz (ev cfg fr x) (ev cfg fr i)) fr σ (fun fr σ v => wpOs cfg d os (put fr o v) σ K) .mk :=
  gp_of fun K => wpO_aaddr o os len sz x i
theorem gpO_strIdx (o : Option Nat) (os : List AOper) (x i : Opnd) {g : Bool} {w : Wit (fun K => wpOs cfg d (⟨o, .strIdx x i, none⟩ :: os) fr σ K)} {w1 : Wit (fun K => wpOs cfg d os (put fr o (.tuple [])) σ K)} {w2 : Wit K} : guardP (some g) (fun K => wpOs cfg d (⟨o, .strIdx x i, none⟩ :: os) fr σ K) (fun K => wpOs cfg d os (put fr o (.tuple [])) σ K) K w w1 w2 = gstepP g (strIdxV (ev cfg fr x) (ev cfg fr i)) fr σ (fun fr σ v => wpOs cfg d os (put fr o v) σ K) .mk :=
  gp_of fun K => wpO_strIdx o os x i
theorem gpO_arrIdx (o : Option Nat) (os : List AOper) (len sz : Nat) (agg : Bool) (x i : Opnd) {g : Bool} {w : Wit (fun K => wpOs cfg d (⟨o, .arrIdx len sz agg x i, none⟩ :: os) fr σ K)} {w1 : Wit (fun K => wpOs cfg d os (put fr o (.tuple [])) σ K)} {w2 : Wit K} : guardP (some g) (fun K => wpOs cfg d (⟨o, .arrIdx len sz agg x i, none⟩ :: os) fr σ K) (fun K => wpOs cfg d os (put fr o (.tuple [])) σ K) K w w1 w2 = gstepP g (arrIdxV len sz agg (ev cfg fr x) (ev cfg fr i)) fr σ (fun fr σ v => wpOs cfg d os (put fr o v) σ K) .mk :=
  gp_of fun K => wpO_arrIdx o os len sz agg x i
theorem gpO_load (o : Option Nat) (os : List AOper) (n : Nat) (agg : Bool) (a : Opnd) {g : Bool} {w : Wit (fun K => wpOs cfg d (⟨o, .load n agg a, none⟩ :: os) fr σ K)} {w1 : Wit (fun K => wpOs cfg d os (put fr o (.tuple [])) σ K)} {w2 : Wit K} : guardP (some g) (fun K => wpOs cfg d (⟨o, .load n agg a, none⟩ :: os) fr σ K) (fun K => wpOs cfg d os (put fr o (.tuple [])) σ K) K w w1 w2 = gstepP g (loadV σ n agg (ev cfg fr a)) fr σ (fun fr σ v => wpOs cfg d os (put fr o v) σ K) .mk :=
  gp_of fun K => wpO_load o os n agg a
theorem gpO_sliceOp (o : Option Nat) (os : List AOper) (sz : Nat) (x : Opnd) (lo hi mx : Option Opnd) {g : Bool} {w : Wit (fun K => wpOs cfg d (⟨o, .sliceOp sz x lo hi mx, none⟩ :: os) fr σ K)} {w1 : Wit (fun K => wpOs cfg d os (put fr o (.tuple [])) σ K)} {w2 : Wit K} : guardP (some g) (fun K => wpOs cfg d (⟨o, .sliceOp sz x lo hi mx, none⟩ :: os) fr σ K) (fun K => wpOs cfg d os (put fr o (.tuple [])) σ K) K w w1 w2 = gstepP g (sliceV sz (ev cfg fr x) (oev cfg fr lo) (oev cfg fr hi) (oev cfg fr mx)) fr σ (fun fr σ v => wpOs cfg d os (put fr o v) σ K) .mk :=
  gp_of fun K => wpO_sliceOp o os sz x lo hi mx
theorem gpO_lenS (o : Option Nat) (os : List AOper) (x : Opnd) {g : Bool} {w : Wit (fun K => wpOs cfg d (⟨o, .lenS x, none⟩ :: os) fr σ K)} {w1 : Wit (fun K => wpOs cfg d os (put fr o (.tuple [])) σ K)} {w2 : Wit K} : guardP (some g) (fun K => wpOs cfg d (⟨o, .lenS x, none⟩ :: os) fr σ K) (fun K => wpOs cfg d os (put fr o (.tuple [])) σ K) K w w1 w2 = gstepP g ((lenSV (ev cfg fr x)).map fun (n : Nat) => (.int .i64 n)) fr σ (fun fr σ v => wpOs cfg d os (put fr o v) σ K) .mk :=
  gp_of fun K => (wpO_lenS o os x).trans (by cases lenSV (ev cfg fr x) <;> unfold stepP <;> rfl)
theorem gpO_lenStr (o : Option Nat) (os : List AOper) (x : Opnd) {g : Bool} {w : Wit (fun K => wpOs cfg d (⟨o, .lenStr x, none⟩ :: os) fr σ K)} {w1 : Wit (fun K => wpOs cfg d os (put fr o (.tuple [])) σ K)} {w2 : Wit K} : guardP (some g) (fun K => wpOs cfg d (⟨o, .lenStr x, none⟩ :: os) fr σ K) (fun K => wpOs cfg d os (put fr o (.tuple [])) σ K) K w w1 w2 = gstepP g ((lenStrV (ev cfg fr x)).map fun (n : Nat) => (.int .i64 n)) fr σ (fun fr σ v => wpOs cfg d os (put fr o v) σ K) .mk :=
  gp_of fun K => (wpO_lenStr o os x).trans (by cases lenStrV (ev cfg fr x) <;> unfold stepP <;> rfl)
theorem gs_iopV_l (g : Bool) (op : BinOp) (a b : AVal) (fr : List AVal) (σ : Store) (R : List AVal → Store → AVal → Prop) (w : Wit R) : gstepP g (iopV op (condV g a) b) fr σ R w = gstepP g (iopV op a b) fr σ R w := gstepP_as (fun h => by subst h; rfl) _ _ _ _
theorem gs_iopV_l2 (g c : Bool) (op : BinOp) (a b : AVal) (fr : List AVal) (σ : Store) (R : List AVal → Store → AVal → Prop) (w : Wit R) : gstepP (g && c) (iopV op (condV g a) b) fr σ R w = gstepP (g && c) (iopV op a b) fr σ R w := gstepP_as (fun h => by have := (Bool.and_eq_true _ _ ▸ h : g = true ∧ c = true).1; subst this; rfl) _ _ _ _
theorem gs_iopV_r (g : Bool) (op : BinOp) (a b : AVal) (fr : List AVal) (σ : Store) (R : List AVal → Store → AVal → Prop) (w : Wit R) : gstepP g (iopV op a (condV g b)) fr σ R w = gstepP g (iopV op a b) fr σ R w := gstepP_as (fun h => by subst h; rfl) _ _ _ _
theorem gs_iopV_r2 (g c : Bool) (op : BinOp) (a b : AVal) (fr : List AVal) (σ : Store) (R : List AVal → Store → AVal → Prop) (w : Wit R) : gstepP (g && c) (iopV op a (condV g b)) fr σ R w = gstepP (g && c) (iopV op a b) fr σ R w := gstepP_as (fun h => by have := (Bool.and_eq_true _ _ ▸ h : g = true ∧ c = true).1; subst this; rfl) _ _ _ _
theorem gs_sopV_l (g : Bool) (op : BinOp) (a b : AVal) (fr : List AVal) (σ : Store) (R : List AVal → Store → AVal → Prop) (w : Wit R) : gstepP g (sopV op (condV g a) b) fr σ R w = gstepP g (sopV op a b) fr σ R w := gstepP_as (fun h => by subst h; rfl) _ _ _ _
theorem gs_sopV_l2 (g c : Bool) (op : BinOp) (a b : AVal) (fr : List AVal) (σ : Store) (R : List AVal → Store → AVal → Prop) (w : Wit R) : gstepP (g && c) (sopV op (condV g a) b) fr σ R w = gstepP (g && c) (sopV op a b) fr σ R w := gstepP_as (fun h => by have := (Bool.and_eq_true _ _ ▸ h : g = true ∧ c = true).1; subst this; rfl) _ _ _ _
theorem gs_sopV_r (g : Bool) (op : BinOp) (a b : AVal) (fr : List AVal) (σ : Store) (R : List AVal → Store → AVal → Prop) (w : Wit R) : gstepP g (sopV op a (condV g b)) fr σ R w = gstepP g (sopV op a b) fr σ R w := gstepP_as (fun h => by subst h; rfl) _ _ _ _
theorem gs_sopV_r2 (g c : Bool) (op : BinOp) (a b : AVal) (fr : List AVal) (σ : Store) (R : List AVal → Store → AVal → Prop) (w : Wit R) : gstepP (g && c) (sopV op a (condV g b)) fr σ R w = gstepP (g && c) (sopV op a b) fr σ R w := gstepP_as (fun h => by have := (Bool.and_eq_true _ _ ▸ h : g = true ∧ c = true).1; subst this; rfl) _ _ _ _
theorem gs_strIdx_l (g : Bool) (a b : AVal) (fr : List AVal) (σ : Store) (R : List AVal → Store → AVal → Prop) (w : Wit R) : gstepP g (strIdxV (condV g a) b) fr σ R w = gstepP g (strIdxV a b) fr σ R w := gstepP_as (fun h => by subst h; rfl) _ _ _ _
theorem gs_strIdx_l2 (g c : Bool) (a b : AVal) (fr : List AVal) (σ : Store) (R : List AVal → Store → AVal → Prop) (w : Wit R) : gstepP (g && c) (strIdxV (condV g a) b) fr σ R w = gstepP (g && c) (strIdxV a b) fr σ R w := gstepP_as (fun h => by have := (Bool.and_eq_true _ _ ▸ h : g = true ∧ c = true).1; subst this; rfl) _ _ _ _
theorem gs_strIdx_r (g : Bool) (a b : AVal) (fr : List AVal) (σ : Store) (R : List AVal → Store → AVal → Prop) (w : Wit R) : gstepP g (strIdxV a (condV g b)) fr σ R w = gstepP g (strIdxV a b) fr σ R w := gstepP_as (fun h => by subst h; rfl) _ _ _ _
theorem gs_strIdx_r2 (g c : Bool) (a b : AVal) (fr : List AVal) (σ : Store) (R : List AVal → Store → AVal → Prop) (w : Wit R) : gstepP (g && c) (strIdxV a (condV g b)) fr σ R w = gstepP (g && c) (strIdxV a b) fr σ R w := gstepP_as (fun h => by have := (Bool.and_eq_true _ _ ▸ h : g = true ∧ c = true).1; subst this; rfl) _ _ _ _
theorem gs_iaddr_l (g : Bool) (sz : Nat) (a b : AVal) (fr : List AVal) (σ : Store) (R : List AVal → Store → AVal → Prop) (w : Wit R) : gstepP g (iaddrV sz (condV g a) b) fr σ R w = gstepP g (iaddrV sz a b) fr σ R w := gstepP_as (fun h => by subst h; rfl) _ _ _ _
theorem gs_iaddr_l2 (g c : Bool) (sz : Nat) (a b : AVal) (fr : List AVal) (σ : Store) (R : List AVal → Store → AVal → Prop) (w : Wit R) : gstepP (g && c) (iaddrV sz (condV g a) b) fr σ R w = gstepP (g && c) (iaddrV sz a b) fr σ R w := gstepP_as (fun h => by have := (Bool.and_eq_true _ _ ▸ h : g = true ∧ c = true).1; subst this; rfl) _ _ _ _
theorem gs_iaddr_r (g : Bool) (sz : Nat) (a b : AVal) (fr : List AVal) (σ : Store) (R : List AVal → Store → AVal → Prop) (w : Wit R) : gstepP g (iaddrV sz a (condV g b)) fr σ R w = gstepP g (iaddrV sz a b) fr σ R w := gstepP_as (fun h => by subst h; rfl) _ _ _ _
theorem gs_iaddr_r2 (g c : Bool) (sz : Nat) (a b : AVal) (fr : List AVal) (σ : Store) (R : List AVal → Store → AVal → Prop) (w : Wit R) : gstepP (g && c) (iaddrV sz a (condV g b)) fr σ R w = gstepP (g && c) (iaddrV sz a b) fr σ R w := gstepP_as (fun h => by have := (Bool.and_eq_true _ _ ▸ h : g = true ∧ c = true).1; subst this; rfl) _ _ _ _
theorem gs_load (g : Bool) (τ : Store) (n : Nat) (agg : Bool) (a : AVal) (fr : List AVal) (σ : Store) (R : List AVal → Store → AVal → Prop) (w : Wit R) : gstepP g (loadV τ n agg (condV g a)) fr σ R w = gstepP g (loadV τ n agg a) fr σ R w := gstepP_as (fun h => by subst h; rfl) _ _ _ _
theorem gs_load2 (g c : Bool) (τ : Store) (n : Nat) (agg : Bool) (a : AVal) (fr : List AVal) (σ : Store) (R : List AVal → Store → AVal → Prop) (w : Wit R) : gstepP (g && c) (loadV τ n agg (condV g a)) fr σ R w = gstepP (g && c) (loadV τ n agg a) fr σ R w := gstepP_as (fun h => by have := (Bool.and_eq_true _ _ ▸ h : g = true ∧ c = true).1; subst this; rfl) _ _ _ _
theorem gs_faddr (g : Bool) (k : Nat) (a : AVal) (fr : List AVal) (σ : Store) (R : List AVal → Store → AVal → Prop) (w : Wit R) : gstepP g (faddrV k (condV g a)) fr σ R w = gstepP g (faddrV k a) fr σ R w := gstepP_as (fun h => by subst h; rfl) _ _ _ _
theorem gs_faddr2 (g c : Bool) (k : Nat) (a : AVal) (fr : List AVal) (σ : Store) (R : List AVal → Store → AVal → Prop) (w : Wit R) : gstepP (g && c) (faddrV k (condV g a)) fr σ R w = gstepP (g && c) (faddrV k a) fr σ R w := gstepP_as (fun h => by have := (Bool.and_eq_true _ _ ▸ h : g = true ∧ c = true).1; subst this; rfl) _ _ _ _
theorem gs_field (g : Bool) (k n : Nat) (agg : Bool) (a : AVal) (fr : List AVal) (σ : Store) (R : List AVal → Store → AVal → Prop) (w : Wit R) : gstepP g (fieldV k n agg (condV g a)) fr σ R w = gstepP g (fieldV k n agg a) fr σ R w := gstepP_as (fun h => by subst h; rfl) _ _ _ _
theorem gs_field2 (g c : Bool) (k n : Nat) (agg : Bool) (a : AVal) (fr : List AVal) (σ : Store) (R : List AVal → Store → AVal → Prop) (w : Wit R) : gstepP (g && c) (fieldV k n agg (condV g a)) fr σ R w = gstepP (g && c) (fieldV k n agg a) fr σ R w := gstepP_as (fun h => by have := (Bool.and_eq_true _ _ ▸ h : g = true ∧ c = true).1; subst this; rfl) _ _ _ _
theorem gs_conv (g : Bool) (k : IntKind) (a : AVal) (fr : List AVal) (σ : Store) (R : List AVal → Store → AVal → Prop) (w : Wit R) : gstepP g (convV k (condV g a)) fr σ R w = gstepP g (convV k a) fr σ R w := gstepP_as (fun h => by subst h; rfl) _ _ _ _
theorem gs_conv2 (g c : Bool) (k : IntKind) (a : AVal) (fr : List AVal) (σ : Store) (R : List AVal → Store → AVal → Prop) (w : Wit R) : gstepP (g && c) (convV k (condV g a)) fr σ R w = gstepP (g && c) (convV k a) fr σ R w := gstepP_as (fun h => by have := (Bool.and_eq_true _ _ ▸ h : g = true ∧ c = true).1; subst this; rfl) _ _ _ _
theorem gs_not (g : Bool) (a : AVal) (fr : List AVal) (σ : Store) (R : List AVal → Store → AVal → Prop) (w : Wit R) : gstepP g (notV (condV g a)) fr σ R w = gstepP g (notV a) fr σ R w := gstepP_as (fun h => by subst h; rfl) _ _ _ _
theorem gs_not2 (g c : Bool) (a : AVal) (fr : List AVal) (σ : Store) (R : List AVal → Store → AVal → Prop) (w : Wit R) : gstepP (g && c) (notV (condV g a)) fr σ R w = gstepP (g && c) (notV a) fr σ R w := gstepP_as (fun h => by have := (Bool.and_eq_true _ _ ▸ h : g = true ∧ c = true).1; subst this; rfl) _ _ _ _
theorem gs_pick_c (g : Bool) (c0 a b : AVal) (fr : List AVal) (σ : Store) (R : List AVal → Store → AVal → Prop) (w : Wit R) : gstepP g (pickV (condV g c0) a b) fr σ R w = gstepP g (pickV c0 a b) fr σ R w := gstepP_as (fun h => by subst h; rfl) _ _ _ _
theorem gs_pick_c2 (g c : Bool) (c0 a b : AVal) (fr : List AVal) (σ : Store) (R : List AVal → Store → AVal → Prop) (w : Wit R) : gstepP (g && c) (pickV (condV g c0) a b) fr σ R w = gstepP (g && c) (pickV c0 a b) fr σ R w := gstepP_as (fun h => by have := (Bool.and_eq_true _ _ ▸ h : g = true ∧ c = true).1; subst this; rfl) _ _ _ _
theorem gs_lenStr (g : Bool) (a : AVal) (f : Nat → AVal) (fr : List AVal) (σ : Store) (R : List AVal → Store → AVal → Prop) (w : Wit R) : gstepP g ((lenStrV (condV g a)).map f) fr σ R w = gstepP g ((lenStrV a).map f) fr σ R w := gstepP_as (fun h => by subst h; rfl) _ _ _ _
theorem gs_lenStr2 (g c : Bool) (a : AVal) (f : Nat → AVal) (fr : List AVal) (σ : Store) (R : List AVal → Store → AVal → Prop) (w : Wit R) : gstepP (g && c) ((lenStrV (condV g a)).map f) fr σ R w = gstepP (g && c) ((lenStrV a).map f) fr σ R w := gstepP_as (fun h => by have := (Bool.and_eq_true _ _ ▸ h : g = true ∧ c = true).1; subst this; rfl) _ _ _ _
theorem gs_lenS (g : Bool) (a : AVal) (f : Nat → AVal) (fr : List AVal) (σ : Store) (R : List AVal → Store → AVal → Prop) (w : Wit R) : gstepP g ((lenSV (condV g a)).map f) fr σ R w = gstepP g ((lenSV a).map f) fr σ R w := gstepP_as (fun h => by subst h; rfl) _ _ _ _
theorem gs_lenS2 (g c : Bool) (a : AVal) (f : Nat → AVal) (fr : List AVal) (σ : Store) (R : List AVal → Store → AVal → Prop) (w : Wit R) : gstepP (g && c) ((lenSV (condV g a)).map f) fr σ R w = gstepP (g && c) ((lenSV a).map f) fr σ R w := gstepP_as (fun h => by have := (Bool.and_eq_true _ _ ▸ h : g = true ∧ c = true).1; subst this; rfl) _ _ _ _
theorem gstepP_false (x : Option AVal) (fr : List AVal) (σ : Store) (R : List AVal → Store → AVal → Prop) (w : Wit R) : gstepP false x fr σ R w = R fr σ (.tuple []) := rfl
theorem gstepP_true (x : Option AVal) (fr : List AVal) (σ : Store) (R : List AVal → Store → AVal → Prop) (w : Wit R) : gstepP true x fr σ R w = stepP x fr σ R .mk := rfl
theorem omap_some {α : Type} (f : α → AVal) (a : α) : (some a).map f = some (f a) := rfl
theorem pickV_or (t y : Bool) : pickV (.bool t) (.bool true) (condV (t == false) (.bool y)) = some (.bool (t || y)) := by cases t <;> rfl
theorem pickV_and (t y : Bool) : pickV (.bool t) (condV (t == true) (.bool y)) (.bool false) = some (.bool (t && y)) := by cases t <;> rfl
theorem gs_pick_or (g t y : Bool) (fr : List AVal) (σ : Store) (R : List AVal → Store → AVal → Prop) (w : Wit R) : gstepP g (pickV (.bool t) (.bool true) (condV (g && (t == false)) (.bool y))) fr σ R w = R fr σ (condV g (.bool (t || y))) := by
  cases g
  · rfl
  · cases t <;> simp only [gstepP, if_true, pickV_bool, stepP_some, condV, Bool.true_and, beq_self_eq_true, bq_tf, bq_ft, Bool.false_eq_true, if_false, Bool.true_or, Bool.false_or]
theorem gs_pick_and (g t y : Bool) (fr : List AVal) (σ : Store) (R : List AVal → Store → AVal → Prop) (w : Wit R) : gstepP g (pickV (.bool t) (condV (g && (t == true)) (.bool y)) (.bool false)) fr σ R w = R fr σ (condV g (.bool (t && y))) := by
  cases g
  · rfl
  · cases t <;> simp only [gstepP, if_true, pickV_bool, stepP_some, condV, Bool.true_and, beq_self_eq_true, bq_tf, bq_ft, Bool.false_eq_true, if_false, Bool.true_and, Bool.false_and]
theorem ite_and (t y : Bool) : (if t = true then condV (t == true) (.bool y) else AVal.bool false) = .bool (t && y) := by cases t <;> rfl
theorem ite_or (t y : Bool) : (if t = true then AVal.bool true else condV (t == false) (.bool y)) = .bool (t || y) := by cases t <;> rfl
theorem ite_gand (g t y : Bool) : condV g (if t = true then condV (g && (t == true)) (.bool y) else AVal.bool false) = condV g (.bool (t && y)) := by cases g <;> cases t <;> rfl
theorem ite_gor (g t y : Bool) : condV g (if t = true then AVal.bool true else condV (g && (t == false)) (.bool y)) = condV g (.bool (t || y)) := by cases g <;> cases t <;> rfl
end
attribute [irreducible] gstepP condV
/-- all of them -/
theorem WPm : type_of% (And.intro (And.intro (And.intro (And.intro (And.intro (And.intro @gpO_move @gpO_pick) (And.intro @gpO_iop @gpO_sop)) (And.intro (And.intro @gpO_bop @gpO_eqs) (And.intro @gpO_eqnil @gpO_not))) (And.intro (And.intro (And.intro @gpO_convI @gpO_faddr) (And.intro @gpO_field @gpO_iaddr)) (And.intro (And.intro @gpO_aaddr @gpO_strIdx) (And.intro @gpO_arrIdx @gpO_load)))) (And.intro (And.intro (And.intro (And.intro @gpO_sliceOp @gpO_lenS) (And.intro @gpO_lenStr @gs_iopV_l)) (And.intro (And.intro @gs_iopV_l2 @gs_iopV_r) (And.intro @gs_iopV_r2 @gs_sopV_l))) (And.intro (And.intro (And.intro @gs_sopV_l2 @gs_sopV_r) (And.intro @gs_sopV_r2 @gs_strIdx_l)) (And.intro (And.intro @gs_strIdx_l2 @gs_strIdx_r) (And.intro @gs_strIdx_r2 (And.intro @gs_iaddr_l @gs_iaddr_l2)))))) (And.intro (And.intro (And.intro (And.intro (And.intro @gs_iaddr_r @gs_iaddr_r2) (And.intro @gs_load @gs_load2)) (And.intro (And.intro @gs_faddr @gs_faddr2) (And.intro @gs_field @gs_field2))) (And.intro (And.intro (And.intro @gs_conv @gs_conv2) (And.intro @gs_not @gs_not2)) (And.intro (And.intro @gs_pick_c @gs_pick_c2) (And.intro @gs_lenStr (And.intro @gs_lenStr2 @gs_lenS))))) (And.intro (And.intro (And.intro (And.intro @gs_lenS2 @gstepP_false) (And.intro @gstepP_true @omap_some)) (And.intro (And.intro @gs_pick_or @gs_pick_and) (And.intro @pickV_or @pickV_and))) (And.intro (And.intro (And.intro @ite_and @ite_or) (And.intro @ite_gand @ite_gor)) (And.intro (And.intro @gstepP_some @condV_true) (And.intro @condV_false (And.intro @condV_twice @wantV_cond))))))) := (And.intro (And.intro (And.intro (And.intro (And.intro (And.intro @gpO_move @gpO_pick) (And.intro @gpO_iop @gpO_sop)) (And.intro (And.intro @gpO_bop @gpO_eqs) (And.intro @gpO_eqnil @gpO_not))) (And.intro (And.intro (And.intro @gpO_convI @gpO_faddr) (And.intro @gpO_field @gpO_iaddr)) (And.intro (And.intro @gpO_aaddr @gpO_strIdx) (And.intro @gpO_arrIdx @gpO_load)))) (And.intro (And.intro (And.intro (And.intro @gpO_sliceOp @gpO_lenS) (And.intro @gpO_lenStr @gs_iopV_l)) (And.intro (And.intro @gs_iopV_l2 @gs_iopV_r) (And.intro @gs_iopV_r2 @gs_sopV_l))) (And.intro (And.intro (And.intro @gs_sopV_l2 @gs_sopV_r) (And.intro @gs_sopV_r2 @gs_strIdx_l)) (And.intro (And.intro @gs_strIdx_l2 @gs_strIdx_r) (And.intro @gs_strIdx_r2 (And.intro @gs_iaddr_l @gs_iaddr_l2)))))) (And.intro (And.intro (And.intro (And.intro (And.intro @gs_iaddr_r @gs_iaddr_r2) (And.intro @gs_load @gs_load2)) (And.intro (And.intro @gs_faddr @gs_faddr2) (And.intro @gs_field @gs_field2))) (And.intro (And.intro (And.intro @gs_conv @gs_conv2) (And.intro @gs_not @gs_not2)) (And.intro (And.intro @gs_pick_c @gs_pick_c2) (And.intro @gs_lenStr (And.intro @gs_lenStr2 @gs_lenS))))) (And.intro (And.intro (And.intro (And.intro @gs_lenS2 @gstepP_false) (And.intro @gstepP_true @omap_some)) (And.intro (And.intro @gs_pick_or @gs_pick_and) (And.intro @pickV_or @pickV_and))) (And.intro (And.intro (And.intro @ite_and @ite_or) (And.intro @ite_gand @ite_gor)) (And.intro (And.intro @gstepP_some @condV_true) (And.intro @condV_false (And.intro @condV_twice @wantV_cond)))))))
end Go.Proofs.YtkjnanfkclijcaaDoor.Am

/-
  TERMS: names.
-/
namespace Go.Proofs.YtkjnanfkclijcaaDoor.Am
open Go
set_option linter.unusedVariables false
set_option linter.unusedSimpArgs false
set_option linter.unusedSectionVars false
set_option maxRecDepth 100000
theorem strIdx_ok {s : List UInt8} {k : Nat} (h : k < s.length) : strIdxV (.str s) (.int .i64 k) = some (.int .u8 ((s[k]).toNat : Int)) := by
  have e : (0 : Int) ≤ (k : Int) ∧ (k : Int) < (s.length : Int) := by omega
  simp [strIdxV, e, List.getElem?_eq_getElem h]

def chk (k : Nat) (c : UInt8) : Bool := smallC c || (decide (k ≠ 0) && wordC c)
theorem isName_not {s : List UInt8} {k : Nat} (hk : k < s.length) (h : chk k s[k] = false) : isName s = false := by
  simp only [chk, Bool.or_eq_false_iff] at h
  cases s with
  | nil => rfl
  | cons c r =>
    cases k with
    | zero => simp only [List.getElem_cons_zero] at h; simp [isName, h.1]
    | succ k =>
      simp only [List.getElem_cons_succ] at h
      have h2 : wordC (r[k]'(by simpa using hk)) = false := by simpa using h.2
      have : r.all wordC = false := by
        rw [List.all_eq_false]
        exact ⟨_, List.getElem_mem (by simpa using hk), by simp [h2]⟩
      simp [isName, this]
theorem word_small {c : UInt8} (h : smallC c = true) : wordC c = true := by simp [wordC, h]
theorem isName_yes {s : List UInt8} (h : ∀ (k : Nat) (hk : k < s.length), chk k s[k] = true) : isName s = (decide (s ≠ []) && decide (s.length ≤ 16)) := by
  cases s with
  | nil => rfl
  | cons c r =>
    have h0 := h 0 (by simp)
    simp only [List.getElem_cons_zero, chk, ne_eq, not_true_eq_false, decide_false, Bool.false_and, Bool.or_false] at h0
    have h1 : r.all wordC = true := by
      rw [List.all_eq_true]
      intro x hx
      obtain ⟨k, hk, rfl⟩ := List.getElem_of_mem hx
      have := h (k + 1) (by simpa using hk)
      simp only [List.getElem_cons_succ, chk, Bool.or_eq_true, Bool.and_eq_true] at this
      rcases this with h | h
      · exact word_small h
      · exact h.2
    simp [isName, h0, h1]
    omega

section
variable (d : Nat) (σ : Store)

theorem isname_ok (s : List UInt8) (hs : s.length < 2 ^ 40) : Called CU.cfg d 156 [.str s] σ fun v σ' => v = .bool (isName s) ∧ σ' = σ := by
  refine called_of (fn := CU.a156) rfl (Nat.le_of_ble_eq_true rfl) ?_
  simp only [CU.a156]
  simp -dsimp only [↓WPd, ↓wpC_block, ↓wpC_cond, WPu, Bool.false_eq_true, Bool.true_eq_false, Bool.not_true, Bool.not_false, if_true, if_false, ite_true, ite_false, Nat.reduceEqDiff, Nat.reduceLT, true_and, List.map_cons, List.map_nil, Nat.zero_add, Nat.reduceBEq, lenStrV_str]
  refine loop_rule2 (fun m vs σ' => ∃ k, k ≤ s.length ∧ m = s.length - k ∧ vs = [.str s, .int .i64 s.length, .int .i64 k] ∧ σ' = σ ∧ ∀ (j : Nat) (hj : j < s.length), j < k → chk j s[j] = true) [0, 2]
    (fun e vs σ' => σ' = σ ∧ ((e = .exit 0 ∧ (∃ x, vs = [.str s, x]) ∧ ∀ (j : Nat) (hj : j < s.length), chk j s[j] = true) ∨ (e = .ret ∧ (∃ x, vs = [x, .bool false]) ∧ isName s = false))) s.length ⟨0, Nat.zero_le _, rfl, ?_, rfl, fun j _ h => by omega⟩ ?_ ?_
  · simp -dsimp only [↓WPd, ↓wpC_block, ↓wpC_cond, WPu, Bool.false_eq_true, Bool.true_eq_false, Bool.not_true, Bool.not_false, if_true, if_false, ite_true, ite_false, Nat.reduceEqDiff, Nat.reduceLT, true_and, List.map_cons, List.map_nil, Nat.zero_add, Nat.reduceBEq]; rfl
  · rintro m vs σ' ⟨k, hk, rfl, rfl, rfl, hall⟩
    simp -dsimp only [↓WPd, ↓wpC_block, ↓wpC_cond, WPu, Bool.false_eq_true, Bool.true_eq_false, Bool.not_true, Bool.not_false, if_true, if_false, ite_true, ite_false, Nat.reduceEqDiff, Nat.reduceLT, true_and, List.map_cons, List.map_nil, Nat.zero_add, Nat.reduceBEq]
    refine condP_dec (fun h => ?_) (fun h => ?_)
    · have hk' : k < s.length := by omega
      simp -dsimp only [↓WPd, ↓wpC_block, ↓wpC_cond, WPu, Bool.false_eq_true, Bool.true_eq_false, Bool.not_true, Bool.not_false, if_true, if_false, ite_true, ite_false, Nat.reduceEqDiff, Nat.reduceLT, true_and, List.map_cons, List.map_nil, Nat.zero_add, Nat.reduceBEq, WPm, strIdx_ok hk']
      have key : (!(decide (((s[k]).toNat : Int) ≥ 97) && decide (((s[k]).toNat : Int) ≤ 122)) && (((k : Int) == 0) || (decide (((s[k]).toNat : Int) < 65) || decide (((s[k]).toNat : Int) > 90)) && (decide (((s[k]).toNat : Int) < 48) || decide (((s[k]).toNat : Int) > 57)) && (((s[k]).toNat : Int) != 95))) = !chk k s[k] := by
        generalize s[k] = c
        rw [Bool.eq_iff_iff]
        simp [chk, wordC, smallC]
        omega
      rw [key]
      refine condP_intro (fun h => ?_) (fun h => ?_)
      · simp -dsimp only [↓WPd, ↓wpC_block, ↓wpC_cond, WPu, Bool.false_eq_true, Bool.true_eq_false, Bool.not_true, Bool.not_false, if_true, if_false, ite_true, ite_false, Nat.reduceEqDiff, Nat.reduceLT, true_and, List.map_cons, List.map_nil, Nat.zero_add, Nat.reduceBEq]
        exact .inr ⟨⟨_, rfl⟩, isName_not hk' (by simpa using h)⟩
      · simp -dsimp only [↓WPd, ↓wpC_block, ↓wpC_cond, WPu, Bool.false_eq_true, Bool.true_eq_false, Bool.not_true, Bool.not_false, if_true, if_false, ite_true, ite_false, Nat.reduceEqDiff, Nat.reduceLT, true_and, List.map_cons, List.map_nil, Nat.zero_add, Nat.reduceBEq]
        refine ⟨s.length - (k + 1), by omega, k + 1, by omega, rfl, by rw [wrap_i64 (by omega) (by omega), Int.natCast_add, Int.natCast_one], fun j hj hjk => ?_⟩
        by_cases e : j = k
        · subst e; simpa using h
        · exact hall j hj (by omega)
    · simp -dsimp only [↓WPd, ↓wpC_block, ↓wpC_cond, WPu, Bool.false_eq_true, Bool.true_eq_false, Bool.not_true, Bool.not_false, if_true, if_false, ite_true, ite_false, Nat.reduceEqDiff, Nat.reduceLT, true_and, List.map_cons, List.map_nil, Nat.zero_add, Nat.reduceBEq]
      exact .inl ⟨⟨_, rfl⟩, fun j hj => hall j hj (by omega)⟩
  · rintro e σ' env ⟨rfl, ⟨rfl, ⟨x, hv⟩, hall⟩ | ⟨rfl, ⟨x, hv⟩, hno⟩⟩
    · simp only [List.map_cons, List.map_nil, List.cons.injEq, and_true] at hv
      have e1 : sopV .neq (.str s) (.str []) = some (.bool (decide (s ≠ []))) := by cases s <;> simp [sopV]
      simp -dsimp only [↓WPd, ↓wpC_block, ↓wpC_cond, WPu, Bool.false_eq_true, Bool.true_eq_false, Bool.not_true, Bool.not_false, if_true, if_false, ite_true, ite_false, Nat.reduceEqDiff, Nat.reduceLT, true_and, List.map_cons, List.map_nil, Nat.zero_add, Nat.reduceBEq, WPm, hv, e1]
      rw [isName_yes hall]
      have e2 : decide ((s.length : Int) ≤ 16) = decide (s.length ≤ 16) := decide_eq_decide.2 (by omega)
      rw [e2]
      exact ⟨rfl, trivial⟩
    · simp only [List.map_cons, List.map_nil, List.cons.injEq, and_true] at hv
      simp -dsimp only [↓WPd, ↓wpC_block, ↓wpC_cond, WPu, Bool.false_eq_true, Bool.true_eq_false, Bool.not_true, Bool.not_false, if_true, if_false, ite_true, ite_false, Nat.reduceEqDiff, Nat.reduceLT, true_and, List.map_cons, List.map_nil, Nat.zero_add, Nat.reduceBEq, hv, hno]

theorem isName_word {s : List UInt8} {k : Nat} (hk : k < s.length) (h : wordC s[k] = false) : isName s = false := by
  refine isName_not hk ?_
  simp only [chk, h, Bool.and_false, Bool.or_false]
  cases hq : smallC s[k] with
  | false => rfl
  | true => rw [word_small hq] at h; cases h

set_option maxHeartbeats 400000 in
theorem risname_ok (s : List UInt8) : Called CU.cfg d 161 [.str s] σ fun v σ' => v = .bool (isName s) ∧ σ' = σ := by
  refine called_of (fn := CU.a161) rfl (Nat.le_of_ble_eq_true rfl) ?_
  simp only [CU.a161]
  cases s with
  | nil =>
    have e : decide (((0 : Nat) : Int) < 1) = true := rfl
    simp -dsimp only [↓WPd, ↓wpC_block, ↓wpC_cond, WPu, Bool.false_eq_true, Bool.true_eq_false, Bool.not_true, Bool.not_false, if_true, if_false, ite_true, ite_false, Nat.reduceEqDiff, Nat.reduceLT, true_and, List.map_cons, List.map_nil, Nat.zero_add, Nat.reduceBEq, WPm, lenStrV_str, List.length_nil, e, bq_tf, Bool.true_or]
    exact ⟨rfl, trivial⟩
  | cons c r =>
    have e0 : strIdxV (.str (c :: r)) (.int .i64 0) = some (.int .u8 (c.toNat : Int)) := strIdx_ok (s := c :: r) (k := 0) (by simp)
    simp -dsimp only [↓WPd, ↓wpC_block, ↓wpC_cond, WPu, Bool.false_eq_true, Bool.true_eq_false, Bool.not_true, Bool.not_false, if_true, if_false, ite_true, ite_false, Nat.reduceEqDiff, Nat.reduceLT, true_and, List.map_cons, List.map_nil, Nat.zero_add, Nat.reduceBEq, WPm, lenStrV_str, e0]
    have key : (((decide ((((c :: r).length : Nat) : Int) < 1) || decide ((((c :: r).length : Nat) : Int) > 16)) || decide ((c.toNat : Int) < 97)) || decide ((c.toNat : Int) > 122)) = !(decide (r.length < 16) && smallC c) := by
      rw [Bool.eq_iff_iff]
      simp [smallC]
      omega
    rw [key]
    refine condP_intro (fun h => ?_) (fun h => ?_)
    · have : isName (c :: r) = false := by
        simp only [Bool.not_eq_true', Bool.and_eq_false_iff] at h
        rcases h with h | h <;> simp [isName, h]
      simp -dsimp only [↓WPd, ↓wpC_block, ↓wpC_cond, WPu, Bool.false_eq_true, Bool.true_eq_false, Bool.not_true, Bool.not_false, if_true, if_false, ite_true, ite_false, Nat.reduceEqDiff, Nat.reduceLT, true_and, List.map_cons, List.map_nil, Nat.zero_add, Nat.reduceBEq, this]
    · have h2 : isName (c :: r) = r.all wordC := by
        simp only [Bool.not_eq_false', Bool.and_eq_true] at h
        simp [isName, h]
      have hl : (c :: r).length ≤ 16 := by
        simp only [Bool.not_eq_false', Bool.and_eq_true, decide_eq_true_eq] at h
        simp only [List.length_cons]; omega
      have h3 : smallC c = true := by
        simp only [Bool.not_eq_false', Bool.and_eq_true] at h
        exact h.2
      simp -dsimp only [↓WPd, ↓wpC_block, ↓wpC_cond, WPu, Bool.false_eq_true, Bool.true_eq_false, Bool.not_true, Bool.not_false, if_true, if_false, ite_true, ite_false, Nat.reduceEqDiff, Nat.reduceLT, true_and, List.map_cons, List.map_nil, Nat.zero_add, Nat.reduceBEq]
      refine loop_rule2 (fun m vs σ' => ∃ k, k ≤ (c :: r).length ∧ m = (c :: r).length - k ∧ vs = [.str (c :: r), .int .i64 k] ∧ σ' = σ ∧ ∀ (j : Nat) (hj : j < (c :: r).length), j < k → wordC (c :: r)[j] = true) [0, 2]
        (fun e vs σ' => σ' = σ ∧ ((e = .exit 0 ∧ ∀ (j : Nat) (hj : j < (c :: r).length), wordC (c :: r)[j] = true) ∨ (e = .ret ∧ (∃ x, vs = [x, .bool false]) ∧ isName (c :: r) = false))) (c :: r).length ⟨0, Nat.zero_le _, rfl, ?_, rfl, fun j _ h => by omega⟩ ?_ ?_
      · simp -dsimp only [↓WPd, ↓wpC_block, ↓wpC_cond, WPu, Bool.false_eq_true, Bool.true_eq_false, Bool.not_true, Bool.not_false, if_true, if_false, ite_true, ite_false, Nat.reduceEqDiff, Nat.reduceLT, true_and, List.map_cons, List.map_nil, Nat.zero_add, Nat.reduceBEq]; rfl
      · rintro m vs σ' ⟨k, hk, rfl, rfl, rfl, hall⟩
        simp -dsimp only [↓WPd, ↓wpC_block, ↓wpC_cond, WPu, Bool.false_eq_true, Bool.true_eq_false, Bool.not_true, Bool.not_false, if_true, if_false, ite_true, ite_false, Nat.reduceEqDiff, Nat.reduceLT, true_and, List.map_cons, List.map_nil, Nat.zero_add, Nat.reduceBEq, lenStrV_str]
        refine condP_dec (fun h => ?_) (fun h => ?_)
        · have hk' : k < (c :: r).length := by omega
          simp -dsimp only [↓WPd, ↓wpC_block, ↓wpC_cond, WPu, Bool.false_eq_true, Bool.true_eq_false, Bool.not_true, Bool.not_false, if_true, if_false, ite_true, ite_false, Nat.reduceEqDiff, Nat.reduceLT, true_and, List.map_cons, List.map_nil, Nat.zero_add, Nat.reduceBEq, WPm, strIdx_ok hk']
          have key : (!((decide ((((c :: r)[k]).toNat : Int) ≥ 97) && decide ((((c :: r)[k]).toNat : Int) ≤ 122) || decide ((((c :: r)[k]).toNat : Int) ≥ 65) && decide ((((c :: r)[k]).toNat : Int) ≤ 90) || decide ((((c :: r)[k]).toNat : Int) ≥ 48) && decide ((((c :: r)[k]).toNat : Int) ≤ 57)) || ((((c :: r)[k]).toNat : Int) == 95))) = !wordC (c :: r)[k] := by
            generalize (c :: r)[k] = x
            rw [Bool.eq_iff_iff]
            simp [wordC, smallC]
            omega
          rw [key]
          refine condP_intro (fun h => ?_) (fun h => ?_)
          · simp -dsimp only [↓WPd, ↓wpC_block, ↓wpC_cond, WPu, Bool.false_eq_true, Bool.true_eq_false, Bool.not_true, Bool.not_false, if_true, if_false, ite_true, ite_false, Nat.reduceEqDiff, Nat.reduceLT, true_and, List.map_cons, List.map_nil, Nat.zero_add, Nat.reduceBEq]
            exact .inr ⟨⟨_, rfl⟩, isName_word hk' (by simpa using h)⟩
          · simp -dsimp only [↓WPd, ↓wpC_block, ↓wpC_cond, WPu, Bool.false_eq_true, Bool.true_eq_false, Bool.not_true, Bool.not_false, if_true, if_false, ite_true, ite_false, Nat.reduceEqDiff, Nat.reduceLT, true_and, List.map_cons, List.map_nil, Nat.zero_add, Nat.reduceBEq]
            refine ⟨(c :: r).length - (k + 1), by omega, k + 1, by omega, rfl, by rw [wrap_i64 (by omega) (by omega), Int.natCast_add, Int.natCast_one], fun j hj hjk => ?_⟩
            by_cases e : j = k
            · subst e; simpa using h
            · exact hall j hj (by omega)
        · simp -dsimp only [↓WPd, ↓wpC_block, ↓wpC_cond, WPu, Bool.false_eq_true, Bool.true_eq_false, Bool.not_true, Bool.not_false, if_true, if_false, ite_true, ite_false, Nat.reduceEqDiff, Nat.reduceLT, true_and, List.map_cons, List.map_nil, Nat.zero_add, Nat.reduceBEq]
          exact .inl fun j hj => hall j hj (by omega)
      · rintro e σ' env ⟨rfl, ⟨rfl, hall⟩ | ⟨rfl, ⟨x, hv⟩, hno⟩⟩
        · simp -dsimp only [↓WPd, ↓wpC_block, ↓wpC_cond, WPu, Bool.false_eq_true, Bool.true_eq_false, Bool.not_true, Bool.not_false, if_true, if_false, ite_true, ite_false, Nat.reduceEqDiff, Nat.reduceLT, true_and, List.map_cons, List.map_nil, Nat.zero_add, Nat.reduceBEq]
          rw [isName_yes fun j hj => ?_]
          · simp only [List.length_cons] at hl
            simp; omega
          · simp only [chk, Bool.or_eq_true, Bool.and_eq_true, hall j hj, and_true]
            cases j with
            | zero => left; simpa using h3
            | succ j => right; simp
        · simp only [List.map_cons, List.map_nil, List.cons.injEq, and_true] at hv
          simp -dsimp only [↓WPd, ↓wpC_block, ↓wpC_cond, WPu, Bool.false_eq_true, Bool.true_eq_false, Bool.not_true, Bool.not_false, if_true, if_false, ite_true, ite_false, Nat.reduceEqDiff, Nat.reduceLT, true_and, List.map_cons, List.map_nil, Nat.zero_add, Nat.reduceBEq, hv, hno]

def SS (l : List (List UInt8)) : List AVal := l.map AVal.str
theorem SS_len (l : List (List UInt8)) : (SS l).length = l.length := by simp [SS]
theorem SS_get (l : List (List UInt8)) (i : Nat) (h : i < (SS l).length) : (SS l)[i] = .str (l[i]'(by simpa [SS] using h)) := by simp [SS]
theorem sop_eql (a b : List UInt8) : sopV .eql (.str a) (.str b) = some (.bool (a == b)) := rfl

/-- slices.Index of texts -/
theorem sindex_ok (l : AVal) (x : List (List UInt8)) (s : List UInt8) (hx : x.length < 2 ^ 40) (hl : SlOf σ 1 l (SS x)) : Called CU.cfg d 173 [l, .str s] σ fun v σ' => (∃ i : Int, v = .int .i64 i ∧ (decide (0 ≤ i)) = x.contains s) ∧ σ' = σ := by
  refine called_of (fn := CU.a173) rfl (Nat.le_of_ble_eq_true rfl) ?_
  have ll := hl.len
  rw [SS_len] at ll
  simp only [CU.a173]
  simp -dsimp only [↓WPd, ↓wpC_block, ↓wpC_cond, WPu, Bool.false_eq_true, Bool.true_eq_false, Bool.not_true, Bool.not_false, if_true, if_false, ite_true, ite_false, Nat.reduceEqDiff, Nat.reduceLT, true_and, List.map_cons, List.map_nil, Nat.zero_add, Nat.reduceBEq, ll]
  refine loop_rule2 (fun m vs σ' => ∃ k, k ≤ x.length ∧ m = x.length - k ∧ vs = [l, .str s, .int .i64 x.length, .int .i64 k] ∧ σ' = σ ∧ ∀ (j : Nat) (hj : j < x.length), j < k → x[j] ≠ s) [4]
    (fun e vs σ' => σ' = σ ∧ ((e = .exit 0 ∧ x.contains s = false) ∨ (e = .ret ∧ x.contains s = true ∧ ∃ k : Nat, vs = [.int .i64 k]))) x.length ⟨0, Nat.zero_le _, rfl, ?_, rfl, fun j _ h => by omega⟩ ?_ ?_
  · simp -dsimp only [↓WPd, ↓wpC_block, ↓wpC_cond, WPu, Bool.false_eq_true, Bool.true_eq_false, Bool.not_true, Bool.not_false, if_true, if_false, ite_true, ite_false, Nat.reduceEqDiff, Nat.reduceLT, true_and, List.map_cons, List.map_nil, Nat.zero_add, Nat.reduceBEq]; rfl
  · rintro m vs σ' ⟨k, hk, rfl, rfl, rfl, hall⟩
    simp -dsimp only [↓WPd, ↓wpC_block, ↓wpC_cond, WPu, Bool.false_eq_true, Bool.true_eq_false, Bool.not_true, Bool.not_false, if_true, if_false, ite_true, ite_false, Nat.reduceEqDiff, Nat.reduceLT, true_and, List.map_cons, List.map_nil, Nat.zero_add, Nat.reduceBEq]
    refine condP_dec (fun h => ?_) (fun h => ?_)
    · have hk' : k < x.length := by omega
      have hi : k < (SS x).length := by rw [SS_len]; exact hk'
      simp -dsimp only [↓WPd, ↓wpC_block, ↓wpC_cond, WPu, Bool.false_eq_true, Bool.true_eq_false, Bool.not_true, Bool.not_false, if_true, if_false, ite_true, ite_false, Nat.reduceEqDiff, Nat.reduceLT, true_and, List.map_cons, List.map_nil, Nat.zero_add, Nat.reduceBEq, hl.iaddr hi, hl.load1 hi (by rw [SS_get]; rfl), SS_get, sop_eql]
      refine condP_intro (fun h => ?_) (fun h => ?_)
      · simp -dsimp only [↓WPd, ↓wpC_block, ↓wpC_cond, WPu, Bool.false_eq_true, Bool.true_eq_false, Bool.not_true, Bool.not_false, if_true, if_false, ite_true, ite_false, Nat.reduceEqDiff, Nat.reduceLT, true_and, List.map_cons, List.map_nil, Nat.zero_add, Nat.reduceBEq]
        have e : s = x[k] := by simpa using h
        exact .inr ⟨by rw [e]; simp, k, rfl⟩
      · simp -dsimp only [↓WPd, ↓wpC_block, ↓wpC_cond, WPu, Bool.false_eq_true, Bool.true_eq_false, Bool.not_true, Bool.not_false, if_true, if_false, ite_true, ite_false, Nat.reduceEqDiff, Nat.reduceLT, true_and, List.map_cons, List.map_nil, Nat.zero_add, Nat.reduceBEq]
        refine ⟨x.length - (k + 1), by omega, k + 1, by omega, rfl, by rw [wrap_i64 (by omega) (by omega), Int.natCast_add, Int.natCast_one], fun j hj hjk => ?_⟩
        by_cases e : j = k
        · subst e
          intro e; rw [e] at h; simp at h
        · exact hall j hj (by omega)
    · simp -dsimp only [↓WPd, ↓wpC_block, ↓wpC_cond, WPu, Bool.false_eq_true, Bool.true_eq_false, Bool.not_true, Bool.not_false, if_true, if_false, ite_true, ite_false, Nat.reduceEqDiff, Nat.reduceLT, true_and, List.map_cons, List.map_nil, Nat.zero_add, Nat.reduceBEq]
      refine .inl ?_
      cases hc : x.contains s with
      | false => rfl
      | true =>
        exfalso
        rw [List.contains_iff_mem] at hc
        obtain ⟨j, hj, e⟩ := List.getElem_of_mem hc
        exact hall j hj (by omega) e
  · rintro e σ' env ⟨rfl, ⟨rfl, hno⟩ | ⟨rfl, hyes, k, hv⟩⟩
    · simp -dsimp only [↓WPd, ↓wpC_block, ↓wpC_cond, WPu, Bool.false_eq_true, Bool.true_eq_false, Bool.not_true, Bool.not_false, if_true, if_false, ite_true, ite_false, Nat.reduceEqDiff, Nat.reduceLT, true_and, List.map_cons, List.map_nil, Nat.zero_add, Nat.reduceBEq]
      exact ⟨⟨_, rfl, by rw [hno]; rfl⟩, trivial⟩
    · simp only [List.map_cons, List.map_nil, List.cons.injEq, and_true] at hv
      simp -dsimp only [↓WPd, ↓wpC_block, ↓wpC_cond, WPu, Bool.false_eq_true, Bool.true_eq_false, Bool.not_true, Bool.not_false, if_true, if_false, ite_true, ite_false, Nat.reduceEqDiff, Nat.reduceLT, true_and, List.map_cons, List.map_nil, Nat.zero_add, Nat.reduceBEq, hv]
      exact ⟨⟨_, rfl, by rw [hyes]; simp⟩, trivial⟩

theorem scontains_ok (l : AVal) (x : List (List UInt8)) (s : List UInt8) (hx : x.length < 2 ^ 40) (hl : SlOf σ 1 l (SS x)) : Called CU.cfg d 158 [l, .str s] σ fun v σ' => v = .bool (x.contains s) ∧ σ' = σ := by
  refine called_of (fn := CU.a158) rfl (Nat.le_of_ble_eq_true rfl) ?_
  simp only [CU.a158]
  simp -dsimp only [↓WPd, ↓wpC_block, ↓wpC_cond, WPu, Bool.false_eq_true, Bool.true_eq_false, Bool.not_true, Bool.not_false, if_true, if_false, ite_true, ite_false, Nat.reduceEqDiff, Nat.reduceLT, true_and, List.map_cons, List.map_nil, Nat.zero_add, Nat.reduceBEq]
  refine calledW_of (sindex_ok d σ l x s hx hl) ?_
  rintro v σ1 ⟨⟨i, rfl, hi⟩, rfl⟩
  simp -dsimp only [↓WPd, ↓wpC_block, ↓wpC_cond, WPu, Bool.false_eq_true, Bool.true_eq_false, Bool.not_true, Bool.not_false, if_true, if_false, ite_true, ite_false, Nat.reduceEqDiff, Nat.reduceLT, true_and, List.map_cons, List.map_nil, Nat.zero_add, Nat.reduceBEq]
  have : decide (i ≥ 0) = x.contains s := hi
  rw [this]
  exact ⟨rfl, trivial⟩

/-- is it a sign? -/
theorem issign_ok (s : List UInt8) : Called CU.cfg d 162 [.str s] σ fun v σ' => v = .bool (signsL.contains s) ∧ Grows σ σ' := by
  refine called_of (fn := CU.a162) rfl (Nat.le_of_ble_eq_true rfl) ?_
  simp only [CU.a162]
  have hf : fillA [AVal.str [], AVal.str [], AVal.str [], AVal.str [], AVal.str [], AVal.str [], AVal.str [], AVal.str [], AVal.str [], AVal.str [], AVal.str [], AVal.str []] [(0, 1, AVal.str [61]), (1, 1, AVal.str [58, 61]), (2, 1, AVal.str [64]), (3, 1, AVal.str [43]), (4, 1, AVal.str [45]), (5, 1, AVal.str [42]), (6, 1, AVal.str [60]), (7, 1, AVal.str [61, 60]), (8, 1, AVal.str [62]), (9, 1, AVal.str [62, 61]), (10, 1, AVal.str [61, 58, 61]), (11, 1, AVal.str [61, 92, 61])] = some (SS signsL) := rfl
  have hl : (σ ++ [AObj.cells (List.replicate 12 (.str []))])[σ.length]? = some (.cells (List.replicate 12 (.str []))) := by simp
  have hs := storeN_cells hl (n := 12) rfl (cs' := SS signsL) rfl rfl
  rw [set_last] at hs
  have hst : storeV (σ ++ [AObj.cells [AVal.str [], AVal.str [], AVal.str [], AVal.str [], AVal.str [], AVal.str [], AVal.str [], AVal.str [], AVal.str [], AVal.str [], AVal.str [], AVal.str []]]) 12 (.ptr σ.length 0) (.agg (SS signsL)) = some (σ ++ [.cells (SS signsL)]) := hs
  simp -dsimp only [↓WPd, ↓wpC_block, ↓wpC_cond, WPu, Bool.false_eq_true, Bool.true_eq_false, Bool.not_true, Bool.not_false, if_true, if_false, ite_true, ite_false, Nat.reduceEqDiff, Nat.reduceLT, true_and, List.map_cons, List.map_nil, Nat.zero_add, Nat.reduceBEq, hf, hst]
  have ho : (σ ++ [AObj.cells (SS signsL)])[σ.length]? = some (.cells (SS signsL)) := by simp
  refine loop_rule2 (fun m vs σ' => ∃ k, k ≤ 12 ∧ m = 12 - k ∧ vs = [.str s, .ptr σ.length 0, .int .i64 k] ∧ σ' = σ ++ [AObj.cells (SS signsL)] ∧ ∀ (j : Nat) (hj : j < signsL.length), j < k → s ≠ signsL[j]) [2]
    (fun e vs σ' => σ' = σ ++ [AObj.cells (SS signsL)] ∧ ((e = .exit 0 ∧ signsL.contains s = false) ∨ (e = .ret ∧ signsL.contains s = true ∧ vs = [.bool true]))) 12 ⟨0, Nat.zero_le _, rfl, ?_, rfl, fun j _ h => by omega⟩ ?_ ?_
  · simp -dsimp only [↓WPd, ↓wpC_block, ↓wpC_cond, WPu, Bool.false_eq_true, Bool.true_eq_false, Bool.not_true, Bool.not_false, if_true, if_false, ite_true, ite_false, Nat.reduceEqDiff, Nat.reduceLT, true_and, List.map_cons, List.map_nil, Nat.zero_add, Nat.reduceBEq]; rfl
  · rintro m vs σ' ⟨k, hk, rfl, rfl, rfl, hall⟩
    simp -dsimp only [↓WPd, ↓wpC_block, ↓wpC_cond, WPu, Bool.false_eq_true, Bool.true_eq_false, Bool.not_true, Bool.not_false, if_true, if_false, ite_true, ite_false, Nat.reduceEqDiff, Nat.reduceLT, true_and, List.map_cons, List.map_nil, Nat.zero_add, Nat.reduceBEq]
    refine condP_dec (fun h => ?_) (fun h => ?_)
    · have hk' : k < 12 := by omega
      have ha : aaddrV 12 1 (.ptr σ.length 0) (.int .i64 k) = some (.ptr σ.length k) := by
        have e : (0 : Int) ≤ (k : Int) ∧ (k : Int) < 12 := by omega
        simp [aaddrV, e]
      have hg : (SS signsL)[k]? = some (.str (signsL[k]'hk')) := by
        have hi : k < (SS signsL).length := hk'
        rw [List.getElem?_eq_getElem hi, SS_get]; rfl
      simp -dsimp only [↓WPd, ↓wpC_block, ↓wpC_cond, WPu, Bool.false_eq_true, Bool.true_eq_false, Bool.not_true, Bool.not_false, if_true, if_false, ite_true, ite_false, Nat.reduceEqDiff, Nat.reduceLT, true_and, List.map_cons, List.map_nil, Nat.zero_add, Nat.reduceBEq, ha, load_cells ho, hg, sop_eql]
      refine condP_intro (fun h => ?_) (fun h => ?_)
      · simp -dsimp only [↓WPd, ↓wpC_block, ↓wpC_cond, WPu, Bool.false_eq_true, Bool.true_eq_false, Bool.not_true, Bool.not_false, if_true, if_false, ite_true, ite_false, Nat.reduceEqDiff, Nat.reduceLT, true_and, List.map_cons, List.map_nil, Nat.zero_add, Nat.reduceBEq]
        have e : s = signsL[k] := by simpa using h
        refine .inr ?_
        rw [e, List.contains_iff_mem]
        exact ⟨List.getElem_mem _, trivial⟩
      · simp -dsimp only [↓WPd, ↓wpC_block, ↓wpC_cond, WPu, Bool.false_eq_true, Bool.true_eq_false, Bool.not_true, Bool.not_false, if_true, if_false, ite_true, ite_false, Nat.reduceEqDiff, Nat.reduceLT, true_and, List.map_cons, List.map_nil, Nat.zero_add, Nat.reduceBEq]
        refine ⟨12 - (k + 1), by omega, k + 1, by omega, rfl, by rw [wrap_i64 (by omega) (by omega), Int.natCast_add, Int.natCast_one], fun j hj hjk => ?_⟩
        by_cases e : j = k
        · subst e
          intro e2
          have h2 : (s == signsL[j]'hk') = true := by rw [e2]; exact beq_self_eq_true _
          rw [h2] at h; cases h
        · exact hall j hj (by omega)
    · simp -dsimp only [↓WPd, ↓wpC_block, ↓wpC_cond, WPu, Bool.false_eq_true, Bool.true_eq_false, Bool.not_true, Bool.not_false, if_true, if_false, ite_true, ite_false, Nat.reduceEqDiff, Nat.reduceLT, true_and, List.map_cons, List.map_nil, Nat.zero_add, Nat.reduceBEq]
      refine .inl ?_
      cases hc : signsL.contains s with
      | false => rfl
      | true =>
        exfalso
        rw [List.contains_iff_mem] at hc
        obtain ⟨j, hj, e⟩ := List.getElem_of_mem hc
        have : signsL.length = 12 := rfl
        exact hall j hj (by omega) e.symm
  · rintro e σ' env ⟨rfl, ⟨rfl, hno⟩ | ⟨rfl, hyes, hv⟩⟩
    · simp -dsimp only [↓WPd, ↓wpC_block, ↓wpC_cond, WPu, Bool.false_eq_true, Bool.true_eq_false, Bool.not_true, Bool.not_false, if_true, if_false, ite_true, ite_false, Nat.reduceEqDiff, Nat.reduceLT, true_and, List.map_cons, List.map_nil, Nat.zero_add, Nat.reduceBEq, hno]
      exact Grows.app _ _
    · simp only [List.map_cons, List.map_nil, List.cons.injEq, and_true] at hv
      simp -dsimp only [↓WPd, ↓wpC_block, ↓wpC_cond, WPu, Bool.false_eq_true, Bool.true_eq_false, Bool.not_true, Bool.not_false, if_true, if_false, ite_true, ite_false, Nat.reduceEqDiff, Nat.reduceLT, true_and, List.map_cons, List.map_nil, Nat.zero_add, Nat.reduceBEq, hv, hyes]
      exact Grows.app _ _
end
end Go.Proofs.YtkjnanfkclijcaaDoor.Am

