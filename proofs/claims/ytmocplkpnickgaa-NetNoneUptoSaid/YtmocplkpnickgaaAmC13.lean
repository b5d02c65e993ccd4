/-
  THE FUNCTIONS THAT A LAW REACHES, as texts of the abstract machine (written by a program out of the translation), and that each of them stands for the model's: checked by evaluation.
-/
import Derived.Test.YtmocplkpnickgaaAmLaw
import Derived.Test.YtmocplkpnickgaaProg
namespace Go.Proofs.Ytmocplkpnickgaa.Am.C13
open Go Go.Proofs.Ytmocplkpnickgaa.Am
set_option linter.unusedVariables false
set_option maxRecDepth 100000

/-- purlin/purlinlaw12.NetNone -/
def a13 : AFunc := ⟨87,
 (.seq
  (.region [⟨some 4, .move (.const (.bool false)), none⟩])
  (.seq
   (.region [⟨some 5, .move (.const .nilptr), none⟩])
   (.seq
    (.region [⟨some 13, .move (.tmp 5), none⟩,
      ⟨some 14, .move (.tmp 1), none⟩,
      ⟨some 15, .call .shared 48 [(.tmp 13), (.tmp 14)], none⟩,
      ⟨some 12, .move (.tmp 15), none⟩,
      ⟨some 16, .extract (.tmp 12) 0, none⟩,
      ⟨some 17, .extract (.tmp 12) 1, none⟩,
      ⟨some 6, .alloc [(.int .i64 0), (.int .i64 0), (.bool false), (.int .i64 0), .nilslice], none⟩,
      ⟨none, .store 5 (.tmp 6) (.tmp 16), none⟩,
      ⟨some 7, .move (.tmp 17), none⟩])
    (.seq
     (.region [⟨some 19, .move (.tmp 5), none⟩,
       ⟨some 20, .call .shared 61 [(.tmp 19)], none⟩,
       ⟨some 18, .move (.tmp 20), none⟩,
       ⟨some 21, .extract (.tmp 18) 0, none⟩,
       ⟨some 22, .extract (.tmp 18) 1, none⟩,
       ⟨some 23, .extract (.tmp 18) 2, none⟩,
       ⟨some 24, .extract (.tmp 18) 3, none⟩,
       ⟨some 8, .move (.tmp 21), none⟩,
       ⟨some 9, .move (.tmp 22), none⟩,
       ⟨some 10, .move (.tmp 23), none⟩,
       ⟨some 11, .move (.tmp 24), none⟩])
     (.seq
      (.region [⟨some 25, .call .shared 42 [], none⟩,
        ⟨some 26, .move (.tmp 25), none⟩,
        ⟨some 27, .move (.tmp 5), some (26, true)⟩,
        ⟨some 28, .move (.tmp 0), some (26, true)⟩,
        ⟨some 29, .call .shared 44 [(.tmp 27), (.tmp 28)], some (26, true)⟩,
        ⟨some 30, .iop .eql (.tmp 29) (.const (.int .i64 1)), some (26, true)⟩,
        ⟨some 31, .pick (.tmp 26) (.tmp 30) (.const (.bool false)), none⟩,
        ⟨some 32, .move (.tmp 31), none⟩,
        ⟨some 33, .move (.tmp 7), some (32, true)⟩,
        ⟨some 34, .iop .eql (.tmp 33) (.const (.int .i64 1)), some (32, true)⟩,
        ⟨some 35, .pick (.tmp 32) (.tmp 34) (.const (.bool false)), none⟩,
        ⟨some 36, .move (.tmp 35), none⟩,
        ⟨some 37, .move (.tmp 5), some (36, true)⟩,
        ⟨some 38, .move (.tmp 1), some (36, true)⟩,
        ⟨some 39, .call .shared 51 [(.tmp 37), (.tmp 38)], some (36, true)⟩,
        ⟨some 40, .iop .eql (.tmp 39) (.const (.int .i64 1)), some (36, true)⟩,
        ⟨some 41, .pick (.tmp 36) (.tmp 40) (.const (.bool false)), none⟩,
        ⟨some 42, .move (.tmp 41), none⟩,
        ⟨some 43, .move (.tmp 5), some (42, true)⟩,
        ⟨some 44, .move (.tmp 1), some (42, true)⟩,
        ⟨some 45, .call .shared 52 [(.tmp 43), (.tmp 44)], some (42, true)⟩,
        ⟨some 46, .iop .eql (.tmp 45) (.const (.int .i64 1)), some (42, true)⟩,
        ⟨some 47, .pick (.tmp 42) (.tmp 46) (.const (.bool false)), none⟩,
        ⟨some 48, .move (.tmp 47), none⟩,
        ⟨some 49, .move (.tmp 5), some (48, true)⟩,
        ⟨some 50, .call .shared 47 [(.tmp 49)], some (48, true)⟩,
        ⟨some 51, .lenS (.tmp 50), some (48, true)⟩,
        ⟨some 52, .iop .eql (.tmp 51) (.const (.int .i64 0)), some (48, true)⟩,
        ⟨some 53, .pick (.tmp 48) (.tmp 52) (.const (.bool false)), none⟩,
        ⟨some 54, .move (.tmp 53), none⟩,
        ⟨some 55, .move (.tmp 5), some (54, true)⟩,
        ⟨some 56, .move (.tmp 1), some (54, true)⟩,
        ⟨some 57, .call .shared 55 [(.tmp 55), (.tmp 56)], some (54, true)⟩,
        ⟨some 58, .lenS (.tmp 57), some (54, true)⟩,
        ⟨some 59, .iop .eql (.tmp 58) (.const (.int .i64 0)), some (54, true)⟩,
        ⟨some 60, .pick (.tmp 54) (.tmp 59) (.const (.bool false)), none⟩,
        ⟨some 61, .move (.tmp 60), none⟩,
        ⟨some 62, .move (.tmp 5), some (61, true)⟩,
        ⟨some 63, .call .shared 45 [(.tmp 62)], some (61, true)⟩,
        ⟨some 64, .iop .eql (.tmp 63) (.const (.int .i64 0)), some (61, true)⟩,
        ⟨some 65, .pick (.tmp 61) (.tmp 64) (.const (.bool false)), none⟩,
        ⟨some 66, .move (.tmp 65), none⟩,
        ⟨some 67, .move (.tmp 8), some (66, true)⟩,
        ⟨some 68, .iop .eql (.tmp 67) (.const (.int .i64 0)), some (66, true)⟩,
        ⟨some 69, .pick (.tmp 66) (.tmp 68) (.const (.bool false)), none⟩,
        ⟨some 70, .move (.tmp 69), none⟩,
        ⟨some 71, .move (.tmp 9), some (70, true)⟩,
        ⟨some 72, .iop .eql (.tmp 71) (.const (.int .i64 0)), some (70, true)⟩,
        ⟨some 73, .pick (.tmp 70) (.tmp 72) (.const (.bool false)), none⟩,
        ⟨some 74, .move (.tmp 73), none⟩,
        ⟨some 75, .move (.tmp 10), some (74, true)⟩,
        ⟨some 76, .iop .eql (.tmp 75) (.const (.int .i64 0)), some (74, true)⟩,
        ⟨some 77, .pick (.tmp 74) (.tmp 76) (.const (.bool false)), none⟩,
        ⟨some 78, .move (.tmp 77), none⟩,
        ⟨some 79, .move (.tmp 11), some (78, true)⟩,
        ⟨some 80, .iop .eql (.tmp 79) (.const (.int .i64 0)), some (78, true)⟩,
        ⟨some 81, .pick (.tmp 78) (.tmp 80) (.const (.bool false)), none⟩,
        ⟨some 82, .move (.tmp 81), none⟩,
        ⟨some 83, .move (.tmp 5), some (82, true)⟩,
        ⟨some 84, .call .shared 57 [(.tmp 83)], some (82, true)⟩,
        ⟨some 85, .eqnil false .p (.tmp 84), some (82, true)⟩,
        ⟨some 86, .pick (.tmp 82) (.tmp 85) (.const (.bool false)), none⟩,
        ⟨some 4, .move (.tmp 86), none⟩])
      .ret))))), [.tmp 4]⟩

/-- purlin/purlinlaw12.live -/
def a42 : AFunc := ⟨97,
 (.seq
  (.region [⟨some 0, .move (.const (.bool false)), none⟩])
  (.seq
   (.region [⟨some 15, .call .shared 43 [(.const (.int .i64 2))], none⟩,
     ⟨some 14, .move (.tmp 15), none⟩,
     ⟨some 16, .extract (.tmp 14) 0, none⟩,
     ⟨some 17, .extract (.tmp 14) 1, none⟩,
     ⟨some 1, .move (.tmp 16), none⟩,
     ⟨some 2, .move (.tmp 17), none⟩])
   (.seq
    (.seq
     (.region [⟨some 18, .move (.tmp 2), none⟩,
       ⟨some 19, .iop .neq (.tmp 18) (.const (.int .i64 0)), none⟩,
       ⟨some 20, .move (.tmp 19), none⟩,
       ⟨some 21, .move (.tmp 1), some (20, false)⟩,
       ⟨some 22, .eqnil false .p (.tmp 21), some (20, false)⟩,
       ⟨some 23, .pick (.tmp 20) (.const (.bool true)) (.tmp 22), none⟩])
     (.cond (.tmp 23)
      (.seq
       (.region [⟨some 0, .move (.const (.bool false)), none⟩])
       .ret)
      .skip))
    (.seq
     (.region [⟨some 24, .move (.tmp 1), none⟩,
       ⟨some 25, .build [(.int .i64 0), (.int .i64 0), (.bool false), (.int .i64 0), .nilslice] [(1, 1, (.const (.int .i64 1))), (3, 1, (.const (.int .i64 5)))], none⟩,
       ⟨some 26, .build [(.int .i64 0), (.int .i64 0), (.bool false), (.int .i64 0), .nilslice] [(0, 1, (.const (.int .i64 1))), (3, 1, (.const (.int .i64 6)))], none⟩,
       ⟨some 27, .litA 5 [(.int .i64 0), (.int .i64 0), (.bool false), (.int .i64 0), .nilslice] true 2 [(0, (.tmp 25)), (1, (.tmp 26))], none⟩,
       ⟨some 28, .call .shared 44 [(.tmp 24), (.tmp 27)], none⟩,
       ⟨some 3, .move (.tmp 28), none⟩])
     (.seq
      (.region [⟨some 29, .move (.tmp 1), none⟩,
        ⟨some 30, .call .shared 52 [(.tmp 29), (.const (.int .i64 0))], none⟩,
        ⟨some 4, .move (.tmp 30), none⟩])
      (.seq
       (.region [⟨some 32, .move (.tmp 1), none⟩,
         ⟨some 33, .call .shared 48 [(.tmp 32), (.const (.int .i64 1))], none⟩,
         ⟨some 31, .move (.tmp 33), none⟩,
         ⟨some 34, .extract (.tmp 31) 0, none⟩,
         ⟨some 35, .extract (.tmp 31) 1, none⟩,
         ⟨some 5, .alloc [(.int .i64 0), (.int .i64 0), (.bool false), (.int .i64 0), .nilslice], none⟩,
         ⟨none, .store 5 (.tmp 5) (.tmp 34), none⟩,
         ⟨some 6, .move (.tmp 35), none⟩])
       (.seq
        (.region [⟨some 37, .move (.tmp 1), none⟩,
          ⟨some 38, .call .shared 48 [(.tmp 37), (.const (.int .i64 7))], none⟩,
          ⟨some 36, .move (.tmp 38), none⟩,
          ⟨some 39, .extract (.tmp 36) 0, none⟩,
          ⟨some 40, .extract (.tmp 36) 1, none⟩,
          ⟨some 7, .alloc [(.int .i64 0), (.int .i64 0), (.bool false), (.int .i64 0), .nilslice], none⟩,
          ⟨none, .store 5 (.tmp 7) (.tmp 39), none⟩,
          ⟨some 8, .move (.tmp 40), none⟩])
        (.seq
         (.region [⟨some 41, .move (.tmp 1), none⟩,
           ⟨some 42, .call .shared 47 [(.tmp 41)], none⟩,
           ⟨some 9, .move (.tmp 42), none⟩])
         (.seq
          (.region [⟨some 44, .move (.tmp 1), none⟩,
            ⟨some 45, .call .shared 61 [(.tmp 44)], none⟩,
            ⟨some 43, .move (.tmp 45), none⟩,
            ⟨some 46, .extract (.tmp 43) 0, none⟩,
            ⟨some 47, .extract (.tmp 43) 1, none⟩,
            ⟨some 48, .extract (.tmp 43) 2, none⟩,
            ⟨some 49, .extract (.tmp 43) 3, none⟩,
            ⟨some 10, .move (.tmp 46), none⟩,
            ⟨some 11, .move (.tmp 47), none⟩,
            ⟨some 12, .move (.tmp 48), none⟩,
            ⟨some 13, .move (.tmp 49), none⟩])
          (.seq
           (.region [⟨some 50, .move (.tmp 3), none⟩,
             ⟨some 51, .iop .eql (.tmp 50) (.const (.int .i64 0)), none⟩,
             ⟨some 52, .move (.tmp 51), none⟩,
             ⟨some 53, .move (.tmp 4), some (52, true)⟩,
             ⟨some 54, .iop .eql (.tmp 53) (.const (.int .i64 0)), some (52, true)⟩,
             ⟨some 55, .pick (.tmp 52) (.tmp 54) (.const (.bool false)), none⟩,
             ⟨some 56, .move (.tmp 55), none⟩,
             ⟨some 57, .move (.tmp 6), some (56, true)⟩,
             ⟨some 58, .iop .eql (.tmp 57) (.const (.int .i64 0)), some (56, true)⟩,
             ⟨some 59, .pick (.tmp 56) (.tmp 58) (.const (.bool false)), none⟩,
             ⟨some 60, .move (.tmp 59), none⟩,
             ⟨some 61, .faddr 3 (.tmp 5), some (60, true)⟩,
             ⟨some 62, .load 1 false (.tmp 61), some (60, true)⟩,
             ⟨some 63, .iop .eql (.tmp 62) (.const (.int .i64 6)), some (60, true)⟩,
             ⟨some 64, .pick (.tmp 60) (.tmp 63) (.const (.bool false)), none⟩,
             ⟨some 65, .move (.tmp 64), none⟩,
             ⟨some 66, .move (.tmp 8), some (65, true)⟩,
             ⟨some 67, .iop .eql (.tmp 66) (.const (.int .i64 4)), some (65, true)⟩,
             ⟨some 68, .pick (.tmp 65) (.tmp 67) (.const (.bool false)), none⟩,
             ⟨some 69, .move (.tmp 68), none⟩,
             ⟨some 70, .move (.tmp 9), some (69, true)⟩,
             ⟨some 71, .lenS (.tmp 70), some (69, true)⟩,
             ⟨some 72, .iop .eql (.tmp 71) (.const (.int .i64 2)), some (69, true)⟩,
             ⟨some 73, .pick (.tmp 69) (.tmp 72) (.const (.bool false)), none⟩,
             ⟨some 74, .move (.tmp 73), none⟩,
             ⟨some 75, .move (.tmp 9), some (74, true)⟩,
             ⟨some 76, .iaddr 5 (.tmp 75) (.const (.int .i64 1)), some (74, true)⟩,
             ⟨some 77, .faddr 3 (.tmp 76), some (74, true)⟩,
             ⟨some 78, .load 1 false (.tmp 77), some (74, true)⟩,
             ⟨some 79, .iop .eql (.tmp 78) (.const (.int .i64 5)), some (74, true)⟩,
             ⟨some 80, .pick (.tmp 74) (.tmp 79) (.const (.bool false)), none⟩,
             ⟨some 81, .move (.tmp 80), none⟩,
             ⟨some 82, .move (.tmp 10), some (81, true)⟩,
             ⟨some 83, .iop .eql (.tmp 82) (.const (.int .i64 2)), some (81, true)⟩,
             ⟨some 84, .pick (.tmp 81) (.tmp 83) (.const (.bool false)), none⟩,
             ⟨some 85, .move (.tmp 84), none⟩,
             ⟨some 86, .move (.tmp 11), some (85, true)⟩,
             ⟨some 87, .iop .eql (.tmp 86) (.const (.int .i64 1)), some (85, true)⟩,
             ⟨some 88, .pick (.tmp 85) (.tmp 87) (.const (.bool false)), none⟩,
             ⟨some 89, .move (.tmp 88), none⟩,
             ⟨some 90, .move (.tmp 12), some (89, true)⟩,
             ⟨some 91, .iop .eql (.tmp 90) (.const (.int .i64 0)), some (89, true)⟩,
             ⟨some 92, .pick (.tmp 89) (.tmp 91) (.const (.bool false)), none⟩,
             ⟨some 93, .move (.tmp 92), none⟩,
             ⟨some 94, .move (.tmp 13), some (93, true)⟩,
             ⟨some 95, .iop .eql (.tmp 94) (.const (.int .i64 1)), some (93, true)⟩,
             ⟨some 96, .pick (.tmp 93) (.tmp 95) (.const (.bool false)), none⟩,
             ⟨some 0, .move (.tmp 96), none⟩])
           .ret)))))))))), [.tmp 0]⟩

/-- purlin/net.New -/
def a43 : AFunc := ⟨13,
 (.seq
  (.region [⟨some 2, .move (.const .nilptr), none⟩,
    ⟨some 3, .move (.const (.int .i64 0)), none⟩])
  (.seq
   (.seq
    (.region [⟨some 4, .move (.tmp 0), none⟩,
      ⟨some 5, .iop .lss (.tmp 4) (.const (.int .i64 1)), none⟩,
      ⟨some 6, .move (.tmp 5), none⟩,
      ⟨some 7, .move (.tmp 0), some (6, false)⟩,
      ⟨some 8, .iop .gtr (.tmp 7) (.const (.int .i64 4)), some (6, false)⟩,
      ⟨some 9, .pick (.tmp 6) (.const (.bool true)) (.tmp 8), none⟩])
    (.cond (.tmp 9)
     (.seq
      (.region [⟨some 2, .move (.const .nilptr), none⟩,
        ⟨some 3, .move (.const (.int .i64 2)), none⟩])
      .ret)
     .skip))
   (.seq
    (.region [⟨some 10, .move (.tmp 0), none⟩,
      ⟨some 11, .build [(.int .i64 0), (.int .i64 0), (.int .i64 0), (.int .i64 0), (.int .i64 0), .nilslice] [(4, 1, (.tmp 10))], none⟩,
      ⟨some 12, .box (.tmp 11), none⟩,
      ⟨some 2, .move (.tmp 12), none⟩,
      ⟨some 3, .move (.const (.int .i64 0)), none⟩])
    .ret))), [.tmp 2, .tmp 3]⟩

/-- (*purlin/net.Net).Send -/
def a44 : AFunc := ⟨54,
 (.seq
  (.region [⟨some 4, .move (.const (.int .i64 0)), none⟩])
  (.seq
   (.seq
    (.region [⟨some 10, .move (.tmp 0), none⟩,
      ⟨some 11, .eqnil false .p (.tmp 10), none⟩])
    (.cond (.tmp 11)
     (.seq
      (.region [⟨some 4, .move (.const (.int .i64 1)), none⟩])
      .ret)
     .skip))
   (.seq
    (.seq
     (.region [⟨some 12, .move (.tmp 1), none⟩,
       ⟨some 13, .lenS (.tmp 12), none⟩,
       ⟨some 14, .move (.const (.int .i64 0)), none⟩])
     (.block 0
      (.loop [0, 1, 12, 13, 14]
       (.seq
        (.region [⟨some 15, .iop .lss (.tmp 14) (.tmp 13), none⟩])
        (.seq
         (.cond (.tmp 15)
          .skip
          (.exit 0))
         (.seq
          (.block 1
           (.seq
            (.region [⟨some 16, .iaddr 5 (.tmp 12) (.tmp 14), none⟩,
              ⟨some 17, .load 5 true (.tmp 16), none⟩,
              ⟨some 6, .alloc [(.int .i64 0), (.int .i64 0), (.bool false), (.int .i64 0), .nilslice], none⟩,
              ⟨none, .store 5 (.tmp 6) (.tmp 17), none⟩])
            (.seq
             (.region [⟨some 18, .move (.tmp 0), none⟩,
               ⟨some 19, .load 5 true (.tmp 6), none⟩,
               ⟨some 20, .call .shared 78 [(.tmp 18), (.tmp 19)], none⟩,
               ⟨some 7, .move (.tmp 20), none⟩])
             (.seq
              (.region [⟨some 21, .move (.tmp 7), none⟩,
                ⟨some 22, .iop .neq (.tmp 21) (.const (.int .i64 0)), none⟩])
              (.cond (.tmp 22)
               (.seq
                (.region [⟨some 23, .move (.tmp 7), none⟩,
                  ⟨some 4, .move (.tmp 23), none⟩])
                .ret)
               .skip)))))
          (.region [⟨some 24, .iop .add (.tmp 14) (.const (.int .i64 1)), none⟩,
            ⟨some 14, .move (.tmp 24), none⟩])))))))
    (.seq
     (.seq
      (.region [⟨some 25, .move (.tmp 1), none⟩,
        ⟨some 26, .lenS (.tmp 25), none⟩,
        ⟨some 27, .move (.const (.int .i64 0)), none⟩])
      (.block 2
       (.loop [0, 1, 25, 26, 27]
        (.seq
         (.region [⟨some 28, .iop .lss (.tmp 27) (.tmp 26), none⟩])
         (.seq
          (.cond (.tmp 28)
           .skip
           (.exit 2))
          (.seq
           (.block 3
            (.seq
             (.region [⟨some 29, .iaddr 5 (.tmp 25) (.tmp 27), none⟩,
               ⟨some 30, .load 5 true (.tmp 29), none⟩,
               ⟨some 9, .alloc [(.int .i64 0), (.int .i64 0), (.bool false), (.int .i64 0), .nilslice], none⟩,
               ⟨none, .store 5 (.tmp 9) (.tmp 30), none⟩])
             (.drawn [⟨some 31, .move (.tmp 0), none⟩,
               ⟨some 32, .move (.tmp 0), none⟩,
               ⟨some 33, .nilCheck (.tmp 32), none⟩,
               ⟨some 34, .faddr 5 (.tmp 33), none⟩,
               ⟨some 35, .load 1 false (.tmp 34), none⟩,
               ⟨some 36, .load 5 true (.tmp 9), none⟩,
               ⟨some 37, .call .shared 79 [(.tmp 36)], none⟩,
               ⟨some 38, .litA 5 [(.int .i64 0), (.int .i64 0), (.bool false), (.int .i64 0), .nilslice] true 1 [(0, (.tmp 37))], none⟩,
               ⟨some 39, .append 5 56 (.tmp 35) (.tmp 38), none⟩,
               ⟨some 40, .nilCheck (.tmp 31), none⟩,
               ⟨some 41, .faddr 5 (.tmp 40), none⟩,
               ⟨none, .store 1 (.tmp 41) (.tmp 39), none⟩] [(4, 6), (4, 7)])))
           (.region [⟨some 42, .iop .add (.tmp 27) (.const (.int .i64 1)), none⟩,
             ⟨some 27, .move (.tmp 42), none⟩])))))))
     (.seq
      (.region [⟨some 43, .move (.tmp 0), none⟩,
        ⟨some 44, .nilCheck (.tmp 43), none⟩,
        ⟨some 45, .faddr 0 (.tmp 44), none⟩,
        ⟨some 46, .faddr 0 (.tmp 45), none⟩,
        ⟨some 47, .load 1 false (.tmp 46), none⟩,
        ⟨some 48, .move (.tmp 1), none⟩,
        ⟨some 49, .lenS (.tmp 48), none⟩,
        ⟨some 50, .iop .add (.tmp 47) (.tmp 49), none⟩,
        ⟨some 51, .nilCheck (.tmp 43), none⟩,
        ⟨some 52, .faddr 0 (.tmp 51), none⟩,
        ⟨some 53, .faddr 0 (.tmp 52), none⟩,
        ⟨none, .store 1 (.tmp 53) (.tmp 50), none⟩])
      (.seq
       (.region [⟨some 4, .move (.const (.int .i64 0)), none⟩])
       .ret)))))), [.tmp 4]⟩

/-- (*purlin/net.Net).Len -/
def a45 : AFunc := ⟨10,
 (.seq
  (.region [⟨some 2, .move (.const (.int .i64 0)), none⟩])
  (.seq
   (.seq
    (.region [⟨some 3, .move (.tmp 0), none⟩,
      ⟨some 4, .eqnil false .p (.tmp 3), none⟩])
    (.cond (.tmp 4)
     (.seq
      (.region [⟨some 2, .move (.const (.int .i64 0)), none⟩])
      .ret)
     .skip))
   (.seq
    (.region [⟨some 5, .move (.tmp 0), none⟩,
      ⟨some 6, .nilCheck (.tmp 5), none⟩,
      ⟨some 7, .faddr 5 (.tmp 6), none⟩,
      ⟨some 8, .load 1 false (.tmp 7), none⟩,
      ⟨some 9, .lenS (.tmp 8), none⟩,
      ⟨some 2, .move (.tmp 9), none⟩])
    .ret))), [.tmp 2]⟩

/-- (*purlin/net.Net).Waiting -/
def a47 : AFunc := ⟨24,
 (.seq
  (.region [⟨some 2, .move (.const .nilslice), none⟩])
  (.seq
   (.seq
    (.region [⟨some 6, .move (.tmp 0), none⟩,
      ⟨some 7, .eqnil false .p (.tmp 6), none⟩])
    (.cond (.tmp 7)
     (.seq
      (.region [⟨some 2, .move (.const .nilslice), none⟩])
      .ret)
     .skip))
   (.seq
    (.region [⟨some 3, .move (.const .nilslice), none⟩])
    (.seq
     (.seq
      (.region [⟨some 8, .move (.tmp 0), none⟩,
        ⟨some 9, .nilCheck (.tmp 8), none⟩,
        ⟨some 10, .faddr 5 (.tmp 9), none⟩,
        ⟨some 11, .load 1 false (.tmp 10), none⟩,
        ⟨some 12, .lenS (.tmp 11), none⟩,
        ⟨some 13, .move (.const (.int .i64 0)), none⟩])
      (.block 0
       (.loop [3, 11, 12, 13]
        (.seq
         (.region [⟨some 14, .iop .lss (.tmp 13) (.tmp 12), none⟩])
         (.seq
          (.cond (.tmp 14)
           .skip
           (.exit 0))
          (.seq
           (.block 1
            (.seq
             (.region [⟨some 15, .iaddr 5 (.tmp 11) (.tmp 13), none⟩,
               ⟨some 16, .load 5 true (.tmp 15), none⟩,
               ⟨some 5, .alloc [(.int .i64 0), (.int .i64 0), (.bool false), (.int .i64 0), .nilslice], none⟩,
               ⟨none, .store 5 (.tmp 5) (.tmp 16), none⟩])
             (.region [⟨some 17, .move (.tmp 3), none⟩,
               ⟨some 18, .load 5 true (.tmp 5), none⟩,
               ⟨some 19, .call .shared 79 [(.tmp 18)], none⟩,
               ⟨some 20, .litA 5 [(.int .i64 0), (.int .i64 0), (.bool false), (.int .i64 0), .nilslice] true 1 [(0, (.tmp 19))], none⟩,
               ⟨some 21, .append 5 56 (.tmp 17) (.tmp 20), none⟩,
               ⟨some 3, .move (.tmp 21), none⟩])))
           (.region [⟨some 22, .iop .add (.tmp 13) (.const (.int .i64 1)), none⟩,
             ⟨some 13, .move (.tmp 22), none⟩])))))))
     (.seq
      (.region [⟨some 23, .move (.tmp 3), none⟩,
        ⟨some 2, .move (.tmp 23), none⟩])
      .ret))))), [.tmp 2]⟩

/-- (*purlin/net.Net).Deliver -/
def a48 : AFunc := ⟨26,
 (.seq
  (.region [⟨some 4, .alloc [(.int .i64 0), (.int .i64 0), (.bool false), (.int .i64 0), .nilslice], none⟩,
    ⟨some 5, .move (.const (.int .i64 0)), none⟩])
  (.seq
   (.seq
    (.region [⟨some 7, .move (.tmp 0), none⟩,
      ⟨some 8, .move (.tmp 1), none⟩,
      ⟨some 9, .call .shared 80 [(.tmp 7), (.tmp 8)], none⟩,
      ⟨some 6, .move (.tmp 9), none⟩])
    (.seq
     (.region [⟨some 10, .move (.tmp 6), none⟩,
       ⟨some 11, .iop .neq (.tmp 10) (.const (.int .i64 0)), none⟩])
     (.cond (.tmp 11)
      (.seq
       (.region [⟨some 12, .build [(.int .i64 0), (.int .i64 0), (.bool false), (.int .i64 0), .nilslice] [], none⟩,
         ⟨some 13, .move (.tmp 6), none⟩,
         ⟨none, .store 5 (.tmp 4) (.tmp 12), none⟩,
         ⟨some 5, .move (.tmp 13), none⟩])
       .ret)
      .skip)))
   (.seq
    (.region [⟨some 14, .move (.tmp 0), none⟩,
      ⟨some 15, .nilCheck (.tmp 14), none⟩,
      ⟨some 16, .faddr 0 (.tmp 15), none⟩,
      ⟨some 17, .faddr 1 (.tmp 16), none⟩,
      ⟨some 18, .load 1 false (.tmp 17), none⟩,
      ⟨some 19, .iop .add (.tmp 18) (.const (.int .i64 1)), none⟩,
      ⟨some 20, .nilCheck (.tmp 14), none⟩,
      ⟨some 21, .faddr 0 (.tmp 20), none⟩,
      ⟨some 22, .faddr 1 (.tmp 21), none⟩,
      ⟨none, .store 1 (.tmp 22) (.tmp 19), none⟩])
    (.seq
     (.region [⟨some 23, .move (.tmp 0), none⟩,
       ⟨some 24, .move (.tmp 1), none⟩,
       ⟨some 25, .call .shared 81 [(.tmp 23), (.tmp 24)], none⟩,
       ⟨none, .store 5 (.tmp 4) (.tmp 25), none⟩,
       ⟨some 5, .move (.const (.int .i64 0)), none⟩])
     .ret)))), [.cell 4 5 true, .tmp 5]⟩

/-- (*purlin/net.Net).Drop -/
def a51 : AFunc := ⟨24,
 (.seq
  (.region [⟨some 4, .move (.const (.int .i64 0)), none⟩])
  (.seq
   (.seq
    (.region [⟨some 6, .move (.tmp 0), none⟩,
      ⟨some 7, .move (.tmp 1), none⟩,
      ⟨some 8, .call .shared 80 [(.tmp 6), (.tmp 7)], none⟩,
      ⟨some 5, .move (.tmp 8), none⟩])
    (.seq
     (.region [⟨some 9, .move (.tmp 5), none⟩,
       ⟨some 10, .iop .neq (.tmp 9) (.const (.int .i64 0)), none⟩])
     (.cond (.tmp 10)
      (.seq
       (.region [⟨some 11, .move (.tmp 5), none⟩,
         ⟨some 4, .move (.tmp 11), none⟩])
       .ret)
      .skip)))
   (.seq
    (.region [⟨some 12, .move (.tmp 0), none⟩,
      ⟨some 13, .nilCheck (.tmp 12), none⟩,
      ⟨some 14, .faddr 0 (.tmp 13), none⟩,
      ⟨some 15, .faddr 2 (.tmp 14), none⟩,
      ⟨some 16, .load 1 false (.tmp 15), none⟩,
      ⟨some 17, .iop .add (.tmp 16) (.const (.int .i64 1)), none⟩,
      ⟨some 18, .nilCheck (.tmp 12), none⟩,
      ⟨some 19, .faddr 0 (.tmp 18), none⟩,
      ⟨some 20, .faddr 2 (.tmp 19), none⟩,
      ⟨none, .store 1 (.tmp 20) (.tmp 17), none⟩])
    (.seq
     (.region [⟨some 21, .move (.tmp 0), none⟩,
       ⟨some 22, .move (.tmp 1), none⟩,
       ⟨some 23, .call .shared 81 [(.tmp 21), (.tmp 22)], none⟩])
     (.seq
      (.region [⟨some 4, .move (.const (.int .i64 0)), none⟩])
      .ret))))), [.tmp 4]⟩

/-- (*purlin/net.Net).Double -/
def a52 : AFunc := ⟨38,
 (.seq
  (.region [⟨some 4, .move (.const (.int .i64 0)), none⟩])
  (.seq
   (.seq
    (.region [⟨some 6, .move (.tmp 0), none⟩,
      ⟨some 7, .move (.tmp 1), none⟩,
      ⟨some 8, .call .shared 80 [(.tmp 6), (.tmp 7)], none⟩,
      ⟨some 5, .move (.tmp 8), none⟩])
    (.seq
     (.region [⟨some 9, .move (.tmp 5), none⟩,
       ⟨some 10, .iop .neq (.tmp 9) (.const (.int .i64 0)), none⟩])
     (.cond (.tmp 10)
      (.seq
       (.region [⟨some 11, .move (.tmp 5), none⟩,
         ⟨some 4, .move (.tmp 11), none⟩])
       .ret)
      .skip)))
   (.seq
    (.region [⟨some 12, .move (.tmp 0), none⟩,
      ⟨some 13, .nilCheck (.tmp 12), none⟩,
      ⟨some 14, .faddr 0 (.tmp 13), none⟩,
      ⟨some 15, .faddr 3 (.tmp 14), none⟩,
      ⟨some 16, .load 1 false (.tmp 15), none⟩,
      ⟨some 17, .iop .add (.tmp 16) (.const (.int .i64 1)), none⟩,
      ⟨some 18, .nilCheck (.tmp 12), none⟩,
      ⟨some 19, .faddr 0 (.tmp 18), none⟩,
      ⟨some 20, .faddr 3 (.tmp 19), none⟩,
      ⟨none, .store 1 (.tmp 20) (.tmp 17), none⟩])
    (.seq
     (.drawn [⟨some 21, .move (.tmp 0), none⟩,
       ⟨some 22, .move (.tmp 0), none⟩,
       ⟨some 23, .nilCheck (.tmp 22), none⟩,
       ⟨some 24, .faddr 5 (.tmp 23), none⟩,
       ⟨some 25, .load 1 false (.tmp 24), none⟩,
       ⟨some 26, .move (.tmp 0), none⟩,
       ⟨some 27, .nilCheck (.tmp 26), none⟩,
       ⟨some 28, .faddr 5 (.tmp 27), none⟩,
       ⟨some 29, .load 1 false (.tmp 28), none⟩,
       ⟨some 30, .move (.tmp 1), none⟩,
       ⟨some 31, .iaddr 5 (.tmp 29) (.tmp 30), none⟩,
       ⟨some 32, .load 5 true (.tmp 31), none⟩,
       ⟨some 33, .call .shared 79 [(.tmp 32)], none⟩,
       ⟨some 34, .litA 5 [(.int .i64 0), (.int .i64 0), (.bool false), (.int .i64 0), .nilslice] true 1 [(0, (.tmp 33))], none⟩,
       ⟨some 35, .append 5 56 (.tmp 25) (.tmp 34), none⟩,
       ⟨some 36, .nilCheck (.tmp 21), none⟩,
       ⟨some 37, .faddr 5 (.tmp 36), none⟩,
       ⟨none, .store 1 (.tmp 37) (.tmp 35), none⟩] [(4, 12), (4, 13)])
     (.seq
      (.region [⟨some 4, .move (.const (.int .i64 0)), none⟩])
      .ret))))), [.tmp 4]⟩

/-- (*purlin/net.Net).To -/
def a55 : AFunc := ⟨30,
 (.seq
  (.region [⟨some 4, .move (.const .nilslice), none⟩])
  (.seq
   (.seq
    (.region [⟨some 8, .move (.tmp 0), none⟩,
      ⟨some 9, .eqnil false .p (.tmp 8), none⟩])
    (.cond (.tmp 9)
     (.seq
      (.region [⟨some 4, .move (.const .nilslice), none⟩])
      .ret)
     .skip))
   (.seq
    (.region [⟨some 5, .move (.const .nilslice), none⟩])
    (.seq
     (.seq
      (.region [⟨some 10, .move (.tmp 0), none⟩,
        ⟨some 11, .nilCheck (.tmp 10), none⟩,
        ⟨some 12, .faddr 5 (.tmp 11), none⟩,
        ⟨some 13, .load 1 false (.tmp 12), none⟩,
        ⟨some 14, .lenS (.tmp 13), none⟩,
        ⟨some 15, .move (.const (.int .i64 0)), none⟩])
      (.block 0
       (.loop [1, 5, 13, 14, 15]
        (.seq
         (.region [⟨some 16, .iop .lss (.tmp 15) (.tmp 14), none⟩])
         (.seq
          (.cond (.tmp 16)
           .skip
           (.exit 0))
          (.seq
           (.block 1
            (.seq
             (.region [⟨some 17, .move (.tmp 15), none⟩,
               ⟨some 18, .iaddr 5 (.tmp 13) (.tmp 15), none⟩,
               ⟨some 19, .load 5 true (.tmp 18), none⟩,
               ⟨some 7, .alloc [(.int .i64 0), (.int .i64 0), (.bool false), (.int .i64 0), .nilslice], none⟩,
               ⟨some 6, .move (.tmp 17), none⟩,
               ⟨none, .store 5 (.tmp 7) (.tmp 19), none⟩])
             (.seq
              (.region [⟨some 20, .faddr 1 (.tmp 7), none⟩,
                ⟨some 21, .load 1 false (.tmp 20), none⟩,
                ⟨some 22, .move (.tmp 1), none⟩,
                ⟨some 23, .iop .eql (.tmp 21) (.tmp 22), none⟩])
              (.cond (.tmp 23)
               (.region [⟨some 24, .move (.tmp 5), none⟩,
                 ⟨some 25, .move (.tmp 6), none⟩,
                 ⟨some 26, .lit 1 [(.int .i64 0)] false 1 [(0, (.tmp 25))], none⟩,
                 ⟨some 27, .append 1 8 (.tmp 24) (.tmp 26), none⟩,
                 ⟨some 5, .move (.tmp 27), none⟩])
               .skip))))
           (.region [⟨some 28, .iop .add (.tmp 15) (.const (.int .i64 1)), none⟩,
             ⟨some 15, .move (.tmp 28), none⟩])))))))
     (.seq
      (.region [⟨some 29, .move (.tmp 5), none⟩,
        ⟨some 4, .move (.tmp 29), none⟩])
      .ret))))), [.tmp 4]⟩

/-- (*purlin/net.Net).Fork -/
def a57 : AFunc := ⟨17,
 (.seq
  (.region [⟨some 2, .move (.const .nilptr), none⟩])
  (.seq
   (.seq
    (.region [⟨some 3, .move (.tmp 0), none⟩,
      ⟨some 4, .eqnil false .p (.tmp 3), none⟩])
    (.cond (.tmp 4)
     (.seq
      (.region [⟨some 2, .move (.const .nilptr), none⟩])
      .ret)
     .skip))
   (.seq
    (.drawn [⟨some 5, .move (.tmp 0), none⟩,
      ⟨some 6, .nilCheck (.tmp 5), none⟩,
      ⟨some 7, .faddr 0 (.tmp 6), none⟩,
      ⟨some 8, .load 4 true (.tmp 7), none⟩,
      ⟨some 9, .move (.tmp 0), none⟩,
      ⟨some 10, .nilCheck (.tmp 9), none⟩,
      ⟨some 11, .faddr 4 (.tmp 10), none⟩,
      ⟨some 12, .load 1 false (.tmp 11), none⟩,
      ⟨some 13, .move (.tmp 0), none⟩,
      ⟨some 14, .call .shared 47 [(.tmp 13)], none⟩,
      ⟨some 15, .build [(.int .i64 0), (.int .i64 0), (.int .i64 0), (.int .i64 0), (.int .i64 0), .nilslice] [(0, 4, (.tmp 8)), (4, 1, (.tmp 12)), (5, 1, (.tmp 14))], none⟩,
      ⟨some 16, .box (.tmp 15), none⟩,
      ⟨some 2, .move (.tmp 16), none⟩] [(3, 9), (7, 9)])
    .ret))), [.tmp 2]⟩

/-- (*purlin/net.Net).Counts -/
def a61 : AFunc := ⟨28,
 (.seq
  (.region [⟨some 2, .move (.const (.int .i64 0)), none⟩,
    ⟨some 3, .move (.const (.int .i64 0)), none⟩,
    ⟨some 4, .move (.const (.int .i64 0)), none⟩,
    ⟨some 5, .move (.const (.int .i64 0)), none⟩])
  (.seq
   (.seq
    (.region [⟨some 6, .move (.tmp 0), none⟩,
      ⟨some 7, .eqnil false .p (.tmp 6), none⟩])
    (.cond (.tmp 7)
     (.seq
      (.region [⟨some 2, .move (.const (.int .i64 0)), none⟩,
        ⟨some 3, .move (.const (.int .i64 0)), none⟩,
        ⟨some 4, .move (.const (.int .i64 0)), none⟩,
        ⟨some 5, .move (.const (.int .i64 0)), none⟩])
      .ret)
     .skip))
   (.seq
    (.region [⟨some 8, .move (.tmp 0), none⟩,
      ⟨some 9, .nilCheck (.tmp 8), none⟩,
      ⟨some 10, .faddr 0 (.tmp 9), none⟩,
      ⟨some 11, .faddr 0 (.tmp 10), none⟩,
      ⟨some 12, .load 1 false (.tmp 11), none⟩,
      ⟨some 13, .move (.tmp 0), none⟩,
      ⟨some 14, .nilCheck (.tmp 13), none⟩,
      ⟨some 15, .faddr 0 (.tmp 14), none⟩,
      ⟨some 16, .faddr 1 (.tmp 15), none⟩,
      ⟨some 17, .load 1 false (.tmp 16), none⟩,
      ⟨some 18, .move (.tmp 0), none⟩,
      ⟨some 19, .nilCheck (.tmp 18), none⟩,
      ⟨some 20, .faddr 0 (.tmp 19), none⟩,
      ⟨some 21, .faddr 2 (.tmp 20), none⟩,
      ⟨some 22, .load 1 false (.tmp 21), none⟩,
      ⟨some 23, .move (.tmp 0), none⟩,
      ⟨some 24, .nilCheck (.tmp 23), none⟩,
      ⟨some 25, .faddr 0 (.tmp 24), none⟩,
      ⟨some 26, .faddr 3 (.tmp 25), none⟩,
      ⟨some 27, .load 1 false (.tmp 26), none⟩,
      ⟨some 2, .move (.tmp 12), none⟩,
      ⟨some 3, .move (.tmp 17), none⟩,
      ⟨some 4, .move (.tmp 22), none⟩,
      ⟨some 5, .move (.tmp 27), none⟩])
    .ret))), [.tmp 2, .tmp 3, .tmp 4, .tmp 5]⟩

/-- bytes.Clone -/
def a65 : AFunc := ⟨8,
 (.seq
  (.region [⟨some 2, .move (.const .nilslice), none⟩])
  (.seq
   (.seq
    (.region [⟨some 3, .move (.tmp 0), none⟩,
      ⟨some 4, .eqnil false .s (.tmp 3), none⟩])
    (.cond (.tmp 4)
     (.seq
      (.region [⟨some 2, .move (.const .nilslice), none⟩])
      .ret)
     .skip))
   (.seq
    (.region [⟨some 5, .lit 1 [(.int .u8 0)] false 0 [], none⟩,
      ⟨some 6, .move (.tmp 0), none⟩,
      ⟨some 7, .append 1 1 (.tmp 5) (.tmp 6), none⟩,
      ⟨some 2, .move (.tmp 7), none⟩])
    .ret))), [.tmp 2]⟩

/-- (*purlin/net.Net).look -/
def a78 : AFunc := ⟨46,
 (.seq
  (.region [⟨some 2, .box (.tmp 0), none⟩,
    ⟨some 3, .box (.tmp 1), none⟩,
    ⟨some 4, .move (.const (.int .i64 0)), none⟩])
  (.seq
   (.region [⟨some 6, .mkfunc 95 [] [(.tmp 2)], none⟩,
     ⟨some 5, .move (.tmp 6), none⟩])
   (.seq
    (.block 0
     (.seq
      (.region [⟨some 8, .move (.tmp 5), none⟩,
        ⟨some 9, .faddr 0 (.tmp 3), none⟩,
        ⟨some 10, .load 1 false (.tmp 9), none⟩,
        ⟨some 11, .callv .shared (.tmp 8) [(.tmp 10)], none⟩,
        ⟨some 12, .not (.tmp 11), none⟩,
        ⟨some 13, .move (.tmp 12), none⟩,
        ⟨some 14, .move (.tmp 5), some (13, false)⟩,
        ⟨some 15, .faddr 1 (.tmp 3), some (13, false)⟩,
        ⟨some 16, .load 1 false (.tmp 15), some (13, false)⟩,
        ⟨some 17, .callv .shared (.tmp 14) [(.tmp 16)], some (13, false)⟩,
        ⟨some 18, .not (.tmp 17), some (13, false)⟩,
        ⟨some 19, .pick (.tmp 13) (.const (.bool true)) (.tmp 18), none⟩,
        ⟨some 20, .move (.tmp 19), none⟩,
        ⟨some 21, .faddr 0 (.tmp 3), some (20, false)⟩,
        ⟨some 22, .load 1 false (.tmp 21), some (20, false)⟩,
        ⟨some 23, .faddr 1 (.tmp 3), some (20, false)⟩,
        ⟨some 24, .load 1 false (.tmp 23), some (20, false)⟩,
        ⟨some 25, .iop .eql (.tmp 22) (.tmp 24), some (20, false)⟩,
        ⟨some 26, .pick (.tmp 20) (.const (.bool true)) (.tmp 25), none⟩,
        ⟨some 27, .move (.tmp 26), none⟩,
        ⟨some 28, .faddr 3 (.tmp 3), some (27, false)⟩,
        ⟨some 29, .load 1 false (.tmp 28), some (27, false)⟩,
        ⟨some 30, .iop .lss (.tmp 29) (.const (.int .i64 0)), some (27, false)⟩,
        ⟨some 31, .pick (.tmp 27) (.const (.bool true)) (.tmp 30), none⟩,
        ⟨some 7, .move (.tmp 31), none⟩])
      (.cond (.tmp 7)
       (.seq
        (.region [⟨some 4, .move (.const (.int .i64 2)), none⟩])
        .ret)
       (.seq
        (.region [⟨some 33, .faddr 4 (.tmp 3), none⟩,
          ⟨some 34, .load 1 false (.tmp 33), none⟩,
          ⟨some 35, .lenS (.tmp 34), none⟩,
          ⟨some 36, .iop .gtr (.tmp 35) (.const (.int .i64 65536)), none⟩,
          ⟨some 32, .move (.tmp 36), none⟩])
        (.cond (.tmp 32)
         (.seq
          (.region [⟨some 4, .move (.const (.int .i64 5)), none⟩])
          .ret)
         (.seq
          (.region [⟨some 38, .faddr 2 (.tmp 3), none⟩,
            ⟨some 39, .load 1 false (.tmp 38), none⟩,
            ⟨some 40, .move (.tmp 39), none⟩,
            ⟨some 41, .faddr 4 (.tmp 3), some (40, true)⟩,
            ⟨some 42, .load 1 false (.tmp 41), some (40, true)⟩,
            ⟨some 43, .lenS (.tmp 42), some (40, true)⟩,
            ⟨some 44, .iop .gtr (.tmp 43) (.const (.int .i64 0)), some (40, true)⟩,
            ⟨some 45, .pick (.tmp 40) (.tmp 44) (.const (.bool false)), none⟩,
            ⟨some 37, .move (.tmp 45), none⟩])
          (.cond (.tmp 37)
           (.seq
            (.region [⟨some 4, .move (.const (.int .i64 6)), none⟩])
            .ret)
           .skip)))))))
    (.seq
     (.region [⟨some 4, .move (.const (.int .i64 0)), none⟩])
     .ret)))), [.tmp 4]⟩

/-- purlin/net.copied -/
def a79 : AFunc := ⟨8,
 (.seq
  (.region [⟨some 1, .box (.tmp 0), none⟩,
    ⟨some 2, .alloc [(.int .i64 0), (.int .i64 0), (.bool false), (.int .i64 0), .nilslice], none⟩])
  (.seq
   (.region [⟨some 3, .faddr 4 (.tmp 1), none⟩,
     ⟨some 4, .load 1 false (.tmp 3), none⟩,
     ⟨some 5, .call .shared 65 [(.tmp 4)], none⟩,
     ⟨some 6, .faddr 4 (.tmp 1), none⟩,
     ⟨none, .store 1 (.tmp 6) (.tmp 5), none⟩])
   (.seq
    (.region [⟨some 7, .load 5 true (.tmp 1), none⟩,
      ⟨none, .store 5 (.tmp 2) (.tmp 7), none⟩])
    .ret))), [.cell 2 5 true]⟩

/-- (*purlin/net.Net).at -/
def a80 : AFunc := ⟨20,
 (.seq
  (.region [⟨some 4, .move (.const (.int .i64 0)), none⟩])
  (.seq
   (.block 0
    (.seq
     (.region [⟨some 6, .move (.tmp 0), none⟩,
       ⟨some 7, .eqnil false .p (.tmp 6), none⟩,
       ⟨some 5, .move (.tmp 7), none⟩])
     (.cond (.tmp 5)
      (.seq
       (.region [⟨some 4, .move (.const (.int .i64 1)), none⟩])
       .ret)
      (.seq
       (.region [⟨some 9, .move (.tmp 1), none⟩,
         ⟨some 10, .iop .lss (.tmp 9) (.const (.int .i64 0)), none⟩,
         ⟨some 11, .move (.tmp 10), none⟩,
         ⟨some 12, .move (.tmp 1), some (11, false)⟩,
         ⟨some 13, .move (.tmp 0), some (11, false)⟩,
         ⟨some 14, .nilCheck (.tmp 13), some (11, false)⟩,
         ⟨some 15, .faddr 5 (.tmp 14), some (11, false)⟩,
         ⟨some 16, .load 1 false (.tmp 15), some (11, false)⟩,
         ⟨some 17, .lenS (.tmp 16), some (11, false)⟩,
         ⟨some 18, .iop .geq (.tmp 12) (.tmp 17), some (11, false)⟩,
         ⟨some 19, .pick (.tmp 11) (.const (.bool true)) (.tmp 18), none⟩,
         ⟨some 8, .move (.tmp 19), none⟩])
       (.cond (.tmp 8)
        (.seq
         (.region [⟨some 4, .move (.const (.int .i64 4)), none⟩])
         .ret)
        .skip)))))
   (.seq
    (.region [⟨some 4, .move (.const (.int .i64 0)), none⟩])
    .ret))), [.tmp 4]⟩

/-- (*purlin/net.Net).out -/
def a81 : AFunc := ⟨32,
 (.seq
  (.region [⟨some 4, .alloc [(.int .i64 0), (.int .i64 0), (.bool false), (.int .i64 0), .nilslice], none⟩])
  (.seq
   (.region [⟨some 6, .move (.tmp 0), none⟩,
     ⟨some 7, .nilCheck (.tmp 6), none⟩,
     ⟨some 8, .faddr 5 (.tmp 7), none⟩,
     ⟨some 9, .load 1 false (.tmp 8), none⟩,
     ⟨some 10, .move (.tmp 1), none⟩,
     ⟨some 11, .iaddr 5 (.tmp 9) (.tmp 10), none⟩,
     ⟨some 12, .load 5 true (.tmp 11), none⟩,
     ⟨some 5, .alloc [(.int .i64 0), (.int .i64 0), (.bool false), (.int .i64 0), .nilslice], none⟩,
     ⟨none, .store 5 (.tmp 5) (.tmp 12), none⟩])
   (.seq
    (.region [⟨some 13, .move (.tmp 0), none⟩,
      ⟨some 14, .move (.tmp 0), none⟩,
      ⟨some 15, .nilCheck (.tmp 14), none⟩,
      ⟨some 16, .faddr 5 (.tmp 15), none⟩,
      ⟨some 17, .load 1 false (.tmp 16), none⟩,
      ⟨some 18, .move (.tmp 1), none⟩,
      ⟨some 19, .sliceOp 5 (.tmp 17) none (some (.tmp 18)) none, none⟩,
      ⟨some 20, .move (.tmp 0), none⟩,
      ⟨some 21, .nilCheck (.tmp 20), none⟩,
      ⟨some 22, .faddr 5 (.tmp 21), none⟩,
      ⟨some 23, .load 1 false (.tmp 22), none⟩,
      ⟨some 24, .move (.tmp 1), none⟩,
      ⟨some 25, .iop .add (.tmp 24) (.const (.int .i64 1)), none⟩,
      ⟨some 26, .sliceOp 5 (.tmp 23) (some (.tmp 25)) none none, none⟩,
      ⟨some 27, .litA 1 [.nilslice] false 2 [(0, (.tmp 19)), (1, (.tmp 26))], none⟩,
      ⟨some 28, .call .shared 96 [(.tmp 27)], none⟩,
      ⟨some 29, .nilCheck (.tmp 13), none⟩,
      ⟨some 30, .faddr 5 (.tmp 29), none⟩,
      ⟨none, .store 1 (.tmp 30) (.tmp 28), none⟩])
    (.seq
     (.region [⟨some 31, .load 5 true (.tmp 5), none⟩,
       ⟨none, .store 5 (.tmp 4) (.tmp 31), none⟩])
     .ret)))), [.cell 4 5 true]⟩

/-- (*purlin/net.Net).look$1 -/
def a95 : AFunc := ⟨14,
 (.seq
  (.region [⟨some 3, .move (.const (.bool false)), none⟩])
  (.seq
   (.region [⟨some 4, .move (.tmp 0), none⟩,
     ⟨some 5, .iop .geq (.tmp 4) (.const (.int .i64 0)), none⟩,
     ⟨some 6, .move (.tmp 5), none⟩,
     ⟨some 7, .move (.tmp 0), some (6, true)⟩,
     ⟨some 8, .load 1 false (.tmp 1), some (6, true)⟩,
     ⟨some 9, .nilCheck (.tmp 8), some (6, true)⟩,
     ⟨some 10, .faddr 4 (.tmp 9), some (6, true)⟩,
     ⟨some 11, .load 1 false (.tmp 10), some (6, true)⟩,
     ⟨some 12, .iop .lss (.tmp 7) (.tmp 11), some (6, true)⟩,
     ⟨some 13, .pick (.tmp 6) (.tmp 12) (.const (.bool false)), none⟩,
     ⟨some 3, .move (.tmp 13), none⟩])
   .ret)), [.tmp 3]⟩

/-- slices.Concat[[]purlin/api.Datagram,purlin/api.Datagram] -/
def a96 : AFunc := ⟨36,
 (.seq
  (.region [⟨some 2, .move (.const .nilslice), none⟩])
  (.seq
   (.region [⟨some 3, .move (.const (.int .i64 0)), none⟩])
   (.seq
    (.seq
     (.region [⟨some 9, .move (.tmp 0), none⟩,
       ⟨some 10, .lenS (.tmp 9), none⟩,
       ⟨some 11, .move (.const (.int .i64 0)), none⟩])
     (.block 0
      (.loop [0, 3, 9, 10, 11]
       (.seq
        (.region [⟨some 12, .iop .lss (.tmp 11) (.tmp 10), none⟩])
        (.seq
         (.cond (.tmp 12)
          .skip
          (.exit 0))
         (.seq
          (.block 1
           (.seq
            (.region [⟨some 13, .iaddr 1 (.tmp 9) (.tmp 11), none⟩,
              ⟨some 14, .load 1 false (.tmp 13), none⟩,
              ⟨some 5, .move (.tmp 14), none⟩])
            (.seq
             (.region [⟨some 15, .move (.tmp 3), none⟩,
               ⟨some 16, .move (.tmp 5), none⟩,
               ⟨some 17, .lenS (.tmp 16), none⟩,
               ⟨some 18, .iop .add (.tmp 15) (.tmp 17), none⟩,
               ⟨some 3, .move (.tmp 18), none⟩])
             (.seq
              (.region [⟨some 19, .move (.tmp 3), none⟩,
                ⟨some 20, .iop .lss (.tmp 19) (.const (.int .i64 0)), none⟩])
              (.cond (.tmp 20)
               (.region [⟨some 21, .mkiface 9 (.const (.str [108, 101, 110, 32, 111, 117, 116, 32, 111, 102, 32, 114, 97, 110, 103, 101])), none⟩,
                 ⟨none, .fail, none⟩])
               .skip)))))
          (.region [⟨some 22, .iop .add (.tmp 11) (.const (.int .i64 1)), none⟩,
            ⟨some 11, .move (.tmp 22), none⟩])))))))
    (.seq
     (.region [⟨some 23, .move (.tmp 3), none⟩,
       ⟨some 24, .call .shared 100 [(.const .nilslice), (.tmp 23)], none⟩,
       ⟨some 6, .move (.tmp 24), none⟩])
     (.seq
      (.seq
       (.region [⟨some 25, .move (.tmp 0), none⟩,
         ⟨some 26, .lenS (.tmp 25), none⟩,
         ⟨some 27, .move (.const (.int .i64 0)), none⟩])
       (.block 2
        (.loop [6, 25, 26, 27]
         (.seq
          (.region [⟨some 28, .iop .lss (.tmp 27) (.tmp 26), none⟩])
          (.seq
           (.cond (.tmp 28)
            .skip
            (.exit 2))
           (.seq
            (.block 3
             (.seq
              (.region [⟨some 29, .iaddr 1 (.tmp 25) (.tmp 27), none⟩,
                ⟨some 30, .load 1 false (.tmp 29), none⟩,
                ⟨some 8, .move (.tmp 30), none⟩])
              (.region [⟨some 31, .move (.tmp 6), none⟩,
                ⟨some 32, .move (.tmp 8), none⟩,
                ⟨some 33, .append 5 56 (.tmp 31) (.tmp 32), none⟩,
                ⟨some 6, .move (.tmp 33), none⟩])))
            (.region [⟨some 34, .iop .add (.tmp 27) (.const (.int .i64 1)), none⟩,
              ⟨some 27, .move (.tmp 34), none⟩])))))))
      (.seq
       (.region [⟨some 35, .move (.tmp 6), none⟩,
         ⟨some 2, .move (.tmp 35), none⟩])
       .ret)))))), [.tmp 2]⟩

/-- slices.Grow[[]purlin/api.Datagram,purlin/api.Datagram] -/
def a100 : AFunc := ⟨27,
 (.seq
  (.region [⟨some 4, .move (.const .nilslice), none⟩])
  (.seq
   (.seq
    (.region [⟨some 5, .move (.tmp 1), none⟩,
      ⟨some 6, .iop .lss (.tmp 5) (.const (.int .i64 0)), none⟩])
    (.cond (.tmp 6)
     (.region [⟨some 7, .mkiface 9 (.const (.str [99, 97, 110, 110, 111, 116, 32, 98, 101, 32, 110, 101, 103, 97, 116, 105, 118, 101])), none⟩,
       ⟨none, .fail, none⟩])
     .skip))
   (.seq
    (.seq
     (.region [⟨some 8, .move (.tmp 1), none⟩,
       ⟨some 9, .move (.tmp 0), none⟩,
       ⟨some 10, .capS (.tmp 9), none⟩,
       ⟨some 11, .move (.tmp 0), none⟩,
       ⟨some 12, .lenS (.tmp 11), none⟩,
       ⟨some 13, .iop .sub (.tmp 10) (.tmp 12), none⟩,
       ⟨some 14, .iop .sub (.tmp 8) (.tmp 13), none⟩,
       ⟨some 1, .move (.tmp 14), none⟩])
     (.seq
      (.region [⟨some 15, .move (.tmp 1), none⟩,
        ⟨some 16, .iop .gtr (.tmp 15) (.const (.int .i64 0)), none⟩])
      (.cond (.tmp 16)
       (.region [⟨some 17, .move (.tmp 0), none⟩,
         ⟨some 18, .move (.tmp 0), none⟩,
         ⟨some 19, .capS (.tmp 18), none⟩,
         ⟨some 20, .sliceOp 5 (.tmp 17) none (some (.tmp 19)) none, none⟩,
         ⟨some 21, .move (.tmp 1), none⟩,
         ⟨some 22, .appendz 5 56 [(.int .i64 0), (.int .i64 0), (.bool false), (.int .i64 0), .nilslice] true (.tmp 20) (.tmp 21), none⟩,
         ⟨some 23, .move (.tmp 0), none⟩,
         ⟨some 24, .lenS (.tmp 23), none⟩,
         ⟨some 25, .sliceOp 5 (.tmp 22) none (some (.tmp 24)) none, none⟩,
         ⟨some 0, .move (.tmp 25), none⟩])
       .skip)))
    (.seq
     (.region [⟨some 26, .move (.tmp 0), none⟩,
       ⟨some 4, .move (.tmp 26), none⟩])
     .ret)))), [.tmp 4]⟩


def ir : FuncId → Option AFunc
  | 13 => some a13
  | 42 => some a42
  | 43 => some a43
  | 44 => some a44
  | 45 => some a45
  | 47 => some a47
  | 48 => some a48
  | 51 => some a51
  | 52 => some a52
  | 55 => some a55
  | 57 => some a57
  | 61 => some a61
  | 65 => some a65
  | 78 => some a78
  | 79 => some a79
  | 80 => some a80
  | 81 => some a81
  | 95 => some a95
  | 96 => some a96
  | 100 => some a100
  | _ => none
def cfg : Cfg := ⟨ir, fun f => f, fun _ => none⟩

theorem ok13 : FnOk cfg Try.prog 13 a13 := ⟨⟨Try.f13, _, Try.func13, by decide, rfl, rfl, by kernel_rfl, by kernel_rfl⟩⟩
theorem ok42 : FnOk cfg Try.prog 42 a42 := ⟨⟨Try.f42, _, Try.func42, by decide, rfl, rfl, by kernel_rfl, by kernel_rfl⟩⟩
theorem ok43 : FnOk cfg Try.prog 43 a43 := ⟨⟨Try.f43, _, Try.func43, by decide, rfl, rfl, by kernel_rfl, by kernel_rfl⟩⟩
theorem ok44 : FnOk cfg Try.prog 44 a44 := ⟨⟨Try.f44, _, Try.func44, by decide, rfl, rfl, by kernel_rfl, by kernel_rfl⟩⟩
theorem ok45 : FnOk cfg Try.prog 45 a45 := ⟨⟨Try.f45, _, Try.func45, by decide, rfl, rfl, by kernel_rfl, by kernel_rfl⟩⟩
theorem ok47 : FnOk cfg Try.prog 47 a47 := ⟨⟨Try.f47, _, Try.func47, by decide, rfl, rfl, by kernel_rfl, by kernel_rfl⟩⟩
theorem ok48 : FnOk cfg Try.prog 48 a48 := ⟨⟨Try.f48, _, Try.func48, by decide, rfl, rfl, by kernel_rfl, by kernel_rfl⟩⟩
theorem ok51 : FnOk cfg Try.prog 51 a51 := ⟨⟨Try.f51, _, Try.func51, by decide, rfl, rfl, by kernel_rfl, by kernel_rfl⟩⟩
theorem ok52 : FnOk cfg Try.prog 52 a52 := ⟨⟨Try.f52, _, Try.func52, by decide, rfl, rfl, by kernel_rfl, by kernel_rfl⟩⟩
theorem ok55 : FnOk cfg Try.prog 55 a55 := ⟨⟨Try.f55, _, Try.func55, by decide, rfl, rfl, by kernel_rfl, by kernel_rfl⟩⟩
theorem ok57 : FnOk cfg Try.prog 57 a57 := ⟨⟨Try.f57, _, Try.func57, by decide, rfl, rfl, by kernel_rfl, by kernel_rfl⟩⟩
theorem ok61 : FnOk cfg Try.prog 61 a61 := ⟨⟨Try.f61, _, Try.func61, by decide, rfl, rfl, by kernel_rfl, by kernel_rfl⟩⟩
theorem ok65 : FnOk cfg Try.prog 65 a65 := ⟨⟨Try.f65, _, Try.func65, by decide, rfl, rfl, by kernel_rfl, by kernel_rfl⟩⟩
theorem ok78 : FnOk cfg Try.prog 78 a78 := ⟨⟨Try.f78, _, Try.func78, by decide, rfl, rfl, by kernel_rfl, by kernel_rfl⟩⟩
theorem ok79 : FnOk cfg Try.prog 79 a79 := ⟨⟨Try.f79, _, Try.func79, by decide, rfl, rfl, by kernel_rfl, by kernel_rfl⟩⟩
theorem ok80 : FnOk cfg Try.prog 80 a80 := ⟨⟨Try.f80, _, Try.func80, by decide, rfl, rfl, by kernel_rfl, by kernel_rfl⟩⟩
theorem ok81 : FnOk cfg Try.prog 81 a81 := ⟨⟨Try.f81, _, Try.func81, by decide, rfl, rfl, by kernel_rfl, by kernel_rfl⟩⟩
theorem ok95 : FnOk cfg Try.prog 95 a95 := ⟨⟨Try.f95, _, Try.func95, by decide, rfl, rfl, by kernel_rfl, by kernel_rfl⟩⟩
theorem ok96 : FnOk cfg Try.prog 96 a96 := ⟨⟨Try.f96, _, Try.func96, by decide, rfl, rfl, by kernel_rfl, by kernel_rfl⟩⟩
theorem ok100 : FnOk cfg Try.prog 100 a100 := ⟨⟨Try.f100, _, Try.func100, by decide, rfl, rfl, by kernel_rfl, by kernel_rfl⟩⟩

theorem all : ∀ f fn, cfg.ir f = some fn → FnOk cfg Try.prog f fn := by
  intro f fn h
  have h' : ir f = some fn := h
  unfold ir at h'
  split at h'
  · injection h' with h'; subst h'; exact ok13
  · injection h' with h'; subst h'; exact ok42
  · injection h' with h'; subst h'; exact ok43
  · injection h' with h'; subst h'; exact ok44
  · injection h' with h'; subst h'; exact ok45
  · injection h' with h'; subst h'; exact ok47
  · injection h' with h'; subst h'; exact ok48
  · injection h' with h'; subst h'; exact ok51
  · injection h' with h'; subst h'; exact ok52
  · injection h' with h'; subst h'; exact ok55
  · injection h' with h'; subst h'; exact ok57
  · injection h' with h'; subst h'; exact ok61
  · injection h' with h'; subst h'; exact ok65
  · injection h' with h'; subst h'; exact ok78
  · injection h' with h'; subst h'; exact ok79
  · injection h' with h'; subst h'; exact ok80
  · injection h' with h'; subst h'; exact ok81
  · injection h' with h'; subst h'; exact ok95
  · injection h' with h'; subst h'; exact ok96
  · injection h' with h'; subst h'; exact ok100
  · cases h'
end Go.Proofs.Ytmocplkpnickgaa.Am.C13
