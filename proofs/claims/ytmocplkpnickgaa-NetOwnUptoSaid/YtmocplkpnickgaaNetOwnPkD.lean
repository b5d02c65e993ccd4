/-
  The abstract machine and the functions of the law, 4: texts put together.
-/
import Derived.Test.YtmocplkpnickgaaNetOwnPkB
import Derived.Test.YtmocplkpnickgaaProg
import Derived.Test.YtmocplkpnickgaaNetOwnPkC
/-
  THE FUNCTIONS THAT A LAW REACHES, as texts of the abstract machine (written by a program out of the translation), and that each of them stands for the model's: checked by evaluation.
-/
namespace Go.Proofs.Ytmocplkpnickgaa.Am.CN
open Go Go.Proofs.Ytmocplkpnickgaa.Am
set_option linter.unusedVariables false
set_option maxRecDepth 100000

/-- purlin/purlinlaw12.NetOrder -/
def a9 : AFunc := ⟨86,
 (.seq
  (.region [⟨some 4, .move (.const (.bool false)), none⟩])
  (.seq
   (.seq
    (.region [⟨some 11, .call .iso 42 [], none⟩,
      ⟨some 12, .not (.tmp 11), none⟩])
    (.cond (.tmp 12)
     (.seq
      (.region [⟨some 4, .move (.const (.bool false)), none⟩])
      .ret)
     .skip))
   (.seq
    (.region [⟨some 14, .call .shared 43 [(.const (.int .i64 4))], none⟩,
      ⟨some 13, .move (.tmp 14), none⟩,
      ⟨some 15, .extract (.tmp 13) 0, none⟩,
      ⟨some 16, .extract (.tmp 13) 1, none⟩,
      ⟨some 5, .move (.tmp 15), none⟩,
      ⟨some 6, .move (.tmp 16), none⟩])
    (.seq
     (.seq
      (.region [⟨some 17, .move (.tmp 6), none⟩,
        ⟨some 18, .iop .neq (.tmp 17) (.const (.int .i64 0)), none⟩,
        ⟨some 19, .move (.tmp 18), none⟩,
        ⟨some 20, .move (.tmp 5), some (19, false)⟩,
        ⟨some 21, .move (.tmp 0), some (19, false)⟩,
        ⟨some 22, .call .shared 44 [(.tmp 20), (.tmp 21)], some (19, false)⟩,
        ⟨some 23, .iop .neq (.tmp 22) (.const (.int .i64 0)), some (19, false)⟩,
        ⟨some 24, .pick (.tmp 19) (.const (.bool true)) (.tmp 23), none⟩])
      (.cond (.tmp 24)
       (.seq
        (.region [⟨some 25, .move (.tmp 6), none⟩,
          ⟨some 26, .iop .eql (.tmp 25) (.const (.int .i64 0)), none⟩,
          ⟨some 27, .move (.tmp 26), none⟩,
          ⟨some 28, .move (.tmp 5), some (27, true)⟩,
          ⟨some 29, .call .shared 45 [(.tmp 28)], some (27, true)⟩,
          ⟨some 30, .iop .eql (.tmp 29) (.const (.int .i64 0)), some (27, true)⟩,
          ⟨some 31, .pick (.tmp 27) (.tmp 30) (.const (.bool false)), none⟩,
          ⟨some 4, .move (.tmp 31), none⟩])
        .ret)
       .skip))
     (.seq
      (.seq
       (.region [⟨some 32, .move (.tmp 5), none⟩,
         ⟨some 33, .call .shared 47 [(.tmp 32)], none⟩,
         ⟨some 34, .move (.tmp 0), none⟩,
         ⟨some 35, .call .shared 46 [(.tmp 33), (.tmp 34)], none⟩,
         ⟨some 36, .not (.tmp 35), none⟩,
         ⟨some 37, .move (.tmp 36), none⟩,
         ⟨some 38, .move (.tmp 0), some (37, false)⟩,
         ⟨some 39, .lenS (.tmp 38), some (37, false)⟩,
         ⟨some 40, .iop .eql (.tmp 39) (.const (.int .i64 0)), some (37, false)⟩,
         ⟨some 41, .pick (.tmp 37) (.const (.bool true)) (.tmp 40), none⟩])
       (.cond (.tmp 41)
        (.seq
         (.region [⟨some 42, .move (.tmp 0), none⟩,
           ⟨some 43, .lenS (.tmp 42), none⟩,
           ⟨some 44, .move (.tmp 5), none⟩,
           ⟨some 45, .call .shared 45 [(.tmp 44)], none⟩,
           ⟨some 46, .iop .eql (.tmp 43) (.tmp 45), none⟩,
           ⟨some 4, .move (.tmp 46), none⟩])
         .ret)
        .skip))
      (.seq
       (.region [⟨some 47, .move (.tmp 1), none⟩,
         ⟨some 48, .convI .u64 (.tmp 47), none⟩,
         ⟨some 49, .move (.tmp 0), none⟩,
         ⟨some 50, .lenS (.tmp 49), none⟩,
         ⟨some 51, .convI .u64 (.tmp 50), none⟩,
         ⟨some 52, .iop .rem (.tmp 48) (.tmp 51), none⟩,
         ⟨some 53, .convI .i64 (.tmp 52), none⟩,
         ⟨some 7, .move (.tmp 53), none⟩])
       (.seq
        (.region [⟨some 55, .move (.tmp 5), none⟩,
          ⟨some 56, .move (.tmp 7), none⟩,
          ⟨some 57, .call .shared 48 [(.tmp 55), (.tmp 56)], none⟩,
          ⟨some 54, .move (.tmp 57), none⟩,
          ⟨some 58, .extract (.tmp 54) 0, none⟩,
          ⟨some 59, .extract (.tmp 54) 1, none⟩,
          ⟨some 8, .alloc [(.int .i64 0), (.int .i64 0), (.bool false), (.int .i64 0), .nilslice], none⟩,
          ⟨none, .store 5 (.tmp 8) (.tmp 58), none⟩,
          ⟨some 9, .move (.tmp 59), none⟩])
        (.seq
         (.region [⟨some 60, .lit 5 [(.int .i64 0), (.int .i64 0), (.bool false), (.int .i64 0), .nilslice] true 0 [], none⟩,
           ⟨some 61, .move (.tmp 0), none⟩,
           ⟨some 62, .move (.tmp 7), none⟩,
           ⟨some 63, .sliceOp 5 (.tmp 61) none (some (.tmp 62)) none, none⟩,
           ⟨some 64, .append 5 56 (.tmp 60) (.tmp 63), none⟩,
           ⟨some 65, .move (.tmp 0), none⟩,
           ⟨some 66, .move (.tmp 7), none⟩,
           ⟨some 67, .iop .add (.tmp 66) (.const (.int .i64 1)), none⟩,
           ⟨some 68, .sliceOp 5 (.tmp 65) (some (.tmp 67)) none none, none⟩,
           ⟨some 69, .append 5 56 (.tmp 64) (.tmp 68), none⟩,
           ⟨some 10, .move (.tmp 69), none⟩])
         (.seq
          (.region [⟨some 70, .move (.tmp 9), none⟩,
            ⟨some 71, .iop .eql (.tmp 70) (.const (.int .i64 0)), none⟩,
            ⟨some 72, .move (.tmp 71), none⟩,
            ⟨some 73, .load 5 true (.tmp 8), some (72, true)⟩,
            ⟨some 74, .move (.tmp 0), some (72, true)⟩,
            ⟨some 75, .move (.tmp 7), some (72, true)⟩,
            ⟨some 76, .iaddr 5 (.tmp 74) (.tmp 75), some (72, true)⟩,
            ⟨some 77, .load 5 true (.tmp 76), some (72, true)⟩,
            ⟨some 78, .call .shared 49 [(.tmp 73), (.tmp 77)], some (72, true)⟩,
            ⟨some 79, .pick (.tmp 72) (.tmp 78) (.const (.bool false)), none⟩,
            ⟨some 80, .move (.tmp 79), none⟩,
            ⟨some 81, .move (.tmp 5), some (80, true)⟩,
            ⟨some 82, .call .shared 47 [(.tmp 81)], some (80, true)⟩,
            ⟨some 83, .move (.tmp 10), some (80, true)⟩,
            ⟨some 84, .call .shared 46 [(.tmp 82), (.tmp 83)], some (80, true)⟩,
            ⟨some 85, .pick (.tmp 80) (.tmp 84) (.const (.bool false)), none⟩,
            ⟨some 4, .move (.tmp 85), none⟩])
          .ret))))))))), [.tmp 4]⟩

/-- purlin/purlinlaw12.NetKeeps -/
def a10 : AFunc := ⟨164,
 (.seq
  (.region [⟨some 2, .move (.const (.bool false)), none⟩])
  (.seq
   (.seq
    (.region [⟨some 15, .call .iso 42 [], none⟩,
      ⟨some 16, .not (.tmp 15), none⟩])
    (.cond (.tmp 16)
     (.seq
      (.region [⟨some 2, .move (.const (.bool false)), none⟩])
      .ret)
     .skip))
   (.seq
    (.region [⟨some 18, .call .shared 43 [(.const (.int .i64 4))], none⟩,
      ⟨some 17, .move (.tmp 18), none⟩,
      ⟨some 19, .extract (.tmp 17) 0, none⟩,
      ⟨some 20, .extract (.tmp 17) 1, none⟩,
      ⟨some 3, .move (.tmp 19), none⟩,
      ⟨some 4, .move (.tmp 20), none⟩])
    (.seq
     (.seq
      (.region [⟨some 21, .move (.tmp 4), none⟩,
        ⟨some 22, .iop .neq (.tmp 21) (.const (.int .i64 0)), none⟩])
      (.cond (.tmp 22)
       (.seq
        (.region [⟨some 2, .move (.const (.bool false)), none⟩])
        .ret)
       .skip))
     (.seq
      (.region [⟨some 5, .move (.const .nilslice), none⟩,
        ⟨some 6, .move (.const .nilslice), none⟩])
      (.seq
       (.seq
        (.region [⟨some 7, .move (.const (.int .i64 0)), none⟩])
        (.block 0
         (.loop [0, 3, 5, 6, 7]
          (.seq
           (.seq
            (.region [⟨some 23, .move (.tmp 7), none⟩,
              ⟨some 24, .move (.tmp 0), none⟩,
              ⟨some 25, .lenS (.tmp 24), none⟩,
              ⟨some 26, .iop .lss (.tmp 23) (.tmp 25), none⟩,
              ⟨some 27, .move (.tmp 26), none⟩,
              ⟨some 28, .move (.tmp 7), some (27, true)⟩,
              ⟨some 29, .iop .lss (.tmp 28) (.const (.int .i64 300)), some (27, true)⟩,
              ⟨some 30, .pick (.tmp 27) (.tmp 29) (.const (.bool false)), none⟩])
            (.cond (.tmp 30)
             .skip
             (.exit 0)))
           (.seq
            (.block 1
             (.seq
              (.region [⟨some 33, .move (.tmp 3), none⟩,
                ⟨some 34, .call .shared 47 [(.tmp 33)], none⟩,
                ⟨some 8, .move (.tmp 34), none⟩])
              (.seq
               (.region [⟨some 35, .move (.tmp 0), none⟩,
                 ⟨some 36, .move (.tmp 7), none⟩,
                 ⟨some 37, .iaddr 3 (.tmp 35) (.tmp 36), none⟩,
                 ⟨some 38, .faddr 1 (.tmp 37), none⟩,
                 ⟨some 39, .load 1 false (.tmp 38), none⟩,
                 ⟨some 9, .move (.tmp 39), none⟩])
               (.seq
                (.region [⟨some 40, .move (.tmp 9), none⟩,
                  ⟨some 41, .iop .geq (.tmp 40) (.const (.int .i64 0)), none⟩,
                  ⟨some 42, .move (.tmp 41), none⟩,
                  ⟨some 43, .move (.tmp 9), some (42, true)⟩,
                  ⟨some 44, .move (.tmp 8), some (42, true)⟩,
                  ⟨some 45, .lenS (.tmp 44), some (42, true)⟩,
                  ⟨some 46, .iop .lss (.tmp 43) (.tmp 45), some (42, true)⟩,
                  ⟨some 47, .pick (.tmp 42) (.tmp 46) (.const (.bool false)), none⟩,
                  ⟨some 10, .move (.tmp 47), none⟩])
                (.seq
                 (.region [⟨some 48, .move (.tmp 0), none⟩,
                   ⟨some 49, .move (.tmp 7), none⟩,
                   ⟨some 50, .iaddr 3 (.tmp 48) (.tmp 49), none⟩,
                   ⟨some 51, .faddr 0 (.tmp 50), none⟩,
                   ⟨some 52, .load 1 false (.tmp 51), none⟩])
                 (.block 2
                  (.seq
                   (.region [⟨some 54, .iop .eql (.tmp 52) (.const (.int .i64 0)), none⟩,
                     ⟨some 53, .move (.tmp 54), none⟩])
                   (.cond (.tmp 53)
                    (.seq
                     (.region [⟨some 55, .move (.tmp 3), none⟩,
                       ⟨some 56, .move (.tmp 0), none⟩,
                       ⟨some 57, .move (.tmp 7), none⟩,
                       ⟨some 58, .iaddr 3 (.tmp 56) (.tmp 57), none⟩,
                       ⟨some 59, .faddr 2 (.tmp 58), none⟩,
                       ⟨some 60, .load 1 false (.tmp 59), none⟩,
                       ⟨some 61, .call .shared 44 [(.tmp 55), (.tmp 60)], none⟩,
                       ⟨some 62, .iop .eql (.tmp 61) (.const (.int .i64 0)), none⟩])
                     (.cond (.tmp 62)
                      (.region [⟨some 63, .move (.tmp 5), none⟩,
                        ⟨some 64, .move (.tmp 0), none⟩,
                        ⟨some 65, .move (.tmp 7), none⟩,
                        ⟨some 66, .iaddr 3 (.tmp 64) (.tmp 65), none⟩,
                        ⟨some 67, .faddr 2 (.tmp 66), none⟩,
                        ⟨some 68, .load 1 false (.tmp 67), none⟩,
                        ⟨some 69, .append 5 56 (.tmp 63) (.tmp 68), none⟩,
                        ⟨some 5, .move (.tmp 69), none⟩])
                      .skip))
                    (.seq
                     (.region [⟨some 71, .iop .eql (.tmp 52) (.const (.int .i64 1)), none⟩,
                       ⟨some 70, .move (.tmp 71), none⟩])
                     (.cond (.tmp 70)
                      (.seq
                       (.region [⟨some 73, .move (.tmp 3), none⟩,
                         ⟨some 74, .move (.tmp 9), none⟩,
                         ⟨some 75, .call .shared 48 [(.tmp 73), (.tmp 74)], none⟩,
                         ⟨some 72, .move (.tmp 75), none⟩,
                         ⟨some 76, .extract (.tmp 72) 0, none⟩,
                         ⟨some 77, .extract (.tmp 72) 1, none⟩,
                         ⟨some 11, .alloc [(.int .i64 0), (.int .i64 0), (.bool false), (.int .i64 0), .nilslice], none⟩,
                         ⟨none, .store 5 (.tmp 11) (.tmp 76), none⟩,
                         ⟨some 12, .move (.tmp 77), none⟩])
                       (.seq
                        (.seq
                         (.region [⟨some 78, .move (.tmp 10), none⟩,
                           ⟨some 79, .move (.tmp 12), none⟩,
                           ⟨some 80, .iop .eql (.tmp 79) (.const (.int .i64 0)), none⟩,
                           ⟨some 81, .bop true (.tmp 78) (.tmp 80), none⟩,
                           ⟨some 82, .move (.tmp 81), none⟩,
                           ⟨some 83, .move (.tmp 10), some (82, false)⟩,
                           ⟨some 84, .move (.tmp 83), some (82, false)⟩,
                           ⟨some 85, .move (.tmp 5), some (84, true)⟩,
                           ⟨some 86, .load 5 true (.tmp 11), some (84, true)⟩,
                           ⟨some 87, .call .shared 50 [(.tmp 85), (.tmp 86)], some (84, true)⟩,
                           ⟨some 88, .iop .eql (.tmp 87) (.const (.int .i64 0)), some (84, true)⟩,
                           ⟨some 89, .pick (.tmp 84) (.tmp 88) (.const (.bool false)), some (82, false)⟩,
                           ⟨some 90, .pick (.tmp 82) (.const (.bool true)) (.tmp 89), none⟩])
                         (.cond (.tmp 90)
                          (.seq
                           (.region [⟨some 2, .move (.const (.bool false)), none⟩])
                           .ret)
                          .skip))
                        (.seq
                         (.region [⟨some 91, .move (.tmp 10), none⟩])
                         (.cond (.tmp 91)
                          (.region [⟨some 92, .move (.tmp 6), none⟩,
                            ⟨some 93, .load 5 true (.tmp 11), none⟩,
                            ⟨some 94, .lit 5 [(.int .i64 0), (.int .i64 0), (.bool false), (.int .i64 0), .nilslice] true 1 [(0, (.tmp 93))], none⟩,
                            ⟨some 95, .append 5 56 (.tmp 92) (.tmp 94), none⟩,
                            ⟨some 6, .move (.tmp 95), none⟩])
                          .skip))))
                      (.seq
                       (.region [⟨some 97, .iop .eql (.tmp 52) (.const (.int .i64 2)), none⟩,
                         ⟨some 96, .move (.tmp 97), none⟩])
                       (.cond (.tmp 96)
                        (.seq
                         (.seq
                          (.region [⟨some 98, .move (.tmp 10), none⟩,
                            ⟨some 99, .move (.tmp 3), none⟩,
                            ⟨some 100, .move (.tmp 9), none⟩,
                            ⟨some 101, .call .shared 51 [(.tmp 99), (.tmp 100)], none⟩,
                            ⟨some 102, .iop .eql (.tmp 101) (.const (.int .i64 0)), none⟩,
                            ⟨some 103, .bop true (.tmp 98) (.tmp 102), none⟩])
                          (.cond (.tmp 103)
                           (.seq
                            (.region [⟨some 2, .move (.const (.bool false)), none⟩])
                            .ret)
                           .skip))
                         (.seq
                          (.region [⟨some 104, .move (.tmp 10), none⟩])
                          (.cond (.tmp 104)
                           (.region [⟨some 105, .move (.tmp 6), none⟩,
                             ⟨some 106, .move (.tmp 8), none⟩,
                             ⟨some 107, .move (.tmp 9), none⟩,
                             ⟨some 108, .iaddr 5 (.tmp 106) (.tmp 107), none⟩,
                             ⟨some 109, .load 5 true (.tmp 108), none⟩,
                             ⟨some 110, .lit 5 [(.int .i64 0), (.int .i64 0), (.bool false), (.int .i64 0), .nilslice] true 1 [(0, (.tmp 109))], none⟩,
                             ⟨some 111, .append 5 56 (.tmp 105) (.tmp 110), none⟩,
                             ⟨some 6, .move (.tmp 111), none⟩])
                           .skip)))
                        (.seq
                         (.region [⟨some 113, .iop .eql (.tmp 52) (.const (.int .i64 3)), none⟩,
                           ⟨some 112, .move (.tmp 113), none⟩])
                         (.cond (.tmp 112)
                          (.seq
                           (.seq
                            (.region [⟨some 114, .move (.tmp 10), none⟩,
                              ⟨some 115, .move (.tmp 3), none⟩,
                              ⟨some 116, .move (.tmp 9), none⟩,
                              ⟨some 117, .call .shared 52 [(.tmp 115), (.tmp 116)], none⟩,
                              ⟨some 118, .iop .eql (.tmp 117) (.const (.int .i64 0)), none⟩,
                              ⟨some 119, .bop true (.tmp 114) (.tmp 118), none⟩])
                            (.cond (.tmp 119)
                             (.seq
                              (.region [⟨some 2, .move (.const (.bool false)), none⟩])
                              .ret)
                             .skip))
                           (.seq
                            (.region [⟨some 120, .move (.tmp 10), none⟩])
                            (.cond (.tmp 120)
                             (.region [⟨some 121, .move (.tmp 5), none⟩,
                               ⟨some 122, .move (.tmp 8), none⟩,
                               ⟨some 123, .move (.tmp 9), none⟩,
                               ⟨some 124, .iaddr 5 (.tmp 122) (.tmp 123), none⟩,
                               ⟨some 125, .load 5 true (.tmp 124), none⟩,
                               ⟨some 126, .lit 5 [(.int .i64 0), (.int .i64 0), (.bool false), (.int .i64 0), .nilslice] true 1 [(0, (.tmp 125))], none⟩,
                               ⟨some 127, .append 5 56 (.tmp 121) (.tmp 126), none⟩,
                               ⟨some 5, .move (.tmp 127), none⟩])
                             .skip)))
                          .skip))))))))))))))
            (.region [⟨some 31, .move (.tmp 7), none⟩,
              ⟨some 32, .iop .add (.tmp 31) (.const (.int .i64 1)), none⟩,
              ⟨some 7, .move (.tmp 32), none⟩]))))))
       (.seq
        (.region [⟨some 128, .move (.tmp 3), none⟩,
          ⟨some 129, .call .shared 47 [(.tmp 128)], none⟩,
          ⟨some 13, .move (.tmp 129), none⟩])
        (.seq
         (.seq
          (.region [⟨some 130, .move (.tmp 13), none⟩,
            ⟨some 131, .lenS (.tmp 130), none⟩,
            ⟨some 132, .move (.tmp 5), none⟩,
            ⟨some 133, .lenS (.tmp 132), none⟩,
            ⟨some 134, .move (.tmp 6), none⟩,
            ⟨some 135, .lenS (.tmp 134), none⟩,
            ⟨some 136, .iop .sub (.tmp 133) (.tmp 135), none⟩,
            ⟨some 137, .iop .neq (.tmp 131) (.tmp 136), none⟩])
          (.cond (.tmp 137)
           (.seq
            (.region [⟨some 2, .move (.const (.bool false)), none⟩])
            .ret)
           .skip))
         (.seq
          (.seq
           (.region [⟨some 14, .move (.const (.int .i64 0)), none⟩])
           (.block 3
            (.loop [5, 6, 13, 14]
             (.seq
              (.seq
               (.region [⟨some 138, .move (.tmp 14), none⟩,
                 ⟨some 139, .move (.tmp 5), none⟩,
                 ⟨some 140, .lenS (.tmp 139), none⟩,
                 ⟨some 141, .iop .lss (.tmp 138) (.tmp 140), none⟩])
               (.cond (.tmp 141)
                .skip
                (.exit 3)))
              (.seq
               (.block 4
                (.seq
                 (.drawn [⟨some 144, .move (.tmp 13), none⟩,
                   ⟨some 145, .move (.tmp 5), none⟩,
                   ⟨some 146, .move (.tmp 14), none⟩,
                   ⟨some 147, .iaddr 5 (.tmp 145) (.tmp 146), none⟩,
                   ⟨some 148, .load 5 true (.tmp 147), none⟩,
                   ⟨some 149, .call .shared 50 [(.tmp 144), (.tmp 148)], none⟩,
                   ⟨some 150, .move (.tmp 6), none⟩,
                   ⟨some 151, .move (.tmp 5), none⟩,
                   ⟨some 152, .move (.tmp 14), none⟩,
                   ⟨some 153, .iaddr 5 (.tmp 151) (.tmp 152), none⟩,
                   ⟨some 154, .load 5 true (.tmp 153), none⟩,
                   ⟨some 155, .call .shared 50 [(.tmp 150), (.tmp 154)], none⟩,
                   ⟨some 156, .iop .add (.tmp 149) (.tmp 155), none⟩,
                   ⟨some 157, .move (.tmp 5), none⟩,
                   ⟨some 158, .move (.tmp 5), none⟩,
                   ⟨some 159, .move (.tmp 14), none⟩,
                   ⟨some 160, .iaddr 5 (.tmp 158) (.tmp 159), none⟩,
                   ⟨some 161, .load 5 true (.tmp 160), none⟩,
                   ⟨some 162, .call .shared 50 [(.tmp 157), (.tmp 161)], none⟩,
                   ⟨some 163, .iop .neq (.tmp 156) (.tmp 162), none⟩] [(10, 5), (17, 5), (17, 11)])
                 (.cond (.tmp 163)
                  (.seq
                   (.region [⟨some 2, .move (.const (.bool false)), none⟩])
                   .ret)
                  .skip)))
               (.region [⟨some 142, .move (.tmp 14), none⟩,
                 ⟨some 143, .iop .add (.tmp 142) (.const (.int .i64 1)), none⟩,
                 ⟨some 14, .move (.tmp 143), none⟩]))))))
          (.seq
           (.region [⟨some 2, .move (.const (.bool true)), none⟩])
           .ret)))))))))), [.tmp 2]⟩

/-- purlin/purlinlaw12.NetOwn -/
def a11 : AFunc := ⟨56,
 (.seq
  (.region [⟨some 2, .move (.const (.bool false)), none⟩])
  (.seq
   (.seq
    (.region [⟨some 7, .call .iso 42 [], none⟩,
      ⟨some 8, .not (.tmp 7), none⟩])
    (.cond (.tmp 8)
     (.seq
      (.region [⟨some 2, .move (.const (.bool false)), none⟩])
      .ret)
     .skip))
   (.seq
    (.region [⟨some 10, .call .shared 43 [(.const (.int .i64 4))], none⟩,
      ⟨some 9, .move (.tmp 10), none⟩,
      ⟨some 11, .extract (.tmp 9) 0, none⟩,
      ⟨some 12, .extract (.tmp 9) 1, none⟩,
      ⟨some 3, .move (.tmp 11), none⟩,
      ⟨some 4, .move (.tmp 12), none⟩])
    (.seq
     (.seq
      (.region [⟨some 13, .move (.tmp 4), none⟩,
        ⟨some 14, .iop .neq (.tmp 13) (.const (.int .i64 0)), none⟩,
        ⟨some 15, .move (.tmp 14), none⟩,
        ⟨some 16, .move (.tmp 3), some (15, false)⟩,
        ⟨some 17, .move (.tmp 0), some (15, false)⟩,
        ⟨some 18, .call .shared 44 [(.tmp 16), (.tmp 17)], some (15, false)⟩,
        ⟨some 19, .iop .neq (.tmp 18) (.const (.int .i64 0)), some (15, false)⟩,
        ⟨some 20, .pick (.tmp 15) (.const (.bool true)) (.tmp 19), none⟩])
      (.cond (.tmp 20)
       (.seq
        (.region [⟨some 21, .move (.tmp 4), none⟩,
          ⟨some 22, .iop .eql (.tmp 21) (.const (.int .i64 0)), none⟩,
          ⟨some 2, .move (.tmp 22), none⟩])
        .ret)
       .skip))
     (.seq
      (.seq
       (.region [⟨some 23, .move (.tmp 0), none⟩,
         ⟨some 24, .lenS (.tmp 23), none⟩,
         ⟨some 25, .iop .gtr (.tmp 24) (.const (.int .i64 0)), none⟩])
       (.cond (.tmp 25)
        (.region [⟨some 26, .move (.tmp 3), none⟩,
          ⟨some 27, .call .shared 52 [(.tmp 26), (.const (.int .i64 0))], none⟩])
        .skip))
      (.seq
       (.region [⟨some 28, .move (.tmp 3), none⟩,
         ⟨some 29, .call .shared 47 [(.tmp 28)], none⟩,
         ⟨some 5, .move (.tmp 29), none⟩])
       (.seq
        (.region [⟨some 30, .build [.nilslice, .nilslice, .nilslice, .nilslice, .nilslice] [], none⟩,
          ⟨some 31, .box (.tmp 30), none⟩,
          ⟨some 6, .move (.tmp 31), none⟩])
        (.seq
         (.region [⟨some 32, .move (.tmp 6), none⟩,
           ⟨some 33, .move (.tmp 3), none⟩,
           ⟨some 34, .call .shared 47 [(.tmp 33)], none⟩,
           ⟨some 35, .call .shared 53 [(.tmp 32), (.tmp 34)], none⟩])
         (.seq
          (.region [⟨some 36, .move (.tmp 6), none⟩,
            ⟨some 37, .move (.tmp 3), none⟩,
            ⟨some 38, .call .shared 47 [(.tmp 37)], none⟩,
            ⟨some 39, .call .shared 53 [(.tmp 36), (.tmp 38)], none⟩])
          (.seq
           (.region [⟨some 40, .move (.tmp 6), none⟩,
             ⟨some 41, .move (.tmp 3), none⟩,
             ⟨some 42, .call .shared 55 [(.tmp 41), (.const (.int .i64 1))], none⟩,
             ⟨some 43, .call .shared 54 [(.tmp 40), (.tmp 42)], none⟩])
           (.seq
            (.region [⟨some 44, .move (.tmp 6), none⟩,
              ⟨some 45, .move (.tmp 3), none⟩,
              ⟨some 46, .call .shared 55 [(.tmp 45), (.const (.int .i64 1))], none⟩,
              ⟨some 47, .call .shared 54 [(.tmp 44), (.tmp 46)], none⟩])
            (.seq
             (.region [⟨some 48, .move (.tmp 6), none⟩,
               ⟨some 49, .call .shared 26 [(.tmp 48)], none⟩,
               ⟨some 50, .move (.tmp 49), none⟩,
               ⟨some 51, .move (.tmp 3), some (50, true)⟩,
               ⟨some 52, .call .shared 47 [(.tmp 51)], some (50, true)⟩,
               ⟨some 53, .move (.tmp 5), some (50, true)⟩,
               ⟨some 54, .call .shared 46 [(.tmp 52), (.tmp 53)], some (50, true)⟩,
               ⟨some 55, .pick (.tmp 50) (.tmp 54) (.const (.bool false)), none⟩,
               ⟨some 2, .move (.tmp 55), none⟩])
             .ret)))))))))))), [.tmp 2]⟩

/-- purlin/purlinlaw12.NetRuns -/
def a12 : AFunc := ⟨89,
 (.seq
  (.region [⟨some 4, .move (.const (.bool false)), none⟩])
  (.seq
   (.region [⟨some 14, .move (.tmp 0), none⟩,
     ⟨some 15, .call .shared 43 [(.tmp 14)], none⟩,
     ⟨some 13, .move (.tmp 15), none⟩,
     ⟨some 16, .extract (.tmp 13) 0, none⟩,
     ⟨some 17, .extract (.tmp 13) 1, none⟩,
     ⟨some 5, .move (.tmp 16), none⟩,
     ⟨some 6, .move (.tmp 17), none⟩])
   (.seq
    (.region [⟨some 19, .move (.tmp 0), none⟩,
      ⟨some 20, .call .shared 56 [(.tmp 19)], none⟩,
      ⟨some 18, .move (.tmp 20), none⟩,
      ⟨some 21, .extract (.tmp 18) 0, none⟩,
      ⟨some 22, .extract (.tmp 18) 1, none⟩,
      ⟨some 7, .move (.tmp 21), none⟩,
      ⟨some 8, .move (.tmp 22), none⟩])
    (.seq
     (.seq
      (.region [⟨some 23, .call .iso 42 [], none⟩,
        ⟨some 24, .not (.tmp 23), none⟩,
        ⟨some 25, .move (.tmp 24), none⟩,
        ⟨some 26, .move (.tmp 6), some (25, false)⟩,
        ⟨some 27, .move (.tmp 8), some (25, false)⟩,
        ⟨some 28, .iop .neq (.tmp 26) (.tmp 27), some (25, false)⟩,
        ⟨some 29, .pick (.tmp 25) (.const (.bool true)) (.tmp 28), none⟩,
        ⟨some 30, .move (.tmp 29), none⟩,
        ⟨some 31, .move (.tmp 5), some (30, false)⟩,
        ⟨some 32, .eqnil false .p (.tmp 31), some (30, false)⟩,
        ⟨some 33, .move (.tmp 7), some (30, false)⟩,
        ⟨some 34, .eqnil false .p (.tmp 33), some (30, false)⟩,
        ⟨some 35, .bop true (.tmp 32) (.tmp 34), some (30, false)⟩,
        ⟨some 36, .pick (.tmp 30) (.const (.bool true)) (.tmp 35), none⟩])
      (.cond (.tmp 36)
       (.seq
        (.region [⟨some 4, .move (.const (.bool false)), none⟩])
        .ret)
       .skip))
     (.seq
      (.seq
       (.region [⟨some 37, .move (.tmp 6), none⟩,
         ⟨some 38, .iop .neq (.tmp 37) (.const (.int .i64 0)), none⟩])
       (.cond (.tmp 38)
        (.seq
         (.region [⟨some 4, .move (.const (.bool true)), none⟩])
         .ret)
        .skip))
      (.seq
       (.region [⟨some 39, .move (.tmp 5), none⟩,
         ⟨some 40, .move (.tmp 7), none⟩,
         ⟨some 41, .build [.nilptr, .nilptr] [(0, 1, (.tmp 39)), (1, 1, (.tmp 40))], none⟩,
         ⟨some 9, .alloc [.nilptr, .nilptr], none⟩,
         ⟨none, .store 2 (.tmp 9) (.tmp 41), none⟩])
       (.seq
        (.region [⟨some 10, .move (.const .nilslice), none⟩])
        (.seq
         (.seq
          (.region [⟨some 11, .move (.const (.int .i64 0)), none⟩])
          (.block 0
           (.loop [1, 9, 10, 11]
            (.seq
             (.seq
              (.region [⟨some 42, .move (.tmp 11), none⟩,
                ⟨some 43, .move (.tmp 1), none⟩,
                ⟨some 44, .lenS (.tmp 43), none⟩,
                ⟨some 45, .iop .lss (.tmp 42) (.tmp 44), none⟩])
              (.cond (.tmp 45)
               .skip
               (.exit 0)))
             (.seq
              (.block 1
               (.seq
                (.seq
                 (.region [⟨some 48, .move (.tmp 1), none⟩,
                   ⟨some 49, .move (.tmp 11), none⟩,
                   ⟨some 50, .iaddr 3 (.tmp 48) (.tmp 49), none⟩,
                   ⟨some 51, .faddr 0 (.tmp 50), none⟩,
                   ⟨some 52, .load 1 false (.tmp 51), none⟩,
                   ⟨some 53, .iop .eql (.tmp 52) (.const (.int .i64 4)), none⟩,
                   ⟨some 54, .move (.tmp 53), none⟩,
                   ⟨some 55, .move (.tmp 10), some (54, true)⟩,
                   ⟨some 56, .lenS (.tmp 55), some (54, true)⟩,
                   ⟨some 57, .iop .lss (.tmp 56) (.const (.int .i64 6)), some (54, true)⟩,
                   ⟨some 58, .pick (.tmp 54) (.tmp 57) (.const (.bool false)), none⟩])
                 (.cond (.tmp 58)
                  (.seq
                   (.region [⟨some 59, .move (.tmp 10), none⟩,
                     ⟨some 60, .load 2 true (.tmp 9), none⟩,
                     ⟨some 61, .lit 2 [.nilptr, .nilptr] true 1 [(0, (.tmp 60))], none⟩,
                     ⟨some 62, .append 2 16 (.tmp 59) (.tmp 61), none⟩,
                     ⟨some 10, .move (.tmp 62), none⟩])
                   (.drawn [⟨some 63, .faddr 0 (.tmp 9), none⟩,
                     ⟨some 64, .load 1 false (.tmp 63), none⟩,
                     ⟨some 65, .call .shared 57 [(.tmp 64)], none⟩,
                     ⟨some 66, .faddr 1 (.tmp 9), none⟩,
                     ⟨some 67, .load 1 false (.tmp 66), none⟩,
                     ⟨some 68, .call .shared 58 [(.tmp 67)], none⟩,
                     ⟨some 69, .build [.nilptr, .nilptr] [(0, 1, (.tmp 65)), (1, 1, (.tmp 68))], none⟩,
                     ⟨none, .store 2 (.tmp 9) (.tmp 69), none⟩] [(4, 2)]))
                  .skip))
                (.seq
                 (.region [⟨some 70, .load 2 true (.tmp 9), none⟩,
                   ⟨some 71, .move (.tmp 1), none⟩,
                   ⟨some 72, .move (.tmp 11), none⟩,
                   ⟨some 73, .iaddr 3 (.tmp 71) (.tmp 72), none⟩,
                   ⟨some 74, .load 3 true (.tmp 73), none⟩,
                   ⟨some 75, .call .shared 59 [(.tmp 70), (.tmp 74)], none⟩,
                   ⟨some 76, .not (.tmp 75), none⟩])
                 (.cond (.tmp 76)
                  (.seq
                   (.region [⟨some 4, .move (.const (.bool false)), none⟩])
                   .ret)
                  .skip))))
              (.region [⟨some 46, .move (.tmp 11), none⟩,
                ⟨some 47, .iop .add (.tmp 46) (.const (.int .i64 1)), none⟩,
                ⟨some 11, .move (.tmp 47), none⟩]))))))
         (.seq
          (.seq
           (.region [⟨some 12, .move (.const (.int .i64 0)), none⟩])
           (.block 2
            (.loop [10, 12]
             (.seq
              (.seq
               (.region [⟨some 77, .move (.tmp 12), none⟩,
                 ⟨some 78, .move (.tmp 10), none⟩,
                 ⟨some 79, .lenS (.tmp 78), none⟩,
                 ⟨some 80, .iop .lss (.tmp 77) (.tmp 79), none⟩])
               (.cond (.tmp 80)
                .skip
                (.exit 2)))
              (.seq
               (.block 3
                (.seq
                 (.region [⟨some 83, .move (.tmp 10), none⟩,
                   ⟨some 84, .move (.tmp 12), none⟩,
                   ⟨some 85, .iaddr 2 (.tmp 83) (.tmp 84), none⟩,
                   ⟨some 86, .load 2 true (.tmp 85), none⟩,
                   ⟨some 87, .call .shared 60 [(.tmp 86), (.const (.int .i64 4))], none⟩,
                   ⟨some 88, .not (.tmp 87), none⟩])
                 (.cond (.tmp 88)
                  (.seq
                   (.region [⟨some 4, .move (.const (.bool false)), none⟩])
                   .ret)
                  .skip)))
               (.region [⟨some 81, .move (.tmp 12), none⟩,
                 ⟨some 82, .iop .add (.tmp 81) (.const (.int .i64 1)), none⟩,
                 ⟨some 12, .move (.tmp 82), none⟩]))))))
          (.seq
           (.region [⟨some 4, .move (.const (.bool true)), none⟩])
           .ret)))))))))), [.tmp 4]⟩

/-- purlin/purlinlaw12.NetNone -/
def a13 : AFunc := ⟨87,
 (.seq
  (.region [⟨some 4, .move (.const (.bool false)), none⟩])
  (.seq
   (.region [⟨some 5, .move (.const .nilptr), none⟩])
   (.seq
    (.region [⟨some 13, .move (.tmp 5), none⟩,
      ⟨some 14, .move (.tmp 1), none⟩,
      ⟨some 15, .call .shared 48 [(.tmp 13), (.tmp 14)], none⟩,
      ⟨some 12, .move (.tmp 15), none⟩,
      ⟨some 16, .extract (.tmp 12) 0, none⟩,
      ⟨some 17, .extract (.tmp 12) 1, none⟩,
      ⟨some 6, .alloc [(.int .i64 0), (.int .i64 0), (.bool false), (.int .i64 0), .nilslice], none⟩,
      ⟨none, .store 5 (.tmp 6) (.tmp 16), none⟩,
      ⟨some 7, .move (.tmp 17), none⟩])
    (.seq
     (.region [⟨some 19, .move (.tmp 5), none⟩,
       ⟨some 20, .call .shared 61 [(.tmp 19)], none⟩,
       ⟨some 18, .move (.tmp 20), none⟩,
       ⟨some 21, .extract (.tmp 18) 0, none⟩,
       ⟨some 22, .extract (.tmp 18) 1, none⟩,
       ⟨some 23, .extract (.tmp 18) 2, none⟩,
       ⟨some 24, .extract (.tmp 18) 3, none⟩,
       ⟨some 8, .move (.tmp 21), none⟩,
       ⟨some 9, .move (.tmp 22), none⟩,
       ⟨some 10, .move (.tmp 23), none⟩,
       ⟨some 11, .move (.tmp 24), none⟩])
     (.seq
      (.region [⟨some 25, .call .iso 42 [], none⟩,
        ⟨some 26, .move (.tmp 25), none⟩,
        ⟨some 27, .move (.tmp 5), some (26, true)⟩,
        ⟨some 28, .move (.tmp 0), some (26, true)⟩,
        ⟨some 29, .call .shared 44 [(.tmp 27), (.tmp 28)], some (26, true)⟩,
        ⟨some 30, .iop .eql (.tmp 29) (.const (.int .i64 1)), some (26, true)⟩,
        ⟨some 31, .pick (.tmp 26) (.tmp 30) (.const (.bool false)), none⟩,
        ⟨some 32, .move (.tmp 31), none⟩,
        ⟨some 33, .move (.tmp 7), some (32, true)⟩,
        ⟨some 34, .iop .eql (.tmp 33) (.const (.int .i64 1)), some (32, true)⟩,
        ⟨some 35, .pick (.tmp 32) (.tmp 34) (.const (.bool false)), none⟩,
        ⟨some 36, .move (.tmp 35), none⟩,
        ⟨some 37, .move (.tmp 5), some (36, true)⟩,
        ⟨some 38, .move (.tmp 1), some (36, true)⟩,
        ⟨some 39, .call .shared 51 [(.tmp 37), (.tmp 38)], some (36, true)⟩,
        ⟨some 40, .iop .eql (.tmp 39) (.const (.int .i64 1)), some (36, true)⟩,
        ⟨some 41, .pick (.tmp 36) (.tmp 40) (.const (.bool false)), none⟩,
        ⟨some 42, .move (.tmp 41), none⟩,
        ⟨some 43, .move (.tmp 5), some (42, true)⟩,
        ⟨some 44, .move (.tmp 1), some (42, true)⟩,
        ⟨some 45, .call .shared 52 [(.tmp 43), (.tmp 44)], some (42, true)⟩,
        ⟨some 46, .iop .eql (.tmp 45) (.const (.int .i64 1)), some (42, true)⟩,
        ⟨some 47, .pick (.tmp 42) (.tmp 46) (.const (.bool false)), none⟩,
        ⟨some 48, .move (.tmp 47), none⟩,
        ⟨some 49, .move (.tmp 5), some (48, true)⟩,
        ⟨some 50, .call .shared 47 [(.tmp 49)], some (48, true)⟩,
        ⟨some 51, .lenS (.tmp 50), some (48, true)⟩,
        ⟨some 52, .iop .eql (.tmp 51) (.const (.int .i64 0)), some (48, true)⟩,
        ⟨some 53, .pick (.tmp 48) (.tmp 52) (.const (.bool false)), none⟩,
        ⟨some 54, .move (.tmp 53), none⟩,
        ⟨some 55, .move (.tmp 5), some (54, true)⟩,
        ⟨some 56, .move (.tmp 1), some (54, true)⟩,
        ⟨some 57, .call .shared 55 [(.tmp 55), (.tmp 56)], some (54, true)⟩,
        ⟨some 58, .lenS (.tmp 57), some (54, true)⟩,
        ⟨some 59, .iop .eql (.tmp 58) (.const (.int .i64 0)), some (54, true)⟩,
        ⟨some 60, .pick (.tmp 54) (.tmp 59) (.const (.bool false)), none⟩,
        ⟨some 61, .move (.tmp 60), none⟩,
        ⟨some 62, .move (.tmp 5), some (61, true)⟩,
        ⟨some 63, .call .shared 45 [(.tmp 62)], some (61, true)⟩,
        ⟨some 64, .iop .eql (.tmp 63) (.const (.int .i64 0)), some (61, true)⟩,
        ⟨some 65, .pick (.tmp 61) (.tmp 64) (.const (.bool false)), none⟩,
        ⟨some 66, .move (.tmp 65), none⟩,
        ⟨some 67, .move (.tmp 8), some (66, true)⟩,
        ⟨some 68, .iop .eql (.tmp 67) (.const (.int .i64 0)), some (66, true)⟩,
        ⟨some 69, .pick (.tmp 66) (.tmp 68) (.const (.bool false)), none⟩,
        ⟨some 70, .move (.tmp 69), none⟩,
        ⟨some 71, .move (.tmp 9), some (70, true)⟩,
        ⟨some 72, .iop .eql (.tmp 71) (.const (.int .i64 0)), some (70, true)⟩,
        ⟨some 73, .pick (.tmp 70) (.tmp 72) (.const (.bool false)), none⟩,
        ⟨some 74, .move (.tmp 73), none⟩,
        ⟨some 75, .move (.tmp 10), some (74, true)⟩,
        ⟨some 76, .iop .eql (.tmp 75) (.const (.int .i64 0)), some (74, true)⟩,
        ⟨some 77, .pick (.tmp 74) (.tmp 76) (.const (.bool false)), none⟩,
        ⟨some 78, .move (.tmp 77), none⟩,
        ⟨some 79, .move (.tmp 11), some (78, true)⟩,
        ⟨some 80, .iop .eql (.tmp 79) (.const (.int .i64 0)), some (78, true)⟩,
        ⟨some 81, .pick (.tmp 78) (.tmp 80) (.const (.bool false)), none⟩,
        ⟨some 82, .move (.tmp 81), none⟩,
        ⟨some 83, .move (.tmp 5), some (82, true)⟩,
        ⟨some 84, .call .shared 57 [(.tmp 83)], some (82, true)⟩,
        ⟨some 85, .eqnil false .p (.tmp 84), some (82, true)⟩,
        ⟨some 86, .pick (.tmp 82) (.tmp 85) (.const (.bool false)), none⟩,
        ⟨some 4, .move (.tmp 86), none⟩])
      .ret))))), [.tmp 4]⟩

/-- purlin/purlinmem.Hand -/
def a14 : AFunc := ⟨44,
 (.seq
  (.region [⟨some 2, .move (.const .nilslice), none⟩])
  (.seq
   (.region [⟨some 6, .move (.tmp 0), none⟩,
     ⟨some 7, .lenS (.tmp 6), none⟩,
     ⟨some 8, .iop .add (.tmp 7) (.const (.int .i64 9)), none⟩,
     ⟨some 9, .mkslice 1 1 [(.int .u8 0)] false (.tmp 8) (.tmp 8), none⟩,
     ⟨some 3, .move (.tmp 9), none⟩])
   (.seq
    (.seq
     (.region [⟨some 4, .move (.const (.int .i64 0)), none⟩])
     (.block 0
      (.loop [0, 3, 4]
       (.seq
        (.seq
         (.region [⟨some 10, .move (.tmp 4), none⟩,
           ⟨some 11, .move (.tmp 0), none⟩,
           ⟨some 12, .lenS (.tmp 11), none⟩,
           ⟨some 13, .iop .lss (.tmp 10) (.tmp 12), none⟩])
         (.cond (.tmp 13)
          .skip
          (.exit 0)))
        (.seq
         (.block 1
          (.region [⟨some 16, .move (.tmp 3), none⟩,
            ⟨some 17, .move (.tmp 4), none⟩,
            ⟨some 18, .move (.tmp 0), none⟩,
            ⟨some 19, .move (.tmp 4), none⟩,
            ⟨some 20, .iaddr 1 (.tmp 18) (.tmp 19), none⟩,
            ⟨some 21, .load 1 false (.tmp 20), none⟩,
            ⟨some 22, .iaddr 1 (.tmp 16) (.tmp 17), none⟩,
            ⟨none, .store 1 (.tmp 22) (.tmp 21), none⟩]))
         (.region [⟨some 14, .move (.tmp 4), none⟩,
           ⟨some 15, .iop .add (.tmp 14) (.const (.int .i64 1)), none⟩,
           ⟨some 4, .move (.tmp 15), none⟩]))))))
    (.seq
     (.seq
      (.region [⟨some 23, .move (.tmp 0), none⟩,
        ⟨some 24, .lenS (.tmp 23), none⟩,
        ⟨some 5, .move (.tmp 24), none⟩])
      (.block 2
       (.loop [0, 3, 5]
        (.seq
         (.seq
          (.region [⟨some 25, .move (.tmp 5), none⟩,
            ⟨some 26, .move (.tmp 3), none⟩,
            ⟨some 27, .lenS (.tmp 26), none⟩,
            ⟨some 28, .iop .lss (.tmp 25) (.tmp 27), none⟩])
          (.cond (.tmp 28)
           .skip
           (.exit 2)))
         (.seq
          (.block 3
           (.region [⟨some 31, .move (.tmp 3), none⟩,
             ⟨some 32, .move (.tmp 5), none⟩,
             ⟨some 33, .move (.tmp 5), none⟩,
             ⟨some 34, .iop .add (.const (.int .i64 160)) (.tmp 33), none⟩,
             ⟨some 35, .move (.tmp 0), none⟩,
             ⟨some 36, .lenS (.tmp 35), none⟩,
             ⟨some 37, .iop .sub (.tmp 34) (.tmp 36), none⟩,
             ⟨some 38, .convI .u8 (.tmp 37), none⟩,
             ⟨some 39, .iaddr 1 (.tmp 31) (.tmp 32), none⟩,
             ⟨none, .store 1 (.tmp 39) (.tmp 38), none⟩]))
          (.region [⟨some 29, .move (.tmp 5), none⟩,
            ⟨some 30, .iop .add (.tmp 29) (.const (.int .i64 1)), none⟩,
            ⟨some 5, .move (.tmp 30), none⟩]))))))
     (.seq
      (.region [⟨some 40, .move (.tmp 3), none⟩,
        ⟨some 41, .move (.tmp 0), none⟩,
        ⟨some 42, .lenS (.tmp 41), none⟩,
        ⟨some 43, .sliceOp 1 (.tmp 40) none (some (.tmp 42)) none, none⟩,
        ⟨some 2, .move (.tmp 43), none⟩])
      .ret))))), [.tmp 2]⟩

/-- purlin/purlinmem.Same -/
def a20 : AFunc := ⟨26,
 (.seq
  (.region [⟨some 4, .move (.const (.bool false)), none⟩])
  (.seq
   (.seq
    (.region [⟨some 6, .move (.tmp 0), none⟩,
      ⟨some 7, .lenS (.tmp 6), none⟩,
      ⟨some 8, .move (.tmp 1), none⟩,
      ⟨some 9, .lenS (.tmp 8), none⟩,
      ⟨some 10, .iop .neq (.tmp 7) (.tmp 9), none⟩])
    (.cond (.tmp 10)
     (.seq
      (.region [⟨some 4, .move (.const (.bool false)), none⟩])
      .ret)
     .skip))
   (.seq
    (.seq
     (.region [⟨some 5, .move (.const (.int .i64 0)), none⟩])
     (.block 0
      (.loop [0, 1, 5]
       (.seq
        (.seq
         (.region [⟨some 11, .move (.tmp 5), none⟩,
           ⟨some 12, .move (.tmp 0), none⟩,
           ⟨some 13, .lenS (.tmp 12), none⟩,
           ⟨some 14, .iop .lss (.tmp 11) (.tmp 13), none⟩])
         (.cond (.tmp 14)
          .skip
          (.exit 0)))
        (.seq
         (.block 1
          (.seq
           (.region [⟨some 17, .move (.tmp 0), none⟩,
             ⟨some 18, .move (.tmp 5), none⟩,
             ⟨some 19, .iaddr 1 (.tmp 17) (.tmp 18), none⟩,
             ⟨some 20, .load 1 false (.tmp 19), none⟩,
             ⟨some 21, .move (.tmp 1), none⟩,
             ⟨some 22, .move (.tmp 5), none⟩,
             ⟨some 23, .iaddr 1 (.tmp 21) (.tmp 22), none⟩,
             ⟨some 24, .load 1 false (.tmp 23), none⟩,
             ⟨some 25, .iop .neq (.tmp 20) (.tmp 24), none⟩])
           (.cond (.tmp 25)
            (.seq
             (.region [⟨some 4, .move (.const (.bool false)), none⟩])
             .ret)
            .skip)))
         (.region [⟨some 15, .move (.tmp 5), none⟩,
           ⟨some 16, .iop .add (.tmp 15) (.const (.int .i64 1)), none⟩,
           ⟨some 5, .move (.tmp 16), none⟩]))))))
    (.seq
     (.region [⟨some 4, .move (.const (.bool true)), none⟩])
     .ret)))), [.tmp 4]⟩

/-- (*purlin/purlinmem.Book).TakeBytes -/
def a24 : AFunc := ⟨14,
 (.region [⟨some 4, .move (.tmp 0), none⟩,
   ⟨some 5, .move (.tmp 0), none⟩,
   ⟨some 6, .nilCheck (.tmp 5), none⟩,
   ⟨some 7, .faddr 0 (.tmp 6), none⟩,
   ⟨some 8, .load 1 false (.tmp 7), none⟩,
   ⟨some 9, .move (.tmp 1), none⟩,
   ⟨some 10, .litA 1 [.nilslice] false 1 [(0, (.tmp 9))], none⟩,
   ⟨some 11, .append 1 24 (.tmp 8) (.tmp 10), none⟩,
   ⟨some 12, .nilCheck (.tmp 4), none⟩,
   ⟨some 13, .faddr 0 (.tmp 12), none⟩,
   ⟨none, .store 1 (.tmp 13) (.tmp 11), none⟩]), []⟩

/-- (*purlin/purlinmem.Book).Alone -/
def a26 : AFunc := ⟨26,
 (.seq
  (.region [⟨some 2, .move (.const (.bool false)), none⟩])
  (.seq
   (.region [⟨some 4, .move (.tmp 0), none⟩,
     ⟨some 5, .call .shared 67 [(.tmp 4)], none⟩,
     ⟨some 6, .move (.tmp 5), none⟩,
     ⟨some 7, .move (.tmp 0), some (6, true)⟩,
     ⟨some 8, .call .shared 68 [(.tmp 7)], some (6, true)⟩,
     ⟨some 9, .pick (.tmp 6) (.tmp 8) (.const (.bool false)), none⟩,
     ⟨some 10, .move (.tmp 9), none⟩,
     ⟨some 11, .move (.tmp 0), some (10, true)⟩,
     ⟨some 12, .call .shared 69 [(.tmp 11)], some (10, true)⟩,
     ⟨some 13, .pick (.tmp 10) (.tmp 12) (.const (.bool false)), none⟩,
     ⟨some 14, .move (.tmp 13), none⟩,
     ⟨some 15, .move (.tmp 0), some (14, true)⟩,
     ⟨some 16, .call .shared 70 [(.tmp 15)], some (14, true)⟩,
     ⟨some 17, .pick (.tmp 14) (.tmp 16) (.const (.bool false)), none⟩,
     ⟨some 18, .move (.tmp 17), none⟩,
     ⟨some 19, .move (.tmp 0), some (18, true)⟩,
     ⟨some 20, .call .shared 71 [(.tmp 19)], some (18, true)⟩,
     ⟨some 21, .pick (.tmp 18) (.tmp 20) (.const (.bool false)), none⟩,
     ⟨some 3, .move (.tmp 21), none⟩])
   (.seq
    (.region [⟨some 22, .move (.tmp 0), none⟩,
      ⟨some 23, .build [.nilslice, .nilslice, .nilslice, .nilslice, .nilslice] [], none⟩,
      ⟨some 24, .nilCheck (.tmp 22), none⟩,
      ⟨none, .store 5 (.tmp 24) (.tmp 23), none⟩])
    (.seq
     (.region [⟨some 25, .move (.tmp 3), none⟩,
       ⟨some 2, .move (.tmp 25), none⟩])
     .ret)))), [.tmp 2]⟩

/-- purlin/purlinmem.Kept -/
def a27 : AFunc := ⟨35,
 (.seq
  (.region [⟨some 4, .move (.const (.bool false)), none⟩])
  (.seq
   (.seq
    (.region [⟨some 7, .move (.tmp 0), none⟩,
      ⟨some 8, .move (.tmp 1), none⟩,
      ⟨some 9, .call .shared 20 [(.tmp 7), (.tmp 8)], none⟩,
      ⟨some 10, .not (.tmp 9), none⟩])
    (.cond (.tmp 10)
     (.seq
      (.region [⟨some 4, .move (.const (.bool false)), none⟩])
      .ret)
     .skip))
   (.seq
    (.region [⟨some 11, .move (.tmp 0), none⟩,
      ⟨some 12, .move (.tmp 1), none⟩,
      ⟨some 13, .lenS (.tmp 12), none⟩,
      ⟨some 14, .iop .add (.tmp 13) (.const (.int .i64 9)), none⟩,
      ⟨some 15, .sliceOp 1 (.tmp 11) none (some (.tmp 14)) none, none⟩,
      ⟨some 5, .move (.tmp 15), none⟩])
    (.seq
     (.seq
      (.region [⟨some 16, .move (.tmp 1), none⟩,
        ⟨some 17, .lenS (.tmp 16), none⟩,
        ⟨some 6, .move (.tmp 17), none⟩])
      (.block 0
       (.loop [1, 5, 6]
        (.seq
         (.seq
          (.region [⟨some 18, .move (.tmp 6), none⟩,
            ⟨some 19, .move (.tmp 5), none⟩,
            ⟨some 20, .lenS (.tmp 19), none⟩,
            ⟨some 21, .iop .lss (.tmp 18) (.tmp 20), none⟩])
          (.cond (.tmp 21)
           .skip
           (.exit 0)))
         (.seq
          (.block 1
           (.seq
            (.region [⟨some 24, .move (.tmp 5), none⟩,
              ⟨some 25, .move (.tmp 6), none⟩,
              ⟨some 26, .iaddr 1 (.tmp 24) (.tmp 25), none⟩,
              ⟨some 27, .load 1 false (.tmp 26), none⟩,
              ⟨some 28, .move (.tmp 6), none⟩,
              ⟨some 29, .iop .add (.const (.int .i64 160)) (.tmp 28), none⟩,
              ⟨some 30, .move (.tmp 1), none⟩,
              ⟨some 31, .lenS (.tmp 30), none⟩,
              ⟨some 32, .iop .sub (.tmp 29) (.tmp 31), none⟩,
              ⟨some 33, .convI .u8 (.tmp 32), none⟩,
              ⟨some 34, .iop .neq (.tmp 27) (.tmp 33), none⟩])
            (.cond (.tmp 34)
             (.seq
              (.region [⟨some 4, .move (.const (.bool false)), none⟩])
              .ret)
             .skip)))
          (.region [⟨some 22, .move (.tmp 6), none⟩,
            ⟨some 23, .iop .add (.tmp 22) (.const (.int .i64 1)), none⟩,
            ⟨some 6, .move (.tmp 23), none⟩]))))))
     (.seq
      (.region [⟨some 4, .move (.const (.bool true)), none⟩])
      .ret))))), [.tmp 4]⟩

/-- purlin/purlinlaw12.live -/
def a42 : AFunc := ⟨97,
 (.seq
  (.region [⟨some 0, .move (.const (.bool false)), none⟩])
  (.seq
   (.region [⟨some 15, .call .shared 43 [(.const (.int .i64 2))], none⟩,
     ⟨some 14, .move (.tmp 15), none⟩,
     ⟨some 16, .extract (.tmp 14) 0, none⟩,
     ⟨some 17, .extract (.tmp 14) 1, none⟩,
     ⟨some 1, .move (.tmp 16), none⟩,
     ⟨some 2, .move (.tmp 17), none⟩])
   (.seq
    (.seq
     (.region [⟨some 18, .move (.tmp 2), none⟩,
       ⟨some 19, .iop .neq (.tmp 18) (.const (.int .i64 0)), none⟩,
       ⟨some 20, .move (.tmp 19), none⟩,
       ⟨some 21, .move (.tmp 1), some (20, false)⟩,
       ⟨some 22, .eqnil false .p (.tmp 21), some (20, false)⟩,
       ⟨some 23, .pick (.tmp 20) (.const (.bool true)) (.tmp 22), none⟩])
     (.cond (.tmp 23)
      (.seq
       (.region [⟨some 0, .move (.const (.bool false)), none⟩])
       .ret)
      .skip))
    (.seq
     (.region [⟨some 24, .move (.tmp 1), none⟩,
       ⟨some 25, .build [(.int .i64 0), (.int .i64 0), (.bool false), (.int .i64 0), .nilslice] [(1, 1, (.const (.int .i64 1))), (3, 1, (.const (.int .i64 5)))], none⟩,
       ⟨some 26, .build [(.int .i64 0), (.int .i64 0), (.bool false), (.int .i64 0), .nilslice] [(0, 1, (.const (.int .i64 1))), (3, 1, (.const (.int .i64 6)))], none⟩,
       ⟨some 27, .lit 5 [(.int .i64 0), (.int .i64 0), (.bool false), (.int .i64 0), .nilslice] true 2 [(0, (.tmp 25)), (1, (.tmp 26))], none⟩,
       ⟨some 28, .call .shared 44 [(.tmp 24), (.tmp 27)], none⟩,
       ⟨some 3, .move (.tmp 28), none⟩])
     (.seq
      (.region [⟨some 29, .move (.tmp 1), none⟩,
        ⟨some 30, .call .shared 52 [(.tmp 29), (.const (.int .i64 0))], none⟩,
        ⟨some 4, .move (.tmp 30), none⟩])
      (.seq
       (.region [⟨some 32, .move (.tmp 1), none⟩,
         ⟨some 33, .call .shared 48 [(.tmp 32), (.const (.int .i64 1))], none⟩,
         ⟨some 31, .move (.tmp 33), none⟩,
         ⟨some 34, .extract (.tmp 31) 0, none⟩,
         ⟨some 35, .extract (.tmp 31) 1, none⟩,
         ⟨some 5, .alloc [(.int .i64 0), (.int .i64 0), (.bool false), (.int .i64 0), .nilslice], none⟩,
         ⟨none, .store 5 (.tmp 5) (.tmp 34), none⟩,
         ⟨some 6, .move (.tmp 35), none⟩])
       (.seq
        (.region [⟨some 37, .move (.tmp 1), none⟩,
          ⟨some 38, .call .shared 48 [(.tmp 37), (.const (.int .i64 7))], none⟩,
          ⟨some 36, .move (.tmp 38), none⟩,
          ⟨some 39, .extract (.tmp 36) 0, none⟩,
          ⟨some 40, .extract (.tmp 36) 1, none⟩,
          ⟨some 7, .alloc [(.int .i64 0), (.int .i64 0), (.bool false), (.int .i64 0), .nilslice], none⟩,
          ⟨none, .store 5 (.tmp 7) (.tmp 39), none⟩,
          ⟨some 8, .move (.tmp 40), none⟩])
        (.seq
         (.region [⟨some 41, .move (.tmp 1), none⟩,
           ⟨some 42, .call .shared 47 [(.tmp 41)], none⟩,
           ⟨some 9, .move (.tmp 42), none⟩])
         (.seq
          (.region [⟨some 44, .move (.tmp 1), none⟩,
            ⟨some 45, .call .shared 61 [(.tmp 44)], none⟩,
            ⟨some 43, .move (.tmp 45), none⟩,
            ⟨some 46, .extract (.tmp 43) 0, none⟩,
            ⟨some 47, .extract (.tmp 43) 1, none⟩,
            ⟨some 48, .extract (.tmp 43) 2, none⟩,
            ⟨some 49, .extract (.tmp 43) 3, none⟩,
            ⟨some 10, .move (.tmp 46), none⟩,
            ⟨some 11, .move (.tmp 47), none⟩,
            ⟨some 12, .move (.tmp 48), none⟩,
            ⟨some 13, .move (.tmp 49), none⟩])
          (.seq
           (.region [⟨some 50, .move (.tmp 3), none⟩,
             ⟨some 51, .iop .eql (.tmp 50) (.const (.int .i64 0)), none⟩,
             ⟨some 52, .move (.tmp 51), none⟩,
             ⟨some 53, .move (.tmp 4), some (52, true)⟩,
             ⟨some 54, .iop .eql (.tmp 53) (.const (.int .i64 0)), some (52, true)⟩,
             ⟨some 55, .pick (.tmp 52) (.tmp 54) (.const (.bool false)), none⟩,
             ⟨some 56, .move (.tmp 55), none⟩,
             ⟨some 57, .move (.tmp 6), some (56, true)⟩,
             ⟨some 58, .iop .eql (.tmp 57) (.const (.int .i64 0)), some (56, true)⟩,
             ⟨some 59, .pick (.tmp 56) (.tmp 58) (.const (.bool false)), none⟩,
             ⟨some 60, .move (.tmp 59), none⟩,
             ⟨some 61, .faddr 3 (.tmp 5), some (60, true)⟩,
             ⟨some 62, .load 1 false (.tmp 61), some (60, true)⟩,
             ⟨some 63, .iop .eql (.tmp 62) (.const (.int .i64 6)), some (60, true)⟩,
             ⟨some 64, .pick (.tmp 60) (.tmp 63) (.const (.bool false)), none⟩,
             ⟨some 65, .move (.tmp 64), none⟩,
             ⟨some 66, .move (.tmp 8), some (65, true)⟩,
             ⟨some 67, .iop .eql (.tmp 66) (.const (.int .i64 4)), some (65, true)⟩,
             ⟨some 68, .pick (.tmp 65) (.tmp 67) (.const (.bool false)), none⟩,
             ⟨some 69, .move (.tmp 68), none⟩,
             ⟨some 70, .move (.tmp 9), some (69, true)⟩,
             ⟨some 71, .lenS (.tmp 70), some (69, true)⟩,
             ⟨some 72, .iop .eql (.tmp 71) (.const (.int .i64 2)), some (69, true)⟩,
             ⟨some 73, .pick (.tmp 69) (.tmp 72) (.const (.bool false)), none⟩,
             ⟨some 74, .move (.tmp 73), none⟩,
             ⟨some 75, .move (.tmp 9), some (74, true)⟩,
             ⟨some 76, .iaddr 5 (.tmp 75) (.const (.int .i64 1)), some (74, true)⟩,
             ⟨some 77, .faddr 3 (.tmp 76), some (74, true)⟩,
             ⟨some 78, .load 1 false (.tmp 77), some (74, true)⟩,
             ⟨some 79, .iop .eql (.tmp 78) (.const (.int .i64 5)), some (74, true)⟩,
             ⟨some 80, .pick (.tmp 74) (.tmp 79) (.const (.bool false)), none⟩,
             ⟨some 81, .move (.tmp 80), none⟩,
             ⟨some 82, .move (.tmp 10), some (81, true)⟩,
             ⟨some 83, .iop .eql (.tmp 82) (.const (.int .i64 2)), some (81, true)⟩,
             ⟨some 84, .pick (.tmp 81) (.tmp 83) (.const (.bool false)), none⟩,
             ⟨some 85, .move (.tmp 84), none⟩,
             ⟨some 86, .move (.tmp 11), some (85, true)⟩,
             ⟨some 87, .iop .eql (.tmp 86) (.const (.int .i64 1)), some (85, true)⟩,
             ⟨some 88, .pick (.tmp 85) (.tmp 87) (.const (.bool false)), none⟩,
             ⟨some 89, .move (.tmp 88), none⟩,
             ⟨some 90, .move (.tmp 12), some (89, true)⟩,
             ⟨some 91, .iop .eql (.tmp 90) (.const (.int .i64 0)), some (89, true)⟩,
             ⟨some 92, .pick (.tmp 89) (.tmp 91) (.const (.bool false)), none⟩,
             ⟨some 93, .move (.tmp 92), none⟩,
             ⟨some 94, .move (.tmp 13), some (93, true)⟩,
             ⟨some 95, .iop .eql (.tmp 94) (.const (.int .i64 1)), some (93, true)⟩,
             ⟨some 96, .pick (.tmp 93) (.tmp 95) (.const (.bool false)), none⟩,
             ⟨some 0, .move (.tmp 96), none⟩])
           .ret)))))))))), [.tmp 0]⟩

/-- purlin/net.New -/
def a43 : AFunc := ⟨13,
 (.seq
  (.region [⟨some 2, .move (.const .nilptr), none⟩,
    ⟨some 3, .move (.const (.int .i64 0)), none⟩])
  (.seq
   (.seq
    (.region [⟨some 4, .move (.tmp 0), none⟩,
      ⟨some 5, .iop .lss (.tmp 4) (.const (.int .i64 1)), none⟩,
      ⟨some 6, .move (.tmp 5), none⟩,
      ⟨some 7, .move (.tmp 0), some (6, false)⟩,
      ⟨some 8, .iop .gtr (.tmp 7) (.const (.int .i64 4)), some (6, false)⟩,
      ⟨some 9, .pick (.tmp 6) (.const (.bool true)) (.tmp 8), none⟩])
    (.cond (.tmp 9)
     (.seq
      (.region [⟨some 2, .move (.const .nilptr), none⟩,
        ⟨some 3, .move (.const (.int .i64 2)), none⟩])
      .ret)
     .skip))
   (.seq
    (.region [⟨some 10, .move (.tmp 0), none⟩,
      ⟨some 11, .build [(.int .i64 0), (.int .i64 0), (.int .i64 0), (.int .i64 0), (.int .i64 0), .nilslice] [(4, 1, (.tmp 10))], none⟩,
      ⟨some 12, .box (.tmp 11), none⟩,
      ⟨some 2, .move (.tmp 12), none⟩,
      ⟨some 3, .move (.const (.int .i64 0)), none⟩])
    .ret))), [.tmp 2, .tmp 3]⟩

/-- (*purlin/net.Net).Send -/
def a44 : AFunc := ⟨54,
 (.seq
  (.region [⟨some 4, .move (.const (.int .i64 0)), none⟩])
  (.seq
   (.seq
    (.region [⟨some 10, .move (.tmp 0), none⟩,
      ⟨some 11, .eqnil false .p (.tmp 10), none⟩])
    (.cond (.tmp 11)
     (.seq
      (.region [⟨some 4, .move (.const (.int .i64 1)), none⟩])
      .ret)
     .skip))
   (.seq
    (.seq
     (.region [⟨some 12, .move (.tmp 1), none⟩,
       ⟨some 13, .lenS (.tmp 12), none⟩,
       ⟨some 14, .move (.const (.int .i64 0)), none⟩])
     (.block 0
      (.loop [0, 1, 12, 13, 14]
       (.seq
        (.region [⟨some 15, .iop .lss (.tmp 14) (.tmp 13), none⟩])
        (.seq
         (.cond (.tmp 15)
          .skip
          (.exit 0))
         (.seq
          (.block 1
           (.seq
            (.region [⟨some 16, .iaddr 5 (.tmp 12) (.tmp 14), none⟩,
              ⟨some 17, .load 5 true (.tmp 16), none⟩,
              ⟨some 6, .alloc [(.int .i64 0), (.int .i64 0), (.bool false), (.int .i64 0), .nilslice], none⟩,
              ⟨none, .store 5 (.tmp 6) (.tmp 17), none⟩])
            (.seq
             (.region [⟨some 18, .move (.tmp 0), none⟩,
               ⟨some 19, .load 5 true (.tmp 6), none⟩,
               ⟨some 20, .call .shared 78 [(.tmp 18), (.tmp 19)], none⟩,
               ⟨some 7, .move (.tmp 20), none⟩])
             (.seq
              (.region [⟨some 21, .move (.tmp 7), none⟩,
                ⟨some 22, .iop .neq (.tmp 21) (.const (.int .i64 0)), none⟩])
              (.cond (.tmp 22)
               (.seq
                (.region [⟨some 23, .move (.tmp 7), none⟩,
                  ⟨some 4, .move (.tmp 23), none⟩])
                .ret)
               .skip)))))
          (.region [⟨some 24, .iop .add (.tmp 14) (.const (.int .i64 1)), none⟩,
            ⟨some 14, .move (.tmp 24), none⟩])))))))
    (.seq
     (.seq
      (.region [⟨some 25, .move (.tmp 1), none⟩,
        ⟨some 26, .lenS (.tmp 25), none⟩,
        ⟨some 27, .move (.const (.int .i64 0)), none⟩])
      (.block 2
       (.loop [0, 1, 25, 26, 27]
        (.seq
         (.region [⟨some 28, .iop .lss (.tmp 27) (.tmp 26), none⟩])
         (.seq
          (.cond (.tmp 28)
           .skip
           (.exit 2))
          (.seq
           (.block 3
            (.seq
             (.region [⟨some 29, .iaddr 5 (.tmp 25) (.tmp 27), none⟩,
               ⟨some 30, .load 5 true (.tmp 29), none⟩,
               ⟨some 9, .alloc [(.int .i64 0), (.int .i64 0), (.bool false), (.int .i64 0), .nilslice], none⟩,
               ⟨none, .store 5 (.tmp 9) (.tmp 30), none⟩])
             (.drawn [⟨some 31, .move (.tmp 0), none⟩,
               ⟨some 32, .move (.tmp 0), none⟩,
               ⟨some 33, .nilCheck (.tmp 32), none⟩,
               ⟨some 34, .faddr 5 (.tmp 33), none⟩,
               ⟨some 35, .load 1 false (.tmp 34), none⟩,
               ⟨some 36, .load 5 true (.tmp 9), none⟩,
               ⟨some 37, .call .shared 79 [(.tmp 36)], none⟩,
               ⟨some 38, .lit 5 [(.int .i64 0), (.int .i64 0), (.bool false), (.int .i64 0), .nilslice] true 1 [(0, (.tmp 37))], none⟩,
               ⟨some 39, .append 5 56 (.tmp 35) (.tmp 38), none⟩,
               ⟨some 40, .nilCheck (.tmp 31), none⟩,
               ⟨some 41, .faddr 5 (.tmp 40), none⟩,
               ⟨none, .store 1 (.tmp 41) (.tmp 39), none⟩] [(4, 6)])))
           (.region [⟨some 42, .iop .add (.tmp 27) (.const (.int .i64 1)), none⟩,
             ⟨some 27, .move (.tmp 42), none⟩])))))))
     (.seq
      (.region [⟨some 43, .move (.tmp 0), none⟩,
        ⟨some 44, .nilCheck (.tmp 43), none⟩,
        ⟨some 45, .faddr 0 (.tmp 44), none⟩,
        ⟨some 46, .faddr 0 (.tmp 45), none⟩,
        ⟨some 47, .load 1 false (.tmp 46), none⟩,
        ⟨some 48, .move (.tmp 1), none⟩,
        ⟨some 49, .lenS (.tmp 48), none⟩,
        ⟨some 50, .iop .add (.tmp 47) (.tmp 49), none⟩,
        ⟨some 51, .nilCheck (.tmp 43), none⟩,
        ⟨some 52, .faddr 0 (.tmp 51), none⟩,
        ⟨some 53, .faddr 0 (.tmp 52), none⟩,
        ⟨none, .store 1 (.tmp 53) (.tmp 50), none⟩])
      (.seq
       (.region [⟨some 4, .move (.const (.int .i64 0)), none⟩])
       .ret)))))), [.tmp 4]⟩

/-- (*purlin/net.Net).Len -/
def a45 : AFunc := ⟨10,
 (.seq
  (.region [⟨some 2, .move (.const (.int .i64 0)), none⟩])
  (.seq
   (.seq
    (.region [⟨some 3, .move (.tmp 0), none⟩,
      ⟨some 4, .eqnil false .p (.tmp 3), none⟩])
    (.cond (.tmp 4)
     (.seq
      (.region [⟨some 2, .move (.const (.int .i64 0)), none⟩])
      .ret)
     .skip))
   (.seq
    (.region [⟨some 5, .move (.tmp 0), none⟩,
      ⟨some 6, .nilCheck (.tmp 5), none⟩,
      ⟨some 7, .faddr 5 (.tmp 6), none⟩,
      ⟨some 8, .load 1 false (.tmp 7), none⟩,
      ⟨some 9, .lenS (.tmp 8), none⟩,
      ⟨some 2, .move (.tmp 9), none⟩])
    .ret))), [.tmp 2]⟩

/-- purlin/purlinmem.SameDatagrams -/
def a46 : AFunc := ⟨27,
 (.seq
  (.region [⟨some 4, .move (.const (.bool false)), none⟩])
  (.seq
   (.seq
    (.region [⟨some 6, .move (.tmp 0), none⟩,
      ⟨some 7, .lenS (.tmp 6), none⟩,
      ⟨some 8, .move (.tmp 1), none⟩,
      ⟨some 9, .lenS (.tmp 8), none⟩,
      ⟨some 10, .iop .neq (.tmp 7) (.tmp 9), none⟩])
    (.cond (.tmp 10)
     (.seq
      (.region [⟨some 4, .move (.const (.bool false)), none⟩])
      .ret)
     .skip))
   (.seq
    (.seq
     (.region [⟨some 5, .move (.const (.int .i64 0)), none⟩])
     (.block 0
      (.loop [0, 1, 5]
       (.seq
        (.seq
         (.region [⟨some 11, .move (.tmp 5), none⟩,
           ⟨some 12, .move (.tmp 0), none⟩,
           ⟨some 13, .lenS (.tmp 12), none⟩,
           ⟨some 14, .iop .lss (.tmp 11) (.tmp 13), none⟩])
         (.cond (.tmp 14)
          .skip
          (.exit 0)))
        (.seq
         (.block 1
          (.seq
           (.region [⟨some 17, .move (.tmp 0), none⟩,
             ⟨some 18, .move (.tmp 5), none⟩,
             ⟨some 19, .iaddr 5 (.tmp 17) (.tmp 18), none⟩,
             ⟨some 20, .load 5 true (.tmp 19), none⟩,
             ⟨some 21, .move (.tmp 1), none⟩,
             ⟨some 22, .move (.tmp 5), none⟩,
             ⟨some 23, .iaddr 5 (.tmp 21) (.tmp 22), none⟩,
             ⟨some 24, .load 5 true (.tmp 23), none⟩,
             ⟨some 25, .call .shared 49 [(.tmp 20), (.tmp 24)], none⟩,
             ⟨some 26, .not (.tmp 25), none⟩])
           (.cond (.tmp 26)
            (.seq
             (.region [⟨some 4, .move (.const (.bool false)), none⟩])
             .ret)
            .skip)))
         (.region [⟨some 15, .move (.tmp 5), none⟩,
           ⟨some 16, .iop .add (.tmp 15) (.const (.int .i64 1)), none⟩,
           ⟨some 5, .move (.tmp 16), none⟩]))))))
    (.seq
     (.region [⟨some 4, .move (.const (.bool true)), none⟩])
     .ret)))), [.tmp 4]⟩

/-- (*purlin/net.Net).Waiting -/
def a47 : AFunc := ⟨24,
 (.seq
  (.region [⟨some 2, .move (.const .nilslice), none⟩])
  (.seq
   (.seq
    (.region [⟨some 6, .move (.tmp 0), none⟩,
      ⟨some 7, .eqnil false .p (.tmp 6), none⟩])
    (.cond (.tmp 7)
     (.seq
      (.region [⟨some 2, .move (.const .nilslice), none⟩])
      .ret)
     .skip))
   (.seq
    (.region [⟨some 3, .move (.const .nilslice), none⟩])
    (.seq
     (.seq
      (.region [⟨some 8, .move (.tmp 0), none⟩,
        ⟨some 9, .nilCheck (.tmp 8), none⟩,
        ⟨some 10, .faddr 5 (.tmp 9), none⟩,
        ⟨some 11, .load 1 false (.tmp 10), none⟩,
        ⟨some 12, .lenS (.tmp 11), none⟩,
        ⟨some 13, .move (.const (.int .i64 0)), none⟩])
      (.block 0
       (.loop [3, 11, 12, 13]
        (.seq
         (.region [⟨some 14, .iop .lss (.tmp 13) (.tmp 12), none⟩])
         (.seq
          (.cond (.tmp 14)
           .skip
           (.exit 0))
          (.seq
           (.block 1
            (.seq
             (.region [⟨some 15, .iaddr 5 (.tmp 11) (.tmp 13), none⟩,
               ⟨some 16, .load 5 true (.tmp 15), none⟩,
               ⟨some 5, .alloc [(.int .i64 0), (.int .i64 0), (.bool false), (.int .i64 0), .nilslice], none⟩,
               ⟨none, .store 5 (.tmp 5) (.tmp 16), none⟩])
             (.region [⟨some 17, .move (.tmp 3), none⟩,
               ⟨some 18, .load 5 true (.tmp 5), none⟩,
               ⟨some 19, .call .shared 79 [(.tmp 18)], none⟩,
               ⟨some 20, .lit 5 [(.int .i64 0), (.int .i64 0), (.bool false), (.int .i64 0), .nilslice] true 1 [(0, (.tmp 19))], none⟩,
               ⟨some 21, .append 5 56 (.tmp 17) (.tmp 20), none⟩,
               ⟨some 3, .move (.tmp 21), none⟩])))
           (.region [⟨some 22, .iop .add (.tmp 13) (.const (.int .i64 1)), none⟩,
             ⟨some 13, .move (.tmp 22), none⟩])))))))
     (.seq
      (.region [⟨some 23, .move (.tmp 3), none⟩,
        ⟨some 2, .move (.tmp 23), none⟩])
      .ret))))), [.tmp 2]⟩

/-- (*purlin/net.Net).Deliver -/
def a48 : AFunc := ⟨26,
 (.seq
  (.region [⟨some 4, .alloc [(.int .i64 0), (.int .i64 0), (.bool false), (.int .i64 0), .nilslice], none⟩,
    ⟨some 5, .move (.const (.int .i64 0)), none⟩])
  (.seq
   (.seq
    (.region [⟨some 7, .move (.tmp 0), none⟩,
      ⟨some 8, .move (.tmp 1), none⟩,
      ⟨some 9, .call .shared 80 [(.tmp 7), (.tmp 8)], none⟩,
      ⟨some 6, .move (.tmp 9), none⟩])
    (.seq
     (.region [⟨some 10, .move (.tmp 6), none⟩,
       ⟨some 11, .iop .neq (.tmp 10) (.const (.int .i64 0)), none⟩])
     (.cond (.tmp 11)
      (.seq
       (.region [⟨some 12, .build [(.int .i64 0), (.int .i64 0), (.bool false), (.int .i64 0), .nilslice] [], none⟩,
         ⟨some 13, .move (.tmp 6), none⟩,
         ⟨none, .store 5 (.tmp 4) (.tmp 12), none⟩,
         ⟨some 5, .move (.tmp 13), none⟩])
       .ret)
      .skip)))
   (.seq
    (.region [⟨some 14, .move (.tmp 0), none⟩,
      ⟨some 15, .nilCheck (.tmp 14), none⟩,
      ⟨some 16, .faddr 0 (.tmp 15), none⟩,
      ⟨some 17, .faddr 1 (.tmp 16), none⟩,
      ⟨some 18, .load 1 false (.tmp 17), none⟩,
      ⟨some 19, .iop .add (.tmp 18) (.const (.int .i64 1)), none⟩,
      ⟨some 20, .nilCheck (.tmp 14), none⟩,
      ⟨some 21, .faddr 0 (.tmp 20), none⟩,
      ⟨some 22, .faddr 1 (.tmp 21), none⟩,
      ⟨none, .store 1 (.tmp 22) (.tmp 19), none⟩])
    (.seq
     (.region [⟨some 23, .move (.tmp 0), none⟩,
       ⟨some 24, .move (.tmp 1), none⟩,
       ⟨some 25, .call .shared 81 [(.tmp 23), (.tmp 24)], none⟩,
       ⟨none, .store 5 (.tmp 4) (.tmp 25), none⟩,
       ⟨some 5, .move (.const (.int .i64 0)), none⟩])
     .ret)))), [.cell 4 5 true, .tmp 5]⟩

/-- purlin/purlinmem.SameDatagram -/
def a49 : AFunc := ⟨38,
 (.seq
  (.region [⟨some 2, .box (.tmp 0), none⟩,
    ⟨some 3, .box (.tmp 1), none⟩,
    ⟨some 4, .move (.const (.bool false)), none⟩])
  (.seq
   (.region [⟨some 5, .faddr 0 (.tmp 2), none⟩,
     ⟨some 6, .load 1 false (.tmp 5), none⟩,
     ⟨some 7, .faddr 0 (.tmp 3), none⟩,
     ⟨some 8, .load 1 false (.tmp 7), none⟩,
     ⟨some 9, .iop .eql (.tmp 6) (.tmp 8), none⟩,
     ⟨some 10, .move (.tmp 9), none⟩,
     ⟨some 11, .faddr 1 (.tmp 2), some (10, true)⟩,
     ⟨some 12, .load 1 false (.tmp 11), some (10, true)⟩,
     ⟨some 13, .faddr 1 (.tmp 3), some (10, true)⟩,
     ⟨some 14, .load 1 false (.tmp 13), some (10, true)⟩,
     ⟨some 15, .iop .eql (.tmp 12) (.tmp 14), some (10, true)⟩,
     ⟨some 16, .pick (.tmp 10) (.tmp 15) (.const (.bool false)), none⟩,
     ⟨some 17, .move (.tmp 16), none⟩,
     ⟨some 18, .faddr 2 (.tmp 2), some (17, true)⟩,
     ⟨some 19, .load 1 false (.tmp 18), some (17, true)⟩,
     ⟨some 20, .faddr 2 (.tmp 3), some (17, true)⟩,
     ⟨some 21, .load 1 false (.tmp 20), some (17, true)⟩,
     ⟨some 22, .bop false (.tmp 19) (.tmp 21), some (17, true)⟩,
     ⟨some 23, .pick (.tmp 17) (.tmp 22) (.const (.bool false)), none⟩,
     ⟨some 24, .move (.tmp 23), none⟩,
     ⟨some 25, .faddr 3 (.tmp 2), some (24, true)⟩,
     ⟨some 26, .load 1 false (.tmp 25), some (24, true)⟩,
     ⟨some 27, .faddr 3 (.tmp 3), some (24, true)⟩,
     ⟨some 28, .load 1 false (.tmp 27), some (24, true)⟩,
     ⟨some 29, .iop .eql (.tmp 26) (.tmp 28), some (24, true)⟩,
     ⟨some 30, .pick (.tmp 24) (.tmp 29) (.const (.bool false)), none⟩,
     ⟨some 31, .move (.tmp 30), none⟩,
     ⟨some 32, .faddr 4 (.tmp 2), some (31, true)⟩,
     ⟨some 33, .load 1 false (.tmp 32), some (31, true)⟩,
     ⟨some 34, .faddr 4 (.tmp 3), some (31, true)⟩,
     ⟨some 35, .load 1 false (.tmp 34), some (31, true)⟩,
     ⟨some 36, .call .shared 20 [(.tmp 33), (.tmp 35)], some (31, true)⟩,
     ⟨some 37, .pick (.tmp 31) (.tmp 36) (.const (.bool false)), none⟩,
     ⟨some 4, .move (.tmp 37), none⟩])
   .ret)), [.tmp 4]⟩

/-- purlin/purlinlaw12.of -/
def a50 : AFunc := ⟨22,
 (.seq
  (.region [⟨some 3, .box (.tmp 1), none⟩,
    ⟨some 4, .move (.const (.int .i64 0)), none⟩])
  (.seq
   (.region [⟨some 5, .move (.const (.int .i64 0)), none⟩])
   (.seq
    (.seq
     (.region [⟨some 6, .move (.const (.int .i64 0)), none⟩])
     (.block 0
      (.loop [0, 3, 5, 6]
       (.seq
        (.seq
         (.region [⟨some 7, .move (.tmp 6), none⟩,
           ⟨some 8, .move (.tmp 0), none⟩,
           ⟨some 9, .lenS (.tmp 8), none⟩,
           ⟨some 10, .iop .lss (.tmp 7) (.tmp 9), none⟩])
         (.cond (.tmp 10)
          .skip
          (.exit 0)))
        (.seq
         (.block 1
          (.seq
           (.region [⟨some 13, .move (.tmp 0), none⟩,
             ⟨some 14, .move (.tmp 6), none⟩,
             ⟨some 15, .iaddr 5 (.tmp 13) (.tmp 14), none⟩,
             ⟨some 16, .load 5 true (.tmp 15), none⟩,
             ⟨some 17, .load 5 true (.tmp 3), none⟩,
             ⟨some 18, .call .shared 49 [(.tmp 16), (.tmp 17)], none⟩])
           (.cond (.tmp 18)
            (.region [⟨some 19, .move (.tmp 5), none⟩,
              ⟨some 20, .iop .add (.tmp 19) (.const (.int .i64 1)), none⟩,
              ⟨some 5, .move (.tmp 20), none⟩])
            .skip)))
         (.region [⟨some 11, .move (.tmp 6), none⟩,
           ⟨some 12, .iop .add (.tmp 11) (.const (.int .i64 1)), none⟩,
           ⟨some 6, .move (.tmp 12), none⟩]))))))
    (.seq
     (.region [⟨some 21, .move (.tmp 5), none⟩,
       ⟨some 4, .move (.tmp 21), none⟩])
     .ret)))), [.tmp 4]⟩

/-- (*purlin/net.Net).Drop -/
def a51 : AFunc := ⟨24,
 (.seq
  (.region [⟨some 4, .move (.const (.int .i64 0)), none⟩])
  (.seq
   (.seq
    (.region [⟨some 6, .move (.tmp 0), none⟩,
      ⟨some 7, .move (.tmp 1), none⟩,
      ⟨some 8, .call .shared 80 [(.tmp 6), (.tmp 7)], none⟩,
      ⟨some 5, .move (.tmp 8), none⟩])
    (.seq
     (.region [⟨some 9, .move (.tmp 5), none⟩,
       ⟨some 10, .iop .neq (.tmp 9) (.const (.int .i64 0)), none⟩])
     (.cond (.tmp 10)
      (.seq
       (.region [⟨some 11, .move (.tmp 5), none⟩,
         ⟨some 4, .move (.tmp 11), none⟩])
       .ret)
      .skip)))
   (.seq
    (.region [⟨some 12, .move (.tmp 0), none⟩,
      ⟨some 13, .nilCheck (.tmp 12), none⟩,
      ⟨some 14, .faddr 0 (.tmp 13), none⟩,
      ⟨some 15, .faddr 2 (.tmp 14), none⟩,
      ⟨some 16, .load 1 false (.tmp 15), none⟩,
      ⟨some 17, .iop .add (.tmp 16) (.const (.int .i64 1)), none⟩,
      ⟨some 18, .nilCheck (.tmp 12), none⟩,
      ⟨some 19, .faddr 0 (.tmp 18), none⟩,
      ⟨some 20, .faddr 2 (.tmp 19), none⟩,
      ⟨none, .store 1 (.tmp 20) (.tmp 17), none⟩])
    (.seq
     (.region [⟨some 21, .move (.tmp 0), none⟩,
       ⟨some 22, .move (.tmp 1), none⟩,
       ⟨some 23, .call .shared 81 [(.tmp 21), (.tmp 22)], none⟩])
     (.seq
      (.region [⟨some 4, .move (.const (.int .i64 0)), none⟩])
      .ret))))), [.tmp 4]⟩

/-- (*purlin/net.Net).Double -/
def a52 : AFunc := ⟨38,
 (.seq
  (.region [⟨some 4, .move (.const (.int .i64 0)), none⟩])
  (.seq
   (.seq
    (.region [⟨some 6, .move (.tmp 0), none⟩,
      ⟨some 7, .move (.tmp 1), none⟩,
      ⟨some 8, .call .shared 80 [(.tmp 6), (.tmp 7)], none⟩,
      ⟨some 5, .move (.tmp 8), none⟩])
    (.seq
     (.region [⟨some 9, .move (.tmp 5), none⟩,
       ⟨some 10, .iop .neq (.tmp 9) (.const (.int .i64 0)), none⟩])
     (.cond (.tmp 10)
      (.seq
       (.region [⟨some 11, .move (.tmp 5), none⟩,
         ⟨some 4, .move (.tmp 11), none⟩])
       .ret)
      .skip)))
   (.seq
    (.region [⟨some 12, .move (.tmp 0), none⟩,
      ⟨some 13, .nilCheck (.tmp 12), none⟩,
      ⟨some 14, .faddr 0 (.tmp 13), none⟩,
      ⟨some 15, .faddr 3 (.tmp 14), none⟩,
      ⟨some 16, .load 1 false (.tmp 15), none⟩,
      ⟨some 17, .iop .add (.tmp 16) (.const (.int .i64 1)), none⟩,
      ⟨some 18, .nilCheck (.tmp 12), none⟩,
      ⟨some 19, .faddr 0 (.tmp 18), none⟩,
      ⟨some 20, .faddr 3 (.tmp 19), none⟩,
      ⟨none, .store 1 (.tmp 20) (.tmp 17), none⟩])
    (.seq
     (.drawn [⟨some 21, .move (.tmp 0), none⟩,
       ⟨some 22, .move (.tmp 0), none⟩,
       ⟨some 23, .nilCheck (.tmp 22), none⟩,
       ⟨some 24, .faddr 5 (.tmp 23), none⟩,
       ⟨some 25, .load 1 false (.tmp 24), none⟩,
       ⟨some 26, .move (.tmp 0), none⟩,
       ⟨some 27, .nilCheck (.tmp 26), none⟩,
       ⟨some 28, .faddr 5 (.tmp 27), none⟩,
       ⟨some 29, .load 1 false (.tmp 28), none⟩,
       ⟨some 30, .move (.tmp 1), none⟩,
       ⟨some 31, .iaddr 5 (.tmp 29) (.tmp 30), none⟩,
       ⟨some 32, .load 5 true (.tmp 31), none⟩,
       ⟨some 33, .call .shared 79 [(.tmp 32)], none⟩,
       ⟨some 34, .lit 5 [(.int .i64 0), (.int .i64 0), (.bool false), (.int .i64 0), .nilslice] true 1 [(0, (.tmp 33))], none⟩,
       ⟨some 35, .append 5 56 (.tmp 25) (.tmp 34), none⟩,
       ⟨some 36, .nilCheck (.tmp 21), none⟩,
       ⟨some 37, .faddr 5 (.tmp 36), none⟩,
       ⟨none, .store 1 (.tmp 37) (.tmp 35), none⟩] [(4, 12)])
     (.seq
      (.region [⟨some 4, .move (.const (.int .i64 0)), none⟩])
      .ret))))), [.tmp 4]⟩

/-- (*purlin/purlinmem.Book).TakeDatagrams -/
def a53 : AFunc := ⟨18,
 (.seq
  (.region [⟨some 4, .move (.const (.int .i64 0)), none⟩])
  (.block 0
   (.loop [0, 1, 4]
    (.seq
     (.seq
      (.region [⟨some 5, .move (.tmp 4), none⟩,
        ⟨some 6, .move (.tmp 1), none⟩,
        ⟨some 7, .lenS (.tmp 6), none⟩,
        ⟨some 8, .iop .lss (.tmp 5) (.tmp 7), none⟩])
      (.cond (.tmp 8)
       .skip
       (.exit 0)))
     (.seq
      (.block 1
       (.region [⟨some 11, .move (.tmp 0), none⟩,
         ⟨some 12, .move (.tmp 1), none⟩,
         ⟨some 13, .move (.tmp 4), none⟩,
         ⟨some 14, .iaddr 5 (.tmp 12) (.tmp 13), none⟩,
         ⟨some 15, .faddr 4 (.tmp 14), none⟩,
         ⟨some 16, .load 1 false (.tmp 15), none⟩,
         ⟨some 17, .call .shared 24 [(.tmp 11), (.tmp 16)], none⟩]))
      (.region [⟨some 9, .move (.tmp 4), none⟩,
        ⟨some 10, .iop .add (.tmp 9) (.const (.int .i64 1)), none⟩,
        ⟨some 4, .move (.tmp 10), none⟩])))))), []⟩

/-- (*purlin/purlinmem.Book).TakeInts -/
def a54 : AFunc := ⟨14,
 (.region [⟨some 4, .move (.tmp 0), none⟩,
   ⟨some 5, .move (.tmp 0), none⟩,
   ⟨some 6, .nilCheck (.tmp 5), none⟩,
   ⟨some 7, .faddr 2 (.tmp 6), none⟩,
   ⟨some 8, .load 1 false (.tmp 7), none⟩,
   ⟨some 9, .move (.tmp 1), none⟩,
   ⟨some 10, .litA 1 [.nilslice] false 1 [(0, (.tmp 9))], none⟩,
   ⟨some 11, .append 1 24 (.tmp 8) (.tmp 10), none⟩,
   ⟨some 12, .nilCheck (.tmp 4), none⟩,
   ⟨some 13, .faddr 2 (.tmp 12), none⟩,
   ⟨none, .store 1 (.tmp 13) (.tmp 11), none⟩]), []⟩

/-- (*purlin/net.Net).To -/
def a55 : AFunc := ⟨30,
 (.seq
  (.region [⟨some 4, .move (.const .nilslice), none⟩])
  (.seq
   (.seq
    (.region [⟨some 8, .move (.tmp 0), none⟩,
      ⟨some 9, .eqnil false .p (.tmp 8), none⟩])
    (.cond (.tmp 9)
     (.seq
      (.region [⟨some 4, .move (.const .nilslice), none⟩])
      .ret)
     .skip))
   (.seq
    (.region [⟨some 5, .move (.const .nilslice), none⟩])
    (.seq
     (.seq
      (.region [⟨some 10, .move (.tmp 0), none⟩,
        ⟨some 11, .nilCheck (.tmp 10), none⟩,
        ⟨some 12, .faddr 5 (.tmp 11), none⟩,
        ⟨some 13, .load 1 false (.tmp 12), none⟩,
        ⟨some 14, .lenS (.tmp 13), none⟩,
        ⟨some 15, .move (.const (.int .i64 0)), none⟩])
      (.block 0
       (.loop [1, 5, 13, 14, 15]
        (.seq
         (.region [⟨some 16, .iop .lss (.tmp 15) (.tmp 14), none⟩])
         (.seq
          (.cond (.tmp 16)
           .skip
           (.exit 0))
          (.seq
           (.block 1
            (.seq
             (.region [⟨some 17, .move (.tmp 15), none⟩,
               ⟨some 18, .iaddr 5 (.tmp 13) (.tmp 15), none⟩,
               ⟨some 19, .load 5 true (.tmp 18), none⟩,
               ⟨some 7, .alloc [(.int .i64 0), (.int .i64 0), (.bool false), (.int .i64 0), .nilslice], none⟩,
               ⟨some 6, .move (.tmp 17), none⟩,
               ⟨none, .store 5 (.tmp 7) (.tmp 19), none⟩])
             (.seq
              (.region [⟨some 20, .faddr 1 (.tmp 7), none⟩,
                ⟨some 21, .load 1 false (.tmp 20), none⟩,
                ⟨some 22, .move (.tmp 1), none⟩,
                ⟨some 23, .iop .eql (.tmp 21) (.tmp 22), none⟩])
              (.cond (.tmp 23)
               (.region [⟨some 24, .move (.tmp 5), none⟩,
                 ⟨some 25, .move (.tmp 6), none⟩,
                 ⟨some 26, .lit 1 [(.int .i64 0)] false 1 [(0, (.tmp 25))], none⟩,
                 ⟨some 27, .append 1 8 (.tmp 24) (.tmp 26), none⟩,
                 ⟨some 5, .move (.tmp 27), none⟩])
               .skip))))
           (.region [⟨some 28, .iop .add (.tmp 15) (.const (.int .i64 1)), none⟩,
             ⟨some 15, .move (.tmp 28), none⟩])))))))
     (.seq
      (.region [⟨some 29, .move (.tmp 5), none⟩,
        ⟨some 4, .move (.tmp 29), none⟩])
      .ret))))), [.tmp 4]⟩

/-- purlin/purlinref12.New -/
def a56 : AFunc := ⟨13,
 (.seq
  (.region [⟨some 2, .move (.const .nilptr), none⟩,
    ⟨some 3, .move (.const (.int .i64 0)), none⟩])
  (.seq
   (.seq
    (.region [⟨some 4, .move (.tmp 0), none⟩,
      ⟨some 5, .iop .lss (.tmp 4) (.const (.int .i64 1)), none⟩,
      ⟨some 6, .move (.tmp 5), none⟩,
      ⟨some 7, .move (.tmp 0), some (6, false)⟩,
      ⟨some 8, .iop .gtr (.tmp 7) (.const (.int .i64 4)), some (6, false)⟩,
      ⟨some 9, .pick (.tmp 6) (.const (.bool true)) (.tmp 8), none⟩])
    (.cond (.tmp 9)
     (.seq
      (.region [⟨some 2, .move (.const .nilptr), none⟩,
        ⟨some 3, .move (.const (.int .i64 2)), none⟩])
      .ret)
     .skip))
   (.seq
    (.region [⟨some 10, .move (.tmp 0), none⟩,
      ⟨some 11, .build [.nilslice, (.int .i64 0), (.int .i64 0), (.int .i64 0), (.int .i64 0), (.int .i64 0)] [(1, 1, (.tmp 10))], none⟩,
      ⟨some 12, .box (.tmp 11), none⟩,
      ⟨some 2, .move (.tmp 12), none⟩,
      ⟨some 3, .move (.const (.int .i64 0)), none⟩])
    .ret))), [.tmp 2, .tmp 3]⟩

/-- (*purlin/net.Net).Fork -/
def a57 : AFunc := ⟨17,
 (.seq
  (.region [⟨some 2, .move (.const .nilptr), none⟩])
  (.seq
   (.seq
    (.region [⟨some 3, .move (.tmp 0), none⟩,
      ⟨some 4, .eqnil false .p (.tmp 3), none⟩])
    (.cond (.tmp 4)
     (.seq
      (.region [⟨some 2, .move (.const .nilptr), none⟩])
      .ret)
     .skip))
   (.seq
    (.drawn [⟨some 5, .move (.tmp 0), none⟩,
      ⟨some 6, .nilCheck (.tmp 5), none⟩,
      ⟨some 7, .faddr 0 (.tmp 6), none⟩,
      ⟨some 8, .load 4 true (.tmp 7), none⟩,
      ⟨some 9, .move (.tmp 0), none⟩,
      ⟨some 10, .nilCheck (.tmp 9), none⟩,
      ⟨some 11, .faddr 4 (.tmp 10), none⟩,
      ⟨some 12, .load 1 false (.tmp 11), none⟩,
      ⟨some 13, .move (.tmp 0), none⟩,
      ⟨some 14, .call .shared 47 [(.tmp 13)], none⟩,
      ⟨some 15, .build [(.int .i64 0), (.int .i64 0), (.int .i64 0), (.int .i64 0), (.int .i64 0), .nilslice] [(0, 4, (.tmp 8)), (4, 1, (.tmp 12)), (5, 1, (.tmp 14))], none⟩,
      ⟨some 16, .box (.tmp 15), none⟩,
      ⟨some 2, .move (.tmp 16), none⟩] [(3, 9), (7, 9)])
    .ret))), [.tmp 2]⟩

/-- (*purlin/purlinref12.Net).Fork -/
def a58 : AFunc := ⟨21,
 (.seq
  (.region [⟨some 2, .move (.const .nilptr), none⟩])
  (.seq
   (.seq
    (.region [⟨some 3, .move (.tmp 0), none⟩,
      ⟨some 4, .eqnil false .p (.tmp 3), none⟩])
    (.cond (.tmp 4)
     (.seq
      (.region [⟨some 2, .move (.const .nilptr), none⟩])
      .ret)
     .skip))
   (.seq
    (.drawn [⟨some 5, .lit 5 [(.int .i64 0), (.int .i64 0), (.bool false), (.int .i64 0), .nilslice] true 0 [], none⟩,
      ⟨some 6, .move (.tmp 0), none⟩,
      ⟨some 7, .nilCheck (.tmp 6), none⟩,
      ⟨some 8, .faddr 0 (.tmp 7), none⟩,
      ⟨some 9, .load 1 false (.tmp 8), none⟩,
      ⟨some 10, .append 5 56 (.tmp 5) (.tmp 9), none⟩,
      ⟨some 11, .move (.tmp 0), none⟩,
      ⟨some 12, .nilCheck (.tmp 11), none⟩,
      ⟨some 13, .faddr 1 (.tmp 12), none⟩,
      ⟨some 14, .load 1 false (.tmp 13), none⟩,
      ⟨some 15, .move (.tmp 0), none⟩,
      ⟨some 16, .nilCheck (.tmp 15), none⟩,
      ⟨some 17, .faddr 2 (.tmp 16), none⟩,
      ⟨some 18, .load 4 true (.tmp 17), none⟩,
      ⟨some 19, .build [.nilslice, (.int .i64 0), (.int .i64 0), (.int .i64 0), (.int .i64 0), (.int .i64 0)] [(0, 1, (.tmp 10)), (1, 1, (.tmp 14)), (2, 4, (.tmp 18))], none⟩,
      ⟨some 20, .box (.tmp 19), none⟩,
      ⟨some 2, .move (.tmp 20), none⟩] [(9, 5), (13, 5)])
    .ret))), [.tmp 2]⟩

/-- (purlin/purlinlaw12.both).do -/
def a59 : AFunc := ⟨117,
 (.seq
  (.region [⟨some 2, .box (.tmp 0), none⟩,
    ⟨some 3, .box (.tmp 1), none⟩,
    ⟨some 4, .move (.const (.bool false)), none⟩])
  (.seq
   (.seq
    (.region [⟨some 12, .faddr 0 (.tmp 3), none⟩,
      ⟨some 13, .load 1 false (.tmp 12), none⟩])
    (.block 0
     (.seq
      (.region [⟨some 15, .iop .eql (.tmp 13) (.const (.int .i64 0)), none⟩,
        ⟨some 14, .move (.tmp 15), none⟩])
      (.cond (.tmp 14)
       (.seq
        (.region [⟨some 16, .faddr 2 (.tmp 3), none⟩,
          ⟨some 17, .load 1 false (.tmp 16), none⟩,
          ⟨some 18, .call .shared 82 [(.tmp 17)], none⟩,
          ⟨some 5, .move (.tmp 18), none⟩])
        (.seq
         (.seq
          (.drawn [⟨some 19, .faddr 0 (.tmp 2), none⟩,
            ⟨some 20, .load 1 false (.tmp 19), none⟩,
            ⟨some 21, .move (.tmp 5), none⟩,
            ⟨some 22, .call .shared 44 [(.tmp 20), (.tmp 21)], none⟩,
            ⟨some 23, .faddr 1 (.tmp 2), none⟩,
            ⟨some 24, .load 1 false (.tmp 23), none⟩,
            ⟨some 25, .faddr 2 (.tmp 3), none⟩,
            ⟨some 26, .load 1 false (.tmp 25), none⟩,
            ⟨some 27, .call .shared 83 [(.tmp 24), (.tmp 26)], none⟩,
            ⟨some 28, .iop .neq (.tmp 22) (.tmp 27), none⟩,
            ⟨some 29, .move (.tmp 28), none⟩,
            ⟨some 30, .move (.tmp 5), some (29, false)⟩,
            ⟨some 31, .faddr 2 (.tmp 3), some (29, false)⟩,
            ⟨some 32, .load 1 false (.tmp 31), some (29, false)⟩,
            ⟨some 33, .call .shared 84 [(.tmp 30), (.tmp 32)], some (29, false)⟩,
            ⟨some 34, .not (.tmp 33), some (29, false)⟩,
            ⟨some 35, .pick (.tmp 29) (.const (.bool true)) (.tmp 34), none⟩] [(5, 3), (7, 3)])
          (.cond (.tmp 35)
           (.seq
            (.region [⟨some 4, .move (.const (.bool false)), none⟩])
            .ret)
           .skip))
         (.seq
          (.region [⟨some 6, .move (.const (.int .i64 0)), none⟩])
          (.block 1
           (.loop [2, 5, 6]
            (.seq
             (.seq
              (.region [⟨some 36, .move (.tmp 6), none⟩,
                ⟨some 37, .move (.tmp 5), none⟩,
                ⟨some 38, .lenS (.tmp 37), none⟩,
                ⟨some 39, .iop .lss (.tmp 36) (.tmp 38), none⟩])
              (.cond (.tmp 39)
               .skip
               (.exit 1)))
             (.seq
              (.block 2
               (.seq
                (.region [⟨some 7, .move (.const (.int .i64 0)), none⟩])
                (.block 3
                 (.loop [2, 5, 6, 7]
                  (.seq
                   (.seq
                    (.region [⟨some 42, .move (.tmp 7), none⟩,
                      ⟨some 43, .move (.tmp 5), none⟩,
                      ⟨some 44, .move (.tmp 6), none⟩,
                      ⟨some 45, .iaddr 5 (.tmp 43) (.tmp 44), none⟩,
                      ⟨some 46, .faddr 4 (.tmp 45), none⟩,
                      ⟨some 47, .load 1 false (.tmp 46), none⟩,
                      ⟨some 48, .lenS (.tmp 47), none⟩,
                      ⟨some 49, .iop .lss (.tmp 42) (.tmp 48), none⟩])
                    (.cond (.tmp 49)
                     .skip
                     (.exit 3)))
                   (.seq
                    (.block 4
                     (.region [⟨some 52, .move (.tmp 5), none⟩,
                       ⟨some 53, .move (.tmp 6), none⟩,
                       ⟨some 54, .iaddr 5 (.tmp 52) (.tmp 53), none⟩,
                       ⟨some 55, .faddr 4 (.tmp 54), none⟩,
                       ⟨some 56, .load 1 false (.tmp 55), none⟩,
                       ⟨some 57, .move (.tmp 7), none⟩,
                       ⟨some 58, .iaddr 1 (.tmp 56) (.tmp 57), none⟩,
                       ⟨some 59, .load 1 false (.tmp 58), none⟩,
                       ⟨some 60, .iop .xor (.tmp 59) (.const (.int .u8 255)), none⟩,
                       ⟨some 61, .iaddr 1 (.tmp 56) (.tmp 57), none⟩,
                       ⟨none, .store 1 (.tmp 61) (.tmp 60), none⟩]))
                    (.region [⟨some 50, .move (.tmp 7), none⟩,
                      ⟨some 51, .iop .add (.tmp 50) (.const (.int .i64 1)), none⟩,
                      ⟨some 7, .move (.tmp 51), none⟩])))))))
              (.region [⟨some 40, .move (.tmp 6), none⟩,
                ⟨some 41, .iop .add (.tmp 40) (.const (.int .i64 1)), none⟩,
                ⟨some 6, .move (.tmp 41), none⟩]))))))))
       (.seq
        (.region [⟨some 63, .iop .eql (.tmp 13) (.const (.int .i64 1)), none⟩,
          ⟨some 62, .move (.tmp 63), none⟩])
        (.cond (.tmp 62)
         (.seq
          (.region [⟨some 65, .faddr 0 (.tmp 2), none⟩,
            ⟨some 66, .load 1 false (.tmp 65), none⟩,
            ⟨some 67, .faddr 1 (.tmp 3), none⟩,
            ⟨some 68, .load 1 false (.tmp 67), none⟩,
            ⟨some 69, .call .shared 48 [(.tmp 66), (.tmp 68)], none⟩,
            ⟨some 64, .move (.tmp 69), none⟩,
            ⟨some 70, .extract (.tmp 64) 0, none⟩,
            ⟨some 71, .extract (.tmp 64) 1, none⟩,
            ⟨some 8, .alloc [(.int .i64 0), (.int .i64 0), (.bool false), (.int .i64 0), .nilslice], none⟩,
            ⟨none, .store 5 (.tmp 8) (.tmp 70), none⟩,
            ⟨some 9, .move (.tmp 71), none⟩])
          (.seq
           (.region [⟨some 73, .faddr 1 (.tmp 2), none⟩,
             ⟨some 74, .load 1 false (.tmp 73), none⟩,
             ⟨some 75, .faddr 1 (.tmp 3), none⟩,
             ⟨some 76, .load 1 false (.tmp 75), none⟩,
             ⟨some 77, .call .shared 85 [(.tmp 74), (.tmp 76)], none⟩,
             ⟨some 72, .move (.tmp 77), none⟩,
             ⟨some 78, .extract (.tmp 72) 0, none⟩,
             ⟨some 79, .extract (.tmp 72) 1, none⟩,
             ⟨some 10, .alloc [(.int .i64 0), (.int .i64 0), (.bool false), (.int .i64 0), .nilslice], none⟩,
             ⟨none, .store 5 (.tmp 10) (.tmp 78), none⟩,
             ⟨some 11, .move (.tmp 79), none⟩])
           (.seq
            (.region [⟨some 80, .load 5 true (.tmp 8), none⟩,
              ⟨some 81, .load 5 true (.tmp 10), none⟩,
              ⟨some 82, .call .shared 49 [(.tmp 80), (.tmp 81)], none⟩,
              ⟨some 83, .not (.tmp 82), none⟩,
              ⟨some 84, .move (.tmp 83), none⟩,
              ⟨some 85, .move (.tmp 9), some (84, false)⟩,
              ⟨some 86, .move (.tmp 11), some (84, false)⟩,
              ⟨some 87, .iop .neq (.tmp 85) (.tmp 86), some (84, false)⟩,
              ⟨some 88, .pick (.tmp 84) (.const (.bool true)) (.tmp 87), none⟩])
            (.cond (.tmp 88)
             (.seq
              (.region [⟨some 4, .move (.const (.bool false)), none⟩])
              .ret)
             .skip))))
         (.seq
          (.region [⟨some 90, .iop .eql (.tmp 13) (.const (.int .i64 2)), none⟩,
            ⟨some 89, .move (.tmp 90), none⟩])
          (.cond (.tmp 89)
           (.seq
            (.drawn [⟨some 91, .faddr 0 (.tmp 2), none⟩,
              ⟨some 92, .load 1 false (.tmp 91), none⟩,
              ⟨some 93, .faddr 1 (.tmp 3), none⟩,
              ⟨some 94, .load 1 false (.tmp 93), none⟩,
              ⟨some 95, .call .shared 51 [(.tmp 92), (.tmp 94)], none⟩,
              ⟨some 96, .faddr 1 (.tmp 2), none⟩,
              ⟨some 97, .load 1 false (.tmp 96), none⟩,
              ⟨some 98, .faddr 1 (.tmp 3), none⟩,
              ⟨some 99, .load 1 false (.tmp 98), none⟩,
              ⟨some 100, .call .shared 86 [(.tmp 97), (.tmp 99)], none⟩,
              ⟨some 101, .iop .neq (.tmp 95) (.tmp 100), none⟩] [(6, 4), (8, 4)])
            (.cond (.tmp 101)
             (.seq
              (.region [⟨some 4, .move (.const (.bool false)), none⟩])
              .ret)
             .skip))
           (.seq
            (.region [⟨some 103, .iop .eql (.tmp 13) (.const (.int .i64 3)), none⟩,
              ⟨some 102, .move (.tmp 103), none⟩])
            (.cond (.tmp 102)
             (.seq
              (.drawn [⟨some 104, .faddr 0 (.tmp 2), none⟩,
                ⟨some 105, .load 1 false (.tmp 104), none⟩,
                ⟨some 106, .faddr 1 (.tmp 3), none⟩,
                ⟨some 107, .load 1 false (.tmp 106), none⟩,
                ⟨some 108, .call .shared 52 [(.tmp 105), (.tmp 107)], none⟩,
                ⟨some 109, .faddr 1 (.tmp 2), none⟩,
                ⟨some 110, .load 1 false (.tmp 109), none⟩,
                ⟨some 111, .faddr 1 (.tmp 3), none⟩,
                ⟨some 112, .load 1 false (.tmp 111), none⟩,
                ⟨some 113, .call .shared 87 [(.tmp 110), (.tmp 112)], none⟩,
                ⟨some 114, .iop .neq (.tmp 108) (.tmp 113), none⟩] [(6, 4), (8, 4)])
              (.cond (.tmp 114)
               (.seq
                (.region [⟨some 4, .move (.const (.bool false)), none⟩])
                .ret)
               .skip))
             .skip))))))))))
   (.seq
    (.region [⟨some 115, .load 2 true (.tmp 2), none⟩,
      ⟨some 116, .call .shared 60 [(.tmp 115), (.const (.int .i64 4))], none⟩,
      ⟨some 4, .move (.tmp 116), none⟩])
    .ret))), [.tmp 4]⟩

/-- (purlin/purlinlaw12.both).alike -/
def a60 : AFunc := ⟨85,
 (.seq
  (.region [⟨some 2, .box (.tmp 0), none⟩,
    ⟨some 4, .move (.const (.bool false)), none⟩])
  (.seq
   (.region [⟨some 15, .faddr 0 (.tmp 2), none⟩,
     ⟨some 16, .load 1 false (.tmp 15), none⟩,
     ⟨some 17, .call .shared 61 [(.tmp 16)], none⟩,
     ⟨some 14, .move (.tmp 17), none⟩,
     ⟨some 18, .extract (.tmp 14) 0, none⟩,
     ⟨some 19, .extract (.tmp 14) 1, none⟩,
     ⟨some 20, .extract (.tmp 14) 2, none⟩,
     ⟨some 21, .extract (.tmp 14) 3, none⟩,
     ⟨some 5, .move (.tmp 18), none⟩,
     ⟨some 6, .move (.tmp 19), none⟩,
     ⟨some 7, .move (.tmp 20), none⟩,
     ⟨some 8, .move (.tmp 21), none⟩])
   (.seq
    (.region [⟨some 23, .faddr 1 (.tmp 2), none⟩,
      ⟨some 24, .load 1 false (.tmp 23), none⟩,
      ⟨some 25, .call .shared 88 [(.tmp 24)], none⟩,
      ⟨some 22, .move (.tmp 25), none⟩,
      ⟨some 26, .extract (.tmp 22) 0, none⟩,
      ⟨some 27, .extract (.tmp 22) 1, none⟩,
      ⟨some 28, .extract (.tmp 22) 2, none⟩,
      ⟨some 29, .extract (.tmp 22) 3, none⟩,
      ⟨some 9, .move (.tmp 26), none⟩,
      ⟨some 10, .move (.tmp 27), none⟩,
      ⟨some 11, .move (.tmp 28), none⟩,
      ⟨some 12, .move (.tmp 29), none⟩])
    (.seq
     (.seq
      (.drawn [⟨some 30, .faddr 0 (.tmp 2), none⟩,
        ⟨some 31, .load 1 false (.tmp 30), none⟩,
        ⟨some 32, .call .shared 47 [(.tmp 31)], none⟩,
        ⟨some 33, .faddr 1 (.tmp 2), none⟩,
        ⟨some 34, .load 1 false (.tmp 33), none⟩,
        ⟨some 35, .call .shared 89 [(.tmp 34)], none⟩,
        ⟨some 36, .call .shared 46 [(.tmp 32), (.tmp 35)], none⟩,
        ⟨some 37, .not (.tmp 36), none⟩,
        ⟨some 38, .move (.tmp 37), none⟩,
        ⟨some 39, .faddr 0 (.tmp 2), some (38, false)⟩,
        ⟨some 40, .load 1 false (.tmp 39), some (38, false)⟩,
        ⟨some 41, .call .shared 45 [(.tmp 40)], some (38, false)⟩,
        ⟨some 42, .faddr 1 (.tmp 2), some (38, false)⟩,
        ⟨some 43, .load 1 false (.tmp 42), some (38, false)⟩,
        ⟨some 44, .nilCheck (.tmp 43), some (38, false)⟩,
        ⟨some 45, .faddr 0 (.tmp 44), some (38, false)⟩,
        ⟨some 46, .load 1 false (.tmp 45), some (38, false)⟩,
        ⟨some 47, .lenS (.tmp 46), some (38, false)⟩,
        ⟨some 48, .iop .neq (.tmp 41) (.tmp 47), some (38, false)⟩,
        ⟨some 49, .pick (.tmp 38) (.const (.bool true)) (.tmp 48), none⟩,
        ⟨some 50, .move (.tmp 49), none⟩,
        ⟨some 51, .move (.tmp 5), some (50, false)⟩,
        ⟨some 52, .move (.tmp 9), some (50, false)⟩,
        ⟨some 53, .iop .neq (.tmp 51) (.tmp 52), some (50, false)⟩,
        ⟨some 54, .pick (.tmp 50) (.const (.bool true)) (.tmp 53), none⟩,
        ⟨some 55, .move (.tmp 54), none⟩,
        ⟨some 56, .move (.tmp 6), some (55, false)⟩,
        ⟨some 57, .move (.tmp 10), some (55, false)⟩,
        ⟨some 58, .iop .neq (.tmp 56) (.tmp 57), some (55, false)⟩,
        ⟨some 59, .pick (.tmp 55) (.const (.bool true)) (.tmp 58), none⟩,
        ⟨some 60, .move (.tmp 59), none⟩,
        ⟨some 61, .move (.tmp 7), some (60, false)⟩,
        ⟨some 62, .move (.tmp 11), some (60, false)⟩,
        ⟨some 63, .iop .neq (.tmp 61) (.tmp 62), some (60, false)⟩,
        ⟨some 64, .pick (.tmp 60) (.const (.bool true)) (.tmp 63), none⟩,
        ⟨some 65, .move (.tmp 64), none⟩,
        ⟨some 66, .move (.tmp 8), some (65, false)⟩,
        ⟨some 67, .move (.tmp 12), some (65, false)⟩,
        ⟨some 68, .iop .neq (.tmp 66) (.tmp 67), some (65, false)⟩,
        ⟨some 69, .pick (.tmp 65) (.const (.bool true)) (.tmp 68), none⟩] [(4, 2), (13, 11), (16, 11)])
      (.cond (.tmp 69)
       (.seq
        (.region [⟨some 4, .move (.const (.bool false)), none⟩])
        .ret)
       .skip))
     (.seq
      (.seq
       (.region [⟨some 13, .move (.const (.int .i64 (-1))), none⟩])
       (.block 0
        (.loop [1, 2, 13]
         (.seq
          (.seq
           (.region [⟨some 70, .move (.tmp 13), none⟩,
             ⟨some 71, .move (.tmp 1), none⟩,
             ⟨some 72, .iop .leq (.tmp 70) (.tmp 71), none⟩])
           (.cond (.tmp 72)
            .skip
            (.exit 0)))
          (.seq
           (.block 1
            (.seq
             (.drawn [⟨some 75, .faddr 0 (.tmp 2), none⟩,
               ⟨some 76, .load 1 false (.tmp 75), none⟩,
               ⟨some 77, .move (.tmp 13), none⟩,
               ⟨some 78, .call .shared 55 [(.tmp 76), (.tmp 77)], none⟩,
               ⟨some 79, .faddr 1 (.tmp 2), none⟩,
               ⟨some 80, .load 1 false (.tmp 79), none⟩,
               ⟨some 81, .move (.tmp 13), none⟩,
               ⟨some 82, .call .shared 91 [(.tmp 80), (.tmp 81)], none⟩,
               ⟨some 83, .call .shared 90 [(.tmp 78), (.tmp 82)], none⟩,
               ⟨some 84, .not (.tmp 83), none⟩] [(5, 3)])
             (.cond (.tmp 84)
              (.seq
               (.region [⟨some 4, .move (.const (.bool false)), none⟩])
               .ret)
              .skip)))
           (.region [⟨some 73, .move (.tmp 13), none⟩,
             ⟨some 74, .iop .add (.tmp 73) (.const (.int .i64 1)), none⟩,
             ⟨some 13, .move (.tmp 74), none⟩]))))))
      (.seq
       (.region [⟨some 4, .move (.const (.bool true)), none⟩])
       .ret)))))), [.tmp 4]⟩

/-- (*purlin/net.Net).Counts -/
def a61 : AFunc := ⟨28,
 (.seq
  (.region [⟨some 2, .move (.const (.int .i64 0)), none⟩,
    ⟨some 3, .move (.const (.int .i64 0)), none⟩,
    ⟨some 4, .move (.const (.int .i64 0)), none⟩,
    ⟨some 5, .move (.const (.int .i64 0)), none⟩])
  (.seq
   (.seq
    (.region [⟨some 6, .move (.tmp 0), none⟩,
      ⟨some 7, .eqnil false .p (.tmp 6), none⟩])
    (.cond (.tmp 7)
     (.seq
      (.region [⟨some 2, .move (.const (.int .i64 0)), none⟩,
        ⟨some 3, .move (.const (.int .i64 0)), none⟩,
        ⟨some 4, .move (.const (.int .i64 0)), none⟩,
        ⟨some 5, .move (.const (.int .i64 0)), none⟩])
      .ret)
     .skip))
   (.seq
    (.region [⟨some 8, .move (.tmp 0), none⟩,
      ⟨some 9, .nilCheck (.tmp 8), none⟩,
      ⟨some 10, .faddr 0 (.tmp 9), none⟩,
      ⟨some 11, .faddr 0 (.tmp 10), none⟩,
      ⟨some 12, .load 1 false (.tmp 11), none⟩,
      ⟨some 13, .move (.tmp 0), none⟩,
      ⟨some 14, .nilCheck (.tmp 13), none⟩,
      ⟨some 15, .faddr 0 (.tmp 14), none⟩,
      ⟨some 16, .faddr 1 (.tmp 15), none⟩,
      ⟨some 17, .load 1 false (.tmp 16), none⟩,
      ⟨some 18, .move (.tmp 0), none⟩,
      ⟨some 19, .nilCheck (.tmp 18), none⟩,
      ⟨some 20, .faddr 0 (.tmp 19), none⟩,
      ⟨some 21, .faddr 2 (.tmp 20), none⟩,
      ⟨some 22, .load 1 false (.tmp 21), none⟩,
      ⟨some 23, .move (.tmp 0), none⟩,
      ⟨some 24, .nilCheck (.tmp 23), none⟩,
      ⟨some 25, .faddr 0 (.tmp 24), none⟩,
      ⟨some 26, .faddr 3 (.tmp 25), none⟩,
      ⟨some 27, .load 1 false (.tmp 26), none⟩,
      ⟨some 2, .move (.tmp 12), none⟩,
      ⟨some 3, .move (.tmp 17), none⟩,
      ⟨some 4, .move (.tmp 22), none⟩,
      ⟨some 5, .move (.tmp 27), none⟩])
    .ret))), [.tmp 2, .tmp 3, .tmp 4, .tmp 5]⟩

/-- bytes.Clone -/
def a65 : AFunc := ⟨8,
 (.seq
  (.region [⟨some 2, .move (.const .nilslice), none⟩])
  (.seq
   (.seq
    (.region [⟨some 3, .move (.tmp 0), none⟩,
      ⟨some 4, .eqnil false .s (.tmp 3), none⟩])
    (.cond (.tmp 4)
     (.seq
      (.region [⟨some 2, .move (.const .nilslice), none⟩])
      .ret)
     .skip))
   (.seq
    (.region [⟨some 5, .lit 1 [(.int .u8 0)] false 0 [], none⟩,
      ⟨some 6, .move (.tmp 0), none⟩,
      ⟨some 7, .append 1 1 (.tmp 5) (.tmp 6), none⟩,
      ⟨some 2, .move (.tmp 7), none⟩])
    .ret))), [.tmp 2]⟩

/-- (*purlin/purlinmem.Book).aloneBytes -/
def a67 : AFunc := ⟨131,
 (.seq
  (.region [⟨some 2, .move (.const (.bool false)), none⟩])
  (.seq
   (.seq
    (.region [⟨some 3, .move (.const (.int .i64 0)), none⟩])
    (.block 0
     (.loop [0, 3]
      (.seq
       (.seq
        (.region [⟨some 12, .move (.tmp 3), none⟩,
          ⟨some 13, .move (.tmp 0), none⟩,
          ⟨some 14, .nilCheck (.tmp 13), none⟩,
          ⟨some 15, .faddr 0 (.tmp 14), none⟩,
          ⟨some 16, .load 1 false (.tmp 15), none⟩,
          ⟨some 17, .lenS (.tmp 16), none⟩,
          ⟨some 18, .iop .lss (.tmp 12) (.tmp 17), none⟩])
        (.cond (.tmp 18)
         .skip
         (.exit 0)))
       (.seq
        (.block 1
         (.seq
          (.region [⟨some 4, .move (.const (.int .i64 0)), none⟩])
          (.block 2
           (.loop [0, 3, 4]
            (.seq
             (.seq
              (.region [⟨some 21, .move (.tmp 4), none⟩,
                ⟨some 22, .move (.tmp 0), none⟩,
                ⟨some 23, .nilCheck (.tmp 22), none⟩,
                ⟨some 24, .faddr 0 (.tmp 23), none⟩,
                ⟨some 25, .load 1 false (.tmp 24), none⟩,
                ⟨some 26, .move (.tmp 3), none⟩,
                ⟨some 27, .iaddr 1 (.tmp 25) (.tmp 26), none⟩,
                ⟨some 28, .load 1 false (.tmp 27), none⟩,
                ⟨some 29, .lenS (.tmp 28), none⟩,
                ⟨some 30, .iop .lss (.tmp 21) (.tmp 29), none⟩])
              (.cond (.tmp 30)
               .skip
               (.exit 2)))
             (.seq
              (.block 3
               (.region [⟨some 33, .move (.tmp 0), none⟩,
                 ⟨some 34, .nilCheck (.tmp 33), none⟩,
                 ⟨some 35, .faddr 0 (.tmp 34), none⟩,
                 ⟨some 36, .load 1 false (.tmp 35), none⟩,
                 ⟨some 37, .move (.tmp 3), none⟩,
                 ⟨some 38, .iaddr 1 (.tmp 36) (.tmp 37), none⟩,
                 ⟨some 39, .load 1 false (.tmp 38), none⟩,
                 ⟨some 40, .move (.tmp 4), none⟩,
                 ⟨some 41, .move (.tmp 3), none⟩,
                 ⟨some 42, .iop .rem (.tmp 41) (.const (.int .i64 200)), none⟩,
                 ⟨some 43, .iop .add (.const (.int .i64 48)) (.tmp 42), none⟩,
                 ⟨some 44, .convI .u8 (.tmp 43), none⟩,
                 ⟨some 45, .iaddr 1 (.tmp 39) (.tmp 40), none⟩,
                 ⟨none, .store 1 (.tmp 45) (.tmp 44), none⟩]))
              (.region [⟨some 31, .move (.tmp 4), none⟩,
                ⟨some 32, .iop .add (.tmp 31) (.const (.int .i64 1)), none⟩,
                ⟨some 4, .move (.tmp 32), none⟩])))))))
        (.region [⟨some 19, .move (.tmp 3), none⟩,
          ⟨some 20, .iop .add (.tmp 19) (.const (.int .i64 1)), none⟩,
          ⟨some 3, .move (.tmp 20), none⟩]))))))
   (.seq
    (.region [⟨some 5, .move (.const .nilslice), none⟩])
    (.seq
     (.seq
      (.region [⟨some 6, .move (.const (.int .i64 0)), none⟩])
      (.block 4
       (.loop [0, 5, 6]
        (.seq
         (.seq
          (.region [⟨some 46, .move (.tmp 6), none⟩,
            ⟨some 47, .move (.tmp 0), none⟩,
            ⟨some 48, .nilCheck (.tmp 47), none⟩,
            ⟨some 49, .faddr 0 (.tmp 48), none⟩,
            ⟨some 50, .load 1 false (.tmp 49), none⟩,
            ⟨some 51, .lenS (.tmp 50), none⟩,
            ⟨some 52, .iop .lss (.tmp 46) (.tmp 51), none⟩])
          (.cond (.tmp 52)
           .skip
           (.exit 4)))
         (.seq
          (.block 5
           (.seq
            (.region [⟨some 55, .move (.tmp 0), none⟩,
              ⟨some 56, .nilCheck (.tmp 55), none⟩,
              ⟨some 57, .faddr 0 (.tmp 56), none⟩,
              ⟨some 58, .load 1 false (.tmp 57), none⟩,
              ⟨some 59, .move (.tmp 6), none⟩,
              ⟨some 60, .iaddr 1 (.tmp 58) (.tmp 59), none⟩,
              ⟨some 61, .load 1 false (.tmp 60), none⟩,
              ⟨some 7, .move (.tmp 61), none⟩])
            (.seq
             (.seq
              (.region [⟨some 8, .move (.const (.int .i64 0)), none⟩])
              (.block 6
               (.loop [0, 5, 6, 7, 8]
                (.seq
                 (.seq
                  (.region [⟨some 62, .move (.tmp 8), none⟩,
                    ⟨some 63, .iop .lss (.tmp 62) (.const (.int .i64 20)), none⟩])
                  (.cond (.tmp 63)
                   .skip
                   (.exit 6)))
                 (.seq
                  (.block 7
                   (.region [⟨some 66, .move (.tmp 7), none⟩,
                     ⟨some 67, .move (.tmp 6), none⟩,
                     ⟨some 68, .iop .rem (.tmp 67) (.const (.int .i64 200)), none⟩,
                     ⟨some 69, .iop .add (.const (.int .i64 48)) (.tmp 68), none⟩,
                     ⟨some 70, .convI .u8 (.tmp 69), none⟩,
                     ⟨some 71, .lit 1 [(.int .u8 0)] false 1 [(0, (.tmp 70))], none⟩,
                     ⟨some 72, .append 1 1 (.tmp 66) (.tmp 71), none⟩,
                     ⟨some 7, .move (.tmp 72), none⟩]))
                  (.region [⟨some 64, .move (.tmp 8), none⟩,
                    ⟨some 65, .iop .add (.tmp 64) (.const (.int .i64 1)), none⟩,
                    ⟨some 8, .move (.tmp 65), none⟩]))))))
             (.region [⟨some 73, .move (.tmp 5), none⟩,
               ⟨some 74, .move (.tmp 7), none⟩,
               ⟨some 75, .litA 1 [.nilslice] false 1 [(0, (.tmp 74))], none⟩,
               ⟨some 76, .append 1 24 (.tmp 73) (.tmp 75), none⟩,
               ⟨some 5, .move (.tmp 76), none⟩]))))
          (.region [⟨some 53, .move (.tmp 6), none⟩,
            ⟨some 54, .iop .add (.tmp 53) (.const (.int .i64 1)), none⟩,
            ⟨some 6, .move (.tmp 54), none⟩]))))))
     (.seq
      (.seq
       (.region [⟨some 9, .move (.const (.int .i64 0)), none⟩])
       (.block 8
        (.loop [0, 5, 9]
         (.seq
          (.seq
           (.region [⟨some 77, .move (.tmp 9), none⟩,
             ⟨some 78, .move (.tmp 5), none⟩,
             ⟨some 79, .lenS (.tmp 78), none⟩,
             ⟨some 80, .iop .lss (.tmp 77) (.tmp 79), none⟩])
           (.cond (.tmp 80)
            .skip
            (.exit 8)))
          (.seq
           (.block 9
            (.seq
             (.seq
              (.region [⟨some 10, .move (.const (.int .i64 0)), none⟩])
              (.block 10
               (.loop [0, 5, 9, 10]
                (.seq
                 (.seq
                  (.region [⟨some 83, .move (.tmp 10), none⟩,
                    ⟨some 84, .move (.tmp 5), none⟩,
                    ⟨some 85, .move (.tmp 9), none⟩,
                    ⟨some 86, .iaddr 1 (.tmp 84) (.tmp 85), none⟩,
                    ⟨some 87, .load 1 false (.tmp 86), none⟩,
                    ⟨some 88, .lenS (.tmp 87), none⟩,
                    ⟨some 89, .iop .lss (.tmp 83) (.tmp 88), none⟩])
                  (.cond (.tmp 89)
                   .skip
                   (.exit 10)))
                 (.seq
                  (.block 11
                   (.seq
                    (.region [⟨some 92, .move (.tmp 5), none⟩,
                      ⟨some 93, .move (.tmp 9), none⟩,
                      ⟨some 94, .iaddr 1 (.tmp 92) (.tmp 93), none⟩,
                      ⟨some 95, .load 1 false (.tmp 94), none⟩,
                      ⟨some 96, .move (.tmp 10), none⟩,
                      ⟨some 97, .iaddr 1 (.tmp 95) (.tmp 96), none⟩,
                      ⟨some 98, .load 1 false (.tmp 97), none⟩,
                      ⟨some 99, .move (.tmp 9), none⟩,
                      ⟨some 100, .iop .rem (.tmp 99) (.const (.int .i64 200)), none⟩,
                      ⟨some 101, .iop .add (.const (.int .i64 48)) (.tmp 100), none⟩,
                      ⟨some 102, .convI .u8 (.tmp 101), none⟩,
                      ⟨some 103, .iop .neq (.tmp 98) (.tmp 102), none⟩])
                    (.cond (.tmp 103)
                     (.seq
                      (.region [⟨some 2, .move (.const (.bool false)), none⟩])
                      .ret)
                     .skip)))
                  (.region [⟨some 90, .move (.tmp 10), none⟩,
                    ⟨some 91, .iop .add (.tmp 90) (.const (.int .i64 1)), none⟩,
                    ⟨some 10, .move (.tmp 91), none⟩]))))))
             (.seq
              (.region [⟨some 11, .move (.const (.int .i64 0)), none⟩])
              (.block 12
               (.loop [0, 5, 9, 11]
                (.seq
                 (.seq
                  (.region [⟨some 104, .move (.tmp 11), none⟩,
                    ⟨some 105, .move (.tmp 0), none⟩,
                    ⟨some 106, .nilCheck (.tmp 105), none⟩,
                    ⟨some 107, .faddr 0 (.tmp 106), none⟩,
                    ⟨some 108, .load 1 false (.tmp 107), none⟩,
                    ⟨some 109, .move (.tmp 9), none⟩,
                    ⟨some 110, .iaddr 1 (.tmp 108) (.tmp 109), none⟩,
                    ⟨some 111, .load 1 false (.tmp 110), none⟩,
                    ⟨some 112, .lenS (.tmp 111), none⟩,
                    ⟨some 113, .iop .lss (.tmp 104) (.tmp 112), none⟩])
                  (.cond (.tmp 113)
                   .skip
                   (.exit 12)))
                 (.seq
                  (.block 13
                   (.seq
                    (.region [⟨some 116, .move (.tmp 0), none⟩,
                      ⟨some 117, .nilCheck (.tmp 116), none⟩,
                      ⟨some 118, .faddr 0 (.tmp 117), none⟩,
                      ⟨some 119, .load 1 false (.tmp 118), none⟩,
                      ⟨some 120, .move (.tmp 9), none⟩,
                      ⟨some 121, .iaddr 1 (.tmp 119) (.tmp 120), none⟩,
                      ⟨some 122, .load 1 false (.tmp 121), none⟩,
                      ⟨some 123, .move (.tmp 11), none⟩,
                      ⟨some 124, .iaddr 1 (.tmp 122) (.tmp 123), none⟩,
                      ⟨some 125, .load 1 false (.tmp 124), none⟩,
                      ⟨some 126, .move (.tmp 9), none⟩,
                      ⟨some 127, .iop .rem (.tmp 126) (.const (.int .i64 200)), none⟩,
                      ⟨some 128, .iop .add (.const (.int .i64 48)) (.tmp 127), none⟩,
                      ⟨some 129, .convI .u8 (.tmp 128), none⟩,
                      ⟨some 130, .iop .neq (.tmp 125) (.tmp 129), none⟩])
                    (.cond (.tmp 130)
                     (.seq
                      (.region [⟨some 2, .move (.const (.bool false)), none⟩])
                      .ret)
                     .skip)))
                  (.region [⟨some 114, .move (.tmp 11), none⟩,
                    ⟨some 115, .iop .add (.tmp 114) (.const (.int .i64 1)), none⟩,
                    ⟨some 11, .move (.tmp 115), none⟩]))))))))
           (.region [⟨some 81, .move (.tmp 9), none⟩,
             ⟨some 82, .iop .add (.tmp 81) (.const (.int .i64 1)), none⟩,
             ⟨some 9, .move (.tmp 82), none⟩]))))))
      (.seq
       (.region [⟨some 2, .move (.const (.bool true)), none⟩])
       .ret)))))), [.tmp 2]⟩

/-- (*purlin/purlinmem.Book).aloneTexts -/
def a68 : AFunc := ⟨123,
 (.seq
  (.region [⟨some 2, .move (.const (.bool false)), none⟩])
  (.seq
   (.seq
    (.region [⟨some 3, .move (.const (.int .i64 0)), none⟩])
    (.block 0
     (.loop [0, 3]
      (.seq
       (.seq
        (.region [⟨some 12, .move (.tmp 3), none⟩,
          ⟨some 13, .move (.tmp 0), none⟩,
          ⟨some 14, .nilCheck (.tmp 13), none⟩,
          ⟨some 15, .faddr 1 (.tmp 14), none⟩,
          ⟨some 16, .load 1 false (.tmp 15), none⟩,
          ⟨some 17, .lenS (.tmp 16), none⟩,
          ⟨some 18, .iop .lss (.tmp 12) (.tmp 17), none⟩])
        (.cond (.tmp 18)
         .skip
         (.exit 0)))
       (.seq
        (.block 1
         (.seq
          (.region [⟨some 4, .move (.const (.int .i64 0)), none⟩])
          (.block 2
           (.loop [0, 3, 4]
            (.seq
             (.seq
              (.region [⟨some 21, .move (.tmp 4), none⟩,
                ⟨some 22, .move (.tmp 0), none⟩,
                ⟨some 23, .nilCheck (.tmp 22), none⟩,
                ⟨some 24, .faddr 1 (.tmp 23), none⟩,
                ⟨some 25, .load 1 false (.tmp 24), none⟩,
                ⟨some 26, .move (.tmp 3), none⟩,
                ⟨some 27, .iaddr 1 (.tmp 25) (.tmp 26), none⟩,
                ⟨some 28, .load 1 false (.tmp 27), none⟩,
                ⟨some 29, .lenS (.tmp 28), none⟩,
                ⟨some 30, .iop .lss (.tmp 21) (.tmp 29), none⟩])
              (.cond (.tmp 30)
               .skip
               (.exit 2)))
             (.seq
              (.block 3
               (.drawn [⟨some 33, .move (.tmp 0), none⟩,
                 ⟨some 34, .nilCheck (.tmp 33), none⟩,
                 ⟨some 35, .faddr 1 (.tmp 34), none⟩,
                 ⟨some 36, .load 1 false (.tmp 35), none⟩,
                 ⟨some 37, .move (.tmp 3), none⟩,
                 ⟨some 38, .iaddr 1 (.tmp 36) (.tmp 37), none⟩,
                 ⟨some 39, .load 1 false (.tmp 38), none⟩,
                 ⟨some 40, .move (.tmp 4), none⟩,
                 ⟨some 41, .move (.tmp 3), none⟩,
                 ⟨some 42, .call .shared 93 [(.tmp 41)], none⟩,
                 ⟨some 43, .iaddr 1 (.tmp 39) (.tmp 40), none⟩,
                 ⟨none, .store 1 (.tmp 43) (.tmp 42), none⟩] [(3, 9), (6, 9)]))
              (.region [⟨some 31, .move (.tmp 4), none⟩,
                ⟨some 32, .iop .add (.tmp 31) (.const (.int .i64 1)), none⟩,
                ⟨some 4, .move (.tmp 32), none⟩])))))))
        (.region [⟨some 19, .move (.tmp 3), none⟩,
          ⟨some 20, .iop .add (.tmp 19) (.const (.int .i64 1)), none⟩,
          ⟨some 3, .move (.tmp 20), none⟩]))))))
   (.seq
    (.region [⟨some 5, .move (.const .nilslice), none⟩])
    (.seq
     (.seq
      (.region [⟨some 6, .move (.const (.int .i64 0)), none⟩])
      (.block 4
       (.loop [0, 5, 6]
        (.seq
         (.seq
          (.region [⟨some 44, .move (.tmp 6), none⟩,
            ⟨some 45, .move (.tmp 0), none⟩,
            ⟨some 46, .nilCheck (.tmp 45), none⟩,
            ⟨some 47, .faddr 1 (.tmp 46), none⟩,
            ⟨some 48, .load 1 false (.tmp 47), none⟩,
            ⟨some 49, .lenS (.tmp 48), none⟩,
            ⟨some 50, .iop .lss (.tmp 44) (.tmp 49), none⟩])
          (.cond (.tmp 50)
           .skip
           (.exit 4)))
         (.seq
          (.block 5
           (.seq
            (.region [⟨some 53, .move (.tmp 0), none⟩,
              ⟨some 54, .nilCheck (.tmp 53), none⟩,
              ⟨some 55, .faddr 1 (.tmp 54), none⟩,
              ⟨some 56, .load 1 false (.tmp 55), none⟩,
              ⟨some 57, .move (.tmp 6), none⟩,
              ⟨some 58, .iaddr 1 (.tmp 56) (.tmp 57), none⟩,
              ⟨some 59, .load 1 false (.tmp 58), none⟩,
              ⟨some 7, .move (.tmp 59), none⟩])
            (.seq
             (.seq
              (.region [⟨some 8, .move (.const (.int .i64 0)), none⟩])
              (.block 6
               (.loop [0, 5, 6, 7, 8]
                (.seq
                 (.seq
                  (.region [⟨some 60, .move (.tmp 8), none⟩,
                    ⟨some 61, .iop .lss (.tmp 60) (.const (.int .i64 20)), none⟩])
                  (.cond (.tmp 61)
                   .skip
                   (.exit 6)))
                 (.seq
                  (.block 7
                   (.region [⟨some 64, .move (.tmp 7), none⟩,
                     ⟨some 65, .move (.tmp 6), none⟩,
                     ⟨some 66, .call .shared 93 [(.tmp 65)], none⟩,
                     ⟨some 67, .lit 1 [(.str [])] false 1 [(0, (.tmp 66))], none⟩,
                     ⟨some 68, .append 1 16 (.tmp 64) (.tmp 67), none⟩,
                     ⟨some 7, .move (.tmp 68), none⟩]))
                  (.region [⟨some 62, .move (.tmp 8), none⟩,
                    ⟨some 63, .iop .add (.tmp 62) (.const (.int .i64 1)), none⟩,
                    ⟨some 8, .move (.tmp 63), none⟩]))))))
             (.region [⟨some 69, .move (.tmp 5), none⟩,
               ⟨some 70, .move (.tmp 7), none⟩,
               ⟨some 71, .lit 1 [.nilslice] false 1 [(0, (.tmp 70))], none⟩,
               ⟨some 72, .append 1 24 (.tmp 69) (.tmp 71), none⟩,
               ⟨some 5, .move (.tmp 72), none⟩]))))
          (.region [⟨some 51, .move (.tmp 6), none⟩,
            ⟨some 52, .iop .add (.tmp 51) (.const (.int .i64 1)), none⟩,
            ⟨some 6, .move (.tmp 52), none⟩]))))))
     (.seq
      (.seq
       (.region [⟨some 9, .move (.const (.int .i64 0)), none⟩])
       (.block 8
        (.loop [0, 5, 9]
         (.seq
          (.seq
           (.region [⟨some 73, .move (.tmp 9), none⟩,
             ⟨some 74, .move (.tmp 5), none⟩,
             ⟨some 75, .lenS (.tmp 74), none⟩,
             ⟨some 76, .iop .lss (.tmp 73) (.tmp 75), none⟩])
           (.cond (.tmp 76)
            .skip
            (.exit 8)))
          (.seq
           (.block 9
            (.seq
             (.seq
              (.region [⟨some 10, .move (.const (.int .i64 0)), none⟩])
              (.block 10
               (.loop [0, 5, 9, 10]
                (.seq
                 (.seq
                  (.region [⟨some 79, .move (.tmp 10), none⟩,
                    ⟨some 80, .move (.tmp 5), none⟩,
                    ⟨some 81, .move (.tmp 9), none⟩,
                    ⟨some 82, .iaddr 1 (.tmp 80) (.tmp 81), none⟩,
                    ⟨some 83, .load 1 false (.tmp 82), none⟩,
                    ⟨some 84, .lenS (.tmp 83), none⟩,
                    ⟨some 85, .iop .lss (.tmp 79) (.tmp 84), none⟩])
                  (.cond (.tmp 85)
                   .skip
                   (.exit 10)))
                 (.seq
                  (.block 11
                   (.seq
                    (.drawn [⟨some 88, .move (.tmp 5), none⟩,
                      ⟨some 89, .move (.tmp 9), none⟩,
                      ⟨some 90, .iaddr 1 (.tmp 88) (.tmp 89), none⟩,
                      ⟨some 91, .load 1 false (.tmp 90), none⟩,
                      ⟨some 92, .move (.tmp 10), none⟩,
                      ⟨some 93, .iaddr 1 (.tmp 91) (.tmp 92), none⟩,
                      ⟨some 94, .load 1 false (.tmp 93), none⟩,
                      ⟨some 95, .move (.tmp 9), none⟩,
                      ⟨some 96, .call .shared 93 [(.tmp 95)], none⟩,
                      ⟨some 97, .sop .neq (.tmp 94) (.tmp 96), none⟩] [(3, 8), (6, 8)])
                    (.cond (.tmp 97)
                     (.seq
                      (.region [⟨some 2, .move (.const (.bool false)), none⟩])
                      .ret)
                     .skip)))
                  (.region [⟨some 86, .move (.tmp 10), none⟩,
                    ⟨some 87, .iop .add (.tmp 86) (.const (.int .i64 1)), none⟩,
                    ⟨some 10, .move (.tmp 87), none⟩]))))))
             (.seq
              (.region [⟨some 11, .move (.const (.int .i64 0)), none⟩])
              (.block 12
               (.loop [0, 5, 9, 11]
                (.seq
                 (.seq
                  (.region [⟨some 98, .move (.tmp 11), none⟩,
                    ⟨some 99, .move (.tmp 0), none⟩,
                    ⟨some 100, .nilCheck (.tmp 99), none⟩,
                    ⟨some 101, .faddr 1 (.tmp 100), none⟩,
                    ⟨some 102, .load 1 false (.tmp 101), none⟩,
                    ⟨some 103, .move (.tmp 9), none⟩,
                    ⟨some 104, .iaddr 1 (.tmp 102) (.tmp 103), none⟩,
                    ⟨some 105, .load 1 false (.tmp 104), none⟩,
                    ⟨some 106, .lenS (.tmp 105), none⟩,
                    ⟨some 107, .iop .lss (.tmp 98) (.tmp 106), none⟩])
                  (.cond (.tmp 107)
                   .skip
                   (.exit 12)))
                 (.seq
                  (.block 13
                   (.seq
                    (.drawn [⟨some 110, .move (.tmp 0), none⟩,
                      ⟨some 111, .nilCheck (.tmp 110), none⟩,
                      ⟨some 112, .faddr 1 (.tmp 111), none⟩,
                      ⟨some 113, .load 1 false (.tmp 112), none⟩,
                      ⟨some 114, .move (.tmp 9), none⟩,
                      ⟨some 115, .iaddr 1 (.tmp 113) (.tmp 114), none⟩,
                      ⟨some 116, .load 1 false (.tmp 115), none⟩,
                      ⟨some 117, .move (.tmp 11), none⟩,
                      ⟨some 118, .iaddr 1 (.tmp 116) (.tmp 117), none⟩,
                      ⟨some 119, .load 1 false (.tmp 118), none⟩,
                      ⟨some 120, .move (.tmp 9), none⟩,
                      ⟨some 121, .call .shared 93 [(.tmp 120)], none⟩,
                      ⟨some 122, .sop .neq (.tmp 119) (.tmp 121), none⟩] [(3, 11), (6, 11), (9, 11)])
                    (.cond (.tmp 122)
                     (.seq
                      (.region [⟨some 2, .move (.const (.bool false)), none⟩])
                      .ret)
                     .skip)))
                  (.region [⟨some 108, .move (.tmp 11), none⟩,
                    ⟨some 109, .iop .add (.tmp 108) (.const (.int .i64 1)), none⟩,
                    ⟨some 11, .move (.tmp 109), none⟩]))))))))
           (.region [⟨some 77, .move (.tmp 9), none⟩,
             ⟨some 78, .iop .add (.tmp 77) (.const (.int .i64 1)), none⟩,
             ⟨some 9, .move (.tmp 78), none⟩]))))))
      (.seq
       (.region [⟨some 2, .move (.const (.bool true)), none⟩])
       .ret)))))), [.tmp 2]⟩

/-- (*purlin/purlinmem.Book).aloneInts -/
def a69 : AFunc := ⟨123,
 (.seq
  (.region [⟨some 2, .move (.const (.bool false)), none⟩])
  (.seq
   (.seq
    (.region [⟨some 3, .move (.const (.int .i64 0)), none⟩])
    (.block 0
     (.loop [0, 3]
      (.seq
       (.seq
        (.region [⟨some 12, .move (.tmp 3), none⟩,
          ⟨some 13, .move (.tmp 0), none⟩,
          ⟨some 14, .nilCheck (.tmp 13), none⟩,
          ⟨some 15, .faddr 2 (.tmp 14), none⟩,
          ⟨some 16, .load 1 false (.tmp 15), none⟩,
          ⟨some 17, .lenS (.tmp 16), none⟩,
          ⟨some 18, .iop .lss (.tmp 12) (.tmp 17), none⟩])
        (.cond (.tmp 18)
         .skip
         (.exit 0)))
       (.seq
        (.block 1
         (.seq
          (.region [⟨some 4, .move (.const (.int .i64 0)), none⟩])
          (.block 2
           (.loop [0, 3, 4]
            (.seq
             (.seq
              (.region [⟨some 21, .move (.tmp 4), none⟩,
                ⟨some 22, .move (.tmp 0), none⟩,
                ⟨some 23, .nilCheck (.tmp 22), none⟩,
                ⟨some 24, .faddr 2 (.tmp 23), none⟩,
                ⟨some 25, .load 1 false (.tmp 24), none⟩,
                ⟨some 26, .move (.tmp 3), none⟩,
                ⟨some 27, .iaddr 1 (.tmp 25) (.tmp 26), none⟩,
                ⟨some 28, .load 1 false (.tmp 27), none⟩,
                ⟨some 29, .lenS (.tmp 28), none⟩,
                ⟨some 30, .iop .lss (.tmp 21) (.tmp 29), none⟩])
              (.cond (.tmp 30)
               .skip
               (.exit 2)))
             (.seq
              (.block 3
               (.region [⟨some 33, .move (.tmp 0), none⟩,
                 ⟨some 34, .nilCheck (.tmp 33), none⟩,
                 ⟨some 35, .faddr 2 (.tmp 34), none⟩,
                 ⟨some 36, .load 1 false (.tmp 35), none⟩,
                 ⟨some 37, .move (.tmp 3), none⟩,
                 ⟨some 38, .iaddr 1 (.tmp 36) (.tmp 37), none⟩,
                 ⟨some 39, .load 1 false (.tmp 38), none⟩,
                 ⟨some 40, .move (.tmp 4), none⟩,
                 ⟨some 41, .move (.tmp 3), none⟩,
                 ⟨some 42, .iop .sub (.const (.int .i64 (-9000))) (.tmp 41), none⟩,
                 ⟨some 43, .iaddr 1 (.tmp 39) (.tmp 40), none⟩,
                 ⟨none, .store 1 (.tmp 43) (.tmp 42), none⟩]))
              (.region [⟨some 31, .move (.tmp 4), none⟩,
                ⟨some 32, .iop .add (.tmp 31) (.const (.int .i64 1)), none⟩,
                ⟨some 4, .move (.tmp 32), none⟩])))))))
        (.region [⟨some 19, .move (.tmp 3), none⟩,
          ⟨some 20, .iop .add (.tmp 19) (.const (.int .i64 1)), none⟩,
          ⟨some 3, .move (.tmp 20), none⟩]))))))
   (.seq
    (.region [⟨some 5, .move (.const .nilslice), none⟩])
    (.seq
     (.seq
      (.region [⟨some 6, .move (.const (.int .i64 0)), none⟩])
      (.block 4
       (.loop [0, 5, 6]
        (.seq
         (.seq
          (.region [⟨some 44, .move (.tmp 6), none⟩,
            ⟨some 45, .move (.tmp 0), none⟩,
            ⟨some 46, .nilCheck (.tmp 45), none⟩,
            ⟨some 47, .faddr 2 (.tmp 46), none⟩,
            ⟨some 48, .load 1 false (.tmp 47), none⟩,
            ⟨some 49, .lenS (.tmp 48), none⟩,
            ⟨some 50, .iop .lss (.tmp 44) (.tmp 49), none⟩])
          (.cond (.tmp 50)
           .skip
           (.exit 4)))
         (.seq
          (.block 5
           (.seq
            (.region [⟨some 53, .move (.tmp 0), none⟩,
              ⟨some 54, .nilCheck (.tmp 53), none⟩,
              ⟨some 55, .faddr 2 (.tmp 54), none⟩,
              ⟨some 56, .load 1 false (.tmp 55), none⟩,
              ⟨some 57, .move (.tmp 6), none⟩,
              ⟨some 58, .iaddr 1 (.tmp 56) (.tmp 57), none⟩,
              ⟨some 59, .load 1 false (.tmp 58), none⟩,
              ⟨some 7, .move (.tmp 59), none⟩])
            (.seq
             (.seq
              (.region [⟨some 8, .move (.const (.int .i64 0)), none⟩])
              (.block 6
               (.loop [0, 5, 6, 7, 8]
                (.seq
                 (.seq
                  (.region [⟨some 60, .move (.tmp 8), none⟩,
                    ⟨some 61, .iop .lss (.tmp 60) (.const (.int .i64 20)), none⟩])
                  (.cond (.tmp 61)
                   .skip
                   (.exit 6)))
                 (.seq
                  (.block 7
                   (.region [⟨some 64, .move (.tmp 7), none⟩,
                     ⟨some 65, .move (.tmp 6), none⟩,
                     ⟨some 66, .iop .sub (.const (.int .i64 (-9000))) (.tmp 65), none⟩,
                     ⟨some 67, .lit 1 [(.int .i64 0)] false 1 [(0, (.tmp 66))], none⟩,
                     ⟨some 68, .append 1 8 (.tmp 64) (.tmp 67), none⟩,
                     ⟨some 7, .move (.tmp 68), none⟩]))
                  (.region [⟨some 62, .move (.tmp 8), none⟩,
                    ⟨some 63, .iop .add (.tmp 62) (.const (.int .i64 1)), none⟩,
                    ⟨some 8, .move (.tmp 63), none⟩]))))))
             (.region [⟨some 69, .move (.tmp 5), none⟩,
               ⟨some 70, .move (.tmp 7), none⟩,
               ⟨some 71, .litA 1 [.nilslice] false 1 [(0, (.tmp 70))], none⟩,
               ⟨some 72, .append 1 24 (.tmp 69) (.tmp 71), none⟩,
               ⟨some 5, .move (.tmp 72), none⟩]))))
          (.region [⟨some 51, .move (.tmp 6), none⟩,
            ⟨some 52, .iop .add (.tmp 51) (.const (.int .i64 1)), none⟩,
            ⟨some 6, .move (.tmp 52), none⟩]))))))
     (.seq
      (.seq
       (.region [⟨some 9, .move (.const (.int .i64 0)), none⟩])
       (.block 8
        (.loop [0, 5, 9]
         (.seq
          (.seq
           (.region [⟨some 73, .move (.tmp 9), none⟩,
             ⟨some 74, .move (.tmp 5), none⟩,
             ⟨some 75, .lenS (.tmp 74), none⟩,
             ⟨some 76, .iop .lss (.tmp 73) (.tmp 75), none⟩])
           (.cond (.tmp 76)
            .skip
            (.exit 8)))
          (.seq
           (.block 9
            (.seq
             (.seq
              (.region [⟨some 10, .move (.const (.int .i64 0)), none⟩])
              (.block 10
               (.loop [0, 5, 9, 10]
                (.seq
                 (.seq
                  (.region [⟨some 79, .move (.tmp 10), none⟩,
                    ⟨some 80, .move (.tmp 5), none⟩,
                    ⟨some 81, .move (.tmp 9), none⟩,
                    ⟨some 82, .iaddr 1 (.tmp 80) (.tmp 81), none⟩,
                    ⟨some 83, .load 1 false (.tmp 82), none⟩,
                    ⟨some 84, .lenS (.tmp 83), none⟩,
                    ⟨some 85, .iop .lss (.tmp 79) (.tmp 84), none⟩])
                  (.cond (.tmp 85)
                   .skip
                   (.exit 10)))
                 (.seq
                  (.block 11
                   (.seq
                    (.region [⟨some 88, .move (.tmp 5), none⟩,
                      ⟨some 89, .move (.tmp 9), none⟩,
                      ⟨some 90, .iaddr 1 (.tmp 88) (.tmp 89), none⟩,
                      ⟨some 91, .load 1 false (.tmp 90), none⟩,
                      ⟨some 92, .move (.tmp 10), none⟩,
                      ⟨some 93, .iaddr 1 (.tmp 91) (.tmp 92), none⟩,
                      ⟨some 94, .load 1 false (.tmp 93), none⟩,
                      ⟨some 95, .move (.tmp 9), none⟩,
                      ⟨some 96, .iop .sub (.const (.int .i64 (-9000))) (.tmp 95), none⟩,
                      ⟨some 97, .iop .neq (.tmp 94) (.tmp 96), none⟩])
                    (.cond (.tmp 97)
                     (.seq
                      (.region [⟨some 2, .move (.const (.bool false)), none⟩])
                      .ret)
                     .skip)))
                  (.region [⟨some 86, .move (.tmp 10), none⟩,
                    ⟨some 87, .iop .add (.tmp 86) (.const (.int .i64 1)), none⟩,
                    ⟨some 10, .move (.tmp 87), none⟩]))))))
             (.seq
              (.region [⟨some 11, .move (.const (.int .i64 0)), none⟩])
              (.block 12
               (.loop [0, 5, 9, 11]
                (.seq
                 (.seq
                  (.region [⟨some 98, .move (.tmp 11), none⟩,
                    ⟨some 99, .move (.tmp 0), none⟩,
                    ⟨some 100, .nilCheck (.tmp 99), none⟩,
                    ⟨some 101, .faddr 2 (.tmp 100), none⟩,
                    ⟨some 102, .load 1 false (.tmp 101), none⟩,
                    ⟨some 103, .move (.tmp 9), none⟩,
                    ⟨some 104, .iaddr 1 (.tmp 102) (.tmp 103), none⟩,
                    ⟨some 105, .load 1 false (.tmp 104), none⟩,
                    ⟨some 106, .lenS (.tmp 105), none⟩,
                    ⟨some 107, .iop .lss (.tmp 98) (.tmp 106), none⟩])
                  (.cond (.tmp 107)
                   .skip
                   (.exit 12)))
                 (.seq
                  (.block 13
                   (.seq
                    (.region [⟨some 110, .move (.tmp 0), none⟩,
                      ⟨some 111, .nilCheck (.tmp 110), none⟩,
                      ⟨some 112, .faddr 2 (.tmp 111), none⟩,
                      ⟨some 113, .load 1 false (.tmp 112), none⟩,
                      ⟨some 114, .move (.tmp 9), none⟩,
                      ⟨some 115, .iaddr 1 (.tmp 113) (.tmp 114), none⟩,
                      ⟨some 116, .load 1 false (.tmp 115), none⟩,
                      ⟨some 117, .move (.tmp 11), none⟩,
                      ⟨some 118, .iaddr 1 (.tmp 116) (.tmp 117), none⟩,
                      ⟨some 119, .load 1 false (.tmp 118), none⟩,
                      ⟨some 120, .move (.tmp 9), none⟩,
                      ⟨some 121, .iop .sub (.const (.int .i64 (-9000))) (.tmp 120), none⟩,
                      ⟨some 122, .iop .neq (.tmp 119) (.tmp 121), none⟩])
                    (.cond (.tmp 122)
                     (.seq
                      (.region [⟨some 2, .move (.const (.bool false)), none⟩])
                      .ret)
                     .skip)))
                  (.region [⟨some 108, .move (.tmp 11), none⟩,
                    ⟨some 109, .iop .add (.tmp 108) (.const (.int .i64 1)), none⟩,
                    ⟨some 11, .move (.tmp 109), none⟩]))))))))
           (.region [⟨some 77, .move (.tmp 9), none⟩,
             ⟨some 78, .iop .add (.tmp 77) (.const (.int .i64 1)), none⟩,
             ⟨some 9, .move (.tmp 78), none⟩]))))))
      (.seq
       (.region [⟨some 2, .move (.const (.bool true)), none⟩])
       .ret)))))), [.tmp 2]⟩

/-- (*purlin/purlinmem.Book).aloneCells -/
def a70 : AFunc := ⟨127,
 (.seq
  (.region [⟨some 2, .move (.const (.bool false)), none⟩])
  (.seq
   (.seq
    (.region [⟨some 3, .move (.const (.int .i64 0)), none⟩])
    (.block 0
     (.loop [0, 3]
      (.seq
       (.seq
        (.region [⟨some 12, .move (.tmp 3), none⟩,
          ⟨some 13, .move (.tmp 0), none⟩,
          ⟨some 14, .nilCheck (.tmp 13), none⟩,
          ⟨some 15, .faddr 3 (.tmp 14), none⟩,
          ⟨some 16, .load 1 false (.tmp 15), none⟩,
          ⟨some 17, .lenS (.tmp 16), none⟩,
          ⟨some 18, .iop .lss (.tmp 12) (.tmp 17), none⟩])
        (.cond (.tmp 18)
         .skip
         (.exit 0)))
       (.seq
        (.block 1
         (.seq
          (.region [⟨some 4, .move (.const (.int .i64 0)), none⟩])
          (.block 2
           (.loop [0, 3, 4]
            (.seq
             (.seq
              (.region [⟨some 21, .move (.tmp 4), none⟩,
                ⟨some 22, .move (.tmp 0), none⟩,
                ⟨some 23, .nilCheck (.tmp 22), none⟩,
                ⟨some 24, .faddr 3 (.tmp 23), none⟩,
                ⟨some 25, .load 1 false (.tmp 24), none⟩,
                ⟨some 26, .move (.tmp 3), none⟩,
                ⟨some 27, .iaddr 1 (.tmp 25) (.tmp 26), none⟩,
                ⟨some 28, .load 1 false (.tmp 27), none⟩,
                ⟨some 29, .lenS (.tmp 28), none⟩,
                ⟨some 30, .iop .lss (.tmp 21) (.tmp 29), none⟩])
              (.cond (.tmp 30)
               .skip
               (.exit 2)))
             (.seq
              (.block 3
               (.region [⟨some 33, .move (.tmp 0), none⟩,
                 ⟨some 34, .nilCheck (.tmp 33), none⟩,
                 ⟨some 35, .faddr 3 (.tmp 34), none⟩,
                 ⟨some 36, .load 1 false (.tmp 35), none⟩,
                 ⟨some 37, .move (.tmp 3), none⟩,
                 ⟨some 38, .iaddr 1 (.tmp 36) (.tmp 37), none⟩,
                 ⟨some 39, .load 1 false (.tmp 38), none⟩,
                 ⟨some 40, .move (.tmp 4), none⟩,
                 ⟨some 41, .move (.tmp 3), none⟩,
                 ⟨some 42, .iop .sub (.const (.int .i64 (-9000))) (.tmp 41), none⟩,
                 ⟨some 43, .build [(.int .u8 0), (.str []), (.int .i64 0), (.int .i64 0), (.int .i64 0)] [(2, 1, (.tmp 42))], none⟩,
                 ⟨some 44, .iaddr 5 (.tmp 39) (.tmp 40), none⟩,
                 ⟨none, .store 5 (.tmp 44) (.tmp 43), none⟩]))
              (.region [⟨some 31, .move (.tmp 4), none⟩,
                ⟨some 32, .iop .add (.tmp 31) (.const (.int .i64 1)), none⟩,
                ⟨some 4, .move (.tmp 32), none⟩])))))))
        (.region [⟨some 19, .move (.tmp 3), none⟩,
          ⟨some 20, .iop .add (.tmp 19) (.const (.int .i64 1)), none⟩,
          ⟨some 3, .move (.tmp 20), none⟩]))))))
   (.seq
    (.region [⟨some 5, .move (.const .nilslice), none⟩])
    (.seq
     (.seq
      (.region [⟨some 6, .move (.const (.int .i64 0)), none⟩])
      (.block 4
       (.loop [0, 5, 6]
        (.seq
         (.seq
          (.region [⟨some 45, .move (.tmp 6), none⟩,
            ⟨some 46, .move (.tmp 0), none⟩,
            ⟨some 47, .nilCheck (.tmp 46), none⟩,
            ⟨some 48, .faddr 3 (.tmp 47), none⟩,
            ⟨some 49, .load 1 false (.tmp 48), none⟩,
            ⟨some 50, .lenS (.tmp 49), none⟩,
            ⟨some 51, .iop .lss (.tmp 45) (.tmp 50), none⟩])
          (.cond (.tmp 51)
           .skip
           (.exit 4)))
         (.seq
          (.block 5
           (.seq
            (.region [⟨some 54, .move (.tmp 0), none⟩,
              ⟨some 55, .nilCheck (.tmp 54), none⟩,
              ⟨some 56, .faddr 3 (.tmp 55), none⟩,
              ⟨some 57, .load 1 false (.tmp 56), none⟩,
              ⟨some 58, .move (.tmp 6), none⟩,
              ⟨some 59, .iaddr 1 (.tmp 57) (.tmp 58), none⟩,
              ⟨some 60, .load 1 false (.tmp 59), none⟩,
              ⟨some 7, .move (.tmp 60), none⟩])
            (.seq
             (.seq
              (.region [⟨some 8, .move (.const (.int .i64 0)), none⟩])
              (.block 6
               (.loop [0, 5, 6, 7, 8]
                (.seq
                 (.seq
                  (.region [⟨some 61, .move (.tmp 8), none⟩,
                    ⟨some 62, .iop .lss (.tmp 61) (.const (.int .i64 20)), none⟩])
                  (.cond (.tmp 62)
                   .skip
                   (.exit 6)))
                 (.seq
                  (.block 7
                   (.region [⟨some 65, .move (.tmp 7), none⟩,
                     ⟨some 66, .move (.tmp 6), none⟩,
                     ⟨some 67, .iop .sub (.const (.int .i64 (-9000))) (.tmp 66), none⟩,
                     ⟨some 68, .build [(.int .u8 0), (.str []), (.int .i64 0), (.int .i64 0), (.int .i64 0)] [(2, 1, (.tmp 67))], none⟩,
                     ⟨some 69, .lit 5 [(.int .u8 0), (.str []), (.int .i64 0), (.int .i64 0), (.int .i64 0)] true 1 [(0, (.tmp 68))], none⟩,
                     ⟨some 70, .append 5 48 (.tmp 65) (.tmp 69), none⟩,
                     ⟨some 7, .move (.tmp 70), none⟩]))
                  (.region [⟨some 63, .move (.tmp 8), none⟩,
                    ⟨some 64, .iop .add (.tmp 63) (.const (.int .i64 1)), none⟩,
                    ⟨some 8, .move (.tmp 64), none⟩]))))))
             (.region [⟨some 71, .move (.tmp 5), none⟩,
               ⟨some 72, .move (.tmp 7), none⟩,
               ⟨some 73, .lit 1 [.nilslice] false 1 [(0, (.tmp 72))], none⟩,
               ⟨some 74, .append 1 24 (.tmp 71) (.tmp 73), none⟩,
               ⟨some 5, .move (.tmp 74), none⟩]))))
          (.region [⟨some 52, .move (.tmp 6), none⟩,
            ⟨some 53, .iop .add (.tmp 52) (.const (.int .i64 1)), none⟩,
            ⟨some 6, .move (.tmp 53), none⟩]))))))
     (.seq
      (.seq
       (.region [⟨some 9, .move (.const (.int .i64 0)), none⟩])
       (.block 8
        (.loop [0, 5, 9]
         (.seq
          (.seq
           (.region [⟨some 75, .move (.tmp 9), none⟩,
             ⟨some 76, .move (.tmp 5), none⟩,
             ⟨some 77, .lenS (.tmp 76), none⟩,
             ⟨some 78, .iop .lss (.tmp 75) (.tmp 77), none⟩])
           (.cond (.tmp 78)
            .skip
            (.exit 8)))
          (.seq
           (.block 9
            (.seq
             (.seq
              (.region [⟨some 10, .move (.const (.int .i64 0)), none⟩])
              (.block 10
               (.loop [0, 5, 9, 10]
                (.seq
                 (.seq
                  (.region [⟨some 81, .move (.tmp 10), none⟩,
                    ⟨some 82, .move (.tmp 5), none⟩,
                    ⟨some 83, .move (.tmp 9), none⟩,
                    ⟨some 84, .iaddr 1 (.tmp 82) (.tmp 83), none⟩,
                    ⟨some 85, .load 1 false (.tmp 84), none⟩,
                    ⟨some 86, .lenS (.tmp 85), none⟩,
                    ⟨some 87, .iop .lss (.tmp 81) (.tmp 86), none⟩])
                  (.cond (.tmp 87)
                   .skip
                   (.exit 10)))
                 (.seq
                  (.block 11
                   (.seq
                    (.region [⟨some 90, .move (.tmp 5), none⟩,
                      ⟨some 91, .move (.tmp 9), none⟩,
                      ⟨some 92, .iaddr 1 (.tmp 90) (.tmp 91), none⟩,
                      ⟨some 93, .load 1 false (.tmp 92), none⟩,
                      ⟨some 94, .move (.tmp 10), none⟩,
                      ⟨some 95, .iaddr 5 (.tmp 93) (.tmp 94), none⟩,
                      ⟨some 96, .load 5 true (.tmp 95), none⟩,
                      ⟨some 97, .move (.tmp 9), none⟩,
                      ⟨some 98, .iop .sub (.const (.int .i64 (-9000))) (.tmp 97), none⟩,
                      ⟨some 99, .build [(.int .u8 0), (.str []), (.int .i64 0), (.int .i64 0), (.int .i64 0)] [(2, 1, (.tmp 98))], none⟩,
                      ⟨some 100, .eqs true [.i, .s, .i, .i, .i] (.tmp 96) (.tmp 99), none⟩])
                    (.cond (.tmp 100)
                     (.seq
                      (.region [⟨some 2, .move (.const (.bool false)), none⟩])
                      .ret)
                     .skip)))
                  (.region [⟨some 88, .move (.tmp 10), none⟩,
                    ⟨some 89, .iop .add (.tmp 88) (.const (.int .i64 1)), none⟩,
                    ⟨some 10, .move (.tmp 89), none⟩]))))))
             (.seq
              (.region [⟨some 11, .move (.const (.int .i64 0)), none⟩])
              (.block 12
               (.loop [0, 5, 9, 11]
                (.seq
                 (.seq
                  (.region [⟨some 101, .move (.tmp 11), none⟩,
                    ⟨some 102, .move (.tmp 0), none⟩,
                    ⟨some 103, .nilCheck (.tmp 102), none⟩,
                    ⟨some 104, .faddr 3 (.tmp 103), none⟩,
                    ⟨some 105, .load 1 false (.tmp 104), none⟩,
                    ⟨some 106, .move (.tmp 9), none⟩,
                    ⟨some 107, .iaddr 1 (.tmp 105) (.tmp 106), none⟩,
                    ⟨some 108, .load 1 false (.tmp 107), none⟩,
                    ⟨some 109, .lenS (.tmp 108), none⟩,
                    ⟨some 110, .iop .lss (.tmp 101) (.tmp 109), none⟩])
                  (.cond (.tmp 110)
                   .skip
                   (.exit 12)))
                 (.seq
                  (.block 13
                   (.seq
                    (.region [⟨some 113, .move (.tmp 0), none⟩,
                      ⟨some 114, .nilCheck (.tmp 113), none⟩,
                      ⟨some 115, .faddr 3 (.tmp 114), none⟩,
                      ⟨some 116, .load 1 false (.tmp 115), none⟩,
                      ⟨some 117, .move (.tmp 9), none⟩,
                      ⟨some 118, .iaddr 1 (.tmp 116) (.tmp 117), none⟩,
                      ⟨some 119, .load 1 false (.tmp 118), none⟩,
                      ⟨some 120, .move (.tmp 11), none⟩,
                      ⟨some 121, .iaddr 5 (.tmp 119) (.tmp 120), none⟩,
                      ⟨some 122, .load 5 true (.tmp 121), none⟩,
                      ⟨some 123, .move (.tmp 9), none⟩,
                      ⟨some 124, .iop .sub (.const (.int .i64 (-9000))) (.tmp 123), none⟩,
                      ⟨some 125, .build [(.int .u8 0), (.str []), (.int .i64 0), (.int .i64 0), (.int .i64 0)] [(2, 1, (.tmp 124))], none⟩,
                      ⟨some 126, .eqs true [.i, .s, .i, .i, .i] (.tmp 122) (.tmp 125), none⟩])
                    (.cond (.tmp 126)
                     (.seq
                      (.region [⟨some 2, .move (.const (.bool false)), none⟩])
                      .ret)
                     .skip)))
                  (.region [⟨some 111, .move (.tmp 11), none⟩,
                    ⟨some 112, .iop .add (.tmp 111) (.const (.int .i64 1)), none⟩,
                    ⟨some 11, .move (.tmp 112), none⟩]))))))))
           (.region [⟨some 79, .move (.tmp 9), none⟩,
             ⟨some 80, .iop .add (.tmp 79) (.const (.int .i64 1)), none⟩,
             ⟨some 9, .move (.tmp 80), none⟩]))))))
      (.seq
       (.region [⟨some 2, .move (.const (.bool true)), none⟩])
       .ret)))))), [.tmp 2]⟩

/-- (*purlin/purlinmem.Book).aloneNames -/
def a71 : AFunc := ⟨127,
 (.seq
  (.region [⟨some 2, .move (.const (.bool false)), none⟩])
  (.seq
   (.seq
    (.region [⟨some 3, .move (.const (.int .i64 0)), none⟩])
    (.block 0
     (.loop [0, 3]
      (.seq
       (.seq
        (.region [⟨some 12, .move (.tmp 3), none⟩,
          ⟨some 13, .move (.tmp 0), none⟩,
          ⟨some 14, .nilCheck (.tmp 13), none⟩,
          ⟨some 15, .faddr 4 (.tmp 14), none⟩,
          ⟨some 16, .load 1 false (.tmp 15), none⟩,
          ⟨some 17, .lenS (.tmp 16), none⟩,
          ⟨some 18, .iop .lss (.tmp 12) (.tmp 17), none⟩])
        (.cond (.tmp 18)
         .skip
         (.exit 0)))
       (.seq
        (.block 1
         (.seq
          (.region [⟨some 4, .move (.const (.int .i64 0)), none⟩])
          (.block 2
           (.loop [0, 3, 4]
            (.seq
             (.seq
              (.region [⟨some 21, .move (.tmp 4), none⟩,
                ⟨some 22, .move (.tmp 0), none⟩,
                ⟨some 23, .nilCheck (.tmp 22), none⟩,
                ⟨some 24, .faddr 4 (.tmp 23), none⟩,
                ⟨some 25, .load 1 false (.tmp 24), none⟩,
                ⟨some 26, .move (.tmp 3), none⟩,
                ⟨some 27, .iaddr 1 (.tmp 25) (.tmp 26), none⟩,
                ⟨some 28, .load 1 false (.tmp 27), none⟩,
                ⟨some 29, .lenS (.tmp 28), none⟩,
                ⟨some 30, .iop .lss (.tmp 21) (.tmp 29), none⟩])
              (.cond (.tmp 30)
               .skip
               (.exit 2)))
             (.seq
              (.block 3
               (.region [⟨some 33, .move (.tmp 0), none⟩,
                 ⟨some 34, .nilCheck (.tmp 33), none⟩,
                 ⟨some 35, .faddr 4 (.tmp 34), none⟩,
                 ⟨some 36, .load 1 false (.tmp 35), none⟩,
                 ⟨some 37, .move (.tmp 3), none⟩,
                 ⟨some 38, .iaddr 1 (.tmp 36) (.tmp 37), none⟩,
                 ⟨some 39, .load 1 false (.tmp 38), none⟩,
                 ⟨some 40, .move (.tmp 4), none⟩,
                 ⟨some 41, .move (.tmp 3), none⟩,
                 ⟨some 42, .iop .sub (.const (.int .i64 (-9000))) (.tmp 41), none⟩,
                 ⟨some 43, .build [(.int .i64 0), (.int .i64 0)] [(0, 1, (.tmp 42))], none⟩,
                 ⟨some 44, .iaddr 2 (.tmp 39) (.tmp 40), none⟩,
                 ⟨none, .store 2 (.tmp 44) (.tmp 43), none⟩]))
              (.region [⟨some 31, .move (.tmp 4), none⟩,
                ⟨some 32, .iop .add (.tmp 31) (.const (.int .i64 1)), none⟩,
                ⟨some 4, .move (.tmp 32), none⟩])))))))
        (.region [⟨some 19, .move (.tmp 3), none⟩,
          ⟨some 20, .iop .add (.tmp 19) (.const (.int .i64 1)), none⟩,
          ⟨some 3, .move (.tmp 20), none⟩]))))))
   (.seq
    (.region [⟨some 5, .move (.const .nilslice), none⟩])
    (.seq
     (.seq
      (.region [⟨some 6, .move (.const (.int .i64 0)), none⟩])
      (.block 4
       (.loop [0, 5, 6]
        (.seq
         (.seq
          (.region [⟨some 45, .move (.tmp 6), none⟩,
            ⟨some 46, .move (.tmp 0), none⟩,
            ⟨some 47, .nilCheck (.tmp 46), none⟩,
            ⟨some 48, .faddr 4 (.tmp 47), none⟩,
            ⟨some 49, .load 1 false (.tmp 48), none⟩,
            ⟨some 50, .lenS (.tmp 49), none⟩,
            ⟨some 51, .iop .lss (.tmp 45) (.tmp 50), none⟩])
          (.cond (.tmp 51)
           .skip
           (.exit 4)))
         (.seq
          (.block 5
           (.seq
            (.region [⟨some 54, .move (.tmp 0), none⟩,
              ⟨some 55, .nilCheck (.tmp 54), none⟩,
              ⟨some 56, .faddr 4 (.tmp 55), none⟩,
              ⟨some 57, .load 1 false (.tmp 56), none⟩,
              ⟨some 58, .move (.tmp 6), none⟩,
              ⟨some 59, .iaddr 1 (.tmp 57) (.tmp 58), none⟩,
              ⟨some 60, .load 1 false (.tmp 59), none⟩,
              ⟨some 7, .move (.tmp 60), none⟩])
            (.seq
             (.seq
              (.region [⟨some 8, .move (.const (.int .i64 0)), none⟩])
              (.block 6
               (.loop [0, 5, 6, 7, 8]
                (.seq
                 (.seq
                  (.region [⟨some 61, .move (.tmp 8), none⟩,
                    ⟨some 62, .iop .lss (.tmp 61) (.const (.int .i64 20)), none⟩])
                  (.cond (.tmp 62)
                   .skip
                   (.exit 6)))
                 (.seq
                  (.block 7
                   (.region [⟨some 65, .move (.tmp 7), none⟩,
                     ⟨some 66, .move (.tmp 6), none⟩,
                     ⟨some 67, .iop .sub (.const (.int .i64 (-9000))) (.tmp 66), none⟩,
                     ⟨some 68, .build [(.int .i64 0), (.int .i64 0)] [(0, 1, (.tmp 67))], none⟩,
                     ⟨some 69, .lit 2 [(.int .i64 0), (.int .i64 0)] true 1 [(0, (.tmp 68))], none⟩,
                     ⟨some 70, .append 2 16 (.tmp 65) (.tmp 69), none⟩,
                     ⟨some 7, .move (.tmp 70), none⟩]))
                  (.region [⟨some 63, .move (.tmp 8), none⟩,
                    ⟨some 64, .iop .add (.tmp 63) (.const (.int .i64 1)), none⟩,
                    ⟨some 8, .move (.tmp 64), none⟩]))))))
             (.region [⟨some 71, .move (.tmp 5), none⟩,
               ⟨some 72, .move (.tmp 7), none⟩,
               ⟨some 73, .lit 1 [.nilslice] false 1 [(0, (.tmp 72))], none⟩,
               ⟨some 74, .append 1 24 (.tmp 71) (.tmp 73), none⟩,
               ⟨some 5, .move (.tmp 74), none⟩]))))
          (.region [⟨some 52, .move (.tmp 6), none⟩,
            ⟨some 53, .iop .add (.tmp 52) (.const (.int .i64 1)), none⟩,
            ⟨some 6, .move (.tmp 53), none⟩]))))))
     (.seq
      (.seq
       (.region [⟨some 9, .move (.const (.int .i64 0)), none⟩])
       (.block 8
        (.loop [0, 5, 9]
         (.seq
          (.seq
           (.region [⟨some 75, .move (.tmp 9), none⟩,
             ⟨some 76, .move (.tmp 5), none⟩,
             ⟨some 77, .lenS (.tmp 76), none⟩,
             ⟨some 78, .iop .lss (.tmp 75) (.tmp 77), none⟩])
           (.cond (.tmp 78)
            .skip
            (.exit 8)))
          (.seq
           (.block 9
            (.seq
             (.seq
              (.region [⟨some 10, .move (.const (.int .i64 0)), none⟩])
              (.block 10
               (.loop [0, 5, 9, 10]
                (.seq
                 (.seq
                  (.region [⟨some 81, .move (.tmp 10), none⟩,
                    ⟨some 82, .move (.tmp 5), none⟩,
                    ⟨some 83, .move (.tmp 9), none⟩,
                    ⟨some 84, .iaddr 1 (.tmp 82) (.tmp 83), none⟩,
                    ⟨some 85, .load 1 false (.tmp 84), none⟩,
                    ⟨some 86, .lenS (.tmp 85), none⟩,
                    ⟨some 87, .iop .lss (.tmp 81) (.tmp 86), none⟩])
                  (.cond (.tmp 87)
                   .skip
                   (.exit 10)))
                 (.seq
                  (.block 11
                   (.seq
                    (.region [⟨some 90, .move (.tmp 5), none⟩,
                      ⟨some 91, .move (.tmp 9), none⟩,
                      ⟨some 92, .iaddr 1 (.tmp 90) (.tmp 91), none⟩,
                      ⟨some 93, .load 1 false (.tmp 92), none⟩,
                      ⟨some 94, .move (.tmp 10), none⟩,
                      ⟨some 95, .iaddr 2 (.tmp 93) (.tmp 94), none⟩,
                      ⟨some 96, .load 2 true (.tmp 95), none⟩,
                      ⟨some 97, .move (.tmp 9), none⟩,
                      ⟨some 98, .iop .sub (.const (.int .i64 (-9000))) (.tmp 97), none⟩,
                      ⟨some 99, .build [(.int .i64 0), (.int .i64 0)] [(0, 1, (.tmp 98))], none⟩,
                      ⟨some 100, .eqs true [.i, .i] (.tmp 96) (.tmp 99), none⟩])
                    (.cond (.tmp 100)
                     (.seq
                      (.region [⟨some 2, .move (.const (.bool false)), none⟩])
                      .ret)
                     .skip)))
                  (.region [⟨some 88, .move (.tmp 10), none⟩,
                    ⟨some 89, .iop .add (.tmp 88) (.const (.int .i64 1)), none⟩,
                    ⟨some 10, .move (.tmp 89), none⟩]))))))
             (.seq
              (.region [⟨some 11, .move (.const (.int .i64 0)), none⟩])
              (.block 12
               (.loop [0, 5, 9, 11]
                (.seq
                 (.seq
                  (.region [⟨some 101, .move (.tmp 11), none⟩,
                    ⟨some 102, .move (.tmp 0), none⟩,
                    ⟨some 103, .nilCheck (.tmp 102), none⟩,
                    ⟨some 104, .faddr 4 (.tmp 103), none⟩,
                    ⟨some 105, .load 1 false (.tmp 104), none⟩,
                    ⟨some 106, .move (.tmp 9), none⟩,
                    ⟨some 107, .iaddr 1 (.tmp 105) (.tmp 106), none⟩,
                    ⟨some 108, .load 1 false (.tmp 107), none⟩,
                    ⟨some 109, .lenS (.tmp 108), none⟩,
                    ⟨some 110, .iop .lss (.tmp 101) (.tmp 109), none⟩])
                  (.cond (.tmp 110)
                   .skip
                   (.exit 12)))
                 (.seq
                  (.block 13
                   (.seq
                    (.region [⟨some 113, .move (.tmp 0), none⟩,
                      ⟨some 114, .nilCheck (.tmp 113), none⟩,
                      ⟨some 115, .faddr 4 (.tmp 114), none⟩,
                      ⟨some 116, .load 1 false (.tmp 115), none⟩,
                      ⟨some 117, .move (.tmp 9), none⟩,
                      ⟨some 118, .iaddr 1 (.tmp 116) (.tmp 117), none⟩,
                      ⟨some 119, .load 1 false (.tmp 118), none⟩,
                      ⟨some 120, .move (.tmp 11), none⟩,
                      ⟨some 121, .iaddr 2 (.tmp 119) (.tmp 120), none⟩,
                      ⟨some 122, .load 2 true (.tmp 121), none⟩,
                      ⟨some 123, .move (.tmp 9), none⟩,
                      ⟨some 124, .iop .sub (.const (.int .i64 (-9000))) (.tmp 123), none⟩,
                      ⟨some 125, .build [(.int .i64 0), (.int .i64 0)] [(0, 1, (.tmp 124))], none⟩,
                      ⟨some 126, .eqs true [.i, .i] (.tmp 122) (.tmp 125), none⟩])
                    (.cond (.tmp 126)
                     (.seq
                      (.region [⟨some 2, .move (.const (.bool false)), none⟩])
                      .ret)
                     .skip)))
                  (.region [⟨some 111, .move (.tmp 11), none⟩,
                    ⟨some 112, .iop .add (.tmp 111) (.const (.int .i64 1)), none⟩,
                    ⟨some 11, .move (.tmp 112), none⟩]))))))))
           (.region [⟨some 79, .move (.tmp 9), none⟩,
             ⟨some 80, .iop .add (.tmp 79) (.const (.int .i64 1)), none⟩,
             ⟨some 9, .move (.tmp 80), none⟩]))))))
      (.seq
       (.region [⟨some 2, .move (.const (.bool true)), none⟩])
       .ret)))))), [.tmp 2]⟩

/-- (*purlin/net.Net).look -/
def a78 : AFunc := ⟨46,
 (.seq
  (.region [⟨some 2, .box (.tmp 0), none⟩,
    ⟨some 3, .box (.tmp 1), none⟩,
    ⟨some 4, .move (.const (.int .i64 0)), none⟩])
  (.seq
   (.region [⟨some 6, .mkfunc 95 [] [(.tmp 2)], none⟩,
     ⟨some 5, .move (.tmp 6), none⟩])
   (.seq
    (.block 0
     (.seq
      (.region [⟨some 8, .move (.tmp 5), none⟩,
        ⟨some 9, .faddr 0 (.tmp 3), none⟩,
        ⟨some 10, .load 1 false (.tmp 9), none⟩,
        ⟨some 11, .callv .shared (.tmp 8) [(.tmp 10)], none⟩,
        ⟨some 12, .not (.tmp 11), none⟩,
        ⟨some 13, .move (.tmp 12), none⟩,
        ⟨some 14, .move (.tmp 5), some (13, false)⟩,
        ⟨some 15, .faddr 1 (.tmp 3), some (13, false)⟩,
        ⟨some 16, .load 1 false (.tmp 15), some (13, false)⟩,
        ⟨some 17, .callv .shared (.tmp 14) [(.tmp 16)], some (13, false)⟩,
        ⟨some 18, .not (.tmp 17), some (13, false)⟩,
        ⟨some 19, .pick (.tmp 13) (.const (.bool true)) (.tmp 18), none⟩,
        ⟨some 20, .move (.tmp 19), none⟩,
        ⟨some 21, .faddr 0 (.tmp 3), some (20, false)⟩,
        ⟨some 22, .load 1 false (.tmp 21), some (20, false)⟩,
        ⟨some 23, .faddr 1 (.tmp 3), some (20, false)⟩,
        ⟨some 24, .load 1 false (.tmp 23), some (20, false)⟩,
        ⟨some 25, .iop .eql (.tmp 22) (.tmp 24), some (20, false)⟩,
        ⟨some 26, .pick (.tmp 20) (.const (.bool true)) (.tmp 25), none⟩,
        ⟨some 27, .move (.tmp 26), none⟩,
        ⟨some 28, .faddr 3 (.tmp 3), some (27, false)⟩,
        ⟨some 29, .load 1 false (.tmp 28), some (27, false)⟩,
        ⟨some 30, .iop .lss (.tmp 29) (.const (.int .i64 0)), some (27, false)⟩,
        ⟨some 31, .pick (.tmp 27) (.const (.bool true)) (.tmp 30), none⟩,
        ⟨some 7, .move (.tmp 31), none⟩])
      (.cond (.tmp 7)
       (.seq
        (.region [⟨some 4, .move (.const (.int .i64 2)), none⟩])
        .ret)
       (.seq
        (.region [⟨some 33, .faddr 4 (.tmp 3), none⟩,
          ⟨some 34, .load 1 false (.tmp 33), none⟩,
          ⟨some 35, .lenS (.tmp 34), none⟩,
          ⟨some 36, .iop .gtr (.tmp 35) (.const (.int .i64 65536)), none⟩,
          ⟨some 32, .move (.tmp 36), none⟩])
        (.cond (.tmp 32)
         (.seq
          (.region [⟨some 4, .move (.const (.int .i64 5)), none⟩])
          .ret)
         (.seq
          (.region [⟨some 38, .faddr 2 (.tmp 3), none⟩,
            ⟨some 39, .load 1 false (.tmp 38), none⟩,
            ⟨some 40, .move (.tmp 39), none⟩,
            ⟨some 41, .faddr 4 (.tmp 3), some (40, true)⟩,
            ⟨some 42, .load 1 false (.tmp 41), some (40, true)⟩,
            ⟨some 43, .lenS (.tmp 42), some (40, true)⟩,
            ⟨some 44, .iop .gtr (.tmp 43) (.const (.int .i64 0)), some (40, true)⟩,
            ⟨some 45, .pick (.tmp 40) (.tmp 44) (.const (.bool false)), none⟩,
            ⟨some 37, .move (.tmp 45), none⟩])
          (.cond (.tmp 37)
           (.seq
            (.region [⟨some 4, .move (.const (.int .i64 6)), none⟩])
            .ret)
           .skip)))))))
    (.seq
     (.region [⟨some 4, .move (.const (.int .i64 0)), none⟩])
     .ret)))), [.tmp 4]⟩

/-- purlin/net.copied -/
def a79 : AFunc := ⟨8,
 (.seq
  (.region [⟨some 1, .box (.tmp 0), none⟩,
    ⟨some 2, .alloc [(.int .i64 0), (.int .i64 0), (.bool false), (.int .i64 0), .nilslice], none⟩])
  (.seq
   (.region [⟨some 3, .faddr 4 (.tmp 1), none⟩,
     ⟨some 4, .load 1 false (.tmp 3), none⟩,
     ⟨some 5, .call .shared 65 [(.tmp 4)], none⟩,
     ⟨some 6, .faddr 4 (.tmp 1), none⟩,
     ⟨none, .store 1 (.tmp 6) (.tmp 5), none⟩])
   (.seq
    (.region [⟨some 7, .load 5 true (.tmp 1), none⟩,
      ⟨none, .store 5 (.tmp 2) (.tmp 7), none⟩])
    .ret))), [.cell 2 5 true]⟩

/-- (*purlin/net.Net).at -/
def a80 : AFunc := ⟨20,
 (.seq
  (.region [⟨some 4, .move (.const (.int .i64 0)), none⟩])
  (.seq
   (.block 0
    (.seq
     (.region [⟨some 6, .move (.tmp 0), none⟩,
       ⟨some 7, .eqnil false .p (.tmp 6), none⟩,
       ⟨some 5, .move (.tmp 7), none⟩])
     (.cond (.tmp 5)
      (.seq
       (.region [⟨some 4, .move (.const (.int .i64 1)), none⟩])
       .ret)
      (.seq
       (.region [⟨some 9, .move (.tmp 1), none⟩,
         ⟨some 10, .iop .lss (.tmp 9) (.const (.int .i64 0)), none⟩,
         ⟨some 11, .move (.tmp 10), none⟩,
         ⟨some 12, .move (.tmp 1), some (11, false)⟩,
         ⟨some 13, .move (.tmp 0), some (11, false)⟩,
         ⟨some 14, .nilCheck (.tmp 13), some (11, false)⟩,
         ⟨some 15, .faddr 5 (.tmp 14), some (11, false)⟩,
         ⟨some 16, .load 1 false (.tmp 15), some (11, false)⟩,
         ⟨some 17, .lenS (.tmp 16), some (11, false)⟩,
         ⟨some 18, .iop .geq (.tmp 12) (.tmp 17), some (11, false)⟩,
         ⟨some 19, .pick (.tmp 11) (.const (.bool true)) (.tmp 18), none⟩,
         ⟨some 8, .move (.tmp 19), none⟩])
       (.cond (.tmp 8)
        (.seq
         (.region [⟨some 4, .move (.const (.int .i64 4)), none⟩])
         .ret)
        .skip)))))
   (.seq
    (.region [⟨some 4, .move (.const (.int .i64 0)), none⟩])
    .ret))), [.tmp 4]⟩

/-- (*purlin/net.Net).out -/
def a81 : AFunc := ⟨32,
 (.seq
  (.region [⟨some 4, .alloc [(.int .i64 0), (.int .i64 0), (.bool false), (.int .i64 0), .nilslice], none⟩])
  (.seq
   (.region [⟨some 6, .move (.tmp 0), none⟩,
     ⟨some 7, .nilCheck (.tmp 6), none⟩,
     ⟨some 8, .faddr 5 (.tmp 7), none⟩,
     ⟨some 9, .load 1 false (.tmp 8), none⟩,
     ⟨some 10, .move (.tmp 1), none⟩,
     ⟨some 11, .iaddr 5 (.tmp 9) (.tmp 10), none⟩,
     ⟨some 12, .load 5 true (.tmp 11), none⟩,
     ⟨some 5, .alloc [(.int .i64 0), (.int .i64 0), (.bool false), (.int .i64 0), .nilslice], none⟩,
     ⟨none, .store 5 (.tmp 5) (.tmp 12), none⟩])
   (.seq
    (.region [⟨some 13, .move (.tmp 0), none⟩,
      ⟨some 14, .move (.tmp 0), none⟩,
      ⟨some 15, .nilCheck (.tmp 14), none⟩,
      ⟨some 16, .faddr 5 (.tmp 15), none⟩,
      ⟨some 17, .load 1 false (.tmp 16), none⟩,
      ⟨some 18, .move (.tmp 1), none⟩,
      ⟨some 19, .sliceOp 5 (.tmp 17) none (some (.tmp 18)) none, none⟩,
      ⟨some 20, .move (.tmp 0), none⟩,
      ⟨some 21, .nilCheck (.tmp 20), none⟩,
      ⟨some 22, .faddr 5 (.tmp 21), none⟩,
      ⟨some 23, .load 1 false (.tmp 22), none⟩,
      ⟨some 24, .move (.tmp 1), none⟩,
      ⟨some 25, .iop .add (.tmp 24) (.const (.int .i64 1)), none⟩,
      ⟨some 26, .sliceOp 5 (.tmp 23) (some (.tmp 25)) none none, none⟩,
      ⟨some 27, .lit 1 [.nilslice] false 2 [(0, (.tmp 19)), (1, (.tmp 26))], none⟩,
      ⟨some 28, .call .shared 96 [(.tmp 27)], none⟩,
      ⟨some 29, .nilCheck (.tmp 13), none⟩,
      ⟨some 30, .faddr 5 (.tmp 29), none⟩,
      ⟨none, .store 1 (.tmp 30) (.tmp 28), none⟩])
    (.seq
     (.region [⟨some 31, .load 5 true (.tmp 5), none⟩,
       ⟨none, .store 5 (.tmp 4) (.tmp 31), none⟩])
     .ret)))), [.cell 4 5 true]⟩

/-- purlin/purlinmem.HandDatagrams -/
def a82 : AFunc := ⟨25,
 (.seq
  (.region [⟨some 2, .move (.const .nilslice), none⟩])
  (.seq
   (.region [⟨some 3, .move (.const .nilslice), none⟩])
   (.seq
    (.seq
     (.region [⟨some 4, .move (.const (.int .i64 0)), none⟩])
     (.block 0
      (.loop [0, 3, 4]
       (.seq
        (.seq
         (.region [⟨some 6, .move (.tmp 4), none⟩,
           ⟨some 7, .move (.tmp 0), none⟩,
           ⟨some 8, .lenS (.tmp 7), none⟩,
           ⟨some 9, .iop .lss (.tmp 6) (.tmp 8), none⟩])
         (.cond (.tmp 9)
          .skip
          (.exit 0)))
        (.seq
         (.block 1
          (.seq
           (.region [⟨some 12, .move (.tmp 0), none⟩,
             ⟨some 13, .move (.tmp 4), none⟩,
             ⟨some 14, .iaddr 5 (.tmp 12) (.tmp 13), none⟩,
             ⟨some 15, .load 5 true (.tmp 14), none⟩,
             ⟨some 5, .alloc [(.int .i64 0), (.int .i64 0), (.bool false), (.int .i64 0), .nilslice], none⟩,
             ⟨none, .store 5 (.tmp 5) (.tmp 15), none⟩])
           (.seq
            (.region [⟨some 16, .faddr 4 (.tmp 5), none⟩,
              ⟨some 17, .load 1 false (.tmp 16), none⟩,
              ⟨some 18, .call .shared 14 [(.tmp 17)], none⟩,
              ⟨some 19, .faddr 4 (.tmp 5), none⟩,
              ⟨none, .store 1 (.tmp 19) (.tmp 18), none⟩])
            (.region [⟨some 20, .move (.tmp 3), none⟩,
              ⟨some 21, .load 5 true (.tmp 5), none⟩,
              ⟨some 22, .lit 5 [(.int .i64 0), (.int .i64 0), (.bool false), (.int .i64 0), .nilslice] true 1 [(0, (.tmp 21))], none⟩,
              ⟨some 23, .append 5 56 (.tmp 20) (.tmp 22), none⟩,
              ⟨some 3, .move (.tmp 23), none⟩]))))
         (.region [⟨some 10, .move (.tmp 4), none⟩,
           ⟨some 11, .iop .add (.tmp 10) (.const (.int .i64 1)), none⟩,
           ⟨some 4, .move (.tmp 11), none⟩]))))))
    (.seq
     (.region [⟨some 24, .move (.tmp 3), none⟩,
       ⟨some 2, .move (.tmp 24), none⟩])
     .ret)))), [.tmp 2]⟩

/-- (*purlin/purlinref12.Net).Send -/
def a83 : AFunc := ⟨44,
 (.seq
  (.region [⟨some 4, .move (.const (.int .i64 0)), none⟩])
  (.seq
   (.seq
    (.region [⟨some 7, .move (.tmp 0), none⟩,
      ⟨some 8, .eqnil false .p (.tmp 7), none⟩])
    (.cond (.tmp 8)
     (.seq
      (.region [⟨some 4, .move (.const (.int .i64 1)), none⟩])
      .ret)
     .skip))
   (.seq
    (.seq
     (.region [⟨some 5, .move (.const (.int .i64 0)), none⟩])
     (.block 0
      (.loop [0, 1, 5]
       (.seq
        (.seq
         (.region [⟨some 9, .move (.tmp 5), none⟩,
           ⟨some 10, .move (.tmp 1), none⟩,
           ⟨some 11, .lenS (.tmp 10), none⟩,
           ⟨some 12, .iop .lss (.tmp 9) (.tmp 11), none⟩])
         (.cond (.tmp 12)
          .skip
          (.exit 0)))
        (.seq
         (.block 1
          (.seq
           (.region [⟨some 15, .move (.tmp 0), none⟩,
             ⟨some 16, .move (.tmp 1), none⟩,
             ⟨some 17, .move (.tmp 5), none⟩,
             ⟨some 18, .iaddr 5 (.tmp 16) (.tmp 17), none⟩,
             ⟨some 19, .load 5 true (.tmp 18), none⟩,
             ⟨some 20, .call .shared 97 [(.tmp 15), (.tmp 19)], none⟩,
             ⟨some 6, .move (.tmp 20), none⟩])
           (.seq
            (.region [⟨some 21, .move (.tmp 6), none⟩,
              ⟨some 22, .iop .neq (.tmp 21) (.const (.int .i64 0)), none⟩])
            (.cond (.tmp 22)
             (.seq
              (.region [⟨some 23, .move (.tmp 6), none⟩,
                ⟨some 4, .move (.tmp 23), none⟩])
              .ret)
             .skip))))
         (.region [⟨some 13, .move (.tmp 5), none⟩,
           ⟨some 14, .iop .add (.tmp 13) (.const (.int .i64 1)), none⟩,
           ⟨some 5, .move (.tmp 14), none⟩]))))))
    (.seq
     (.region [⟨some 24, .move (.tmp 0), none⟩,
       ⟨some 25, .move (.tmp 0), none⟩,
       ⟨some 26, .nilCheck (.tmp 25), none⟩,
       ⟨some 27, .faddr 0 (.tmp 26), none⟩,
       ⟨some 28, .load 1 false (.tmp 27), none⟩,
       ⟨some 29, .move (.tmp 1), none⟩,
       ⟨some 30, .append 5 56 (.tmp 28) (.tmp 29), none⟩,
       ⟨some 31, .nilCheck (.tmp 24), none⟩,
       ⟨some 32, .faddr 0 (.tmp 31), none⟩,
       ⟨none, .store 1 (.tmp 32) (.tmp 30), none⟩])
     (.seq
      (.region [⟨some 33, .move (.tmp 0), none⟩,
        ⟨some 34, .nilCheck (.tmp 33), none⟩,
        ⟨some 35, .faddr 2 (.tmp 34), none⟩,
        ⟨some 36, .aaddr 4 1 (.tmp 35) (.const (.int .i64 0)), none⟩,
        ⟨some 37, .load 1 false (.tmp 36), none⟩,
        ⟨some 38, .move (.tmp 1), none⟩,
        ⟨some 39, .lenS (.tmp 38), none⟩,
        ⟨some 40, .iop .add (.tmp 37) (.tmp 39), none⟩,
        ⟨some 41, .nilCheck (.tmp 33), none⟩,
        ⟨some 42, .faddr 2 (.tmp 41), none⟩,
        ⟨some 43, .aaddr 4 1 (.tmp 42) (.const (.int .i64 0)), none⟩,
        ⟨none, .store 1 (.tmp 43) (.tmp 40), none⟩])
      (.seq
       (.region [⟨some 4, .move (.const (.int .i64 0)), none⟩])
       .ret)))))), [.tmp 4]⟩

/-- purlin/purlinmem.KeptDatagrams -/
def a84 : AFunc := ⟨28,
 (.seq
  (.region [⟨some 4, .move (.const (.bool false)), none⟩])
  (.seq
   (.seq
    (.region [⟨some 6, .move (.tmp 0), none⟩,
      ⟨some 7, .move (.tmp 1), none⟩,
      ⟨some 8, .call .shared 46 [(.tmp 6), (.tmp 7)], none⟩,
      ⟨some 9, .not (.tmp 8), none⟩])
    (.cond (.tmp 9)
     (.seq
      (.region [⟨some 4, .move (.const (.bool false)), none⟩])
      .ret)
     .skip))
   (.seq
    (.seq
     (.region [⟨some 5, .move (.const (.int .i64 0)), none⟩])
     (.block 0
      (.loop [0, 1, 5]
       (.seq
        (.seq
         (.region [⟨some 10, .move (.tmp 5), none⟩,
           ⟨some 11, .move (.tmp 1), none⟩,
           ⟨some 12, .lenS (.tmp 11), none⟩,
           ⟨some 13, .iop .lss (.tmp 10) (.tmp 12), none⟩])
         (.cond (.tmp 13)
          .skip
          (.exit 0)))
        (.seq
         (.block 1
          (.seq
           (.region [⟨some 16, .move (.tmp 0), none⟩,
             ⟨some 17, .move (.tmp 5), none⟩,
             ⟨some 18, .iaddr 5 (.tmp 16) (.tmp 17), none⟩,
             ⟨some 19, .faddr 4 (.tmp 18), none⟩,
             ⟨some 20, .load 1 false (.tmp 19), none⟩,
             ⟨some 21, .move (.tmp 1), none⟩,
             ⟨some 22, .move (.tmp 5), none⟩,
             ⟨some 23, .iaddr 5 (.tmp 21) (.tmp 22), none⟩,
             ⟨some 24, .faddr 4 (.tmp 23), none⟩,
             ⟨some 25, .load 1 false (.tmp 24), none⟩,
             ⟨some 26, .call .shared 27 [(.tmp 20), (.tmp 25)], none⟩,
             ⟨some 27, .not (.tmp 26), none⟩])
           (.cond (.tmp 27)
            (.seq
             (.region [⟨some 4, .move (.const (.bool false)), none⟩])
             .ret)
            .skip)))
         (.region [⟨some 14, .move (.tmp 5), none⟩,
           ⟨some 15, .iop .add (.tmp 14) (.const (.int .i64 1)), none⟩,
           ⟨some 5, .move (.tmp 15), none⟩]))))))
    (.seq
     (.region [⟨some 4, .move (.const (.bool true)), none⟩])
     .ret)))), [.tmp 4]⟩

/-- (*purlin/purlinref12.Net).Deliver -/
def a85 : AFunc := ⟨17,
 (.seq
  (.region [⟨some 4, .alloc [(.int .i64 0), (.int .i64 0), (.bool false), (.int .i64 0), .nilslice], none⟩,
    ⟨some 5, .move (.const (.int .i64 0)), none⟩])
  (.seq
   (.region [⟨some 7, .move (.tmp 0), none⟩,
     ⟨some 8, .move (.tmp 1), none⟩,
     ⟨some 9, .call .shared 98 [(.tmp 7), (.tmp 8)], none⟩,
     ⟨some 6, .move (.tmp 9), none⟩])
   (.seq
    (.seq
     (.region [⟨some 10, .move (.tmp 6), none⟩,
       ⟨some 11, .iop .neq (.tmp 10) (.const (.int .i64 0)), none⟩])
     (.cond (.tmp 11)
      (.seq
       (.region [⟨some 12, .build [(.int .i64 0), (.int .i64 0), (.bool false), (.int .i64 0), .nilslice] [], none⟩,
         ⟨some 13, .move (.tmp 6), none⟩,
         ⟨none, .store 5 (.tmp 4) (.tmp 12), none⟩,
         ⟨some 5, .move (.tmp 13), none⟩])
       .ret)
      .skip))
    (.seq
     (.region [⟨some 14, .move (.tmp 0), none⟩,
       ⟨some 15, .move (.tmp 1), none⟩,
       ⟨some 16, .call .shared 99 [(.tmp 14), (.tmp 15), (.const (.int .i64 1))], none⟩,
       ⟨none, .store 5 (.tmp 4) (.tmp 16), none⟩,
       ⟨some 5, .move (.const (.int .i64 0)), none⟩])
     .ret)))), [.cell 4 5 true, .tmp 5]⟩

/-- (*purlin/purlinref12.Net).Drop -/
def a86 : AFunc := ⟨15,
 (.seq
  (.region [⟨some 4, .move (.const (.int .i64 0)), none⟩])
  (.seq
   (.region [⟨some 6, .move (.tmp 0), none⟩,
     ⟨some 7, .move (.tmp 1), none⟩,
     ⟨some 8, .call .shared 98 [(.tmp 6), (.tmp 7)], none⟩,
     ⟨some 5, .move (.tmp 8), none⟩])
   (.seq
    (.seq
     (.region [⟨some 9, .move (.tmp 5), none⟩,
       ⟨some 10, .iop .eql (.tmp 9) (.const (.int .i64 0)), none⟩])
     (.cond (.tmp 10)
      (.region [⟨some 11, .move (.tmp 0), none⟩,
        ⟨some 12, .move (.tmp 1), none⟩,
        ⟨some 13, .call .shared 99 [(.tmp 11), (.tmp 12), (.const (.int .i64 2))], none⟩])
      .skip))
    (.seq
     (.region [⟨some 14, .move (.tmp 5), none⟩,
       ⟨some 4, .move (.tmp 14), none⟩])
     .ret)))), [.tmp 4]⟩

/-- (*purlin/purlinref12.Net).Double -/
def a87 : AFunc := ⟨39,
 (.seq
  (.region [⟨some 4, .move (.const (.int .i64 0)), none⟩])
  (.seq
   (.region [⟨some 6, .move (.tmp 0), none⟩,
     ⟨some 7, .move (.tmp 1), none⟩,
     ⟨some 8, .call .shared 98 [(.tmp 6), (.tmp 7)], none⟩,
     ⟨some 5, .move (.tmp 8), none⟩])
   (.seq
    (.seq
     (.region [⟨some 9, .move (.tmp 5), none⟩,
       ⟨some 10, .iop .eql (.tmp 9) (.const (.int .i64 0)), none⟩])
     (.cond (.tmp 10)
      (.seq
       (.drawn [⟨some 11, .move (.tmp 0), none⟩,
         ⟨some 12, .lit 5 [(.int .i64 0), (.int .i64 0), (.bool false), (.int .i64 0), .nilslice] true 0 [], none⟩,
         ⟨some 13, .move (.tmp 0), none⟩,
         ⟨some 14, .nilCheck (.tmp 13), none⟩,
         ⟨some 15, .faddr 0 (.tmp 14), none⟩,
         ⟨some 16, .load 1 false (.tmp 15), none⟩,
         ⟨some 17, .append 5 56 (.tmp 12) (.tmp 16), none⟩,
         ⟨some 18, .move (.tmp 0), none⟩,
         ⟨some 19, .nilCheck (.tmp 18), none⟩,
         ⟨some 20, .faddr 0 (.tmp 19), none⟩,
         ⟨some 21, .load 1 false (.tmp 20), none⟩,
         ⟨some 22, .move (.tmp 1), none⟩,
         ⟨some 23, .iaddr 5 (.tmp 21) (.tmp 22), none⟩,
         ⟨some 24, .load 5 true (.tmp 23), none⟩,
         ⟨some 25, .lit 5 [(.int .i64 0), (.int .i64 0), (.bool false), (.int .i64 0), .nilslice] true 1 [(0, (.tmp 24))], none⟩,
         ⟨some 26, .append 5 56 (.tmp 17) (.tmp 25), none⟩,
         ⟨some 27, .nilCheck (.tmp 11), none⟩,
         ⟨some 28, .faddr 0 (.tmp 27), none⟩,
         ⟨none, .store 1 (.tmp 28) (.tmp 26), none⟩] [(10, 6), (13, 6)])
       (.region [⟨some 29, .move (.tmp 0), none⟩,
         ⟨some 30, .nilCheck (.tmp 29), none⟩,
         ⟨some 31, .faddr 2 (.tmp 30), none⟩,
         ⟨some 32, .aaddr 4 1 (.tmp 31) (.const (.int .i64 3)), none⟩,
         ⟨some 33, .load 1 false (.tmp 32), none⟩,
         ⟨some 34, .iop .add (.tmp 33) (.const (.int .i64 1)), none⟩,
         ⟨some 35, .nilCheck (.tmp 29), none⟩,
         ⟨some 36, .faddr 2 (.tmp 35), none⟩,
         ⟨some 37, .aaddr 4 1 (.tmp 36) (.const (.int .i64 3)), none⟩,
         ⟨none, .store 1 (.tmp 37) (.tmp 34), none⟩]))
      .skip))
    (.seq
     (.region [⟨some 38, .move (.tmp 5), none⟩,
       ⟨some 4, .move (.tmp 38), none⟩])
     .ret)))), [.tmp 4]⟩

/-- (*purlin/purlinref12.Net).Counts -/
def a88 : AFunc := ⟨28,
 (.seq
  (.region [⟨some 2, .move (.const (.int .i64 0)), none⟩,
    ⟨some 3, .move (.const (.int .i64 0)), none⟩,
    ⟨some 4, .move (.const (.int .i64 0)), none⟩,
    ⟨some 5, .move (.const (.int .i64 0)), none⟩])
  (.seq
   (.seq
    (.region [⟨some 6, .move (.tmp 0), none⟩,
      ⟨some 7, .eqnil false .p (.tmp 6), none⟩])
    (.cond (.tmp 7)
     (.seq
      (.region [⟨some 2, .move (.const (.int .i64 0)), none⟩,
        ⟨some 3, .move (.const (.int .i64 0)), none⟩,
        ⟨some 4, .move (.const (.int .i64 0)), none⟩,
        ⟨some 5, .move (.const (.int .i64 0)), none⟩])
      .ret)
     .skip))
   (.seq
    (.region [⟨some 8, .move (.tmp 0), none⟩,
      ⟨some 9, .nilCheck (.tmp 8), none⟩,
      ⟨some 10, .faddr 2 (.tmp 9), none⟩,
      ⟨some 11, .aaddr 4 1 (.tmp 10) (.const (.int .i64 0)), none⟩,
      ⟨some 12, .load 1 false (.tmp 11), none⟩,
      ⟨some 13, .move (.tmp 0), none⟩,
      ⟨some 14, .nilCheck (.tmp 13), none⟩,
      ⟨some 15, .faddr 2 (.tmp 14), none⟩,
      ⟨some 16, .aaddr 4 1 (.tmp 15) (.const (.int .i64 1)), none⟩,
      ⟨some 17, .load 1 false (.tmp 16), none⟩,
      ⟨some 18, .move (.tmp 0), none⟩,
      ⟨some 19, .nilCheck (.tmp 18), none⟩,
      ⟨some 20, .faddr 2 (.tmp 19), none⟩,
      ⟨some 21, .aaddr 4 1 (.tmp 20) (.const (.int .i64 2)), none⟩,
      ⟨some 22, .load 1 false (.tmp 21), none⟩,
      ⟨some 23, .move (.tmp 0), none⟩,
      ⟨some 24, .nilCheck (.tmp 23), none⟩,
      ⟨some 25, .faddr 2 (.tmp 24), none⟩,
      ⟨some 26, .aaddr 4 1 (.tmp 25) (.const (.int .i64 3)), none⟩,
      ⟨some 27, .load 1 false (.tmp 26), none⟩,
      ⟨some 2, .move (.tmp 12), none⟩,
      ⟨some 3, .move (.tmp 17), none⟩,
      ⟨some 4, .move (.tmp 22), none⟩,
      ⟨some 5, .move (.tmp 27), none⟩])
    .ret))), [.tmp 2, .tmp 3, .tmp 4, .tmp 5]⟩

/-- (*purlin/purlinref12.Net).Waiting -/
def a89 : AFunc := ⟨9,
 (.seq
  (.region [⟨some 2, .move (.const .nilslice), none⟩])
  (.seq
   (.seq
    (.region [⟨some 3, .move (.tmp 0), none⟩,
      ⟨some 4, .eqnil false .p (.tmp 3), none⟩])
    (.cond (.tmp 4)
     (.seq
      (.region [⟨some 2, .move (.const .nilslice), none⟩])
      .ret)
     .skip))
   (.seq
    (.region [⟨some 5, .move (.tmp 0), none⟩,
      ⟨some 6, .nilCheck (.tmp 5), none⟩,
      ⟨some 7, .faddr 0 (.tmp 6), none⟩,
      ⟨some 8, .load 1 false (.tmp 7), none⟩,
      ⟨some 2, .move (.tmp 8), none⟩])
    .ret))), [.tmp 2]⟩

/-- purlin/purlinmem.SameInts -/
def a90 : AFunc := ⟨26,
 (.seq
  (.region [⟨some 4, .move (.const (.bool false)), none⟩])
  (.seq
   (.seq
    (.region [⟨some 6, .move (.tmp 0), none⟩,
      ⟨some 7, .lenS (.tmp 6), none⟩,
      ⟨some 8, .move (.tmp 1), none⟩,
      ⟨some 9, .lenS (.tmp 8), none⟩,
      ⟨some 10, .iop .neq (.tmp 7) (.tmp 9), none⟩])
    (.cond (.tmp 10)
     (.seq
      (.region [⟨some 4, .move (.const (.bool false)), none⟩])
      .ret)
     .skip))
   (.seq
    (.seq
     (.region [⟨some 5, .move (.const (.int .i64 0)), none⟩])
     (.block 0
      (.loop [0, 1, 5]
       (.seq
        (.seq
         (.region [⟨some 11, .move (.tmp 5), none⟩,
           ⟨some 12, .move (.tmp 0), none⟩,
           ⟨some 13, .lenS (.tmp 12), none⟩,
           ⟨some 14, .iop .lss (.tmp 11) (.tmp 13), none⟩])
         (.cond (.tmp 14)
          .skip
          (.exit 0)))
        (.seq
         (.block 1
          (.seq
           (.region [⟨some 17, .move (.tmp 0), none⟩,
             ⟨some 18, .move (.tmp 5), none⟩,
             ⟨some 19, .iaddr 1 (.tmp 17) (.tmp 18), none⟩,
             ⟨some 20, .load 1 false (.tmp 19), none⟩,
             ⟨some 21, .move (.tmp 1), none⟩,
             ⟨some 22, .move (.tmp 5), none⟩,
             ⟨some 23, .iaddr 1 (.tmp 21) (.tmp 22), none⟩,
             ⟨some 24, .load 1 false (.tmp 23), none⟩,
             ⟨some 25, .iop .neq (.tmp 20) (.tmp 24), none⟩])
           (.cond (.tmp 25)
            (.seq
             (.region [⟨some 4, .move (.const (.bool false)), none⟩])
             .ret)
            .skip)))
         (.region [⟨some 15, .move (.tmp 5), none⟩,
           ⟨some 16, .iop .add (.tmp 15) (.const (.int .i64 1)), none⟩,
           ⟨some 5, .move (.tmp 16), none⟩]))))))
    (.seq
     (.region [⟨some 4, .move (.const (.bool true)), none⟩])
     .ret)))), [.tmp 4]⟩

/-- (*purlin/purlinref12.Net).To -/
def a91 : AFunc := ⟨35,
 (.seq
  (.region [⟨some 4, .move (.const .nilslice), none⟩])
  (.seq
   (.region [⟨some 5, .move (.const .nilslice), none⟩])
   (.seq
    (.seq
     (.region [⟨some 6, .move (.const (.int .i64 0)), none⟩])
     (.block 0
      (.loop [0, 1, 5, 6]
       (.seq
        (.seq
         (.region [⟨some 7, .move (.tmp 0), none⟩,
           ⟨some 8, .eqnil true .p (.tmp 7), none⟩,
           ⟨some 9, .move (.tmp 8), none⟩,
           ⟨some 10, .move (.tmp 6), some (9, true)⟩,
           ⟨some 11, .move (.tmp 0), some (9, true)⟩,
           ⟨some 12, .nilCheck (.tmp 11), some (9, true)⟩,
           ⟨some 13, .faddr 0 (.tmp 12), some (9, true)⟩,
           ⟨some 14, .load 1 false (.tmp 13), some (9, true)⟩,
           ⟨some 15, .lenS (.tmp 14), some (9, true)⟩,
           ⟨some 16, .iop .lss (.tmp 10) (.tmp 15), some (9, true)⟩,
           ⟨some 17, .pick (.tmp 9) (.tmp 16) (.const (.bool false)), none⟩])
         (.cond (.tmp 17)
          .skip
          (.exit 0)))
        (.seq
         (.block 1
          (.seq
           (.region [⟨some 20, .move (.tmp 0), none⟩,
             ⟨some 21, .nilCheck (.tmp 20), none⟩,
             ⟨some 22, .faddr 0 (.tmp 21), none⟩,
             ⟨some 23, .load 1 false (.tmp 22), none⟩,
             ⟨some 24, .move (.tmp 6), none⟩,
             ⟨some 25, .iaddr 5 (.tmp 23) (.tmp 24), none⟩,
             ⟨some 26, .faddr 1 (.tmp 25), none⟩,
             ⟨some 27, .load 1 false (.tmp 26), none⟩,
             ⟨some 28, .move (.tmp 1), none⟩,
             ⟨some 29, .iop .eql (.tmp 27) (.tmp 28), none⟩])
           (.cond (.tmp 29)
            (.region [⟨some 30, .move (.tmp 5), none⟩,
              ⟨some 31, .move (.tmp 6), none⟩,
              ⟨some 32, .lit 1 [(.int .i64 0)] false 1 [(0, (.tmp 31))], none⟩,
              ⟨some 33, .append 1 8 (.tmp 30) (.tmp 32), none⟩,
              ⟨some 5, .move (.tmp 33), none⟩])
            .skip)))
         (.region [⟨some 18, .move (.tmp 6), none⟩,
           ⟨some 19, .iop .add (.tmp 18) (.const (.int .i64 1)), none⟩,
           ⟨some 6, .move (.tmp 19), none⟩]))))))
    (.seq
     (.region [⟨some 34, .move (.tmp 5), none⟩,
       ⟨some 4, .move (.tmp 34), none⟩])
     .ret)))), [.tmp 4]⟩

/-- purlin/purlinmem.text -/
def a93 : AFunc := ⟨20,
 (.seq
  (.region [⟨some 2, .move (.const (.str [])), none⟩])
  (.seq
   (.region [⟨some 3, .move (.tmp 0), none⟩,
     ⟨some 4, .iop .rem (.tmp 3) (.const (.int .i64 26)), none⟩,
     ⟨some 5, .iop .add (.const (.int .i64 97)) (.tmp 4), none⟩,
     ⟨some 6, .convI .u8 (.tmp 5), none⟩,
     ⟨some 7, .move (.tmp 0), none⟩,
     ⟨some 8, .iop .quo (.tmp 7) (.const (.int .i64 26)), none⟩,
     ⟨some 9, .iop .rem (.tmp 8) (.const (.int .i64 26)), none⟩,
     ⟨some 10, .iop .add (.const (.int .i64 97)) (.tmp 9), none⟩,
     ⟨some 11, .convI .u8 (.tmp 10), none⟩,
     ⟨some 12, .move (.tmp 0), none⟩,
     ⟨some 13, .iop .quo (.tmp 12) (.const (.int .i64 676)), none⟩,
     ⟨some 14, .iop .rem (.tmp 13) (.const (.int .i64 26)), none⟩,
     ⟨some 15, .iop .add (.const (.int .i64 97)) (.tmp 14), none⟩,
     ⟨some 16, .convI .u8 (.tmp 15), none⟩,
     ⟨some 17, .lit 1 [(.int .u8 0)] false 3 [(0, (.tmp 6)), (1, (.tmp 11)), (2, (.tmp 16))], none⟩,
     ⟨some 18, .fail, none⟩,
     ⟨some 19, .sop .add (.const (.str [109, 97, 114, 107, 32])) (.tmp 18), none⟩,
     ⟨some 2, .move (.tmp 19), none⟩])
   .ret)), [.tmp 2]⟩

/-- (*purlin/net.Net).look$1 -/
def a95 : AFunc := ⟨14,
 (.seq
  (.region [⟨some 3, .move (.const (.bool false)), none⟩])
  (.seq
   (.region [⟨some 4, .move (.tmp 0), none⟩,
     ⟨some 5, .iop .geq (.tmp 4) (.const (.int .i64 0)), none⟩,
     ⟨some 6, .move (.tmp 5), none⟩,
     ⟨some 7, .move (.tmp 0), some (6, true)⟩,
     ⟨some 8, .load 1 false (.tmp 1), some (6, true)⟩,
     ⟨some 9, .nilCheck (.tmp 8), some (6, true)⟩,
     ⟨some 10, .faddr 4 (.tmp 9), some (6, true)⟩,
     ⟨some 11, .load 1 false (.tmp 10), some (6, true)⟩,
     ⟨some 12, .iop .lss (.tmp 7) (.tmp 11), some (6, true)⟩,
     ⟨some 13, .pick (.tmp 6) (.tmp 12) (.const (.bool false)), none⟩,
     ⟨some 3, .move (.tmp 13), none⟩])
   .ret)), [.tmp 3]⟩

/-- slices.Concat[[]purlin/api.Datagram,purlin/api.Datagram] -/
def a96 : AFunc := ⟨36,
 (.seq
  (.region [⟨some 2, .move (.const .nilslice), none⟩])
  (.seq
   (.region [⟨some 3, .move (.const (.int .i64 0)), none⟩])
   (.seq
    (.seq
     (.region [⟨some 9, .move (.tmp 0), none⟩,
       ⟨some 10, .lenS (.tmp 9), none⟩,
       ⟨some 11, .move (.const (.int .i64 0)), none⟩])
     (.block 0
      (.loop [0, 3, 9, 10, 11]
       (.seq
        (.region [⟨some 12, .iop .lss (.tmp 11) (.tmp 10), none⟩])
        (.seq
         (.cond (.tmp 12)
          .skip
          (.exit 0))
         (.seq
          (.block 1
           (.seq
            (.region [⟨some 13, .iaddr 1 (.tmp 9) (.tmp 11), none⟩,
              ⟨some 14, .load 1 false (.tmp 13), none⟩,
              ⟨some 5, .move (.tmp 14), none⟩])
            (.seq
             (.region [⟨some 15, .move (.tmp 3), none⟩,
               ⟨some 16, .move (.tmp 5), none⟩,
               ⟨some 17, .lenS (.tmp 16), none⟩,
               ⟨some 18, .iop .add (.tmp 15) (.tmp 17), none⟩,
               ⟨some 3, .move (.tmp 18), none⟩])
             (.seq
              (.region [⟨some 19, .move (.tmp 3), none⟩,
                ⟨some 20, .iop .lss (.tmp 19) (.const (.int .i64 0)), none⟩])
              (.cond (.tmp 20)
               (.region [⟨some 21, .mkiface 9 (.const (.str [108, 101, 110, 32, 111, 117, 116, 32, 111, 102, 32, 114, 97, 110, 103, 101])), none⟩,
                 ⟨none, .fail, none⟩])
               .skip)))))
          (.region [⟨some 22, .iop .add (.tmp 11) (.const (.int .i64 1)), none⟩,
            ⟨some 11, .move (.tmp 22), none⟩])))))))
    (.seq
     (.region [⟨some 23, .move (.tmp 3), none⟩,
       ⟨some 24, .call .shared 100 [(.const .nilslice), (.tmp 23)], none⟩,
       ⟨some 6, .move (.tmp 24), none⟩])
     (.seq
      (.seq
       (.region [⟨some 25, .move (.tmp 0), none⟩,
         ⟨some 26, .lenS (.tmp 25), none⟩,
         ⟨some 27, .move (.const (.int .i64 0)), none⟩])
       (.block 2
        (.loop [6, 25, 26, 27]
         (.seq
          (.region [⟨some 28, .iop .lss (.tmp 27) (.tmp 26), none⟩])
          (.seq
           (.cond (.tmp 28)
            .skip
            (.exit 2))
           (.seq
            (.block 3
             (.seq
              (.region [⟨some 29, .iaddr 1 (.tmp 25) (.tmp 27), none⟩,
                ⟨some 30, .load 1 false (.tmp 29), none⟩,
                ⟨some 8, .move (.tmp 30), none⟩])
              (.region [⟨some 31, .move (.tmp 6), none⟩,
                ⟨some 32, .move (.tmp 8), none⟩,
                ⟨some 33, .append 5 56 (.tmp 31) (.tmp 32), none⟩,
                ⟨some 6, .move (.tmp 33), none⟩])))
            (.region [⟨some 34, .iop .add (.tmp 27) (.const (.int .i64 1)), none⟩,
              ⟨some 27, .move (.tmp 34), none⟩])))))))
      (.seq
       (.region [⟨some 35, .move (.tmp 6), none⟩,
         ⟨some 2, .move (.tmp 35), none⟩])
       .ret)))))), [.tmp 2]⟩

/-- (*purlin/purlinref12.Net).wrong -/
def a97 : AFunc := ⟨58,
 (.seq
  (.region [⟨some 3, .box (.tmp 1), none⟩,
    ⟨some 4, .move (.const (.int .i64 0)), none⟩])
  (.seq
   (.block 0
    (.seq
     (.region [⟨some 6, .faddr 0 (.tmp 3), none⟩,
       ⟨some 7, .load 1 false (.tmp 6), none⟩,
       ⟨some 8, .iop .lss (.tmp 7) (.const (.int .i64 0)), none⟩,
       ⟨some 9, .move (.tmp 8), none⟩,
       ⟨some 10, .faddr 0 (.tmp 3), some (9, false)⟩,
       ⟨some 11, .load 1 false (.tmp 10), some (9, false)⟩,
       ⟨some 12, .move (.tmp 0), some (9, false)⟩,
       ⟨some 13, .nilCheck (.tmp 12), some (9, false)⟩,
       ⟨some 14, .faddr 1 (.tmp 13), some (9, false)⟩,
       ⟨some 15, .load 1 false (.tmp 14), some (9, false)⟩,
       ⟨some 16, .iop .geq (.tmp 11) (.tmp 15), some (9, false)⟩,
       ⟨some 17, .pick (.tmp 9) (.const (.bool true)) (.tmp 16), none⟩,
       ⟨some 18, .move (.tmp 17), none⟩,
       ⟨some 19, .faddr 1 (.tmp 3), some (18, false)⟩,
       ⟨some 20, .load 1 false (.tmp 19), some (18, false)⟩,
       ⟨some 21, .iop .lss (.tmp 20) (.const (.int .i64 0)), some (18, false)⟩,
       ⟨some 22, .pick (.tmp 18) (.const (.bool true)) (.tmp 21), none⟩,
       ⟨some 23, .move (.tmp 22), none⟩,
       ⟨some 24, .faddr 1 (.tmp 3), some (23, false)⟩,
       ⟨some 25, .load 1 false (.tmp 24), some (23, false)⟩,
       ⟨some 26, .move (.tmp 0), some (23, false)⟩,
       ⟨some 27, .nilCheck (.tmp 26), some (23, false)⟩,
       ⟨some 28, .faddr 1 (.tmp 27), some (23, false)⟩,
       ⟨some 29, .load 1 false (.tmp 28), some (23, false)⟩,
       ⟨some 30, .iop .geq (.tmp 25) (.tmp 29), some (23, false)⟩,
       ⟨some 31, .pick (.tmp 23) (.const (.bool true)) (.tmp 30), none⟩,
       ⟨some 32, .move (.tmp 31), none⟩,
       ⟨some 33, .faddr 0 (.tmp 3), some (32, false)⟩,
       ⟨some 34, .load 1 false (.tmp 33), some (32, false)⟩,
       ⟨some 35, .faddr 1 (.tmp 3), some (32, false)⟩,
       ⟨some 36, .load 1 false (.tmp 35), some (32, false)⟩,
       ⟨some 37, .iop .eql (.tmp 34) (.tmp 36), some (32, false)⟩,
       ⟨some 38, .pick (.tmp 32) (.const (.bool true)) (.tmp 37), none⟩,
       ⟨some 39, .move (.tmp 38), none⟩,
       ⟨some 40, .faddr 3 (.tmp 3), some (39, false)⟩,
       ⟨some 41, .load 1 false (.tmp 40), some (39, false)⟩,
       ⟨some 42, .iop .lss (.tmp 41) (.const (.int .i64 0)), some (39, false)⟩,
       ⟨some 43, .pick (.tmp 39) (.const (.bool true)) (.tmp 42), none⟩,
       ⟨some 5, .move (.tmp 43), none⟩])
     (.cond (.tmp 5)
      (.seq
       (.region [⟨some 4, .move (.const (.int .i64 2)), none⟩])
       .ret)
      (.seq
       (.region [⟨some 45, .faddr 4 (.tmp 3), none⟩,
         ⟨some 46, .load 1 false (.tmp 45), none⟩,
         ⟨some 47, .lenS (.tmp 46), none⟩,
         ⟨some 48, .iop .gtr (.tmp 47) (.const (.int .i64 65536)), none⟩,
         ⟨some 44, .move (.tmp 48), none⟩])
       (.cond (.tmp 44)
        (.seq
         (.region [⟨some 4, .move (.const (.int .i64 5)), none⟩])
         .ret)
        (.seq
         (.region [⟨some 50, .faddr 2 (.tmp 3), none⟩,
           ⟨some 51, .load 1 false (.tmp 50), none⟩,
           ⟨some 52, .move (.tmp 51), none⟩,
           ⟨some 53, .faddr 4 (.tmp 3), some (52, true)⟩,
           ⟨some 54, .load 1 false (.tmp 53), some (52, true)⟩,
           ⟨some 55, .lenS (.tmp 54), some (52, true)⟩,
           ⟨some 56, .iop .gtr (.tmp 55) (.const (.int .i64 0)), some (52, true)⟩,
           ⟨some 57, .pick (.tmp 52) (.tmp 56) (.const (.bool false)), none⟩,
           ⟨some 49, .move (.tmp 57), none⟩])
         (.cond (.tmp 49)
          (.seq
           (.region [⟨some 4, .move (.const (.int .i64 6)), none⟩])
           .ret)
          .skip)))))))
   (.seq
    (.region [⟨some 4, .move (.const (.int .i64 0)), none⟩])
    .ret))), [.tmp 4]⟩

/-- (*purlin/purlinref12.Net).at -/
def a98 : AFunc := ⟨18,
 (.seq
  (.region [⟨some 4, .move (.const (.int .i64 0)), none⟩])
  (.seq
   (.seq
    (.region [⟨some 5, .move (.tmp 0), none⟩,
      ⟨some 6, .eqnil false .p (.tmp 5), none⟩])
    (.cond (.tmp 6)
     (.seq
      (.region [⟨some 4, .move (.const (.int .i64 1)), none⟩])
      .ret)
     .skip))
   (.seq
    (.seq
     (.region [⟨some 7, .move (.tmp 1), none⟩,
       ⟨some 8, .iop .lss (.tmp 7) (.const (.int .i64 0)), none⟩,
       ⟨some 9, .move (.tmp 8), none⟩,
       ⟨some 10, .move (.tmp 1), some (9, false)⟩,
       ⟨some 11, .move (.tmp 0), some (9, false)⟩,
       ⟨some 12, .nilCheck (.tmp 11), some (9, false)⟩,
       ⟨some 13, .faddr 0 (.tmp 12), some (9, false)⟩,
       ⟨some 14, .load 1 false (.tmp 13), some (9, false)⟩,
       ⟨some 15, .lenS (.tmp 14), some (9, false)⟩,
       ⟨some 16, .iop .geq (.tmp 10) (.tmp 15), some (9, false)⟩,
       ⟨some 17, .pick (.tmp 9) (.const (.bool true)) (.tmp 16), none⟩])
     (.cond (.tmp 17)
      (.seq
       (.region [⟨some 4, .move (.const (.int .i64 4)), none⟩])
       .ret)
      .skip))
    (.seq
     (.region [⟨some 4, .move (.const (.int .i64 0)), none⟩])
     .ret)))), [.tmp 4]⟩

/-- (*purlin/purlinref12.Net).out -/
def a99 : AFunc := ⟨45,
 (.seq
  (.region [⟨some 6, .alloc [(.int .i64 0), (.int .i64 0), (.bool false), (.int .i64 0), .nilslice], none⟩])
  (.seq
   (.region [⟨some 8, .move (.tmp 0), none⟩,
     ⟨some 9, .nilCheck (.tmp 8), none⟩,
     ⟨some 10, .faddr 0 (.tmp 9), none⟩,
     ⟨some 11, .load 1 false (.tmp 10), none⟩,
     ⟨some 12, .move (.tmp 1), none⟩,
     ⟨some 13, .iaddr 5 (.tmp 11) (.tmp 12), none⟩,
     ⟨some 14, .load 5 true (.tmp 13), none⟩,
     ⟨some 7, .alloc [(.int .i64 0), (.int .i64 0), (.bool false), (.int .i64 0), .nilslice], none⟩,
     ⟨none, .store 5 (.tmp 7) (.tmp 14), none⟩])
   (.seq
    (.drawn [⟨some 15, .move (.tmp 0), none⟩,
      ⟨some 16, .lit 5 [(.int .i64 0), (.int .i64 0), (.bool false), (.int .i64 0), .nilslice] true 0 [], none⟩,
      ⟨some 17, .move (.tmp 0), none⟩,
      ⟨some 18, .nilCheck (.tmp 17), none⟩,
      ⟨some 19, .faddr 0 (.tmp 18), none⟩,
      ⟨some 20, .load 1 false (.tmp 19), none⟩,
      ⟨some 21, .move (.tmp 1), none⟩,
      ⟨some 22, .sliceOp 5 (.tmp 20) none (some (.tmp 21)) none, none⟩,
      ⟨some 23, .append 5 56 (.tmp 16) (.tmp 22), none⟩,
      ⟨some 24, .move (.tmp 0), none⟩,
      ⟨some 25, .nilCheck (.tmp 24), none⟩,
      ⟨some 26, .faddr 0 (.tmp 25), none⟩,
      ⟨some 27, .load 1 false (.tmp 26), none⟩,
      ⟨some 28, .move (.tmp 1), none⟩,
      ⟨some 29, .iop .add (.tmp 28) (.const (.int .i64 1)), none⟩,
      ⟨some 30, .sliceOp 5 (.tmp 27) (some (.tmp 29)) none none, none⟩,
      ⟨some 31, .append 5 56 (.tmp 23) (.tmp 30), none⟩,
      ⟨some 32, .nilCheck (.tmp 15), none⟩,
      ⟨some 33, .faddr 0 (.tmp 32), none⟩,
      ⟨none, .store 1 (.tmp 33) (.tmp 31), none⟩] [(12, 8)])
    (.seq
     (.region [⟨some 34, .move (.tmp 0), none⟩,
       ⟨some 35, .move (.tmp 2), none⟩,
       ⟨some 36, .nilCheck (.tmp 34), none⟩,
       ⟨some 37, .faddr 2 (.tmp 36), none⟩,
       ⟨some 38, .aaddr 4 1 (.tmp 37) (.tmp 35), none⟩,
       ⟨some 39, .load 1 false (.tmp 38), none⟩,
       ⟨some 40, .iop .add (.tmp 39) (.const (.int .i64 1)), none⟩,
       ⟨some 41, .nilCheck (.tmp 34), none⟩,
       ⟨some 42, .faddr 2 (.tmp 41), none⟩,
       ⟨some 43, .aaddr 4 1 (.tmp 42) (.tmp 35), none⟩,
       ⟨none, .store 1 (.tmp 43) (.tmp 40), none⟩])
     (.seq
      (.region [⟨some 44, .load 5 true (.tmp 7), none⟩,
        ⟨none, .store 5 (.tmp 6) (.tmp 44), none⟩])
      .ret))))), [.cell 6 5 true]⟩

/-- slices.Grow[[]purlin/api.Datagram,purlin/api.Datagram] -/
def a100 : AFunc := ⟨27,
 (.seq
  (.region [⟨some 4, .move (.const .nilslice), none⟩])
  (.seq
   (.seq
    (.region [⟨some 5, .move (.tmp 1), none⟩,
      ⟨some 6, .iop .lss (.tmp 5) (.const (.int .i64 0)), none⟩])
    (.cond (.tmp 6)
     (.region [⟨some 7, .mkiface 9 (.const (.str [99, 97, 110, 110, 111, 116, 32, 98, 101, 32, 110, 101, 103, 97, 116, 105, 118, 101])), none⟩,
       ⟨none, .fail, none⟩])
     .skip))
   (.seq
    (.seq
     (.region [⟨some 8, .move (.tmp 1), none⟩,
       ⟨some 9, .move (.tmp 0), none⟩,
       ⟨some 10, .capS (.tmp 9), none⟩,
       ⟨some 11, .move (.tmp 0), none⟩,
       ⟨some 12, .lenS (.tmp 11), none⟩,
       ⟨some 13, .iop .sub (.tmp 10) (.tmp 12), none⟩,
       ⟨some 14, .iop .sub (.tmp 8) (.tmp 13), none⟩,
       ⟨some 1, .move (.tmp 14), none⟩])
     (.seq
      (.region [⟨some 15, .move (.tmp 1), none⟩,
        ⟨some 16, .iop .gtr (.tmp 15) (.const (.int .i64 0)), none⟩])
      (.cond (.tmp 16)
       (.region [⟨some 17, .move (.tmp 0), none⟩,
         ⟨some 18, .move (.tmp 0), none⟩,
         ⟨some 19, .capS (.tmp 18), none⟩,
         ⟨some 20, .sliceOp 5 (.tmp 17) none (some (.tmp 19)) none, none⟩,
         ⟨some 21, .move (.tmp 1), none⟩,
         ⟨some 22, .appendz 5 56 [(.int .i64 0), (.int .i64 0), (.bool false), (.int .i64 0), .nilslice] true (.tmp 20) (.tmp 21), none⟩,
         ⟨some 23, .move (.tmp 0), none⟩,
         ⟨some 24, .lenS (.tmp 23), none⟩,
         ⟨some 25, .sliceOp 5 (.tmp 22) none (some (.tmp 24)) none, none⟩,
         ⟨some 0, .move (.tmp 25), none⟩])
       .skip)))
    (.seq
     (.region [⟨some 26, .move (.tmp 0), none⟩,
       ⟨some 4, .move (.tmp 26), none⟩])
     .ret)))), [.tmp 4]⟩


def ir : FuncId → Option AFunc
  | 9 => some a9
  | 10 => some a10
  | 11 => some a11
  | 12 => some a12
  | 13 => some a13
  | 14 => some a14
  | 20 => some a20
  | 24 => some a24
  | 26 => some a26
  | 27 => some a27
  | 42 => some a42
  | 43 => some a43
  | 44 => some a44
  | 45 => some a45
  | 46 => some a46
  | 47 => some a47
  | 48 => some a48
  | 49 => some a49
  | 50 => some a50
  | 51 => some a51
  | 52 => some a52
  | 53 => some a53
  | 54 => some a54
  | 55 => some a55
  | 56 => some a56
  | 57 => some a57
  | 58 => some a58
  | 59 => some a59
  | 60 => some a60
  | 61 => some a61
  | 65 => some a65
  | 67 => some a67
  | 68 => some a68
  | 69 => some a69
  | 70 => some a70
  | 71 => some a71
  | 78 => some a78
  | 79 => some a79
  | 80 => some a80
  | 81 => some a81
  | 82 => some a82
  | 83 => some a83
  | 84 => some a84
  | 85 => some a85
  | 86 => some a86
  | 87 => some a87
  | 88 => some a88
  | 89 => some a89
  | 90 => some a90
  | 91 => some a91
  | 93 => some a93
  | 95 => some a95
  | 96 => some a96
  | 97 => some a97
  | 98 => some a98
  | 99 => some a99
  | 100 => some a100
  | _ => none
def cfg : Cfg := ⟨ir, fun f => f, fun _ => none⟩

theorem ok9 : FnOk cfg Try.prog 9 a9 := ⟨⟨Try.f9, _, Try.func9, by decide, rfl, rfl, by kernel_rfl, by kernel_rfl⟩⟩
theorem ok10 : FnOk cfg Try.prog 10 a10 := ⟨⟨Try.f10, _, Try.func10, by decide, rfl, rfl, by kernel_rfl, by kernel_rfl⟩⟩
theorem ok11 : FnOk cfg Try.prog 11 a11 := ⟨⟨Try.f11, _, Try.func11, by decide, rfl, rfl, by kernel_rfl, by kernel_rfl⟩⟩
theorem ok12 : FnOk cfg Try.prog 12 a12 := ⟨⟨Try.f12, _, Try.func12, by decide, rfl, rfl, by kernel_rfl, by kernel_rfl⟩⟩
theorem ok13 : FnOk cfg Try.prog 13 a13 := ⟨⟨Try.f13, _, Try.func13, by decide, rfl, rfl, by kernel_rfl, by kernel_rfl⟩⟩
theorem ok14 : FnOk cfg Try.prog 14 a14 := ⟨⟨Try.f14, _, Try.func14, by decide, rfl, rfl, by kernel_rfl, by kernel_rfl⟩⟩
theorem ok20 : FnOk cfg Try.prog 20 a20 := ⟨⟨Try.f20, _, Try.func20, by decide, rfl, rfl, by kernel_rfl, by kernel_rfl⟩⟩
theorem ok24 : FnOk cfg Try.prog 24 a24 := ⟨⟨Try.f24, _, Try.func24, by decide, rfl, rfl, by kernel_rfl, by kernel_rfl⟩⟩
theorem ok26 : FnOk cfg Try.prog 26 a26 := ⟨⟨Try.f26, _, Try.func26, by decide, rfl, rfl, by kernel_rfl, by kernel_rfl⟩⟩
theorem ok27 : FnOk cfg Try.prog 27 a27 := ⟨⟨Try.f27, _, Try.func27, by decide, rfl, rfl, by kernel_rfl, by kernel_rfl⟩⟩
theorem ok42 : FnOk cfg Try.prog 42 a42 := ⟨⟨Try.f42, _, Try.func42, by decide, rfl, rfl, by kernel_rfl, by kernel_rfl⟩⟩
theorem ok43 : FnOk cfg Try.prog 43 a43 := ⟨⟨Try.f43, _, Try.func43, by decide, rfl, rfl, by kernel_rfl, by kernel_rfl⟩⟩
theorem ok44 : FnOk cfg Try.prog 44 a44 := ⟨⟨Try.f44, _, Try.func44, by decide, rfl, rfl, by kernel_rfl, by kernel_rfl⟩⟩
theorem ok45 : FnOk cfg Try.prog 45 a45 := ⟨⟨Try.f45, _, Try.func45, by decide, rfl, rfl, by kernel_rfl, by kernel_rfl⟩⟩
theorem ok46 : FnOk cfg Try.prog 46 a46 := ⟨⟨Try.f46, _, Try.func46, by decide, rfl, rfl, by kernel_rfl, by kernel_rfl⟩⟩
theorem ok47 : FnOk cfg Try.prog 47 a47 := ⟨⟨Try.f47, _, Try.func47, by decide, rfl, rfl, by kernel_rfl, by kernel_rfl⟩⟩
theorem ok48 : FnOk cfg Try.prog 48 a48 := ⟨⟨Try.f48, _, Try.func48, by decide, rfl, rfl, by kernel_rfl, by kernel_rfl⟩⟩
theorem ok49 : FnOk cfg Try.prog 49 a49 := ⟨⟨Try.f49, _, Try.func49, by decide, rfl, rfl, by kernel_rfl, by kernel_rfl⟩⟩
theorem ok50 : FnOk cfg Try.prog 50 a50 := ⟨⟨Try.f50, _, Try.func50, by decide, rfl, rfl, by kernel_rfl, by kernel_rfl⟩⟩
theorem ok51 : FnOk cfg Try.prog 51 a51 := ⟨⟨Try.f51, _, Try.func51, by decide, rfl, rfl, by kernel_rfl, by kernel_rfl⟩⟩
theorem ok52 : FnOk cfg Try.prog 52 a52 := ⟨⟨Try.f52, _, Try.func52, by decide, rfl, rfl, by kernel_rfl, by kernel_rfl⟩⟩
theorem ok53 : FnOk cfg Try.prog 53 a53 := ⟨⟨Try.f53, _, Try.func53, by decide, rfl, rfl, by kernel_rfl, by kernel_rfl⟩⟩
theorem ok54 : FnOk cfg Try.prog 54 a54 := ⟨⟨Try.f54, _, Try.func54, by decide, rfl, rfl, by kernel_rfl, by kernel_rfl⟩⟩
theorem ok55 : FnOk cfg Try.prog 55 a55 := ⟨⟨Try.f55, _, Try.func55, by decide, rfl, rfl, by kernel_rfl, by kernel_rfl⟩⟩
theorem ok56 : FnOk cfg Try.prog 56 a56 := ⟨⟨Try.f56, _, Try.func56, by decide, rfl, rfl, by kernel_rfl, by kernel_rfl⟩⟩
theorem ok57 : FnOk cfg Try.prog 57 a57 := ⟨⟨Try.f57, _, Try.func57, by decide, rfl, rfl, by kernel_rfl, by kernel_rfl⟩⟩
theorem ok58 : FnOk cfg Try.prog 58 a58 := ⟨⟨Try.f58, _, Try.func58, by decide, rfl, rfl, by kernel_rfl, by kernel_rfl⟩⟩
theorem ok59 : FnOk cfg Try.prog 59 a59 := ⟨⟨Try.f59, _, Try.func59, by decide, rfl, rfl, by kernel_rfl, by kernel_rfl⟩⟩
theorem ok60 : FnOk cfg Try.prog 60 a60 := ⟨⟨Try.f60, _, Try.func60, by decide, rfl, rfl, by kernel_rfl, by kernel_rfl⟩⟩
theorem ok61 : FnOk cfg Try.prog 61 a61 := ⟨⟨Try.f61, _, Try.func61, by decide, rfl, rfl, by kernel_rfl, by kernel_rfl⟩⟩
theorem ok65 : FnOk cfg Try.prog 65 a65 := ⟨⟨Try.f65, _, Try.func65, by decide, rfl, rfl, by kernel_rfl, by kernel_rfl⟩⟩
theorem ok67 : FnOk cfg Try.prog 67 a67 := ⟨⟨Try.f67, _, Try.func67, by decide, rfl, rfl, by kernel_rfl, by kernel_rfl⟩⟩
theorem ok68 : FnOk cfg Try.prog 68 a68 := ⟨⟨Try.f68, _, Try.func68, by decide, rfl, rfl, by kernel_rfl, by kernel_rfl⟩⟩
theorem ok69 : FnOk cfg Try.prog 69 a69 := ⟨⟨Try.f69, _, Try.func69, by decide, rfl, rfl, by kernel_rfl, by kernel_rfl⟩⟩
theorem ok70 : FnOk cfg Try.prog 70 a70 := ⟨⟨Try.f70, _, Try.func70, by decide, rfl, rfl, by kernel_rfl, by kernel_rfl⟩⟩
theorem ok71 : FnOk cfg Try.prog 71 a71 := ⟨⟨Try.f71, _, Try.func71, by decide, rfl, rfl, by kernel_rfl, by kernel_rfl⟩⟩
theorem ok78 : FnOk cfg Try.prog 78 a78 := ⟨⟨Try.f78, _, Try.func78, by decide, rfl, rfl, by kernel_rfl, by kernel_rfl⟩⟩
theorem ok79 : FnOk cfg Try.prog 79 a79 := ⟨⟨Try.f79, _, Try.func79, by decide, rfl, rfl, by kernel_rfl, by kernel_rfl⟩⟩
theorem ok80 : FnOk cfg Try.prog 80 a80 := ⟨⟨Try.f80, _, Try.func80, by decide, rfl, rfl, by kernel_rfl, by kernel_rfl⟩⟩
theorem ok81 : FnOk cfg Try.prog 81 a81 := ⟨⟨Try.f81, _, Try.func81, by decide, rfl, rfl, by kernel_rfl, by kernel_rfl⟩⟩
theorem ok82 : FnOk cfg Try.prog 82 a82 := ⟨⟨Try.f82, _, Try.func82, by decide, rfl, rfl, by kernel_rfl, by kernel_rfl⟩⟩
theorem ok83 : FnOk cfg Try.prog 83 a83 := ⟨⟨Try.f83, _, Try.func83, by decide, rfl, rfl, by kernel_rfl, by kernel_rfl⟩⟩
theorem ok84 : FnOk cfg Try.prog 84 a84 := ⟨⟨Try.f84, _, Try.func84, by decide, rfl, rfl, by kernel_rfl, by kernel_rfl⟩⟩
theorem ok85 : FnOk cfg Try.prog 85 a85 := ⟨⟨Try.f85, _, Try.func85, by decide, rfl, rfl, by kernel_rfl, by kernel_rfl⟩⟩
theorem ok86 : FnOk cfg Try.prog 86 a86 := ⟨⟨Try.f86, _, Try.func86, by decide, rfl, rfl, by kernel_rfl, by kernel_rfl⟩⟩
theorem ok87 : FnOk cfg Try.prog 87 a87 := ⟨⟨Try.f87, _, Try.func87, by decide, rfl, rfl, by kernel_rfl, by kernel_rfl⟩⟩
theorem ok88 : FnOk cfg Try.prog 88 a88 := ⟨⟨Try.f88, _, Try.func88, by decide, rfl, rfl, by kernel_rfl, by kernel_rfl⟩⟩
theorem ok89 : FnOk cfg Try.prog 89 a89 := ⟨⟨Try.f89, _, Try.func89, by decide, rfl, rfl, by kernel_rfl, by kernel_rfl⟩⟩
theorem ok90 : FnOk cfg Try.prog 90 a90 := ⟨⟨Try.f90, _, Try.func90, by decide, rfl, rfl, by kernel_rfl, by kernel_rfl⟩⟩
theorem ok91 : FnOk cfg Try.prog 91 a91 := ⟨⟨Try.f91, _, Try.func91, by decide, rfl, rfl, by kernel_rfl, by kernel_rfl⟩⟩
theorem ok93 : FnOk cfg Try.prog 93 a93 := ⟨⟨Try.f93, _, Try.func93, by decide, rfl, rfl, by kernel_rfl, by kernel_rfl⟩⟩
theorem ok95 : FnOk cfg Try.prog 95 a95 := ⟨⟨Try.f95, _, Try.func95, by decide, rfl, rfl, by kernel_rfl, by kernel_rfl⟩⟩
theorem ok96 : FnOk cfg Try.prog 96 a96 := ⟨⟨Try.f96, _, Try.func96, by decide, rfl, rfl, by kernel_rfl, by kernel_rfl⟩⟩
theorem ok97 : FnOk cfg Try.prog 97 a97 := ⟨⟨Try.f97, _, Try.func97, by decide, rfl, rfl, by kernel_rfl, by kernel_rfl⟩⟩
theorem ok98 : FnOk cfg Try.prog 98 a98 := ⟨⟨Try.f98, _, Try.func98, by decide, rfl, rfl, by kernel_rfl, by kernel_rfl⟩⟩
theorem ok99 : FnOk cfg Try.prog 99 a99 := ⟨⟨Try.f99, _, Try.func99, by decide, rfl, rfl, by kernel_rfl, by kernel_rfl⟩⟩
theorem ok100 : FnOk cfg Try.prog 100 a100 := ⟨⟨Try.f100, _, Try.func100, by decide, rfl, rfl, by kernel_rfl, by kernel_rfl⟩⟩

theorem all : ∀ f fn, cfg.ir f = some fn → FnOk cfg Try.prog f fn := by
  intro f fn h
  have h' : ir f = some fn := h
  unfold ir at h'
  split at h'
  · injection h' with h'; subst h'; exact ok9
  · injection h' with h'; subst h'; exact ok10
  · injection h' with h'; subst h'; exact ok11
  · injection h' with h'; subst h'; exact ok12
  · injection h' with h'; subst h'; exact ok13
  · injection h' with h'; subst h'; exact ok14
  · injection h' with h'; subst h'; exact ok20
  · injection h' with h'; subst h'; exact ok24
  · injection h' with h'; subst h'; exact ok26
  · injection h' with h'; subst h'; exact ok27
  · injection h' with h'; subst h'; exact ok42
  · injection h' with h'; subst h'; exact ok43
  · injection h' with h'; subst h'; exact ok44
  · injection h' with h'; subst h'; exact ok45
  · injection h' with h'; subst h'; exact ok46
  · injection h' with h'; subst h'; exact ok47
  · injection h' with h'; subst h'; exact ok48
  · injection h' with h'; subst h'; exact ok49
  · injection h' with h'; subst h'; exact ok50
  · injection h' with h'; subst h'; exact ok51
  · injection h' with h'; subst h'; exact ok52
  · injection h' with h'; subst h'; exact ok53
  · injection h' with h'; subst h'; exact ok54
  · injection h' with h'; subst h'; exact ok55
  · injection h' with h'; subst h'; exact ok56
  · injection h' with h'; subst h'; exact ok57
  · injection h' with h'; subst h'; exact ok58
  · injection h' with h'; subst h'; exact ok59
  · injection h' with h'; subst h'; exact ok60
  · injection h' with h'; subst h'; exact ok61
  · injection h' with h'; subst h'; exact ok65
  · injection h' with h'; subst h'; exact ok67
  · injection h' with h'; subst h'; exact ok68
  · injection h' with h'; subst h'; exact ok69
  · injection h' with h'; subst h'; exact ok70
  · injection h' with h'; subst h'; exact ok71
  · injection h' with h'; subst h'; exact ok78
  · injection h' with h'; subst h'; exact ok79
  · injection h' with h'; subst h'; exact ok80
  · injection h' with h'; subst h'; exact ok81
  · injection h' with h'; subst h'; exact ok82
  · injection h' with h'; subst h'; exact ok83
  · injection h' with h'; subst h'; exact ok84
  · injection h' with h'; subst h'; exact ok85
  · injection h' with h'; subst h'; exact ok86
  · injection h' with h'; subst h'; exact ok87
  · injection h' with h'; subst h'; exact ok88
  · injection h' with h'; subst h'; exact ok89
  · injection h' with h'; subst h'; exact ok90
  · injection h' with h'; subst h'; exact ok91
  · injection h' with h'; subst h'; exact ok93
  · injection h' with h'; subst h'; exact ok95
  · injection h' with h'; subst h'; exact ok96
  · injection h' with h'; subst h'; exact ok97
  · injection h' with h'; subst h'; exact ok98
  · injection h' with h'; subst h'; exact ok99
  · injection h' with h'; subst h'; exact ok100
  · cases h'
end Go.Proofs.Ytmocplkpnickgaa.Am.CN

/-
  purlinmem, bytes: equality, copies (for a code without journal).
-/
namespace Go.Proofs.Ytmocplkpnickgaa.Am
open Go
set_option linter.unusedVariables false
set_option linter.unusedSimpArgs false




section
variable (d : Nat) (σ : Store)

theorem same_ok (a b : AVal) (x y : List UInt8) (hx : x.length < 2 ^ 40) (ha : SlOf σ 1 a (B x)) (hb : SlOf σ 1 b (B y)) : Called CN.cfg d 20 [a, b] σ fun v σ' => v = .bool (decide (x = y)) ∧ σ' = σ := by
  refine called_of (fn := CN.a20) rfl (Nat.le_of_ble_eq_true rfl) ?_
  have la := ha.len
  have lb := hb.len
  rw [B_len] at la lb
  simp only [CN.a20]
  simp -dsimp only [↓WPd, ↓wpC_block, ↓wpC_cond, WPu, Bool.false_eq_true, Bool.true_eq_false, Bool.not_true, Bool.not_false, if_true, if_false, ite_true, ite_false, Nat.reduceEqDiff, Nat.reduceLT, true_and, List.map_cons, List.map_nil, Nat.zero_add, Nat.reduceBEq, la, lb]
  refine condP_intro (fun h => ?_) (fun h => ?_)
  · have h' : x.length ≠ y.length := fun e => by rw [e] at h; simp at h
    simp -dsimp only [↓WPd, ↓wpC_block, ↓wpC_cond, WPu, Bool.false_eq_true, Bool.true_eq_false, Bool.not_true, Bool.not_false, if_true, if_false, ite_true, ite_false, Nat.reduceEqDiff, Nat.reduceLT, true_and, List.map_cons, List.map_nil, Nat.zero_add, Nat.reduceBEq]
    have : x ≠ y := fun e => h' (by rw [e])
    simp [this]
  · have h' : x.length = y.length := by simp at h; omega
    simp -dsimp only [↓WPd, ↓wpC_block, ↓wpC_cond, WPu, Bool.false_eq_true, Bool.true_eq_false, Bool.not_true, Bool.not_false, if_true, if_false, ite_true, ite_false, Nat.reduceEqDiff, Nat.reduceLT, true_and, List.map_cons, List.map_nil, Nat.zero_add, Nat.reduceBEq]
    refine loop_rule (fun m vs σ' => ∃ k : Nat, k ≤ x.length ∧ m = x.length - k ∧ σ' = σ ∧ x.take k = y.take k ∧ vs = [a, b, .int .i64 k]) x.length ⟨0, Nat.zero_le _, rfl, rfl, rfl, ?_⟩ ?_
    · simp -dsimp only [↓WPd, ↓wpC_block, ↓wpC_cond, WPu, Bool.false_eq_true, Bool.true_eq_false, Bool.not_true, Bool.not_false, if_true, if_false, ite_true, ite_false, Nat.reduceEqDiff, Nat.reduceLT, true_and, List.map_cons, List.map_nil, Nat.zero_add, Nat.reduceBEq]; rfl
    · rintro m vs σ' ⟨k, hk, rfl, rfl, he, rfl⟩
      simp -dsimp only [↓WPd, ↓wpC_block, ↓wpC_cond, WPu, Bool.false_eq_true, Bool.true_eq_false, Bool.not_true, Bool.not_false, if_true, if_false, ite_true, ite_false, Nat.reduceEqDiff, Nat.reduceLT, true_and, List.map_cons, List.map_nil, Nat.zero_add, Nat.reduceBEq, la]
      refine condP_dec (fun h => ?_) (fun h => ?_)
      · have hkx : k < x.length := by omega
        have hky : k < y.length := by omega
        have hi : k < (B x).length := by rw [B_len]; exact hkx
        have hj : k < (B y).length := by rw [B_len]; exact hky
        simp -dsimp only [↓WPd, ↓wpC_block, ↓wpC_cond, WPu, Bool.false_eq_true, Bool.true_eq_false, Bool.not_true, Bool.not_false, if_true, if_false, ite_true, ite_false, Nat.reduceEqDiff, Nat.reduceLT, true_and, List.map_cons, List.map_nil, Nat.zero_add, Nat.reduceBEq, ha.iaddr hi, ha.load1 hi (by rw [B_get]; rfl), hb.iaddr hj, hb.load1 hj (by rw [B_get]; rfl), B_get, byte_neq]
        refine condP_dec (fun h => ?_) (fun h => ?_)
        · simp -dsimp only [↓WPd, ↓wpC_block, ↓wpC_cond, WPu, Bool.false_eq_true, Bool.true_eq_false, Bool.not_true, Bool.not_false, if_true, if_false, ite_true, ite_false, Nat.reduceEqDiff, Nat.reduceLT, true_and, List.map_cons, List.map_nil, Nat.zero_add, Nat.reduceBEq]
          have : x ≠ y := fun e => h (by subst e; rfl)
          simp [this]
        · simp -dsimp only [↓WPd, ↓wpC_block, ↓wpC_cond, WPu, Bool.false_eq_true, Bool.true_eq_false, Bool.not_true, Bool.not_false, if_true, if_false, ite_true, ite_false, Nat.reduceEqDiff, Nat.reduceLT, true_and, List.map_cons, List.map_nil, Nat.zero_add, Nat.reduceBEq]
          have e : x[k] = y[k] := Classical.not_not.1 h
          refine ⟨x.length - (k + 1), by omega, k + 1, by omega, rfl, take_succ_eq hkx hky he e, ?_⟩
          rw [wrap_i64 (by omega) (by omega), Int.natCast_add, Int.natCast_one]
      · simp -dsimp only [↓WPd, ↓wpC_block, ↓wpC_cond, WPu, Bool.false_eq_true, Bool.true_eq_false, Bool.not_true, Bool.not_false, if_true, if_false, ite_true, ite_false, Nat.reduceEqDiff, Nat.reduceLT, true_and, List.map_cons, List.map_nil, Nat.zero_add, Nat.reduceBEq]
        have hk' : k = x.length := by omega
        subst hk'
        have : x = y := by rw [List.take_length, h', List.take_length] at he; exact he
        simp [this]

theorem clone_ok (b : AVal) (bs : List UInt8) (hs : bs.length < 2 ^ 40) (hb : SlOf σ 1 b (B bs)) : Called CN.cfg d 65 [b] σ fun v σ' => Grows σ σ' ∧ Own σ' 1 v (B bs) ∧ Fresh σ.length v ∧ NoLit v := by
  refine called_of (fn := CN.a65) rfl (Nat.le_of_ble_eq_true rfl) ?_
  obtain ⟨x, hx, hx'⟩ := hb.isnil
  simp only [CN.a65]
  simp -dsimp only [↓WPd, ↓wpC_block, ↓wpC_cond, WPu, Bool.false_eq_true, Bool.true_eq_false, Bool.not_true, Bool.not_false, if_true, if_false, ite_true, ite_false, Nat.reduceEqDiff, Nat.reduceLT, true_and, List.map_cons, List.map_nil, Nat.zero_add, Nat.reduceBEq, hx, Bool.false_eq_true]
  refine condP_intro (fun h => ?_) (fun h => ?_)
  · obtain ⟨rfl, he⟩ := hx' h
    simp -dsimp only [↓WPd, ↓wpC_block, ↓wpC_cond, WPu, Bool.false_eq_true, Bool.true_eq_false, Bool.not_true, Bool.not_false, if_true, if_false, ite_true, ite_false, Nat.reduceEqDiff, Nat.reduceLT, true_and, List.map_cons, List.map_nil, Nat.zero_add, Nat.reduceBEq]
    exact ⟨Keeps.refl _ _, by rw [he]; exact Own.nil _ _, (fun id h => by cases h), trivial⟩
  · simp -dsimp only [↓WPd, ↓wpC_block, ↓wpC_cond, WPu, Bool.false_eq_true, Bool.true_eq_false, Bool.not_true, Bool.not_false, if_true, if_false, ite_true, ite_false, Nat.reduceEqDiff, Nat.reduceLT, true_and, List.map_cons, List.map_nil, Nat.zero_add, Nat.reduceBEq, hb.els]
    refine stepP_of [] rfl ?_
    have ho : Own σ 1 (.fslice (AVal.tagL []) true 1 []) [] := ⟨.inr (.inl ⟨_, rfl⟩)⟩
    obtain ⟨v', σ', h1, h2, h3, h4, h5⟩ := ho.append (B bs) 1 (by rw [B_len]; simp; omega)
    simp -dsimp only [↓WPd, ↓wpC_block, ↓wpC_cond, WPu, Bool.false_eq_true, Bool.true_eq_false, Bool.not_true, Bool.not_false, if_true, if_false, ite_true, ite_false, Nat.reduceEqDiff, Nat.reduceLT, true_and, List.map_cons, List.map_nil, Nat.zero_add, Nat.reduceBEq, hb.els, h1]
    refine ⟨h3.mono (fun i _ h => by cases h), by simpa using h2, fun id hid => ?_, h5 (.inl rfl)⟩
    rcases h4 id hid with h | h
    · cases h
    · omega
end
end Go.Proofs.Ytmocplkpnickgaa.Am

/-
  Net: datagrams; are two the same; a copy; what is wrong with one.
-/
namespace Go.Proofs.Ytmocplkpnickgaa.Am
open Go
set_option linter.unusedVariables false
set_option linter.unusedSimpArgs false
set_option linter.unusedSectionVars false
set_option maxRecDepth 100000

structure Dg where
  f : Int
  t : Int
  ack : Bool
  s : Int
  bs : List UInt8
  deriving DecidableEq
def Dg.val (d : Dg) (e : AVal) : AVal := .agg [.int .i64 d.f, .int .i64 d.t, .bool d.ack, .int .i64 d.s, e]
/-- a datagram that can be looked at; F: where its bytes may lie -/
def DgOk (σ : Store) (F : Nat → Prop) (x : AVal) (d : Dg) : Prop := ∃ e, x = d.val e ∧ SlOf σ 1 e (B d.bs) ∧ ∀ j, e.sid = some j → F j
/-- .. with bytes of its own -/
def DgOwn (σ : Store) (F : Nat → Prop) (x : AVal) (d : Dg) : Prop := ∃ e, x = d.val e ∧ Own σ 1 e (B d.bs) ∧ ∀ j, e.sid = some j → F j

section
variable {σ σ' : Store} {F G M : Nat → Prop} {x : AVal} {d : Dg}
theorem DgOwn.ok (h : DgOwn σ F x d) : DgOk σ F x d := by obtain ⟨e, h1, h2, h3⟩ := h; exact ⟨e, h1, h2.sl, h3⟩
theorem DgOk.keeps (h : DgOk σ F x d) (k : Keeps M σ σ') (hm : ∀ j, F j → ¬ M j) : DgOk σ' F x d := by obtain ⟨e, h1, h2, h3⟩ := h; exact ⟨e, h1, h2.keeps k fun j hj => hm j (h3 j hj), h3⟩
theorem DgOwn.keeps (h : DgOwn σ F x d) (k : Keeps M σ σ') (hm : ∀ j, F j → ¬ M j) : DgOwn σ' F x d := by obtain ⟨e, h1, h2, h3⟩ := h; exact ⟨e, h1, h2.keeps k fun j hj => hm j (h3 j hj), h3⟩
theorem DgOk.grow (h : DgOk σ F x d) (k : Grows σ σ') : DgOk σ' F x d := h.keeps k fun _ _ h => h
theorem DgOwn.grow (h : DgOwn σ F x d) (k : Grows σ σ') : DgOwn σ' F x d := h.keeps k fun _ _ h => h
theorem DgOk.mono (h : DgOk σ F x d) (hm : ∀ j, F j → G j) : DgOk σ G x d := by obtain ⟨e, h1, h2, h3⟩ := h; exact ⟨e, h1, h2, fun j hj => hm j (h3 j hj)⟩
theorem DgOwn.mono (h : DgOwn σ F x d) (hm : ∀ j, F j → G j) : DgOwn σ G x d := by obtain ⟨e, h1, h2, h3⟩ := h; exact ⟨e, h1, h2, fun j hj => hm j (h3 j hj)⟩
theorem all5 {e : AVal} (he : e.one = true) (a b c : Int) (q : Bool) : [AVal.int .i64 a, .int .i64 b, .bool q, .int .i64 c, e].all AVal.one = true := by
  cases e <;> first | (cases he; done) | rfl
end

section
variable (d : Nat) (σ : Store)

set_option maxHeartbeats 2000000 in
theorem samedg_ok {F G : Nat → Prop} (x y : AVal) (p q : Dg) (hx : DgOk σ F x p) (hy : DgOk σ G y q) (hp : p.bs.length < 2 ^ 40) :
    Called CN.cfg d 49 [x, y] σ fun v σ' => v = .bool (decide (p = q)) ∧ Grows σ σ' := by
  obtain ⟨e, rfl, he, -⟩ := hx
  obtain ⟨f, rfl, hf, -⟩ := hy
  refine called_of (fn := CN.a49) rfl (Nat.le_of_ble_eq_true rfl) ?_
  simp only [CN.a49, Dg.val]
  simp -dsimp only [↓WPd, ↓wpC_block, ↓wpC_cond, WPu, Bool.false_eq_true, Bool.true_eq_false, Bool.not_true, Bool.not_false, if_true, if_false, ite_true, ite_false, Nat.reduceEqDiff, Nat.reduceLT, true_and, List.map_cons, List.map_nil, Nat.zero_add, Nat.reduceBEq, all5 he.one, all5 hf.one, cells_agg]
  have g0 : Grows σ (σ ++ [AObj.cells [.int .i64 p.f, .int .i64 p.t, .bool p.ack, .int .i64 p.s, e]] ++ [AObj.cells [.int .i64 q.f, .int .i64 q.t, .bool q.ack, .int .i64 q.s, f]]) := (Grows.app _ _).trans (Grows.app _ _)
  have o1 : (σ ++ [AObj.cells [.int .i64 p.f, .int .i64 p.t, .bool p.ack, .int .i64 p.s, e]] ++ [AObj.cells [.int .i64 q.f, .int .i64 q.t, .bool q.ack, .int .i64 q.s, f]])[σ.length]? = some (.cells [.int .i64 p.f, .int .i64 p.t, .bool p.ack, .int .i64 p.s, e]) := by simp
  have o2 : (σ ++ [AObj.cells [.int .i64 p.f, .int .i64 p.t, .bool p.ack, .int .i64 p.s, e]] ++ [AObj.cells [.int .i64 q.f, .int .i64 q.t, .bool q.ack, .int .i64 q.s, f]])[(σ ++ [AObj.cells [.int .i64 p.f, .int .i64 p.t, .bool p.ack, .int .i64 p.s, e]]).length]? = some (.cells [.int .i64 q.f, .int .i64 q.t, .bool q.ack, .int .i64 q.s, f]) := by simp
  generalize σ ++ [AObj.cells [.int .i64 p.f, .int .i64 p.t, .bool p.ack, .int .i64 p.s, e]] ++ [AObj.cells [.int .i64 q.f, .int .i64 q.t, .bool q.ack, .int .i64 q.s, f]] = σ1 at g0 o1 o2
  generalize (σ ++ [AObj.cells [.int .i64 p.f, .int .i64 p.t, .bool p.ack, .int .i64 p.s, e]]).length = j at o2
  have key : ∀ b : Bool, (b = decide (p = q)) → AVal.bool b = .bool (decide (p = q)) ∧ Grows σ σ1 := fun b hb => ⟨by rw [hb], g0⟩
  by_cases h1 : p.f = q.f
  · have c1 : (p.f == q.f) = true := by simp [h1]
    by_cases h2 : p.t = q.t
    · have c2 : (p.t == q.t) = true := by simp [h2]
      by_cases h3 : p.ack = q.ack
      · have c3 : (p.ack == q.ack) = true := by simp [h3]
        by_cases h4 : p.s = q.s
        · have c4 : (p.s == q.s) = true := by simp [h4]
          simp -dsimp only [↓WPd, ↓wpC_block, ↓wpC_cond, WPu, Bool.false_eq_true, Bool.true_eq_false, Bool.not_true, Bool.not_false, if_true, if_false, ite_true, ite_false, Nat.reduceEqDiff, Nat.reduceLT, true_and, List.map_cons, List.map_nil, Nat.zero_add, Nat.reduceBEq, faddr_ptr, load_cells o1, load_cells o2, List.getElem?_cons_zero, List.getElem?_cons_succ, c1, c2, c3, c4]
          refine calledW_of (same_ok d σ1 e f p.bs q.bs hp (he.grow g0) (hf.grow g0)) ?_
          rintro v σ2 ⟨rfl, rfl⟩
          simp -dsimp only [↓WPd, ↓wpC_block, ↓wpC_cond, WPu, Bool.false_eq_true, Bool.true_eq_false, Bool.not_true, Bool.not_false, if_true, if_false, ite_true, ite_false, Nat.reduceEqDiff, Nat.reduceLT, true_and, List.map_cons, List.map_nil, Nat.zero_add, Nat.reduceBEq]
          refine ⟨?_, g0⟩
          congr 1
          refine decide_eq_decide.2 ⟨fun h5 => ?_, fun h => by rw [h]⟩
          cases p; cases q; simp_all
        · have c4 : (p.s == q.s) = false := by simp [h4]
          simp -dsimp only [↓WPd, ↓wpC_block, ↓wpC_cond, WPu, Bool.false_eq_true, Bool.true_eq_false, Bool.not_true, Bool.not_false, if_true, if_false, ite_true, ite_false, Nat.reduceEqDiff, Nat.reduceLT, true_and, List.map_cons, List.map_nil, Nat.zero_add, Nat.reduceBEq, faddr_ptr, load_cells o1, load_cells o2, List.getElem?_cons_zero, List.getElem?_cons_succ, c1, c2, c3, c4]
          exact key _ (by symm; simp; rintro rfl; exact h4 rfl)
      · have c3 : (p.ack == q.ack) = false := by simp [h3]
        simp -dsimp only [↓WPd, ↓wpC_block, ↓wpC_cond, WPu, Bool.false_eq_true, Bool.true_eq_false, Bool.not_true, Bool.not_false, if_true, if_false, ite_true, ite_false, Nat.reduceEqDiff, Nat.reduceLT, true_and, List.map_cons, List.map_nil, Nat.zero_add, Nat.reduceBEq, faddr_ptr, load_cells o1, load_cells o2, List.getElem?_cons_zero, List.getElem?_cons_succ, c1, c2, c3]
        exact key _ (by symm; simp; rintro rfl; exact h3 rfl)
    · have c2 : (p.t == q.t) = false := by simp [h2]
      simp -dsimp only [↓WPd, ↓wpC_block, ↓wpC_cond, WPu, Bool.false_eq_true, Bool.true_eq_false, Bool.not_true, Bool.not_false, if_true, if_false, ite_true, ite_false, Nat.reduceEqDiff, Nat.reduceLT, true_and, List.map_cons, List.map_nil, Nat.zero_add, Nat.reduceBEq, faddr_ptr, load_cells o1, load_cells o2, List.getElem?_cons_zero, List.getElem?_cons_succ, c1, c2]
      exact key _ (by symm; simp; rintro rfl; exact h2 rfl)
  · have c1 : (p.f == q.f) = false := by simp [h1]
    simp -dsimp only [↓WPd, ↓wpC_block, ↓wpC_cond, WPu, Bool.false_eq_true, Bool.true_eq_false, Bool.not_true, Bool.not_false, if_true, if_false, ite_true, ite_false, Nat.reduceEqDiff, Nat.reduceLT, true_and, List.map_cons, List.map_nil, Nat.zero_add, Nat.reduceBEq, faddr_ptr, load_cells o1, load_cells o2, List.getElem?_cons_zero, List.getElem?_cons_succ, c1]
    exact key _ (by symm; simp; rintro rfl; exact h1 rfl)

theorem samedgs_ok {F G : Nat → Prop} (a b : AVal) (es fs : List AVal) (x y : List Dg) (hx : x.length < 2 ^ 40) (hs : ∀ p ∈ x, p.bs.length < 2 ^ 40) (ha : SlOf σ 5 a es) (hb : SlOf σ 5 b fs) (ra : Two (DgOk σ F) es x) (rb : Two (DgOk σ G) fs y) :
    Called CN.cfg d 46 [a, b] σ fun v σ' => v = .bool (decide (x = y)) ∧ Grows σ σ' := by
  refine called_of (fn := CN.a46) rfl (Nat.le_of_ble_eq_true rfl) ?_
  have la := ha.len
  have lb := hb.len
  rw [ra.len] at la
  rw [rb.len] at lb
  simp only [CN.a46]
  simp -dsimp only [↓WPd, ↓wpC_block, ↓wpC_cond, WPu, Bool.false_eq_true, Bool.true_eq_false, Bool.not_true, Bool.not_false, if_true, if_false, ite_true, ite_false, Nat.reduceEqDiff, Nat.reduceLT, true_and, List.map_cons, List.map_nil, Nat.zero_add, Nat.reduceBEq, la, lb]
  refine condP_intro (fun h => ?_) (fun h => ?_)
  · have h' : x.length ≠ y.length := fun e => by rw [e] at h; simp at h
    simp -dsimp only [↓WPd, ↓wpC_block, ↓wpC_cond, WPu, Bool.false_eq_true, Bool.true_eq_false, Bool.not_true, Bool.not_false, if_true, if_false, ite_true, ite_false, Nat.reduceEqDiff, Nat.reduceLT, true_and, List.map_cons, List.map_nil, Nat.zero_add, Nat.reduceBEq]
    have : x ≠ y := fun e => h' (by rw [e])
    simp [this, Keeps.refl]
  · have h' : x.length = y.length := by simp at h; omega
    simp -dsimp only [↓WPd, ↓wpC_block, ↓wpC_cond, WPu, Bool.false_eq_true, Bool.true_eq_false, Bool.not_true, Bool.not_false, if_true, if_false, ite_true, ite_false, Nat.reduceEqDiff, Nat.reduceLT, true_and, List.map_cons, List.map_nil, Nat.zero_add, Nat.reduceBEq]
    refine loop_rule (fun m vs σ' => ∃ k : Nat, k ≤ x.length ∧ m = x.length - k ∧ Grows σ σ' ∧ x.take k = y.take k ∧ vs = [a, b, .int .i64 k]) x.length ⟨0, Nat.zero_le _, rfl, Keeps.refl _ _, rfl, ?_⟩ ?_
    · simp -dsimp only [↓WPd, ↓wpC_block, ↓wpC_cond, WPu, Bool.false_eq_true, Bool.true_eq_false, Bool.not_true, Bool.not_false, if_true, if_false, ite_true, ite_false, Nat.reduceEqDiff, Nat.reduceLT, true_and, List.map_cons, List.map_nil, Nat.zero_add, Nat.reduceBEq]; rfl
    · rintro m vs σ' ⟨k, hk, rfl, g, he, rfl⟩
      simp -dsimp only [↓WPd, ↓wpC_block, ↓wpC_cond, WPu, Bool.false_eq_true, Bool.true_eq_false, Bool.not_true, Bool.not_false, if_true, if_false, ite_true, ite_false, Nat.reduceEqDiff, Nat.reduceLT, true_and, List.map_cons, List.map_nil, Nat.zero_add, Nat.reduceBEq, la]
      refine condP_dec (fun h => ?_) (fun h => ?_)
      · have hkx : k < x.length := by omega
        have hky : k < y.length := by omega
        obtain ⟨u, u1, u2⟩ := ra.get hkx
        obtain ⟨w, w1, w2⟩ := rb.get hky
        have hi : k < es.length := by rw [ra.len]; exact hkx
        have hj : k < fs.length := by rw [rb.len]; exact hky
        have eu : es[k] = u := by rw [List.getElem?_eq_getElem hi] at u1; exact Option.some.inj u1
        have ew : fs[k] = w := by rw [List.getElem?_eq_getElem hj] at w1; exact Option.some.inj w1
        obtain ⟨e, e1, e2, e3⟩ := cp u2
        obtain ⟨f, f1, f2, f3⟩ := cp w2
        have l1 : loadV σ' 5 true (addrOf 5 a k) = some u := by have := (ha.grow g).loadA hi (by rw [eu, e1]; rfl); rw [e1]; exact this
        have l2 : loadV σ' 5 true (addrOf 5 b k) = some w := by have := (hb.grow g).loadA hj (by rw [ew, f1]; rfl); rw [f1]; exact this
        simp -dsimp only [↓WPd, ↓wpC_block, ↓wpC_cond, WPu, Bool.false_eq_true, Bool.true_eq_false, Bool.not_true, Bool.not_false, if_true, if_false, ite_true, ite_false, Nat.reduceEqDiff, Nat.reduceLT, true_and, List.map_cons, List.map_nil, Nat.zero_add, Nat.reduceBEq, ha.iaddr hi, hb.iaddr hj, l1, l2]
        refine calledW_of (samedg_ok d σ' u w x[k] y[k] (u2.grow g) (w2.grow g) (hs _ (List.getElem_mem hkx))) ?_
        rintro v σ2 ⟨rfl, g2⟩
        by_cases hxy : x[k] = y[k]
        · simp -dsimp only [↓WPd, ↓wpC_block, ↓wpC_cond, WPu, Bool.false_eq_true, Bool.true_eq_false, Bool.not_true, Bool.not_false, if_true, if_false, ite_true, ite_false, Nat.reduceEqDiff, Nat.reduceLT, true_and, List.map_cons, List.map_nil, Nat.zero_add, Nat.reduceBEq, hxy, decide_true]
          refine ⟨x.length - (k + 1), by omega, k + 1, by omega, rfl, g.trans g2, take_succ_eq hkx hky he hxy, ?_⟩
          rw [wrap_i64 (by omega) (by omega), Int.natCast_add, Int.natCast_one]
        · simp -dsimp only [↓WPd, ↓wpC_block, ↓wpC_cond, WPu, Bool.false_eq_true, Bool.true_eq_false, Bool.not_true, Bool.not_false, if_true, if_false, ite_true, ite_false, Nat.reduceEqDiff, Nat.reduceLT, true_and, List.map_cons, List.map_nil, Nat.zero_add, Nat.reduceBEq, hxy, decide_false]
          have : x ≠ y := fun e => hxy (by subst e; rfl)
          simp [this, g.trans g2]
      · simp -dsimp only [↓WPd, ↓wpC_block, ↓wpC_cond, WPu, Bool.false_eq_true, Bool.true_eq_false, Bool.not_true, Bool.not_false, if_true, if_false, ite_true, ite_false, Nat.reduceEqDiff, Nat.reduceLT, true_and, List.map_cons, List.map_nil, Nat.zero_add, Nat.reduceBEq]
        have hk' : k = x.length := by omega
        subst hk'
        have : x = y := by rw [List.take_length, h', List.take_length] at he; exact he
        simp [this, g]
end
end Go.Proofs.Ytmocplkpnickgaa.Am

/-
  Net: what is wrong with a datagram; a copy; a new network; what waits.
-/
namespace Go.Proofs.Ytmocplkpnickgaa.Am
open Go
set_option linter.unusedVariables false
set_option linter.unusedSimpArgs false
set_option linter.unusedSectionVars false
set_option maxRecDepth 100000

def wrongD (n : Int) (x : Dg) : Int :=
  if (0 ≤ x.f ∧ x.f < n) ∧ (0 ≤ x.t ∧ x.t < n) ∧ x.f ≠ x.t ∧ ¬ x.s < 0 then (if 65536 < x.bs.length then 5 else if x.ack = true ∧ 0 < x.bs.length then 6 else 0) else 2
def sendE (n : Int) : List Dg → Int
  | [] => 0
  | x :: xs => if wrongD n x = 0 then sendE n xs else wrongD n x

theorem new_store {σ : Store} {zs cs : List AVal} {n : Nat} (hz : zs.length = n) (hc : cs.length = n) (h1 : cs.all AVal.one = true) : storeV (σ ++ [.cells zs]) n (.ptr σ.length 0) (.agg cs) = some (σ ++ [.cells cs]) := by
  rw [storeN_cells (cs := zs) (by simp) hz hc h1, set_last]
theorem new_load {σ : Store} {cs : List AVal} {n : Nat} (hc : cs.length = n) : loadV (σ ++ [.cells cs]) n true (.ptr σ.length 0) = some (.agg cs) := loadN_cells (by simp) hc
theorem new_load1 {σ : Store} {cs : List AVal} (off : Nat) : loadV (σ ++ [.cells cs]) 1 false (.ptr σ.length off) = cs[off]? := load_cells (by simp) off

/-- a network -/
structure NetOk (σ : Store) (F : Nat → Prop) (id : Nat) (v : AVal) (c0 c1 c2 c3 n : Int) (es : List AVal) (ds : List Dg) : Prop where
  obj : σ[id]? = some (.cells [.int .i64 c0, .int .i64 c1, .int .i64 c2, .int .i64 c3, .int .i64 n, v])
  own : Own σ 5 v es
  rows : Two (DgOwn σ F) es ds

theorem DgOwn.sep {σ : Store} {F : Nat → Prop} {x : AVal} {d : Dg} (h : DgOwn σ F x d) {id : Nat} {cs : List AVal} (ho : σ[id]? = some (.cells cs)) {v : AVal} {es : List AVal} (hv : Own σ 5 v es) {σ' : Store} (k : Keeps (fun i => i = id ∨ v.sid = some i) σ σ') : DgOwn σ' F x d := by
  obtain ⟨e, h1, h2, h3⟩ := h
  exact ⟨e, h1, h2.keeps k fun j hj hm => by
    rcases hm with rfl | hm
    · exact h2.noCell ho hj
    · exact hv.sizes h2 (by decide) hm hj, h3⟩
theorem NetOk.grow {σ σ' : Store} {F : Nat → Prop} {id : Nat} {v : AVal} {c0 c1 c2 c3 n : Int} {es : List AVal} {ds : List Dg} (h : NetOk σ F id v c0 c1 c2 c3 n es ds) (g : Grows σ σ') : NetOk σ' F id v c0 c1 c2 c3 n es ds :=
  ⟨g.get h.obj, h.own.grow g, h.rows.mono fun _ _ h => h.grow g⟩
theorem NetOk.keeps {σ σ' : Store} {F M : Nat → Prop} {id : Nat} {v : AVal} {c0 c1 c2 c3 n : Int} {es : List AVal} {ds : List Dg} (h : NetOk σ F id v c0 c1 c2 c3 n es ds) (k : Keeps M σ σ') (hm : ∀ j, F j → ¬ M j) (hid : ¬ M id) (hv : ∀ j, v.sid = some j → ¬ M j) : NetOk σ' F id v c0 c1 c2 c3 n es ds :=
  ⟨k.get h.obj hid, h.own.keeps k hv, h.rows.mono fun _ _ h => h.keeps k hm⟩
theorem NetOk.mono {σ : Store} {F G : Nat → Prop} {id : Nat} {v : AVal} {c0 c1 c2 c3 n : Int} {es : List AVal} {ds : List Dg} (h : NetOk σ F id v c0 c1 c2 c3 n es ds) (hm : ∀ j, F j → G j) : NetOk σ G id v c0 c1 c2 c3 n es ds :=
  ⟨h.obj, h.own, h.rows.mono fun _ _ h => h.mono hm⟩

section
variable (d : Nat) (σ : Store)

theorem copied_ok {F : Nat → Prop} (x : AVal) (p : Dg) (hx : DgOk σ F x p) (hp : p.bs.length < 2 ^ 40) :
    Called CN.cfg d 79 [x] σ fun r σ' => ∃ e, r = p.val e ∧ Own σ' 1 e (B p.bs) ∧ Fresh σ.length e ∧ NoLit e ∧ Grows σ σ' := by
  obtain ⟨e, rfl, he, -⟩ := hx
  refine called_of (fn := CN.a79) rfl (Nat.le_of_ble_eq_true rfl) ?_
  simp only [CN.a79, Dg.val]
  simp -dsimp only [↓WPd, ↓wpC_block, ↓wpC_cond, WPu, Bool.false_eq_true, Bool.true_eq_false, Bool.not_true, Bool.not_false, if_true, if_false, ite_true, ite_false, Nat.reduceEqDiff, Nat.reduceLT, true_and, List.map_cons, List.map_nil, Nat.zero_add, Nat.reduceBEq, all5 he.one, cells_agg]
  have g0 : Grows σ (σ ++ [AObj.cells [.int .i64 p.f, .int .i64 p.t, .bool p.ack, .int .i64 p.s, e]] ++ [AObj.cells [.int .i64 0, .int .i64 0, .bool false, .int .i64 0, .nilslice]]) := (Grows.app _ _).trans (Grows.app _ _)
  have o1 : (σ ++ [AObj.cells [.int .i64 p.f, .int .i64 p.t, .bool p.ack, .int .i64 p.s, e]] ++ [AObj.cells [.int .i64 0, .int .i64 0, .bool false, .int .i64 0, .nilslice]])[σ.length]? = some (.cells [.int .i64 p.f, .int .i64 p.t, .bool p.ack, .int .i64 p.s, e]) := by simp
  have o2 : (σ ++ [AObj.cells [.int .i64 p.f, .int .i64 p.t, .bool p.ack, .int .i64 p.s, e]] ++ [AObj.cells [.int .i64 0, .int .i64 0, .bool false, .int .i64 0, .nilslice]])[(σ ++ [AObj.cells [.int .i64 p.f, .int .i64 p.t, .bool p.ack, .int .i64 p.s, e]]).length]? = some (.cells [.int .i64 0, .int .i64 0, .bool false, .int .i64 0, .nilslice]) := by simp
  have hj : σ.length < (σ ++ [AObj.cells [.int .i64 p.f, .int .i64 p.t, .bool p.ack, .int .i64 p.s, e]]).length := by simp
  generalize σ ++ [AObj.cells [.int .i64 p.f, .int .i64 p.t, .bool p.ack, .int .i64 p.s, e]] ++ [AObj.cells [.int .i64 0, .int .i64 0, .bool false, .int .i64 0, .nilslice]] = σ1 at g0 o1 o2
  generalize (σ ++ [AObj.cells [.int .i64 p.f, .int .i64 p.t, .bool p.ack, .int .i64 p.s, e]]).length = j at o2 hj
  simp -dsimp only [↓WPd, ↓wpC_block, ↓wpC_cond, WPu, Bool.false_eq_true, Bool.true_eq_false, Bool.not_true, Bool.not_false, if_true, if_false, ite_true, ite_false, Nat.reduceEqDiff, Nat.reduceLT, true_and, List.map_cons, List.map_nil, Nat.zero_add, Nat.reduceBEq, faddr_ptr, load_cells o1, List.getElem?_cons_zero, List.getElem?_cons_succ]
  refine calledW_of (clone_ok d σ1 e p.bs hp (he.grow g0)) ?_
  rintro u σ2 ⟨g2, ou, fu, nu⟩
  have o1' := g2.get o1
  have o2' := g2.get o2
  have st := store_cells o1' (off := 4) (by simp) (v := u) ou.one
  simp only [List.set_cons_zero, List.set_cons_succ] at st
  have o3 := get_set (o' := .cells [.int .i64 p.f, .int .i64 p.t, .bool p.ack, .int .i64 p.s, u]) o1'
  have o4 : (σ2.set σ.length (.cells [.int .i64 p.f, .int .i64 p.t, .bool p.ack, .int .i64 p.s, u]))[j]? = some (.cells [.int .i64 0, .int .i64 0, .bool false, .int .i64 0, .nilslice]) := by rw [List.getElem?_set_ne (by omega)]; exact o2'
  have st2 := storeN_cells (n := 5) o4 rfl (cs' := [.int .i64 p.f, .int .i64 p.t, .bool p.ack, .int .i64 p.s, u]) rfl (all5 ou.one _ _ _ _)
  have o5 := get_set (o' := .cells [.int .i64 p.f, .int .i64 p.t, .bool p.ack, .int .i64 p.s, u]) o4
  simp -dsimp only [↓WPd, ↓wpC_block, ↓wpC_cond, WPu, Bool.false_eq_true, Bool.true_eq_false, Bool.not_true, Bool.not_false, if_true, if_false, ite_true, ite_false, Nat.reduceEqDiff, Nat.reduceLT, true_and, List.map_cons, List.map_nil, Nat.zero_add, Nat.reduceBEq, faddr_ptr, st, loadN_cells (n := 5) o3 rfl, st2, loadN_cells (n := 5) o5 rfl]
  have l1 := g0.1
  have ul := fun i hi => ou.sl.lt (id := i) hi
  refine ⟨u, rfl, ?_, fu.le l1, nu, ?_⟩
  · refine (ou.keeps (Keeps.set _ _ _) fun i hi e => ?_).keeps (Keeps.set _ _ _) fun i hi e => ?_
    · have := fu i hi; have := (List.getElem?_eq_some_iff.1 o1).1; omega
    · have := fu i hi; have := (List.getElem?_eq_some_iff.1 o2).1; omega
  · refine Keeps.trans (Keeps.trans (g0.trans g2) (Keeps.set _ _ _) fun i hi e => ?_) (Keeps.set _ _ _) fun i hi e => ?_
    · omega
    · omega

theorem netnew_ok (n : Int) (hn : 1 ≤ n ∧ n ≤ 4) : Called CN.cfg d 43 [.int .i64 n] σ fun r σ' => ∃ id, r = .tuple [.ptr id 0, .int .i64 0] ∧ NetOk σ' (fun _ => False) id .nilslice 0 0 0 0 n [] [] ∧ Grows σ σ' ∧ id = σ.length := by
  refine called_of (fn := CN.a43) rfl (Nat.le_of_ble_eq_true rfl) ?_
  have d1 : decide (n < 1) = false := decide_eq_false (by omega)
  have d2 : decide (n > 4) = false := decide_eq_false (by omega)
  have e1 : fillA [AVal.int .i64 0, .int .i64 0, .int .i64 0, .int .i64 0, .int .i64 0, .nilslice] [(4, 1, .int .i64 n)] = some [AVal.int .i64 0, .int .i64 0, .int .i64 0, .int .i64 0, .int .i64 n, .nilslice] := rfl
  have e2 : [AVal.int .i64 0, .int .i64 0, .int .i64 0, .int .i64 0, .int .i64 n, .nilslice].all AVal.one = true := rfl
  simp only [CN.a43]
  simp -dsimp only [↓WPd, ↓wpC_block, ↓wpC_cond, WPu, Bool.false_eq_true, Bool.true_eq_false, Bool.not_true, Bool.not_false, if_true, if_false, ite_true, ite_false, Nat.reduceEqDiff, Nat.reduceLT, true_and, List.map_cons, List.map_nil, Nat.zero_add, Nat.reduceBEq, d1, d2, e1, e2, cells_agg]
  exact ⟨σ.length, rfl, ⟨by simp, Own.nil _ _, .nil⟩, Grows.app _ _, rfl⟩

theorem is_ok (i n : Int) (b id : Nat) (c0 c1 c2 c3 v : AVal) (hb : σ[b]? = some (.cells [.ptr id 0])) (ho : σ[id]? = some (.cells [c0, c1, c2, c3, .int .i64 n, v])) :
    Called CN.cfg d 95 [.int .i64 i, .ptr b 0] σ fun r σ' => r = .bool (decide (0 ≤ i ∧ i < n)) ∧ σ' = σ := by
  refine called_of (fn := CN.a95) rfl (Nat.le_of_ble_eq_true rfl) ?_
  simp only [CN.a95]
  by_cases h : 0 ≤ i
  · have d1 : decide (i ≥ 0) = true := decide_eq_true (by omega)
    have d2 : decide (i < n) = decide (0 ≤ i ∧ i < n) := decide_eq_decide.2 (by simp [h])
    simp -dsimp only [↓WPd, ↓wpC_block, ↓wpC_cond, WPu, Bool.false_eq_true, Bool.true_eq_false, Bool.not_true, Bool.not_false, if_true, if_false, ite_true, ite_false, Nat.reduceEqDiff, Nat.reduceLT, true_and, List.map_cons, List.map_nil, Nat.zero_add, Nat.reduceBEq, d1, faddr_ptr, load_cells hb, load_cells ho, List.getElem?_cons_zero, List.getElem?_cons_succ, d2, and_self]
  · have d1 : decide (i ≥ 0) = false := decide_eq_false (by omega)
    have d2 : decide (0 ≤ i ∧ i < n) = false := decide_eq_false (by omega)
    simp -dsimp only [↓WPd, ↓wpC_block, ↓wpC_cond, WPu, Bool.false_eq_true, Bool.true_eq_false, Bool.not_true, Bool.not_false, if_true, if_false, ite_true, ite_false, Nat.reduceEqDiff, Nat.reduceLT, true_and, List.map_cons, List.map_nil, Nat.zero_add, Nat.reduceBEq, d1, d2, and_self]

set_option maxHeartbeats 2000000 in
theorem look_ok {F : Nat → Prop} (id : Nat) (c0 c1 c2 c3 v : AVal) (n : Int) (ho : σ[id]? = some (.cells [c0, c1, c2, c3, .int .i64 n, v])) (x : AVal) (p : Dg) (hx : DgOk σ F x p) :
    Called CN.cfg d 78 [.ptr id 0, x] σ fun r σ' => r = .int .i64 (wrongD n p) ∧ Grows σ σ' := by
  obtain ⟨e, rfl, he, -⟩ := hx
  refine called_of (fn := CN.a78) rfl (Nat.le_of_ble_eq_true rfl) ?_
  simp only [CN.a78, Dg.val]
  have e1 : (AVal.ptr id 0).cells = [.ptr id 0] := rfl
  have e2 : [AVal.ptr id 0].all AVal.one = true := rfl
  have lb := he.len
  rw [B_len] at lb
  simp -dsimp only [↓WPd, ↓wpC_cond, WPu, Bool.false_eq_true, Bool.true_eq_false, Bool.not_true, Bool.not_false, if_true, if_false, ite_true, ite_false, Nat.reduceEqDiff, Nat.reduceLT, true_and, List.map_cons, List.map_nil, Nat.zero_add, Nat.reduceBEq, all5 he.one, cells_agg, e1, e2]
  have g0 : Grows σ (σ ++ [AObj.cells [.ptr id 0]] ++ [AObj.cells [.int .i64 p.f, .int .i64 p.t, .bool p.ack, .int .i64 p.s, e]]) := (Grows.app _ _).trans (Grows.app _ _)
  have o1 : (σ ++ [AObj.cells [.ptr id 0]] ++ [AObj.cells [.int .i64 p.f, .int .i64 p.t, .bool p.ack, .int .i64 p.s, e]])[σ.length]? = some (.cells [.ptr id 0]) := by simp
  have o2 : (σ ++ [AObj.cells [.ptr id 0]] ++ [AObj.cells [.int .i64 p.f, .int .i64 p.t, .bool p.ack, .int .i64 p.s, e]])[(σ ++ [AObj.cells [.ptr id 0]]).length]? = some (.cells [.int .i64 p.f, .int .i64 p.t, .bool p.ack, .int .i64 p.s, e]) := by simp
  have o3 := g0.get ho
  generalize σ ++ [AObj.cells [.ptr id 0]] ++ [AObj.cells [.int .i64 p.f, .int .i64 p.t, .bool p.ack, .int .i64 p.s, e]] = σ1 at g0 o1 o2 o3
  generalize (σ ++ [AObj.cells [.ptr id 0]]).length = j at o2
  have two : wrongD n p = 2 → AVal.int .i64 2 = .int .i64 (wrongD n p) ∧ Grows σ σ1 := fun h => ⟨by rw [h], g0⟩
  simp -dsimp only [↓WPd, ↓wpC_block, ↓wpC_cond, WPu, Bool.false_eq_true, Bool.true_eq_false, Bool.not_true, Bool.not_false, if_true, if_false, ite_true, ite_false, Nat.reduceEqDiff, Nat.reduceLT, true_and, List.map_cons, List.map_nil, Nat.zero_add, Nat.reduceBEq, faddr_ptr, load_cells o2, List.getElem?_cons_zero, List.getElem?_cons_succ, List.append_nil, List.nil_append, List.cons_append]
  refine calledW_of (is_ok d σ1 p.f n σ.length id c0 c1 c2 c3 v o1 o3) ?_
  rintro r σ2 ⟨rfl, rfl⟩
  by_cases hA : 0 ≤ p.f ∧ p.f < n
  · simp -dsimp only [↓WPd, ↓wpC_block, ↓wpC_cond, WPu, Bool.false_eq_true, Bool.true_eq_false, Bool.not_true, Bool.not_false, if_true, if_false, ite_true, ite_false, Nat.reduceEqDiff, Nat.reduceLT, true_and, List.map_cons, List.map_nil, Nat.zero_add, Nat.reduceBEq, faddr_ptr, load_cells o2, List.getElem?_cons_zero, List.getElem?_cons_succ, List.append_nil, List.nil_append, List.cons_append, decide_eq_true hA]
    refine calledW_of (is_ok d σ2 p.t n σ.length id c0 c1 c2 c3 v o1 o3) ?_
    rintro r σ3 ⟨rfl, rfl⟩
    by_cases hB : 0 ≤ p.t ∧ p.t < n
    · by_cases hC : p.f = p.t
      · have c3 : (p.f == p.t) = true := by simp [hC]
        simp -dsimp only [↓WPd, ↓wpC_block, ↓wpC_cond, WPu, Bool.false_eq_true, Bool.true_eq_false, Bool.not_true, Bool.not_false, if_true, if_false, ite_true, ite_false, Nat.reduceEqDiff, Nat.reduceLT, true_and, List.map_cons, List.map_nil, Nat.zero_add, Nat.reduceBEq, faddr_ptr, load_cells o2, List.getElem?_cons_zero, List.getElem?_cons_succ, decide_eq_true hB, c3]
        exact two (by unfold wrongD; rw [if_neg]; simp [hC])
      · have c3 : (p.f == p.t) = false := by simp [hC]
        by_cases hD : p.s < 0
        · simp -dsimp only [↓WPd, ↓wpC_block, ↓wpC_cond, WPu, Bool.false_eq_true, Bool.true_eq_false, Bool.not_true, Bool.not_false, if_true, if_false, ite_true, ite_false, Nat.reduceEqDiff, Nat.reduceLT, true_and, List.map_cons, List.map_nil, Nat.zero_add, Nat.reduceBEq, faddr_ptr, load_cells o2, List.getElem?_cons_zero, List.getElem?_cons_succ, decide_eq_true hB, c3, decide_eq_true hD]
          exact two (by unfold wrongD; rw [if_neg]; simp [hD])
        · have hw : wrongD n p = (if 65536 < p.bs.length then 5 else if p.ack = true ∧ 0 < p.bs.length then 6 else 0) := by unfold wrongD; rw [if_pos ⟨hA, hB, hC, hD⟩]
          by_cases hE : 65536 < p.bs.length
          · have d5 : decide (((p.bs.length : Nat) : Int) > 65536) = true := decide_eq_true (by omega)
            simp -dsimp only [↓WPd, ↓wpC_block, ↓wpC_cond, WPu, Bool.false_eq_true, Bool.true_eq_false, Bool.not_true, Bool.not_false, if_true, if_false, ite_true, ite_false, Nat.reduceEqDiff, Nat.reduceLT, true_and, List.map_cons, List.map_nil, Nat.zero_add, Nat.reduceBEq, faddr_ptr, load_cells o2, List.getElem?_cons_zero, List.getElem?_cons_succ, decide_eq_true hB, c3, decide_eq_false hD, lb, d5]
            exact ⟨by rw [hw, if_pos hE], g0⟩
          · have d5 : decide (((p.bs.length : Nat) : Int) > 65536) = false := decide_eq_false (by omega)
            cases ha : p.ack with
            | false =>
              simp -dsimp only [↓WPd, ↓wpC_block, ↓wpC_cond, WPu, Bool.false_eq_true, Bool.true_eq_false, Bool.not_true, Bool.not_false, if_true, if_false, ite_true, ite_false, Nat.reduceEqDiff, Nat.reduceLT, true_and, List.map_cons, List.map_nil, Nat.zero_add, Nat.reduceBEq, faddr_ptr, load_cells o2, List.getElem?_cons_zero, List.getElem?_cons_succ, decide_eq_true hB, c3, decide_eq_false hD, lb, d5, ha]
              exact ⟨by rw [hw, if_neg hE, if_neg (by simp [ha])], g0⟩
            | true =>
              by_cases hG : 0 < p.bs.length
              · have d6 : decide (((p.bs.length : Nat) : Int) > 0) = true := decide_eq_true (by omega)
                simp -dsimp only [↓WPd, ↓wpC_block, ↓wpC_cond, WPu, Bool.false_eq_true, Bool.true_eq_false, Bool.not_true, Bool.not_false, if_true, if_false, ite_true, ite_false, Nat.reduceEqDiff, Nat.reduceLT, true_and, List.map_cons, List.map_nil, Nat.zero_add, Nat.reduceBEq, faddr_ptr, load_cells o2, List.getElem?_cons_zero, List.getElem?_cons_succ, decide_eq_true hB, c3, decide_eq_false hD, lb, d5, ha, d6]
                exact ⟨by rw [hw, if_neg hE, if_pos ⟨ha, hG⟩], g0⟩
              · have d6 : decide (((p.bs.length : Nat) : Int) > 0) = false := decide_eq_false (by omega)
                simp -dsimp only [↓WPd, ↓wpC_block, ↓wpC_cond, WPu, Bool.false_eq_true, Bool.true_eq_false, Bool.not_true, Bool.not_false, if_true, if_false, ite_true, ite_false, Nat.reduceEqDiff, Nat.reduceLT, true_and, List.map_cons, List.map_nil, Nat.zero_add, Nat.reduceBEq, faddr_ptr, load_cells o2, List.getElem?_cons_zero, List.getElem?_cons_succ, decide_eq_true hB, c3, decide_eq_false hD, lb, d5, ha, d6]
                exact ⟨by rw [hw, if_neg hE, if_neg (by simp [hG])], g0⟩
    · simp -dsimp only [↓WPd, ↓wpC_block, ↓wpC_cond, WPu, Bool.false_eq_true, Bool.true_eq_false, Bool.not_true, Bool.not_false, if_true, if_false, ite_true, ite_false, Nat.reduceEqDiff, Nat.reduceLT, true_and, List.map_cons, List.map_nil, Nat.zero_add, Nat.reduceBEq, decide_eq_false hB]
      exact two (by unfold wrongD; rw [if_neg]; exact fun h => hB h.2.1)
  · simp -dsimp only [↓WPd, ↓wpC_block, ↓wpC_cond, WPu, Bool.false_eq_true, Bool.true_eq_false, Bool.not_true, Bool.not_false, if_true, if_false, ite_true, ite_false, Nat.reduceEqDiff, Nat.reduceLT, true_and, List.map_cons, List.map_nil, Nat.zero_add, Nat.reduceBEq, decide_eq_false hA]
    exact two (by unfold wrongD; rw [if_neg]; exact fun h => hA h.1)
end
end Go.Proofs.Ytmocplkpnickgaa.Am

