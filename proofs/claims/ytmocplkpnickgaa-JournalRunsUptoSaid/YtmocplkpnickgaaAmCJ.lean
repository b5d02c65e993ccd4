/-
  THE FUNCTIONS THAT A LAW REACHES, as texts of the abstract machine (written by a program out of the translation), and that each of them stands for the model's: checked by evaluation.
-/
import Derived.Test.YtmocplkpnickgaaAmLaw
import Derived.Test.YtmocplkpnickgaaProg
namespace Go.Proofs.Ytmocplkpnickgaa.Am.CJ
open Go Go.Proofs.Ytmocplkpnickgaa.Am
set_option linter.unusedVariables false
set_option maxRecDepth 100000

/-- purlin/purlinlaw14.JournalRecords -/
def a3 : AFunc := ⟨112,
 (.seq
  (.region [⟨some 4, .move (.const (.bool false)), none⟩])
  (.seq
   (.region [⟨some 21, .move (.tmp 0), none⟩,
     ⟨some 22, .call .shared 14 [(.tmp 21)], none⟩,
     ⟨some 5, .move (.tmp 22), none⟩])
   (.seq
    (.region [⟨some 23, .move (.tmp 1), none⟩,
      ⟨some 24, .call .shared 14 [(.tmp 23)], none⟩,
      ⟨some 6, .move (.tmp 24), none⟩])
    (.seq
     (.region [⟨some 26, .move (.tmp 5), none⟩,
       ⟨some 27, .call .shared 15 [(.tmp 26)], none⟩,
       ⟨some 25, .move (.tmp 27), none⟩,
       ⟨some 28, .extract (.tmp 25) 0, none⟩,
       ⟨some 29, .extract (.tmp 25) 1, none⟩,
       ⟨some 7, .move (.tmp 28), none⟩,
       ⟨some 8, .move (.tmp 29), none⟩])
     (.seq
      (.region [⟨some 31, .move (.tmp 0), none⟩,
        ⟨some 32, .call .shared 16 [(.tmp 31)], none⟩,
        ⟨some 30, .move (.tmp 32), none⟩,
        ⟨some 33, .extract (.tmp 30) 0, none⟩,
        ⟨some 34, .extract (.tmp 30) 1, none⟩,
        ⟨some 9, .move (.tmp 33), none⟩,
        ⟨some 10, .move (.tmp 34), none⟩])
      (.seq
       (.region [⟨some 36, .move (.tmp 6), none⟩,
         ⟨some 37, .call .shared 17 [(.tmp 36)], none⟩,
         ⟨some 35, .move (.tmp 37), none⟩,
         ⟨some 38, .extract (.tmp 35) 0, none⟩,
         ⟨some 39, .extract (.tmp 35) 1, none⟩,
         ⟨some 40, .extract (.tmp 35) 2, none⟩,
         ⟨some 11, .move (.tmp 38), none⟩,
         ⟨some 12, .move (.tmp 39), none⟩,
         ⟨some 13, .move (.tmp 40), none⟩])
       (.seq
        (.region [⟨some 42, .move (.tmp 1), none⟩,
          ⟨some 43, .call .shared 18 [(.tmp 42)], none⟩,
          ⟨some 41, .move (.tmp 43), none⟩,
          ⟨some 44, .extract (.tmp 41) 0, none⟩,
          ⟨some 45, .extract (.tmp 41) 1, none⟩,
          ⟨some 46, .extract (.tmp 41) 2, none⟩,
          ⟨some 14, .move (.tmp 44), none⟩,
          ⟨some 15, .move (.tmp 45), none⟩,
          ⟨some 16, .move (.tmp 46), none⟩])
        (.seq
         (.seq
          (.region [⟨some 47, .call .iso 19 [], none⟩,
            ⟨some 48, .not (.tmp 47), none⟩,
            ⟨some 49, .move (.tmp 48), none⟩,
            ⟨some 50, .move (.tmp 7), some (49, false)⟩,
            ⟨some 51, .move (.tmp 9), some (49, false)⟩,
            ⟨some 52, .call .shared 20 [(.tmp 50), (.tmp 51)], some (49, false)⟩,
            ⟨some 53, .not (.tmp 52), some (49, false)⟩,
            ⟨some 54, .pick (.tmp 49) (.const (.bool true)) (.tmp 53), none⟩,
            ⟨some 55, .move (.tmp 54), none⟩,
            ⟨some 56, .move (.tmp 8), some (55, false)⟩,
            ⟨some 57, .move (.tmp 10), some (55, false)⟩,
            ⟨some 58, .iop .neq (.tmp 56) (.tmp 57), some (55, false)⟩,
            ⟨some 59, .pick (.tmp 55) (.const (.bool true)) (.tmp 58), none⟩,
            ⟨some 60, .move (.tmp 59), none⟩,
            ⟨some 61, .move (.tmp 5), some (60, false)⟩,
            ⟨some 62, .call .shared 21 [(.tmp 61)], some (60, false)⟩,
            ⟨some 63, .move (.tmp 0), some (60, false)⟩,
            ⟨some 64, .call .shared 22 [(.tmp 63)], some (60, false)⟩,
            ⟨some 65, .iop .neq (.tmp 62) (.tmp 64), some (60, false)⟩,
            ⟨some 66, .pick (.tmp 60) (.const (.bool true)) (.tmp 65), none⟩,
            ⟨some 67, .move (.tmp 66), none⟩,
            ⟨some 68, .move (.tmp 11), some (67, false)⟩,
            ⟨some 69, .move (.tmp 14), some (67, false)⟩,
            ⟨some 70, .call .shared 23 [(.tmp 68), (.tmp 69)], some (67, false)⟩,
            ⟨some 71, .not (.tmp 70), some (67, false)⟩,
            ⟨some 72, .pick (.tmp 67) (.const (.bool true)) (.tmp 71), none⟩,
            ⟨some 73, .move (.tmp 72), none⟩,
            ⟨some 74, .move (.tmp 12), some (73, false)⟩,
            ⟨some 75, .move (.tmp 15), some (73, false)⟩,
            ⟨some 76, .iop .neq (.tmp 74) (.tmp 75), some (73, false)⟩,
            ⟨some 77, .pick (.tmp 73) (.const (.bool true)) (.tmp 76), none⟩,
            ⟨some 78, .move (.tmp 77), none⟩,
            ⟨some 79, .move (.tmp 13), some (78, false)⟩,
            ⟨some 80, .move (.tmp 16), some (78, false)⟩,
            ⟨some 81, .iop .neq (.tmp 79) (.tmp 80), some (78, false)⟩,
            ⟨some 82, .pick (.tmp 78) (.const (.bool true)) (.tmp 81), none⟩])
          (.cond (.tmp 82)
           (.seq
            (.region [⟨some 4, .move (.const (.bool false)), none⟩])
            .ret)
           .skip))
         (.seq
          (.region [⟨some 83, .build [.nilslice, .nilslice, .nilslice, .nilslice, .nilslice] [], none⟩,
            ⟨some 84, .box (.tmp 83), none⟩,
            ⟨some 17, .move (.tmp 84), none⟩])
          (.seq
           (.region [⟨some 85, .move (.tmp 17), none⟩,
             ⟨some 86, .move (.tmp 7), none⟩,
             ⟨some 87, .call .shared 24 [(.tmp 85), (.tmp 86)], none⟩])
           (.seq
            (.region [⟨some 88, .move (.tmp 17), none⟩,
              ⟨some 89, .move (.tmp 11), none⟩,
              ⟨some 90, .call .shared 25 [(.tmp 88), (.tmp 89)], none⟩])
            (.seq
             (.region [⟨some 92, .move (.tmp 6), none⟩,
               ⟨some 93, .call .shared 17 [(.tmp 92)], none⟩,
               ⟨some 91, .move (.tmp 93), none⟩,
               ⟨some 94, .extract (.tmp 91) 0, none⟩,
               ⟨some 95, .extract (.tmp 91) 1, none⟩,
               ⟨some 96, .extract (.tmp 91) 2, none⟩,
               ⟨some 18, .move (.tmp 94), none⟩,
               ⟨some 19, .move (.tmp 95), none⟩,
               ⟨some 20, .move (.tmp 96), none⟩])
             (.seq
              (.region [⟨some 97, .move (.tmp 17), none⟩,
                ⟨some 98, .move (.tmp 18), none⟩,
                ⟨some 99, .call .shared 25 [(.tmp 97), (.tmp 98)], none⟩])
              (.seq
               (.region [⟨some 100, .move (.tmp 17), none⟩,
                 ⟨some 101, .call .shared 26 [(.tmp 100)], none⟩,
                 ⟨some 102, .move (.tmp 101), none⟩,
                 ⟨some 103, .move (.tmp 5), some (102, true)⟩,
                 ⟨some 104, .move (.tmp 0), some (102, true)⟩,
                 ⟨some 105, .call .shared 27 [(.tmp 103), (.tmp 104)], some (102, true)⟩,
                 ⟨some 106, .pick (.tmp 102) (.tmp 105) (.const (.bool false)), none⟩,
                 ⟨some 107, .move (.tmp 106), none⟩,
                 ⟨some 108, .move (.tmp 6), some (107, true)⟩,
                 ⟨some 109, .move (.tmp 1), some (107, true)⟩,
                 ⟨some 110, .call .shared 27 [(.tmp 108), (.tmp 109)], some (107, true)⟩,
                 ⟨some 111, .pick (.tmp 107) (.tmp 110) (.const (.bool false)), none⟩,
                 ⟨some 4, .move (.tmp 111), none⟩])
               .ret)))))))))))))), [.tmp 4]⟩

/-- purlin/purlinlaw14.JournalCut -/
def a4 : AFunc := ⟨119,
 (.seq
  (.region [⟨some 4, .move (.const (.bool false)), none⟩])
  (.seq
   (.seq
    (.region [⟨some 18, .call .iso 19 [], none⟩,
      ⟨some 19, .not (.tmp 18), none⟩])
    (.cond (.tmp 19)
     (.seq
      (.region [⟨some 4, .move (.const (.bool false)), none⟩])
      .ret)
     .skip))
   (.seq
    (.region [⟨some 5, .move (.const .nilslice), none⟩])
    (.seq
     (.region [⟨some 20, .lit 1 [(.int .i64 0)] false 1 [(0, (.const (.int .i64 0)))], none⟩,
       ⟨some 6, .move (.tmp 20), none⟩])
     (.seq
      (.seq
       (.region [⟨some 7, .move (.const (.int .i64 0)), none⟩])
       (.block 0
        (.loop [0, 1, 5, 6, 7]
         (.seq
          (.seq
           (.region [⟨some 21, .move (.tmp 7), none⟩,
             ⟨some 22, .move (.tmp 0), none⟩,
             ⟨some 23, .lenS (.tmp 22), none⟩,
             ⟨some 24, .iop .lss (.tmp 21) (.tmp 23), none⟩])
           (.cond (.tmp 24)
            .skip
            (.exit 0)))
          (.seq
           (.block 1
            (.seq
             (.region [⟨some 28, .move (.tmp 0), none⟩,
               ⟨some 29, .move (.tmp 7), none⟩,
               ⟨some 30, .iaddr 1 (.tmp 28) (.tmp 29), none⟩,
               ⟨some 31, .load 1 false (.tmp 30), none⟩,
               ⟨some 32, .call .shared 15 [(.tmp 31)], none⟩,
               ⟨some 27, .move (.tmp 32), none⟩,
               ⟨some 33, .extract (.tmp 27) 0, none⟩,
               ⟨some 34, .extract (.tmp 27) 1, none⟩,
               ⟨some 8, .move (.tmp 33), none⟩,
               ⟨some 9, .move (.tmp 34), none⟩])
             (.seq
              (.seq
               (.region [⟨some 35, .move (.tmp 9), none⟩,
                 ⟨some 36, .iop .neq (.tmp 35) (.const (.int .i64 0)), none⟩])
               (.cond (.tmp 36)
                (.seq
                 (.region [⟨some 37, .move (.tmp 0), none⟩,
                   ⟨some 38, .move (.tmp 7), none⟩,
                   ⟨some 39, .iaddr 1 (.tmp 37) (.tmp 38), none⟩,
                   ⟨some 40, .load 1 false (.tmp 39), none⟩,
                   ⟨some 41, .lenS (.tmp 40), none⟩,
                   ⟨some 42, .iop .gtr (.tmp 41) (.const (.int .i64 131072)), none⟩,
                   ⟨some 4, .move (.tmp 42), none⟩])
                 .ret)
                .skip))
              (.seq
               (.region [⟨some 43, .move (.tmp 5), none⟩,
                 ⟨some 44, .move (.tmp 8), none⟩,
                 ⟨some 45, .append 1 1 (.tmp 43) (.tmp 44), none⟩,
                 ⟨some 5, .move (.tmp 45), none⟩])
               (.region [⟨some 46, .move (.tmp 6), none⟩,
                 ⟨some 47, .move (.tmp 5), none⟩,
                 ⟨some 48, .lenS (.tmp 47), none⟩,
                 ⟨some 49, .lit 1 [(.int .i64 0)] false 1 [(0, (.tmp 48))], none⟩,
                 ⟨some 50, .append 1 8 (.tmp 46) (.tmp 49), none⟩,
                 ⟨some 6, .move (.tmp 50), none⟩])))))
           (.region [⟨some 25, .move (.tmp 7), none⟩,
             ⟨some 26, .iop .add (.tmp 25) (.const (.int .i64 1)), none⟩,
             ⟨some 7, .move (.tmp 26), none⟩]))))))
      (.seq
       (.region [⟨some 51, .move (.tmp 1), none⟩,
         ⟨some 52, .convI .u64 (.tmp 51), none⟩,
         ⟨some 53, .move (.tmp 5), none⟩,
         ⟨some 54, .lenS (.tmp 53), none⟩,
         ⟨some 55, .iop .add (.tmp 54) (.const (.int .i64 1)), none⟩,
         ⟨some 56, .convI .u64 (.tmp 55), none⟩,
         ⟨some 57, .iop .rem (.tmp 52) (.tmp 56), none⟩,
         ⟨some 58, .convI .i64 (.tmp 57), none⟩,
         ⟨some 10, .move (.tmp 58), none⟩])
       (.seq
        (.region [⟨some 11, .move (.const (.int .i64 0)), none⟩])
        (.seq
         (.block 2
          (.loop [0, 5, 6, 10, 11]
           (.seq
            (.seq
             (.region [⟨some 59, .move (.tmp 11), none⟩,
               ⟨some 60, .iop .add (.tmp 59) (.const (.int .i64 1)), none⟩,
               ⟨some 61, .move (.tmp 6), none⟩,
               ⟨some 62, .lenS (.tmp 61), none⟩,
               ⟨some 63, .iop .lss (.tmp 60) (.tmp 62), none⟩,
               ⟨some 64, .move (.tmp 63), none⟩,
               ⟨some 65, .move (.tmp 6), some (64, true)⟩,
               ⟨some 66, .move (.tmp 11), some (64, true)⟩,
               ⟨some 67, .iop .add (.tmp 66) (.const (.int .i64 1)), some (64, true)⟩,
               ⟨some 68, .iaddr 1 (.tmp 65) (.tmp 67), some (64, true)⟩,
               ⟨some 69, .load 1 false (.tmp 68), some (64, true)⟩,
               ⟨some 70, .move (.tmp 10), some (64, true)⟩,
               ⟨some 71, .iop .leq (.tmp 69) (.tmp 70), some (64, true)⟩,
               ⟨some 72, .pick (.tmp 64) (.tmp 71) (.const (.bool false)), none⟩])
             (.cond (.tmp 72)
              .skip
              (.exit 2)))
            (.block 3
             (.region [⟨some 73, .move (.tmp 11), none⟩,
               ⟨some 74, .iop .add (.tmp 73) (.const (.int .i64 1)), none⟩,
               ⟨some 11, .move (.tmp 74), none⟩])))))
         (.seq
          (.region [⟨some 76, .move (.tmp 5), none⟩,
            ⟨some 77, .move (.tmp 10), none⟩,
            ⟨some 78, .sliceOp 1 (.tmp 76) none (some (.tmp 77)) none, none⟩,
            ⟨some 79, .call .shared 17 [(.tmp 78)], none⟩,
            ⟨some 75, .move (.tmp 79), none⟩,
            ⟨some 80, .extract (.tmp 75) 0, none⟩,
            ⟨some 81, .extract (.tmp 75) 1, none⟩,
            ⟨some 82, .extract (.tmp 75) 2, none⟩,
            ⟨some 12, .move (.tmp 80), none⟩,
            ⟨some 13, .move (.tmp 81), none⟩,
            ⟨some 14, .move (.tmp 82), none⟩])
          (.seq
           (.region [⟨some 84, .move (.tmp 5), none⟩,
             ⟨some 85, .call .shared 17 [(.tmp 84)], none⟩,
             ⟨some 83, .move (.tmp 85), none⟩,
             ⟨some 86, .extract (.tmp 83) 0, none⟩,
             ⟨some 87, .extract (.tmp 83) 1, none⟩,
             ⟨some 88, .extract (.tmp 83) 2, none⟩,
             ⟨some 15, .move (.tmp 86), none⟩,
             ⟨some 16, .move (.tmp 87), none⟩,
             ⟨some 17, .move (.tmp 88), none⟩])
           (.seq
            (.region [⟨some 89, .move (.tmp 12), none⟩,
              ⟨some 90, .move (.tmp 0), none⟩,
              ⟨some 91, .move (.tmp 11), none⟩,
              ⟨some 92, .sliceOp 1 (.tmp 90) none (some (.tmp 91)) none, none⟩,
              ⟨some 93, .call .shared 23 [(.tmp 89), (.tmp 92)], none⟩,
              ⟨some 94, .move (.tmp 93), none⟩,
              ⟨some 95, .move (.tmp 13), some (94, true)⟩,
              ⟨some 96, .move (.tmp 6), some (94, true)⟩,
              ⟨some 97, .move (.tmp 11), some (94, true)⟩,
              ⟨some 98, .iaddr 1 (.tmp 96) (.tmp 97), some (94, true)⟩,
              ⟨some 99, .load 1 false (.tmp 98), some (94, true)⟩,
              ⟨some 100, .iop .eql (.tmp 95) (.tmp 99), some (94, true)⟩,
              ⟨some 101, .pick (.tmp 94) (.tmp 100) (.const (.bool false)), none⟩,
              ⟨some 102, .move (.tmp 101), none⟩,
              ⟨some 103, .move (.tmp 14), some (102, true)⟩,
              ⟨some 104, .iop .eql (.tmp 103) (.const (.int .i64 0)), some (102, true)⟩,
              ⟨some 105, .move (.tmp 13), some (102, true)⟩,
              ⟨some 106, .move (.tmp 10), some (102, true)⟩,
              ⟨some 107, .iop .eql (.tmp 105) (.tmp 106), some (102, true)⟩,
              ⟨some 108, .bop false (.tmp 104) (.tmp 107), some (102, true)⟩,
              ⟨some 109, .pick (.tmp 102) (.tmp 108) (.const (.bool false)), none⟩,
              ⟨some 110, .move (.tmp 109), none⟩,
              ⟨some 111, .move (.tmp 15), some (110, true)⟩,
              ⟨some 112, .move (.tmp 0), some (110, true)⟩,
              ⟨some 113, .call .shared 23 [(.tmp 111), (.tmp 112)], some (110, true)⟩,
              ⟨some 114, .pick (.tmp 110) (.tmp 113) (.const (.bool false)), none⟩,
              ⟨some 115, .move (.tmp 114), none⟩,
              ⟨some 116, .move (.tmp 17), some (115, true)⟩,
              ⟨some 117, .iop .eql (.tmp 116) (.const (.int .i64 0)), some (115, true)⟩,
              ⟨some 118, .pick (.tmp 115) (.tmp 117) (.const (.bool false)), none⟩,
              ⟨some 4, .move (.tmp 118), none⟩])
            .ret))))))))))), [.tmp 4]⟩

/-- purlin/purlinlaw14.JournalBack -/
def a5 : AFunc := ⟨110,
 (.seq
  (.region [⟨some 4, .move (.const (.bool false)), none⟩])
  (.seq
   (.seq
    (.region [⟨some 16, .call .iso 19 [], none⟩,
      ⟨some 17, .not (.tmp 16), none⟩])
    (.cond (.tmp 17)
     (.seq
      (.region [⟨some 4, .move (.const (.bool false)), none⟩])
      .ret)
     .skip))
   (.seq
    (.region [⟨some 18, .move (.tmp 0), none⟩,
      ⟨some 19, .call .shared 28 [(.tmp 18)], none⟩,
      ⟨some 5, .move (.tmp 19), none⟩])
    (.seq
     (.region [⟨some 20, .move (.tmp 5), none⟩,
       ⟨some 21, .call .shared 29 [(.tmp 20)], none⟩,
       ⟨some 6, .move (.tmp 21), none⟩])
     (.seq
      (.region [⟨some 22, .move (.tmp 5), none⟩,
        ⟨some 23, .call .shared 30 [(.tmp 22)], none⟩])
      (.seq
       (.seq
        (.region [⟨some 24, .move (.tmp 5), none⟩,
          ⟨some 25, .call .shared 31 [(.tmp 24)], none⟩,
          ⟨some 26, .move (.tmp 25), none⟩,
          ⟨some 27, .move (.tmp 5), some (26, false)⟩,
          ⟨some 28, .call .shared 29 [(.tmp 27)], some (26, false)⟩,
          ⟨some 29, .move (.tmp 6), some (26, false)⟩,
          ⟨some 30, .call .shared 23 [(.tmp 28), (.tmp 29)], some (26, false)⟩,
          ⟨some 31, .not (.tmp 30), some (26, false)⟩,
          ⟨some 32, .pick (.tmp 26) (.const (.bool true)) (.tmp 31), none⟩])
        (.cond (.tmp 32)
         (.seq
          (.region [⟨some 4, .move (.const (.bool false)), none⟩])
          .ret)
         .skip))
       (.seq
        (.region [⟨some 34, .move (.tmp 0), none⟩,
          ⟨some 35, .call .shared 17 [(.tmp 34)], none⟩,
          ⟨some 33, .move (.tmp 35), none⟩,
          ⟨some 36, .extract (.tmp 33) 0, none⟩,
          ⟨some 37, .extract (.tmp 33) 1, none⟩,
          ⟨some 38, .extract (.tmp 33) 2, none⟩,
          ⟨some 7, .move (.tmp 36), none⟩,
          ⟨some 8, .move (.tmp 37), none⟩,
          ⟨some 9, .move (.tmp 38), none⟩])
        (.seq
         (.region [⟨some 10, .move (.const .nilslice), none⟩])
         (.seq
          (.seq
           (.region [⟨some 11, .move (.const (.int .i64 0)), none⟩])
           (.block 0
            (.loop [0, 1, 5, 6, 7, 8, 10, 11]
             (.seq
              (.seq
               (.region [⟨some 39, .move (.tmp 11), none⟩,
                 ⟨some 40, .move (.tmp 7), none⟩,
                 ⟨some 41, .lenS (.tmp 40), none⟩,
                 ⟨some 42, .iop .lss (.tmp 39) (.tmp 41), none⟩])
               (.cond (.tmp 42)
                .skip
                (.exit 0)))
              (.seq
               (.block 1
                (.seq
                 (.region [⟨some 46, .move (.tmp 7), none⟩,
                   ⟨some 47, .move (.tmp 11), none⟩,
                   ⟨some 48, .iaddr 1 (.tmp 46) (.tmp 47), none⟩,
                   ⟨some 49, .load 1 false (.tmp 48), none⟩,
                   ⟨some 50, .call .shared 15 [(.tmp 49)], none⟩,
                   ⟨some 45, .move (.tmp 50), none⟩,
                   ⟨some 51, .extract (.tmp 45) 0, none⟩,
                   ⟨some 52, .extract (.tmp 45) 1, none⟩,
                   ⟨some 12, .move (.tmp 51), none⟩,
                   ⟨some 13, .move (.tmp 52), none⟩])
                 (.seq
                  (.seq
                   (.region [⟨some 53, .move (.tmp 13), none⟩,
                     ⟨some 54, .iop .neq (.tmp 53) (.const (.int .i64 0)), none⟩])
                   (.cond (.tmp 54)
                    (.seq
                     (.region [⟨some 4, .move (.const (.bool false)), none⟩])
                     .ret)
                    .skip))
                  (.region [⟨some 55, .move (.tmp 10), none⟩,
                    ⟨some 56, .move (.tmp 12), none⟩,
                    ⟨some 57, .append 1 1 (.tmp 55) (.tmp 56), none⟩,
                    ⟨some 10, .move (.tmp 57), none⟩]))))
               (.region [⟨some 43, .move (.tmp 11), none⟩,
                 ⟨some 44, .iop .add (.tmp 43) (.const (.int .i64 1)), none⟩,
                 ⟨some 11, .move (.tmp 44), none⟩]))))))
          (.seq
           (.seq
            (.region [⟨some 58, .move (.tmp 8), none⟩,
              ⟨some 59, .iop .lss (.tmp 58) (.const (.int .i64 0)), none⟩,
              ⟨some 60, .move (.tmp 59), none⟩,
              ⟨some 61, .move (.tmp 8), some (60, false)⟩,
              ⟨some 62, .move (.tmp 0), some (60, false)⟩,
              ⟨some 63, .lenS (.tmp 62), some (60, false)⟩,
              ⟨some 64, .iop .gtr (.tmp 61) (.tmp 63), some (60, false)⟩,
              ⟨some 65, .pick (.tmp 60) (.const (.bool true)) (.tmp 64), none⟩,
              ⟨some 66, .move (.tmp 65), none⟩,
              ⟨some 67, .move (.tmp 10), some (66, false)⟩,
              ⟨some 68, .move (.tmp 0), some (66, false)⟩,
              ⟨some 69, .move (.tmp 8), some (66, false)⟩,
              ⟨some 70, .sliceOp 1 (.tmp 68) none (some (.tmp 69)) none, some (66, false)⟩,
              ⟨some 71, .call .shared 20 [(.tmp 67), (.tmp 70)], some (66, false)⟩,
              ⟨some 72, .not (.tmp 71), some (66, false)⟩,
              ⟨some 73, .pick (.tmp 66) (.const (.bool true)) (.tmp 72), none⟩,
              ⟨some 74, .move (.tmp 73), none⟩,
              ⟨some 75, .move (.tmp 5), some (74, false)⟩,
              ⟨some 76, .call .shared 32 [(.tmp 75)], some (74, false)⟩,
              ⟨some 77, .move (.tmp 10), some (74, false)⟩,
              ⟨some 78, .call .shared 20 [(.tmp 76), (.tmp 77)], some (74, false)⟩,
              ⟨some 79, .not (.tmp 78), some (74, false)⟩,
              ⟨some 80, .pick (.tmp 74) (.const (.bool true)) (.tmp 79), none⟩])
            (.cond (.tmp 80)
             (.seq
              (.region [⟨some 4, .move (.const (.bool false)), none⟩])
              .ret)
             .skip))
           (.seq
            (.region [⟨some 81, .move (.tmp 5), none⟩,
              ⟨some 82, .move (.tmp 1), none⟩,
              ⟨some 83, .call .shared 33 [(.tmp 81), (.tmp 82)], none⟩,
              ⟨some 14, .move (.tmp 83), none⟩])
            (.seq
             (.seq
              (.region [⟨some 84, .move (.tmp 1), none⟩,
                ⟨some 85, .lenS (.tmp 84), none⟩,
                ⟨some 86, .iop .gtr (.tmp 85) (.const (.int .i64 131072)), none⟩])
              (.cond (.tmp 86)
               (.seq
                (.region [⟨some 87, .move (.tmp 14), none⟩,
                  ⟨some 88, .iop .eql (.tmp 87) (.const (.int .i64 5)), none⟩,
                  ⟨some 4, .move (.tmp 88), none⟩])
                .ret)
               .skip))
             (.seq
              (.region [⟨some 89, .move (.tmp 5), none⟩,
                ⟨some 90, .call .shared 29 [(.tmp 89)], none⟩,
                ⟨some 15, .move (.tmp 90), none⟩])
              (.seq
               (.region [⟨some 91, .move (.tmp 14), none⟩,
                 ⟨some 92, .iop .eql (.tmp 91) (.const (.int .i64 0)), none⟩,
                 ⟨some 93, .move (.tmp 92), none⟩,
                 ⟨some 94, .move (.tmp 15), some (93, true)⟩,
                 ⟨some 95, .lenS (.tmp 94), some (93, true)⟩,
                 ⟨some 96, .move (.tmp 6), some (93, true)⟩,
                 ⟨some 97, .lenS (.tmp 96), some (93, true)⟩,
                 ⟨some 98, .iop .add (.tmp 97) (.const (.int .i64 1)), some (93, true)⟩,
                 ⟨some 99, .iop .eql (.tmp 95) (.tmp 98), some (93, true)⟩,
                 ⟨some 100, .pick (.tmp 93) (.tmp 99) (.const (.bool false)), none⟩,
                 ⟨some 101, .move (.tmp 100), none⟩,
                 ⟨some 102, .move (.tmp 15), some (101, true)⟩,
                 ⟨some 103, .move (.tmp 6), some (101, true)⟩,
                 ⟨some 104, .lenS (.tmp 103), some (101, true)⟩,
                 ⟨some 105, .iaddr 1 (.tmp 102) (.tmp 104), some (101, true)⟩,
                 ⟨some 106, .load 1 false (.tmp 105), some (101, true)⟩,
                 ⟨some 107, .move (.tmp 1), some (101, true)⟩,
                 ⟨some 108, .call .shared 20 [(.tmp 106), (.tmp 107)], some (101, true)⟩,
                 ⟨some 109, .pick (.tmp 101) (.tmp 108) (.const (.bool false)), none⟩,
                 ⟨some 4, .move (.tmp 109), none⟩])
               .ret)))))))))))))), [.tmp 4]⟩

/-- purlin/purlinlaw14.JournalHurt -/
def a6 : AFunc := ⟨115,
 (.seq
  (.region [⟨some 5, .box (.tmp 2), none⟩,
    ⟨some 6, .move (.const (.bool false)), none⟩])
  (.seq
   (.seq
    (.region [⟨some 18, .call .iso 19 [], none⟩,
      ⟨some 19, .not (.tmp 18), none⟩])
    (.cond (.tmp 19)
     (.seq
      (.region [⟨some 6, .move (.const (.bool false)), none⟩])
      .ret)
     .skip))
   (.seq
    (.region [⟨some 20, .faddr 0 (.tmp 5), none⟩,
      ⟨some 21, .load 1 false (.tmp 20), none⟩,
      ⟨some 7, .move (.tmp 21), none⟩])
    (.seq
     (.region [⟨some 22, .faddr 1 (.tmp 5), none⟩,
       ⟨some 23, .load 1 false (.tmp 22), none⟩,
       ⟨some 8, .move (.tmp 23), none⟩])
     (.seq
      (.region [⟨some 24, .call .shared 34 [], none⟩,
        ⟨some 9, .move (.tmp 24), none⟩])
      (.seq
       (.seq
        (.region [⟨some 10, .move (.const (.int .i64 0)), none⟩])
        (.block 0
         (.loop [0, 1, 7, 8, 9, 10]
          (.seq
           (.seq
            (.region [⟨some 25, .move (.tmp 10), none⟩,
              ⟨some 26, .move (.tmp 0), none⟩,
              ⟨some 27, .lenS (.tmp 26), none⟩,
              ⟨some 28, .iop .lss (.tmp 25) (.tmp 27), none⟩])
            (.cond (.tmp 28)
             .skip
             (.exit 0)))
           (.seq
            (.block 1
             (.seq
              (.region [⟨some 31, .move (.tmp 9), none⟩,
                ⟨some 32, .move (.tmp 0), none⟩,
                ⟨some 33, .move (.tmp 10), none⟩,
                ⟨some 34, .iaddr 1 (.tmp 32) (.tmp 33), none⟩,
                ⟨some 35, .load 1 false (.tmp 34), none⟩,
                ⟨some 36, .call .shared 33 [(.tmp 31), (.tmp 35)], none⟩,
                ⟨some 37, .iop .neq (.tmp 36) (.const (.int .i64 0)), none⟩])
              (.cond (.tmp 37)
               (.seq
                (.region [⟨some 38, .move (.tmp 0), none⟩,
                  ⟨some 39, .move (.tmp 10), none⟩,
                  ⟨some 40, .iaddr 1 (.tmp 38) (.tmp 39), none⟩,
                  ⟨some 41, .load 1 false (.tmp 40), none⟩,
                  ⟨some 42, .lenS (.tmp 41), none⟩,
                  ⟨some 43, .iop .gtr (.tmp 42) (.const (.int .i64 131072)), none⟩,
                  ⟨some 6, .move (.tmp 43), none⟩])
                .ret)
               .skip)))
            (.region [⟨some 29, .move (.tmp 10), none⟩,
              ⟨some 30, .iop .add (.tmp 29) (.const (.int .i64 1)), none⟩,
              ⟨some 10, .move (.tmp 30), none⟩]))))))
       (.seq
        (.region [⟨some 45, .move (.tmp 9), none⟩,
          ⟨some 46, .call .shared 35 [(.tmp 45)], none⟩,
          ⟨some 44, .move (.tmp 46), none⟩,
          ⟨some 47, .extract (.tmp 44) 0, none⟩,
          ⟨some 48, .extract (.tmp 44) 1, none⟩,
          ⟨some 11, .move (.tmp 47), none⟩,
          ⟨some 12, .move (.tmp 48), none⟩])
        (.seq
         (.seq
          (.region [⟨some 49, .move (.tmp 1), none⟩,
            ⟨some 50, .lenS (.tmp 49), none⟩,
            ⟨some 51, .iop .eql (.tmp 50) (.const (.int .i64 0)), none⟩,
            ⟨some 52, .move (.tmp 51), none⟩,
            ⟨some 53, .move (.tmp 8), some (52, false)⟩,
            ⟨some 54, .iop .eql (.tmp 53) (.const (.int .u8 0)), some (52, false)⟩,
            ⟨some 55, .pick (.tmp 52) (.const (.bool true)) (.tmp 54), none⟩,
            ⟨some 56, .move (.tmp 55), none⟩,
            ⟨some 57, .move (.tmp 9), some (56, false)⟩,
            ⟨some 58, .move (.tmp 1), some (56, false)⟩,
            ⟨some 59, .call .shared 33 [(.tmp 57), (.tmp 58)], some (56, false)⟩,
            ⟨some 60, .iop .neq (.tmp 59) (.const (.int .i64 0)), some (56, false)⟩,
            ⟨some 61, .pick (.tmp 56) (.const (.bool true)) (.tmp 60), none⟩])
          (.cond (.tmp 61)
           (.seq
            (.region [⟨some 62, .move (.tmp 1), none⟩,
              ⟨some 63, .lenS (.tmp 62), none⟩,
              ⟨some 64, .iop .eql (.tmp 63) (.const (.int .i64 0)), none⟩,
              ⟨some 65, .move (.tmp 64), none⟩,
              ⟨some 66, .move (.tmp 8), some (65, false)⟩,
              ⟨some 67, .iop .eql (.tmp 66) (.const (.int .u8 0)), some (65, false)⟩,
              ⟨some 68, .pick (.tmp 65) (.const (.bool true)) (.tmp 67), none⟩,
              ⟨some 69, .move (.tmp 68), none⟩,
              ⟨some 70, .move (.tmp 1), some (69, false)⟩,
              ⟨some 71, .lenS (.tmp 70), some (69, false)⟩,
              ⟨some 72, .iop .gtr (.tmp 71) (.const (.int .i64 131072)), some (69, false)⟩,
              ⟨some 73, .pick (.tmp 69) (.const (.bool true)) (.tmp 72), none⟩,
              ⟨some 6, .move (.tmp 73), none⟩])
            .ret)
           .skip))
         (.seq
          (.region [⟨some 74, .move (.tmp 9), none⟩,
            ⟨some 75, .call .shared 32 [(.tmp 74)], none⟩,
            ⟨some 13, .move (.tmp 75), none⟩])
          (.seq
           (.region [⟨some 76, .move (.tmp 12), none⟩,
             ⟨some 77, .iop .add (.tmp 76) (.const (.int .i64 8)), none⟩,
             ⟨some 78, .move (.tmp 7), none⟩,
             ⟨some 79, .convI .u64 (.tmp 78), none⟩,
             ⟨some 80, .move (.tmp 1), none⟩,
             ⟨some 81, .lenS (.tmp 80), none⟩,
             ⟨some 82, .convI .u64 (.tmp 81), none⟩,
             ⟨some 83, .iop .rem (.tmp 79) (.tmp 82), none⟩,
             ⟨some 84, .convI .i64 (.tmp 83), none⟩,
             ⟨some 85, .iop .add (.tmp 77) (.tmp 84), none⟩,
             ⟨some 14, .move (.tmp 85), none⟩])
           (.seq
            (.seq
             (.region [⟨some 86, .move (.tmp 14), none⟩,
               ⟨some 87, .move (.tmp 13), none⟩,
               ⟨some 88, .lenS (.tmp 87), none⟩,
               ⟨some 89, .iop .geq (.tmp 86) (.tmp 88), none⟩])
             (.cond (.tmp 89)
              (.seq
               (.region [⟨some 6, .move (.const (.bool false)), none⟩])
               .ret)
              .skip))
            (.seq
             (.region [⟨some 90, .move (.tmp 13), none⟩,
               ⟨some 91, .move (.tmp 14), none⟩,
               ⟨some 92, .iaddr 1 (.tmp 90) (.tmp 91), none⟩,
               ⟨some 93, .load 1 false (.tmp 92), none⟩,
               ⟨some 94, .move (.tmp 8), none⟩,
               ⟨some 95, .iop .xor (.tmp 93) (.tmp 94), none⟩,
               ⟨some 96, .iaddr 1 (.tmp 90) (.tmp 91), none⟩,
               ⟨none, .store 1 (.tmp 96) (.tmp 95), none⟩])
             (.seq
              (.region [⟨some 98, .move (.tmp 13), none⟩,
                ⟨some 99, .call .shared 17 [(.tmp 98)], none⟩,
                ⟨some 97, .move (.tmp 99), none⟩,
                ⟨some 100, .extract (.tmp 97) 0, none⟩,
                ⟨some 101, .extract (.tmp 97) 1, none⟩,
                ⟨some 102, .extract (.tmp 97) 2, none⟩,
                ⟨some 15, .move (.tmp 100), none⟩,
                ⟨some 16, .move (.tmp 101), none⟩,
                ⟨some 17, .move (.tmp 102), none⟩])
              (.seq
               (.region [⟨some 103, .move (.tmp 17), none⟩,
                 ⟨some 104, .iop .eql (.tmp 103) (.const (.int .i64 140)), none⟩,
                 ⟨some 105, .move (.tmp 104), none⟩,
                 ⟨some 106, .move (.tmp 16), some (105, true)⟩,
                 ⟨some 107, .move (.tmp 12), some (105, true)⟩,
                 ⟨some 108, .iop .eql (.tmp 106) (.tmp 107), some (105, true)⟩,
                 ⟨some 109, .pick (.tmp 105) (.tmp 108) (.const (.bool false)), none⟩,
                 ⟨some 110, .move (.tmp 109), none⟩,
                 ⟨some 111, .move (.tmp 15), some (110, true)⟩,
                 ⟨some 112, .move (.tmp 0), some (110, true)⟩,
                 ⟨some 113, .call .shared 23 [(.tmp 111), (.tmp 112)], some (110, true)⟩,
                 ⟨some 114, .pick (.tmp 110) (.tmp 113) (.const (.bool false)), none⟩,
                 ⟨some 6, .move (.tmp 114), none⟩])
               .ret)))))))))))))), [.tmp 6]⟩

/-- purlin/purlinlaw14.JournalNone -/
def a7 : AFunc := ⟨68,
 (.seq
  (.region [⟨some 4, .move (.const (.bool false)), none⟩])
  (.seq
   (.region [⟨some 5, .move (.const .nilptr), none⟩])
   (.seq
    (.region [⟨some 11, .move (.tmp 5), none⟩,
      ⟨some 12, .move (.tmp 0), none⟩,
      ⟨some 13, .move (.tmp 1), none⟩,
      ⟨some 14, .call .shared 36 [(.tmp 11), (.tmp 12), (.tmp 13)], none⟩,
      ⟨some 10, .move (.tmp 14), none⟩,
      ⟨some 15, .extract (.tmp 10) 0, none⟩,
      ⟨some 16, .extract (.tmp 10) 1, none⟩,
      ⟨some 6, .move (.tmp 15), none⟩,
      ⟨some 7, .move (.tmp 16), none⟩])
    (.seq
     (.region [⟨some 18, .move (.tmp 5), none⟩,
       ⟨some 19, .call .shared 35 [(.tmp 18)], none⟩,
       ⟨some 17, .move (.tmp 19), none⟩,
       ⟨some 20, .extract (.tmp 17) 0, none⟩,
       ⟨some 21, .extract (.tmp 17) 1, none⟩,
       ⟨some 8, .move (.tmp 20), none⟩,
       ⟨some 9, .move (.tmp 21), none⟩])
     (.seq
      (.region [⟨some 22, .call .iso 19 [], none⟩,
        ⟨some 23, .move (.tmp 22), none⟩,
        ⟨some 24, .move (.tmp 5), some (23, true)⟩,
        ⟨some 25, .move (.tmp 0), some (23, true)⟩,
        ⟨some 26, .call .shared 33 [(.tmp 24), (.tmp 25)], some (23, true)⟩,
        ⟨some 27, .iop .eql (.tmp 26) (.const (.int .i64 1)), some (23, true)⟩,
        ⟨some 28, .pick (.tmp 23) (.tmp 27) (.const (.bool false)), none⟩,
        ⟨some 29, .move (.tmp 28), none⟩,
        ⟨some 30, .move (.tmp 7), some (29, true)⟩,
        ⟨some 31, .iop .eql (.tmp 30) (.const (.int .i64 1)), some (29, true)⟩,
        ⟨some 32, .pick (.tmp 29) (.tmp 31) (.const (.bool false)), none⟩,
        ⟨some 33, .move (.tmp 32), none⟩,
        ⟨some 34, .move (.tmp 5), some (33, true)⟩,
        ⟨some 35, .call .shared 31 [(.tmp 34)], some (33, true)⟩,
        ⟨some 36, .not (.tmp 35), some (33, true)⟩,
        ⟨some 37, .pick (.tmp 33) (.tmp 36) (.const (.bool false)), none⟩,
        ⟨some 38, .move (.tmp 37), none⟩,
        ⟨some 39, .move (.tmp 5), some (38, true)⟩,
        ⟨some 40, .call .shared 30 [(.tmp 39)], some (38, true)⟩,
        ⟨some 41, .iop .eql (.tmp 40) (.const (.int .i64 0)), some (38, true)⟩,
        ⟨some 42, .pick (.tmp 38) (.tmp 41) (.const (.bool false)), none⟩,
        ⟨some 43, .move (.tmp 42), none⟩,
        ⟨some 44, .move (.tmp 5), some (43, true)⟩,
        ⟨some 45, .call .shared 29 [(.tmp 44)], some (43, true)⟩,
        ⟨some 46, .lenS (.tmp 45), some (43, true)⟩,
        ⟨some 47, .iop .eql (.tmp 46) (.const (.int .i64 0)), some (43, true)⟩,
        ⟨some 48, .pick (.tmp 43) (.tmp 47) (.const (.bool false)), none⟩,
        ⟨some 49, .move (.tmp 48), none⟩,
        ⟨some 50, .move (.tmp 5), some (49, true)⟩,
        ⟨some 51, .call .shared 32 [(.tmp 50)], some (49, true)⟩,
        ⟨some 52, .lenS (.tmp 51), some (49, true)⟩,
        ⟨some 53, .iop .eql (.tmp 52) (.const (.int .i64 0)), some (49, true)⟩,
        ⟨some 54, .pick (.tmp 49) (.tmp 53) (.const (.bool false)), none⟩,
        ⟨some 55, .move (.tmp 54), none⟩,
        ⟨some 56, .move (.tmp 8), some (55, true)⟩,
        ⟨some 57, .iop .eql (.tmp 56) (.const (.int .i64 0)), some (55, true)⟩,
        ⟨some 58, .pick (.tmp 55) (.tmp 57) (.const (.bool false)), none⟩,
        ⟨some 59, .move (.tmp 58), none⟩,
        ⟨some 60, .move (.tmp 9), some (59, true)⟩,
        ⟨some 61, .iop .eql (.tmp 60) (.const (.int .i64 0)), some (59, true)⟩,
        ⟨some 62, .pick (.tmp 59) (.tmp 61) (.const (.bool false)), none⟩,
        ⟨some 63, .move (.tmp 62), none⟩,
        ⟨some 64, .move (.tmp 5), some (63, true)⟩,
        ⟨some 65, .call .shared 37 [(.tmp 64)], some (63, true)⟩,
        ⟨some 66, .eqnil false .p (.tmp 65), some (63, true)⟩,
        ⟨some 67, .pick (.tmp 63) (.tmp 66) (.const (.bool false)), none⟩,
        ⟨some 4, .move (.tmp 67), none⟩])
      .ret))))), [.tmp 4]⟩

/-- purlin/purlinlaw14.JournalRuns -/
def a8 : AFunc := ⟨83,
 (.seq
  (.region [⟨some 4, .move (.const (.bool false)), none⟩])
  (.seq
   (.seq
    (.region [⟨some 9, .call .iso 19 [], none⟩,
      ⟨some 10, .not (.tmp 9), none⟩])
    (.cond (.tmp 10)
     (.seq
      (.region [⟨some 4, .move (.const (.bool false)), none⟩])
      .ret)
     .skip))
   (.seq
    (.region [⟨some 11, .move (.tmp 0), none⟩,
      ⟨some 12, .call .shared 28 [(.tmp 11)], none⟩,
      ⟨some 13, .move (.tmp 0), none⟩,
      ⟨some 14, .call .shared 38 [(.tmp 13)], none⟩,
      ⟨some 15, .build [.nilptr, .nilptr] [(0, 1, (.tmp 12)), (1, 1, (.tmp 14))], none⟩,
      ⟨some 5, .alloc [.nilptr, .nilptr], none⟩,
      ⟨none, .store 2 (.tmp 5) (.tmp 15), none⟩])
    (.seq
     (.seq
      (.region [⟨some 16, .load 2 true (.tmp 5), none⟩,
        ⟨some 17, .call .shared 39 [(.tmp 16)], none⟩,
        ⟨some 18, .not (.tmp 17), none⟩])
      (.cond (.tmp 18)
       (.seq
        (.region [⟨some 4, .move (.const (.bool false)), none⟩])
        .ret)
       .skip))
     (.seq
      (.region [⟨some 6, .move (.const .nilslice), none⟩])
      (.seq
       (.seq
        (.region [⟨some 7, .move (.const (.int .i64 0)), none⟩])
        (.block 0
         (.loop [1, 5, 6, 7]
          (.seq
           (.seq
            (.region [⟨some 19, .move (.tmp 7), none⟩,
              ⟨some 20, .move (.tmp 1), none⟩,
              ⟨some 21, .lenS (.tmp 20), none⟩,
              ⟨some 22, .iop .lss (.tmp 19) (.tmp 21), none⟩])
            (.cond (.tmp 22)
             .skip
             (.exit 0)))
           (.seq
            (.block 1
             (.seq
              (.seq
               (.region [⟨some 25, .move (.tmp 1), none⟩,
                 ⟨some 26, .move (.tmp 7), none⟩,
                 ⟨some 27, .iaddr 3 (.tmp 25) (.tmp 26), none⟩,
                 ⟨some 28, .faddr 0 (.tmp 27), none⟩,
                 ⟨some 29, .load 1 false (.tmp 28), none⟩,
                 ⟨some 30, .iop .eql (.tmp 29) (.const (.int .i64 3)), none⟩,
                 ⟨some 31, .move (.tmp 30), none⟩,
                 ⟨some 32, .move (.tmp 6), some (31, true)⟩,
                 ⟨some 33, .lenS (.tmp 32), some (31, true)⟩,
                 ⟨some 34, .iop .lss (.tmp 33) (.const (.int .i64 6)), some (31, true)⟩,
                 ⟨some 35, .pick (.tmp 31) (.tmp 34) (.const (.bool false)), none⟩])
               (.cond (.tmp 35)
                (.seq
                 (.region [⟨some 36, .move (.tmp 6), none⟩,
                   ⟨some 37, .load 2 true (.tmp 5), none⟩,
                   ⟨some 38, .litA 2 [.nilptr, .nilptr] true 1 [(0, (.tmp 37))], none⟩,
                   ⟨some 39, .append 2 16 (.tmp 36) (.tmp 38), none⟩,
                   ⟨some 6, .move (.tmp 39), none⟩])
                 (.drawn [⟨some 40, .faddr 0 (.tmp 5), none⟩,
                   ⟨some 41, .load 1 false (.tmp 40), none⟩,
                   ⟨some 42, .call .shared 37 [(.tmp 41)], none⟩,
                   ⟨some 43, .faddr 1 (.tmp 5), none⟩,
                   ⟨some 44, .load 1 false (.tmp 43), none⟩,
                   ⟨some 45, .call .shared 40 [(.tmp 44)], none⟩,
                   ⟨some 46, .build [.nilptr, .nilptr] [(0, 1, (.tmp 42)), (1, 1, (.tmp 45))], none⟩,
                   ⟨none, .store 2 (.tmp 5) (.tmp 46), none⟩] [(4, 2)]))
                .skip))
              (.seq
               (.seq
                (.region [⟨some 47, .move (.tmp 1), none⟩,
                  ⟨some 48, .move (.tmp 7), none⟩,
                  ⟨some 49, .iaddr 3 (.tmp 47) (.tmp 48), none⟩,
                  ⟨some 50, .faddr 0 (.tmp 49), none⟩,
                  ⟨some 51, .load 1 false (.tmp 50), none⟩,
                  ⟨some 52, .iop .eql (.tmp 51) (.const (.int .i64 4)), none⟩])
                (.cond (.tmp 52)
                 (.drawn [⟨some 53, .faddr 0 (.tmp 5), none⟩,
                   ⟨some 54, .load 1 false (.tmp 53), none⟩,
                   ⟨some 55, .call .shared 32 [(.tmp 54)], none⟩,
                   ⟨some 56, .call .shared 28 [(.tmp 55)], none⟩,
                   ⟨some 57, .faddr 1 (.tmp 5), none⟩,
                   ⟨some 58, .load 1 false (.tmp 57), none⟩,
                   ⟨some 59, .nilCheck (.tmp 58), none⟩,
                   ⟨some 60, .faddr 0 (.tmp 59), none⟩,
                   ⟨some 61, .load 1 false (.tmp 60), none⟩,
                   ⟨some 62, .call .shared 38 [(.tmp 61)], none⟩,
                   ⟨some 63, .build [.nilptr, .nilptr] [(0, 1, (.tmp 56)), (1, 1, (.tmp 62))], none⟩,
                   ⟨none, .store 2 (.tmp 5) (.tmp 63), none⟩] [(5, 2), (5, 3), (8, 2), (8, 3)])
                 .skip))
               (.seq
                (.region [⟨some 64, .load 2 true (.tmp 5), none⟩,
                  ⟨some 65, .move (.tmp 1), none⟩,
                  ⟨some 66, .move (.tmp 7), none⟩,
                  ⟨some 67, .iaddr 3 (.tmp 65) (.tmp 66), none⟩,
                  ⟨some 68, .load 3 true (.tmp 67), none⟩,
                  ⟨some 69, .call .shared 41 [(.tmp 64), (.tmp 68)], none⟩,
                  ⟨some 70, .not (.tmp 69), none⟩])
                (.cond (.tmp 70)
                 (.seq
                  (.region [⟨some 4, .move (.const (.bool false)), none⟩])
                  .ret)
                 .skip)))))
            (.region [⟨some 23, .move (.tmp 7), none⟩,
              ⟨some 24, .iop .add (.tmp 23) (.const (.int .i64 1)), none⟩,
              ⟨some 7, .move (.tmp 24), none⟩]))))))
       (.seq
        (.seq
         (.region [⟨some 8, .move (.const (.int .i64 0)), none⟩])
         (.block 2
          (.loop [6, 8]
           (.seq
            (.seq
             (.region [⟨some 71, .move (.tmp 8), none⟩,
               ⟨some 72, .move (.tmp 6), none⟩,
               ⟨some 73, .lenS (.tmp 72), none⟩,
               ⟨some 74, .iop .lss (.tmp 71) (.tmp 73), none⟩])
             (.cond (.tmp 74)
              .skip
              (.exit 2)))
            (.seq
             (.block 3
              (.seq
               (.region [⟨some 77, .move (.tmp 6), none⟩,
                 ⟨some 78, .move (.tmp 8), none⟩,
                 ⟨some 79, .iaddr 2 (.tmp 77) (.tmp 78), none⟩,
                 ⟨some 80, .load 2 true (.tmp 79), none⟩,
                 ⟨some 81, .call .shared 39 [(.tmp 80)], none⟩,
                 ⟨some 82, .not (.tmp 81), none⟩])
               (.cond (.tmp 82)
                (.seq
                 (.region [⟨some 4, .move (.const (.bool false)), none⟩])
                 .ret)
                .skip)))
             (.region [⟨some 75, .move (.tmp 8), none⟩,
               ⟨some 76, .iop .add (.tmp 75) (.const (.int .i64 1)), none⟩,
               ⟨some 8, .move (.tmp 76), none⟩]))))))
        (.seq
         (.region [⟨some 4, .move (.const (.bool true)), none⟩])
         .ret)))))))), [.tmp 4]⟩

/-- purlin/purlinmem.Hand -/
def a14 : AFunc := ⟨44,
 (.seq
  (.region [⟨some 2, .move (.const .nilslice), none⟩])
  (.seq
   (.region [⟨some 6, .move (.tmp 0), none⟩,
     ⟨some 7, .lenS (.tmp 6), none⟩,
     ⟨some 8, .iop .add (.tmp 7) (.const (.int .i64 9)), none⟩,
     ⟨some 9, .mkslice 1 1 [(.int .u8 0)] false (.tmp 8) (.tmp 8), none⟩,
     ⟨some 3, .move (.tmp 9), none⟩])
   (.seq
    (.seq
     (.region [⟨some 4, .move (.const (.int .i64 0)), none⟩])
     (.block 0
      (.loop [0, 3, 4]
       (.seq
        (.seq
         (.region [⟨some 10, .move (.tmp 4), none⟩,
           ⟨some 11, .move (.tmp 0), none⟩,
           ⟨some 12, .lenS (.tmp 11), none⟩,
           ⟨some 13, .iop .lss (.tmp 10) (.tmp 12), none⟩])
         (.cond (.tmp 13)
          .skip
          (.exit 0)))
        (.seq
         (.block 1
          (.region [⟨some 16, .move (.tmp 3), none⟩,
            ⟨some 17, .move (.tmp 4), none⟩,
            ⟨some 18, .move (.tmp 0), none⟩,
            ⟨some 19, .move (.tmp 4), none⟩,
            ⟨some 20, .iaddr 1 (.tmp 18) (.tmp 19), none⟩,
            ⟨some 21, .load 1 false (.tmp 20), none⟩,
            ⟨some 22, .iaddr 1 (.tmp 16) (.tmp 17), none⟩,
            ⟨none, .store 1 (.tmp 22) (.tmp 21), none⟩]))
         (.region [⟨some 14, .move (.tmp 4), none⟩,
           ⟨some 15, .iop .add (.tmp 14) (.const (.int .i64 1)), none⟩,
           ⟨some 4, .move (.tmp 15), none⟩]))))))
    (.seq
     (.seq
      (.region [⟨some 23, .move (.tmp 0), none⟩,
        ⟨some 24, .lenS (.tmp 23), none⟩,
        ⟨some 5, .move (.tmp 24), none⟩])
      (.block 2
       (.loop [0, 3, 5]
        (.seq
         (.seq
          (.region [⟨some 25, .move (.tmp 5), none⟩,
            ⟨some 26, .move (.tmp 3), none⟩,
            ⟨some 27, .lenS (.tmp 26), none⟩,
            ⟨some 28, .iop .lss (.tmp 25) (.tmp 27), none⟩])
          (.cond (.tmp 28)
           .skip
           (.exit 2)))
         (.seq
          (.block 3
           (.region [⟨some 31, .move (.tmp 3), none⟩,
             ⟨some 32, .move (.tmp 5), none⟩,
             ⟨some 33, .move (.tmp 5), none⟩,
             ⟨some 34, .iop .add (.const (.int .i64 160)) (.tmp 33), none⟩,
             ⟨some 35, .move (.tmp 0), none⟩,
             ⟨some 36, .lenS (.tmp 35), none⟩,
             ⟨some 37, .iop .sub (.tmp 34) (.tmp 36), none⟩,
             ⟨some 38, .convI .u8 (.tmp 37), none⟩,
             ⟨some 39, .iaddr 1 (.tmp 31) (.tmp 32), none⟩,
             ⟨none, .store 1 (.tmp 39) (.tmp 38), none⟩]))
          (.region [⟨some 29, .move (.tmp 5), none⟩,
            ⟨some 30, .iop .add (.tmp 29) (.const (.int .i64 1)), none⟩,
            ⟨some 5, .move (.tmp 30), none⟩]))))))
     (.seq
      (.region [⟨some 40, .move (.tmp 3), none⟩,
        ⟨some 41, .move (.tmp 0), none⟩,
        ⟨some 42, .lenS (.tmp 41), none⟩,
        ⟨some 43, .sliceOp 1 (.tmp 40) none (some (.tmp 42)) none, none⟩,
        ⟨some 2, .move (.tmp 43), none⟩])
      .ret))))), [.tmp 2]⟩

/-- purlin/journal.Record -/
def a15 : AFunc := ⟨19,
 (.seq
  (.region [⟨some 2, .move (.const .nilslice), none⟩,
    ⟨some 3, .move (.const (.int .i64 0)), none⟩])
  (.seq
   (.seq
    (.region [⟨some 5, .move (.tmp 0), none⟩,
      ⟨some 6, .lenS (.tmp 5), none⟩,
      ⟨some 7, .iop .gtr (.tmp 6) (.const (.int .i64 131072)), none⟩])
    (.cond (.tmp 7)
     (.seq
      (.region [⟨some 2, .move (.const .nilslice), none⟩,
        ⟨some 3, .move (.const (.int .i64 5)), none⟩])
      .ret)
     .skip))
   (.seq
    (.region [⟨some 8, .move (.tmp 0), none⟩,
      ⟨some 9, .lenS (.tmp 8), none⟩,
      ⟨some 10, .convI .u32 (.tmp 9), none⟩,
      ⟨some 11, .call .shared 62 [(.tmp 10)], none⟩,
      ⟨some 12, .move (.tmp 0), none⟩,
      ⟨some 13, .call .shared 21 [(.tmp 12)], none⟩,
      ⟨some 14, .call .shared 62 [(.tmp 13)], none⟩,
      ⟨some 15, .append 1 1 (.tmp 11) (.tmp 14), none⟩,
      ⟨some 4, .move (.tmp 15), none⟩])
    (.seq
     (.region [⟨some 16, .move (.tmp 4), none⟩,
       ⟨some 17, .move (.tmp 0), none⟩,
       ⟨some 18, .append 1 1 (.tmp 16) (.tmp 17), none⟩,
       ⟨some 2, .move (.tmp 18), none⟩,
       ⟨some 3, .move (.const (.int .i64 0)), none⟩])
     .ret)))), [.tmp 2, .tmp 3]⟩

/-- purlin/purlinref14.Record -/
def a16 : AFunc := ⟨19,
 (.seq
  (.region [⟨some 2, .move (.const .nilslice), none⟩,
    ⟨some 3, .move (.const (.int .i64 0)), none⟩])
  (.seq
   (.seq
    (.region [⟨some 5, .move (.tmp 0), none⟩,
      ⟨some 6, .lenS (.tmp 5), none⟩,
      ⟨some 7, .iop .gtr (.tmp 6) (.const (.int .i64 131072)), none⟩])
    (.cond (.tmp 7)
     (.seq
      (.region [⟨some 2, .move (.const .nilslice), none⟩,
        ⟨some 3, .move (.const (.int .i64 5)), none⟩])
      .ret)
     .skip))
   (.seq
    (.region [⟨some 8, .move (.tmp 0), none⟩,
      ⟨some 9, .lenS (.tmp 8), none⟩,
      ⟨some 10, .convI .u32 (.tmp 9), none⟩,
      ⟨some 11, .call .shared 63 [(.tmp 10)], none⟩,
      ⟨some 12, .move (.tmp 0), none⟩,
      ⟨some 13, .call .shared 22 [(.tmp 12)], none⟩,
      ⟨some 14, .call .shared 63 [(.tmp 13)], none⟩,
      ⟨some 15, .append 1 1 (.tmp 11) (.tmp 14), none⟩,
      ⟨some 4, .move (.tmp 15), none⟩])
    (.seq
     (.region [⟨some 16, .move (.tmp 4), none⟩,
       ⟨some 17, .move (.tmp 0), none⟩,
       ⟨some 18, .append 1 1 (.tmp 16) (.tmp 17), none⟩,
       ⟨some 2, .move (.tmp 18), none⟩,
       ⟨some 3, .move (.const (.int .i64 0)), none⟩])
     .ret)))), [.tmp 2, .tmp 3]⟩

/-- purlin/journal.Read -/
def a17 : AFunc := ⟨34,
 (.seq
  (.region [⟨some 2, .move (.const .nilslice), none⟩,
    ⟨some 3, .move (.const (.int .i64 0)), none⟩,
    ⟨some 4, .move (.const (.int .i64 0)), none⟩])
  (.seq
   (.block 0
    (.loop [0, 2, 3]
     (.seq
      (.seq
       (.region [⟨some 7, .move (.tmp 3), none⟩,
         ⟨some 8, .move (.tmp 0), none⟩,
         ⟨some 9, .lenS (.tmp 8), none⟩,
         ⟨some 10, .iop .lss (.tmp 7) (.tmp 9), none⟩])
       (.cond (.tmp 10)
        .skip
        (.exit 0)))
      (.block 1
       (.seq
        (.region [⟨some 12, .move (.tmp 0), none⟩,
          ⟨some 13, .move (.tmp 3), none⟩,
          ⟨some 14, .sliceOp 1 (.tmp 12) (some (.tmp 13)) none none, none⟩,
          ⟨some 15, .call .shared 64 [(.tmp 14)], none⟩,
          ⟨some 11, .move (.tmp 15), none⟩,
          ⟨some 16, .extract (.tmp 11) 0, none⟩,
          ⟨some 17, .extract (.tmp 11) 1, none⟩,
          ⟨some 5, .move (.tmp 16), none⟩,
          ⟨some 6, .move (.tmp 17), none⟩])
        (.seq
         (.seq
          (.region [⟨some 18, .move (.tmp 6), none⟩,
            ⟨some 19, .not (.tmp 18), none⟩])
          (.cond (.tmp 19)
           (.seq
            (.region [⟨some 20, .move (.tmp 2), none⟩,
              ⟨some 21, .move (.tmp 3), none⟩,
              ⟨some 2, .move (.tmp 20), none⟩,
              ⟨some 3, .move (.tmp 21), none⟩,
              ⟨some 4, .move (.const (.int .i64 140)), none⟩])
            .ret)
           .skip))
         (.seq
          (.region [⟨some 22, .move (.tmp 2), none⟩,
            ⟨some 23, .move (.tmp 5), none⟩,
            ⟨some 24, .call .shared 65 [(.tmp 23)], none⟩,
            ⟨some 25, .litA 1 [.nilslice] false 1 [(0, (.tmp 24))], none⟩,
            ⟨some 26, .append 1 24 (.tmp 22) (.tmp 25), none⟩,
            ⟨some 2, .move (.tmp 26), none⟩])
          (.region [⟨some 27, .move (.tmp 3), none⟩,
            ⟨some 28, .move (.tmp 5), none⟩,
            ⟨some 29, .lenS (.tmp 28), none⟩,
            ⟨some 30, .iop .add (.const (.int .i64 8)) (.tmp 29), none⟩,
            ⟨some 31, .iop .add (.tmp 27) (.tmp 30), none⟩,
            ⟨some 3, .move (.tmp 31), none⟩]))))))))
   (.seq
    (.region [⟨some 32, .move (.tmp 2), none⟩,
      ⟨some 33, .move (.tmp 3), none⟩,
      ⟨some 2, .move (.tmp 32), none⟩,
      ⟨some 3, .move (.tmp 33), none⟩,
      ⟨some 4, .move (.const (.int .i64 0)), none⟩])
    .ret))), [.tmp 2, .tmp 3, .tmp 4]⟩

/-- purlin/purlinref14.Read -/
def a18 : AFunc := ⟨64,
 (.seq
  (.region [⟨some 2, .move (.const .nilslice), none⟩,
    ⟨some 3, .move (.const (.int .i64 0)), none⟩,
    ⟨some 4, .move (.const (.int .i64 0)), none⟩])
  (.seq
   (.region [⟨some 5, .move (.const .nilslice), none⟩])
   (.seq
    (.region [⟨some 6, .move (.const (.int .i64 0)), none⟩])
    (.seq
     (.block 0
      (.loop [0, 5, 6]
       (.seq
        (.seq
         (.region [⟨some 9, .move (.tmp 6), none⟩,
           ⟨some 10, .iop .add (.tmp 9) (.const (.int .i64 8)), none⟩,
           ⟨some 11, .move (.tmp 0), none⟩,
           ⟨some 12, .lenS (.tmp 11), none⟩,
           ⟨some 13, .iop .leq (.tmp 10) (.tmp 12), none⟩])
         (.cond (.tmp 13)
          .skip
          (.exit 0)))
        (.block 1
         (.seq
          (.region [⟨some 14, .move (.tmp 0), none⟩,
            ⟨some 15, .move (.tmp 6), none⟩,
            ⟨some 16, .sliceOp 1 (.tmp 14) (some (.tmp 15)) none none, none⟩,
            ⟨some 17, .call .shared 66 [(.tmp 16)], none⟩,
            ⟨some 7, .move (.tmp 17), none⟩])
          (.seq
           (.seq
            (.region [⟨some 18, .move (.tmp 7), none⟩,
              ⟨some 19, .iop .gtr (.tmp 18) (.const (.int .u32 131072)), none⟩,
              ⟨some 20, .move (.tmp 19), none⟩,
              ⟨some 21, .move (.tmp 6), some (20, false)⟩,
              ⟨some 22, .iop .add (.tmp 21) (.const (.int .i64 8)), some (20, false)⟩,
              ⟨some 23, .move (.tmp 7), some (20, false)⟩,
              ⟨some 24, .convI .i64 (.tmp 23), some (20, false)⟩,
              ⟨some 25, .iop .add (.tmp 22) (.tmp 24), some (20, false)⟩,
              ⟨some 26, .move (.tmp 0), some (20, false)⟩,
              ⟨some 27, .lenS (.tmp 26), some (20, false)⟩,
              ⟨some 28, .iop .gtr (.tmp 25) (.tmp 27), some (20, false)⟩,
              ⟨some 29, .pick (.tmp 20) (.const (.bool true)) (.tmp 28), none⟩])
            (.cond (.tmp 29)
             (.exit 0)
             .skip))
           (.seq
            (.region [⟨some 30, .move (.tmp 0), none⟩,
              ⟨some 31, .move (.tmp 6), none⟩,
              ⟨some 32, .iop .add (.tmp 31) (.const (.int .i64 8)), none⟩,
              ⟨some 33, .move (.tmp 6), none⟩,
              ⟨some 34, .iop .add (.tmp 33) (.const (.int .i64 8)), none⟩,
              ⟨some 35, .move (.tmp 7), none⟩,
              ⟨some 36, .convI .i64 (.tmp 35), none⟩,
              ⟨some 37, .iop .add (.tmp 34) (.tmp 36), none⟩,
              ⟨some 38, .sliceOp 1 (.tmp 30) (some (.tmp 32)) (some (.tmp 37)) none, none⟩,
              ⟨some 8, .move (.tmp 38), none⟩])
            (.seq
             (.seq
              (.region [⟨some 39, .move (.tmp 8), none⟩,
                ⟨some 40, .call .shared 22 [(.tmp 39)], none⟩,
                ⟨some 41, .move (.tmp 0), none⟩,
                ⟨some 42, .move (.tmp 6), none⟩,
                ⟨some 43, .iop .add (.tmp 42) (.const (.int .i64 4)), none⟩,
                ⟨some 44, .sliceOp 1 (.tmp 41) (some (.tmp 43)) none none, none⟩,
                ⟨some 45, .call .shared 66 [(.tmp 44)], none⟩,
                ⟨some 46, .iop .neq (.tmp 40) (.tmp 45), none⟩])
              (.cond (.tmp 46)
               (.exit 0)
               .skip))
             (.seq
              (.region [⟨some 47, .move (.tmp 5), none⟩,
                ⟨some 48, .move (.tmp 8), none⟩,
                ⟨some 49, .litA 1 [.nilslice] false 1 [(0, (.tmp 48))], none⟩,
                ⟨some 50, .append 1 24 (.tmp 47) (.tmp 49), none⟩,
                ⟨some 5, .move (.tmp 50), none⟩])
              (.region [⟨some 51, .move (.tmp 6), none⟩,
                ⟨some 52, .move (.tmp 7), none⟩,
                ⟨some 53, .convI .i64 (.tmp 52), none⟩,
                ⟨some 54, .iop .add (.const (.int .i64 8)) (.tmp 53), none⟩,
                ⟨some 55, .iop .add (.tmp 51) (.tmp 54), none⟩,
                ⟨some 6, .move (.tmp 55), none⟩]))))))))))
     (.seq
      (.seq
       (.region [⟨some 56, .move (.tmp 6), none⟩,
         ⟨some 57, .move (.tmp 0), none⟩,
         ⟨some 58, .lenS (.tmp 57), none⟩,
         ⟨some 59, .iop .lss (.tmp 56) (.tmp 58), none⟩])
       (.cond (.tmp 59)
        (.seq
         (.region [⟨some 60, .move (.tmp 5), none⟩,
           ⟨some 61, .move (.tmp 6), none⟩,
           ⟨some 2, .move (.tmp 60), none⟩,
           ⟨some 3, .move (.tmp 61), none⟩,
           ⟨some 4, .move (.const (.int .i64 140)), none⟩])
         .ret)
        .skip))
      (.seq
       (.region [⟨some 62, .move (.tmp 5), none⟩,
         ⟨some 63, .move (.tmp 6), none⟩,
         ⟨some 2, .move (.tmp 62), none⟩,
         ⟨some 3, .move (.tmp 63), none⟩,
         ⟨some 4, .move (.const (.int .i64 0)), none⟩])
       .ret)))))), [.tmp 2, .tmp 3, .tmp 4]⟩

/-- purlin/purlinlaw14.live -/
def a19 : AFunc := ⟨66,
 (.seq
  (.region [⟨some 0, .move (.const (.bool false)), none⟩])
  (.seq
   (.region [⟨some 8, .lit 1 [(.int .u8 0)] false 1 [(0, (.const (.int .u8 97)))], none⟩,
     ⟨some 9, .call .shared 15 [(.tmp 8)], none⟩,
     ⟨some 7, .move (.tmp 9), none⟩,
     ⟨some 10, .extract (.tmp 7) 0, none⟩,
     ⟨some 11, .extract (.tmp 7) 1, none⟩,
     ⟨some 1, .move (.tmp 10), none⟩,
     ⟨some 2, .move (.tmp 11), none⟩])
   (.seq
    (.region [⟨some 12, .call .shared 34 [], none⟩,
      ⟨some 3, .move (.tmp 12), none⟩])
    (.seq
     (.region [⟨some 13, .move (.tmp 3), none⟩,
       ⟨some 14, .lit 1 [(.int .u8 0)] false 2 [(0, (.const (.int .u8 1))), (1, (.const (.int .u8 2)))], none⟩,
       ⟨some 15, .call .shared 33 [(.tmp 13), (.tmp 14)], none⟩,
       ⟨some 4, .move (.tmp 15), none⟩])
     (.seq
      (.region [⟨some 17, .move (.tmp 3), none⟩,
        ⟨some 18, .lit 1 [(.int .u8 0)] false 1 [(0, (.const (.int .u8 3)))], none⟩,
        ⟨some 19, .call .shared 36 [(.tmp 17), (.tmp 18), (.const (.int .i64 8))], none⟩,
        ⟨some 16, .move (.tmp 19), none⟩,
        ⟨some 20, .extract (.tmp 16) 0, none⟩,
        ⟨some 21, .extract (.tmp 16) 1, none⟩,
        ⟨some 5, .move (.tmp 20), none⟩,
        ⟨some 6, .move (.tmp 21), none⟩])
      (.seq
       (.region [⟨some 22, .move (.tmp 2), none⟩,
         ⟨some 23, .iop .eql (.tmp 22) (.const (.int .i64 0)), none⟩,
         ⟨some 24, .move (.tmp 23), none⟩,
         ⟨some 25, .move (.tmp 1), some (24, true)⟩,
         ⟨some 26, .lit 1 [(.int .u8 0)] false 9 [(0, (.const (.int .u8 0))), (1, (.const (.int .u8 0))), (2, (.const (.int .u8 0))), (3, (.const (.int .u8 1))), (4, (.const (.int .u8 228))), (5, (.const (.int .u8 12))), (6, (.const (.int .u8 41))), (7, (.const (.int .u8 44))), (8, (.const (.int .u8 97)))], some (24, true)⟩,
         ⟨some 27, .call .shared 20 [(.tmp 25), (.tmp 26)], some (24, true)⟩,
         ⟨some 28, .pick (.tmp 24) (.tmp 27) (.const (.bool false)), none⟩,
         ⟨some 29, .move (.tmp 28), none⟩,
         ⟨some 30, .move (.tmp 4), some (29, true)⟩,
         ⟨some 31, .iop .eql (.tmp 30) (.const (.int .i64 0)), some (29, true)⟩,
         ⟨some 32, .pick (.tmp 29) (.tmp 31) (.const (.bool false)), none⟩,
         ⟨some 33, .move (.tmp 32), none⟩,
         ⟨some 34, .move (.tmp 5), some (33, true)⟩,
         ⟨some 35, .not (.tmp 34), some (33, true)⟩,
         ⟨some 36, .pick (.tmp 33) (.tmp 35) (.const (.bool false)), none⟩,
         ⟨some 37, .move (.tmp 36), none⟩,
         ⟨some 38, .move (.tmp 6), some (37, true)⟩,
         ⟨some 39, .iop .eql (.tmp 38) (.const (.int .i64 0)), some (37, true)⟩,
         ⟨some 40, .pick (.tmp 37) (.tmp 39) (.const (.bool false)), none⟩,
         ⟨some 41, .move (.tmp 40), none⟩,
         ⟨some 42, .move (.tmp 3), some (41, true)⟩,
         ⟨some 43, .call .shared 31 [(.tmp 42)], some (41, true)⟩,
         ⟨some 44, .pick (.tmp 41) (.tmp 43) (.const (.bool false)), none⟩,
         ⟨some 45, .move (.tmp 44), none⟩,
         ⟨some 46, .move (.tmp 3), some (45, true)⟩,
         ⟨some 47, .call .shared 33 [(.tmp 46), (.const .nilslice)], some (45, true)⟩,
         ⟨some 48, .iop .eql (.tmp 47) (.const (.int .i64 140)), some (45, true)⟩,
         ⟨some 49, .pick (.tmp 45) (.tmp 48) (.const (.bool false)), none⟩,
         ⟨some 50, .move (.tmp 49), none⟩,
         ⟨some 51, .move (.tmp 3), some (50, true)⟩,
         ⟨some 52, .call .shared 30 [(.tmp 51)], some (50, true)⟩,
         ⟨some 53, .iop .eql (.tmp 52) (.const (.int .i64 8)), some (50, true)⟩,
         ⟨some 54, .pick (.tmp 50) (.tmp 53) (.const (.bool false)), none⟩,
         ⟨some 55, .move (.tmp 54), none⟩,
         ⟨some 56, .move (.tmp 3), some (55, true)⟩,
         ⟨some 57, .call .shared 31 [(.tmp 56)], some (55, true)⟩,
         ⟨some 58, .not (.tmp 57), some (55, true)⟩,
         ⟨some 59, .pick (.tmp 55) (.tmp 58) (.const (.bool false)), none⟩,
         ⟨some 60, .move (.tmp 59), none⟩,
         ⟨some 61, .move (.tmp 3), some (60, true)⟩,
         ⟨some 62, .call .shared 29 [(.tmp 61)], some (60, true)⟩,
         ⟨some 63, .lenS (.tmp 62), some (60, true)⟩,
         ⟨some 64, .iop .eql (.tmp 63) (.const (.int .i64 1)), some (60, true)⟩,
         ⟨some 65, .pick (.tmp 60) (.tmp 64) (.const (.bool false)), none⟩,
         ⟨some 0, .move (.tmp 65), none⟩])
       .ret)))))), [.tmp 0]⟩

/-- purlin/purlinmem.Same -/
def a20 : AFunc := ⟨26,
 (.seq
  (.region [⟨some 4, .move (.const (.bool false)), none⟩])
  (.seq
   (.seq
    (.region [⟨some 6, .move (.tmp 0), none⟩,
      ⟨some 7, .lenS (.tmp 6), none⟩,
      ⟨some 8, .move (.tmp 1), none⟩,
      ⟨some 9, .lenS (.tmp 8), none⟩,
      ⟨some 10, .iop .neq (.tmp 7) (.tmp 9), none⟩])
    (.cond (.tmp 10)
     (.seq
      (.region [⟨some 4, .move (.const (.bool false)), none⟩])
      .ret)
     .skip))
   (.seq
    (.seq
     (.region [⟨some 5, .move (.const (.int .i64 0)), none⟩])
     (.block 0
      (.loop [0, 1, 5]
       (.seq
        (.seq
         (.region [⟨some 11, .move (.tmp 5), none⟩,
           ⟨some 12, .move (.tmp 0), none⟩,
           ⟨some 13, .lenS (.tmp 12), none⟩,
           ⟨some 14, .iop .lss (.tmp 11) (.tmp 13), none⟩])
         (.cond (.tmp 14)
          .skip
          (.exit 0)))
        (.seq
         (.block 1
          (.seq
           (.region [⟨some 17, .move (.tmp 0), none⟩,
             ⟨some 18, .move (.tmp 5), none⟩,
             ⟨some 19, .iaddr 1 (.tmp 17) (.tmp 18), none⟩,
             ⟨some 20, .load 1 false (.tmp 19), none⟩,
             ⟨some 21, .move (.tmp 1), none⟩,
             ⟨some 22, .move (.tmp 5), none⟩,
             ⟨some 23, .iaddr 1 (.tmp 21) (.tmp 22), none⟩,
             ⟨some 24, .load 1 false (.tmp 23), none⟩,
             ⟨some 25, .iop .neq (.tmp 20) (.tmp 24), none⟩])
           (.cond (.tmp 25)
            (.seq
             (.region [⟨some 4, .move (.const (.bool false)), none⟩])
             .ret)
            .skip)))
         (.region [⟨some 15, .move (.tmp 5), none⟩,
           ⟨some 16, .iop .add (.tmp 15) (.const (.int .i64 1)), none⟩,
           ⟨some 5, .move (.tmp 16), none⟩]))))))
    (.seq
     (.region [⟨some 4, .move (.const (.bool true)), none⟩])
     .ret)))), [.tmp 4]⟩

/-- purlin/journal.Sum -/
def a21 : AFunc := ⟨19,
 (.seq
  (.region [⟨some 2, .move (.const (.int .u32 0)), none⟩])
  (.seq
   (.region [⟨some 3, .move (.const (.int .u32 2166136261)), none⟩])
   (.seq
    (.seq
     (.region [⟨some 6, .move (.tmp 0), none⟩,
       ⟨some 7, .lenS (.tmp 6), none⟩,
       ⟨some 8, .move (.const (.int .i64 0)), none⟩])
     (.block 0
      (.loop [3, 6, 7, 8]
       (.seq
        (.region [⟨some 9, .iop .lss (.tmp 8) (.tmp 7), none⟩])
        (.seq
         (.cond (.tmp 9)
          .skip
          (.exit 0))
         (.seq
          (.block 1
           (.seq
            (.region [⟨some 10, .iaddr 1 (.tmp 6) (.tmp 8), none⟩,
              ⟨some 11, .load 1 false (.tmp 10), none⟩,
              ⟨some 5, .move (.tmp 11), none⟩])
            (.region [⟨some 12, .move (.tmp 3), none⟩,
              ⟨some 13, .move (.tmp 5), none⟩,
              ⟨some 14, .convI .u32 (.tmp 13), none⟩,
              ⟨some 15, .iop .xor (.tmp 12) (.tmp 14), none⟩,
              ⟨some 16, .iop .mul (.tmp 15) (.const (.int .u32 16777619)), none⟩,
              ⟨some 3, .move (.tmp 16), none⟩])))
          (.region [⟨some 17, .iop .add (.tmp 8) (.const (.int .i64 1)), none⟩,
            ⟨some 8, .move (.tmp 17), none⟩])))))))
    (.seq
     (.region [⟨some 18, .move (.tmp 3), none⟩,
       ⟨some 2, .move (.tmp 18), none⟩])
     .ret)))), [.tmp 2]⟩

/-- purlin/purlinref14.Sum -/
def a22 : AFunc := ⟨21,
 (.seq
  (.region [⟨some 2, .move (.const (.int .u32 0)), none⟩])
  (.seq
   (.region [⟨some 3, .move (.const (.int .u32 2166136261)), none⟩])
   (.seq
    (.seq
     (.region [⟨some 4, .move (.const (.int .i64 0)), none⟩])
     (.block 0
      (.loop [0, 3, 4]
       (.seq
        (.seq
         (.region [⟨some 5, .move (.tmp 4), none⟩,
           ⟨some 6, .move (.tmp 0), none⟩,
           ⟨some 7, .lenS (.tmp 6), none⟩,
           ⟨some 8, .iop .lss (.tmp 5) (.tmp 7), none⟩])
         (.cond (.tmp 8)
          .skip
          (.exit 0)))
        (.seq
         (.block 1
          (.seq
           (.region [⟨some 11, .move (.tmp 3), none⟩,
             ⟨some 12, .move (.tmp 0), none⟩,
             ⟨some 13, .move (.tmp 4), none⟩,
             ⟨some 14, .iaddr 1 (.tmp 12) (.tmp 13), none⟩,
             ⟨some 15, .load 1 false (.tmp 14), none⟩,
             ⟨some 16, .convI .u32 (.tmp 15), none⟩,
             ⟨some 17, .iop .xor (.tmp 11) (.tmp 16), none⟩,
             ⟨some 3, .move (.tmp 17), none⟩])
           (.region [⟨some 18, .move (.tmp 3), none⟩,
             ⟨some 19, .iop .mul (.tmp 18) (.const (.int .u32 16777619)), none⟩,
             ⟨some 3, .move (.tmp 19), none⟩])))
         (.region [⟨some 9, .move (.tmp 4), none⟩,
           ⟨some 10, .iop .add (.tmp 9) (.const (.int .i64 1)), none⟩,
           ⟨some 4, .move (.tmp 10), none⟩]))))))
    (.seq
     (.region [⟨some 20, .move (.tmp 3), none⟩,
       ⟨some 2, .move (.tmp 20), none⟩])
     .ret)))), [.tmp 2]⟩

/-- purlin/purlinmem.SamePayloads -/
def a23 : AFunc := ⟨27,
 (.seq
  (.region [⟨some 4, .move (.const (.bool false)), none⟩])
  (.seq
   (.seq
    (.region [⟨some 6, .move (.tmp 0), none⟩,
      ⟨some 7, .lenS (.tmp 6), none⟩,
      ⟨some 8, .move (.tmp 1), none⟩,
      ⟨some 9, .lenS (.tmp 8), none⟩,
      ⟨some 10, .iop .neq (.tmp 7) (.tmp 9), none⟩])
    (.cond (.tmp 10)
     (.seq
      (.region [⟨some 4, .move (.const (.bool false)), none⟩])
      .ret)
     .skip))
   (.seq
    (.seq
     (.region [⟨some 5, .move (.const (.int .i64 0)), none⟩])
     (.block 0
      (.loop [0, 1, 5]
       (.seq
        (.seq
         (.region [⟨some 11, .move (.tmp 5), none⟩,
           ⟨some 12, .move (.tmp 0), none⟩,
           ⟨some 13, .lenS (.tmp 12), none⟩,
           ⟨some 14, .iop .lss (.tmp 11) (.tmp 13), none⟩])
         (.cond (.tmp 14)
          .skip
          (.exit 0)))
        (.seq
         (.block 1
          (.seq
           (.region [⟨some 17, .move (.tmp 0), none⟩,
             ⟨some 18, .move (.tmp 5), none⟩,
             ⟨some 19, .iaddr 1 (.tmp 17) (.tmp 18), none⟩,
             ⟨some 20, .load 1 false (.tmp 19), none⟩,
             ⟨some 21, .move (.tmp 1), none⟩,
             ⟨some 22, .move (.tmp 5), none⟩,
             ⟨some 23, .iaddr 1 (.tmp 21) (.tmp 22), none⟩,
             ⟨some 24, .load 1 false (.tmp 23), none⟩,
             ⟨some 25, .call .shared 20 [(.tmp 20), (.tmp 24)], none⟩,
             ⟨some 26, .not (.tmp 25), none⟩])
           (.cond (.tmp 26)
            (.seq
             (.region [⟨some 4, .move (.const (.bool false)), none⟩])
             .ret)
            .skip)))
         (.region [⟨some 15, .move (.tmp 5), none⟩,
           ⟨some 16, .iop .add (.tmp 15) (.const (.int .i64 1)), none⟩,
           ⟨some 5, .move (.tmp 16), none⟩]))))))
    (.seq
     (.region [⟨some 4, .move (.const (.bool true)), none⟩])
     .ret)))), [.tmp 4]⟩

/-- (*purlin/purlinmem.Book).TakeBytes -/
def a24 : AFunc := ⟨14,
 (.region [⟨some 4, .move (.tmp 0), none⟩,
   ⟨some 5, .move (.tmp 0), none⟩,
   ⟨some 6, .nilCheck (.tmp 5), none⟩,
   ⟨some 7, .faddr 0 (.tmp 6), none⟩,
   ⟨some 8, .load 1 false (.tmp 7), none⟩,
   ⟨some 9, .move (.tmp 1), none⟩,
   ⟨some 10, .litA 1 [.nilslice] false 1 [(0, (.tmp 9))], none⟩,
   ⟨some 11, .append 1 24 (.tmp 8) (.tmp 10), none⟩,
   ⟨some 12, .nilCheck (.tmp 4), none⟩,
   ⟨some 13, .faddr 0 (.tmp 12), none⟩,
   ⟨none, .store 1 (.tmp 13) (.tmp 11), none⟩]), []⟩

/-- (*purlin/purlinmem.Book).TakePayloads -/
def a25 : AFunc := ⟨17,
 (.seq
  (.region [⟨some 4, .move (.const (.int .i64 0)), none⟩])
  (.block 0
   (.loop [0, 1, 4]
    (.seq
     (.seq
      (.region [⟨some 5, .move (.tmp 4), none⟩,
        ⟨some 6, .move (.tmp 1), none⟩,
        ⟨some 7, .lenS (.tmp 6), none⟩,
        ⟨some 8, .iop .lss (.tmp 5) (.tmp 7), none⟩])
      (.cond (.tmp 8)
       .skip
       (.exit 0)))
     (.seq
      (.block 1
       (.region [⟨some 11, .move (.tmp 0), none⟩,
         ⟨some 12, .move (.tmp 1), none⟩,
         ⟨some 13, .move (.tmp 4), none⟩,
         ⟨some 14, .iaddr 1 (.tmp 12) (.tmp 13), none⟩,
         ⟨some 15, .load 1 false (.tmp 14), none⟩,
         ⟨some 16, .call .shared 24 [(.tmp 11), (.tmp 15)], none⟩]))
      (.region [⟨some 9, .move (.tmp 4), none⟩,
        ⟨some 10, .iop .add (.tmp 9) (.const (.int .i64 1)), none⟩,
        ⟨some 4, .move (.tmp 10), none⟩])))))), []⟩

/-- (*purlin/purlinmem.Book).Alone -/
def a26 : AFunc := ⟨26,
 (.seq
  (.region [⟨some 2, .move (.const (.bool false)), none⟩])
  (.seq
   (.region [⟨some 4, .move (.tmp 0), none⟩,
     ⟨some 5, .call .shared 67 [(.tmp 4)], none⟩,
     ⟨some 6, .move (.tmp 5), none⟩,
     ⟨some 7, .move (.tmp 0), some (6, true)⟩,
     ⟨some 8, .call .shared 68 [(.tmp 7)], some (6, true)⟩,
     ⟨some 9, .pick (.tmp 6) (.tmp 8) (.const (.bool false)), none⟩,
     ⟨some 10, .move (.tmp 9), none⟩,
     ⟨some 11, .move (.tmp 0), some (10, true)⟩,
     ⟨some 12, .call .shared 69 [(.tmp 11)], some (10, true)⟩,
     ⟨some 13, .pick (.tmp 10) (.tmp 12) (.const (.bool false)), none⟩,
     ⟨some 14, .move (.tmp 13), none⟩,
     ⟨some 15, .move (.tmp 0), some (14, true)⟩,
     ⟨some 16, .call .shared 70 [(.tmp 15)], some (14, true)⟩,
     ⟨some 17, .pick (.tmp 14) (.tmp 16) (.const (.bool false)), none⟩,
     ⟨some 18, .move (.tmp 17), none⟩,
     ⟨some 19, .move (.tmp 0), some (18, true)⟩,
     ⟨some 20, .call .shared 71 [(.tmp 19)], some (18, true)⟩,
     ⟨some 21, .pick (.tmp 18) (.tmp 20) (.const (.bool false)), none⟩,
     ⟨some 3, .move (.tmp 21), none⟩])
   (.seq
    (.region [⟨some 22, .move (.tmp 0), none⟩,
      ⟨some 23, .build [.nilslice, .nilslice, .nilslice, .nilslice, .nilslice] [], none⟩,
      ⟨some 24, .nilCheck (.tmp 22), none⟩,
      ⟨none, .store 5 (.tmp 24) (.tmp 23), none⟩])
    (.seq
     (.region [⟨some 25, .move (.tmp 3), none⟩,
       ⟨some 2, .move (.tmp 25), none⟩])
     .ret)))), [.tmp 2]⟩

/-- purlin/purlinmem.Kept -/
def a27 : AFunc := ⟨35,
 (.seq
  (.region [⟨some 4, .move (.const (.bool false)), none⟩])
  (.seq
   (.seq
    (.region [⟨some 7, .move (.tmp 0), none⟩,
      ⟨some 8, .move (.tmp 1), none⟩,
      ⟨some 9, .call .shared 20 [(.tmp 7), (.tmp 8)], none⟩,
      ⟨some 10, .not (.tmp 9), none⟩])
    (.cond (.tmp 10)
     (.seq
      (.region [⟨some 4, .move (.const (.bool false)), none⟩])
      .ret)
     .skip))
   (.seq
    (.region [⟨some 11, .move (.tmp 0), none⟩,
      ⟨some 12, .move (.tmp 1), none⟩,
      ⟨some 13, .lenS (.tmp 12), none⟩,
      ⟨some 14, .iop .add (.tmp 13) (.const (.int .i64 9)), none⟩,
      ⟨some 15, .sliceOp 1 (.tmp 11) none (some (.tmp 14)) none, none⟩,
      ⟨some 5, .move (.tmp 15), none⟩])
    (.seq
     (.seq
      (.region [⟨some 16, .move (.tmp 1), none⟩,
        ⟨some 17, .lenS (.tmp 16), none⟩,
        ⟨some 6, .move (.tmp 17), none⟩])
      (.block 0
       (.loop [1, 5, 6]
        (.seq
         (.seq
          (.region [⟨some 18, .move (.tmp 6), none⟩,
            ⟨some 19, .move (.tmp 5), none⟩,
            ⟨some 20, .lenS (.tmp 19), none⟩,
            ⟨some 21, .iop .lss (.tmp 18) (.tmp 20), none⟩])
          (.cond (.tmp 21)
           .skip
           (.exit 0)))
         (.seq
          (.block 1
           (.seq
            (.region [⟨some 24, .move (.tmp 5), none⟩,
              ⟨some 25, .move (.tmp 6), none⟩,
              ⟨some 26, .iaddr 1 (.tmp 24) (.tmp 25), none⟩,
              ⟨some 27, .load 1 false (.tmp 26), none⟩,
              ⟨some 28, .move (.tmp 6), none⟩,
              ⟨some 29, .iop .add (.const (.int .i64 160)) (.tmp 28), none⟩,
              ⟨some 30, .move (.tmp 1), none⟩,
              ⟨some 31, .lenS (.tmp 30), none⟩,
              ⟨some 32, .iop .sub (.tmp 29) (.tmp 31), none⟩,
              ⟨some 33, .convI .u8 (.tmp 32), none⟩,
              ⟨some 34, .iop .neq (.tmp 27) (.tmp 33), none⟩])
            (.cond (.tmp 34)
             (.seq
              (.region [⟨some 4, .move (.const (.bool false)), none⟩])
              .ret)
             .skip)))
          (.region [⟨some 22, .move (.tmp 6), none⟩,
            ⟨some 23, .iop .add (.tmp 22) (.const (.int .i64 1)), none⟩,
            ⟨some 6, .move (.tmp 23), none⟩]))))))
     (.seq
      (.region [⟨some 4, .move (.const (.bool true)), none⟩])
      .ret))))), [.tmp 4]⟩

/-- purlin/journal.Open -/
def a28 : AFunc := ⟨11,
 (.seq
  (.region [⟨some 2, .move (.const .nilptr), none⟩])
  (.seq
   (.region [⟨some 4, .move (.tmp 0), none⟩,
     ⟨some 5, .call .shared 65 [(.tmp 4)], none⟩,
     ⟨some 6, .build [.nilslice, (.int .i64 0), (.int .i64 0)] [(0, 1, (.tmp 5))], none⟩,
     ⟨some 7, .box (.tmp 6), none⟩,
     ⟨some 3, .move (.tmp 7), none⟩])
   (.seq
    (.region [⟨some 8, .move (.tmp 3), none⟩,
      ⟨some 9, .call .shared 72 [(.tmp 8)], none⟩])
    (.seq
     (.region [⟨some 10, .move (.tmp 3), none⟩,
       ⟨some 2, .move (.tmp 10), none⟩])
     .ret)))), [.tmp 2]⟩

/-- (*purlin/journal.Log).Payloads -/
def a29 : AFunc := ⟨18,
 (.seq
  (.region [⟨some 2, .move (.const .nilslice), none⟩])
  (.seq
   (.seq
    (.region [⟨some 6, .move (.tmp 0), none⟩,
      ⟨some 7, .eqnil false .p (.tmp 6), none⟩])
    (.cond (.tmp 7)
     (.seq
      (.region [⟨some 2, .move (.const .nilslice), none⟩])
      .ret)
     .skip))
   (.seq
    (.region [⟨some 9, .move (.tmp 0), none⟩,
      ⟨some 10, .nilCheck (.tmp 9), none⟩,
      ⟨some 11, .faddr 0 (.tmp 10), none⟩,
      ⟨some 12, .load 1 false (.tmp 11), none⟩,
      ⟨some 13, .call .shared 17 [(.tmp 12)], none⟩,
      ⟨some 8, .move (.tmp 13), none⟩,
      ⟨some 14, .extract (.tmp 8) 0, none⟩,
      ⟨some 15, .extract (.tmp 8) 1, none⟩,
      ⟨some 16, .extract (.tmp 8) 2, none⟩,
      ⟨some 3, .move (.tmp 14), none⟩,
      ⟨some 4, .move (.tmp 15), none⟩,
      ⟨some 5, .move (.tmp 16), none⟩])
    (.seq
     (.region [⟨some 17, .move (.tmp 3), none⟩,
       ⟨some 2, .move (.tmp 17), none⟩])
     .ret)))), [.tmp 2]⟩

/-- (*purlin/journal.Log).Mend -/
def a30 : AFunc := ⟨33,
 (.seq
  (.region [⟨some 2, .move (.const (.int .i64 0)), none⟩])
  (.seq
   (.seq
    (.region [⟨some 4, .move (.tmp 0), none⟩,
      ⟨some 5, .eqnil false .p (.tmp 4), none⟩])
    (.cond (.tmp 5)
     (.seq
      (.region [⟨some 2, .move (.const (.int .i64 0)), none⟩])
      .ret)
     .skip))
   (.seq
    (.region [⟨some 6, .move (.tmp 0), none⟩,
      ⟨some 7, .nilCheck (.tmp 6), none⟩,
      ⟨some 8, .faddr 0 (.tmp 7), none⟩,
      ⟨some 9, .load 1 false (.tmp 8), none⟩,
      ⟨some 10, .lenS (.tmp 9), none⟩,
      ⟨some 11, .move (.tmp 0), none⟩,
      ⟨some 12, .nilCheck (.tmp 11), none⟩,
      ⟨some 13, .faddr 2 (.tmp 12), none⟩,
      ⟨some 14, .load 1 false (.tmp 13), none⟩,
      ⟨some 15, .iop .sub (.tmp 10) (.tmp 14), none⟩,
      ⟨some 3, .move (.tmp 15), none⟩])
    (.seq
     (.region [⟨some 16, .move (.tmp 0), none⟩,
       ⟨some 17, .move (.tmp 0), none⟩,
       ⟨some 18, .nilCheck (.tmp 17), none⟩,
       ⟨some 19, .faddr 0 (.tmp 18), none⟩,
       ⟨some 20, .load 1 false (.tmp 19), none⟩,
       ⟨some 21, .move (.tmp 0), none⟩,
       ⟨some 22, .nilCheck (.tmp 21), none⟩,
       ⟨some 23, .faddr 2 (.tmp 22), none⟩,
       ⟨some 24, .load 1 false (.tmp 23), none⟩,
       ⟨some 25, .move (.tmp 0), none⟩,
       ⟨some 26, .nilCheck (.tmp 25), none⟩,
       ⟨some 27, .faddr 2 (.tmp 26), none⟩,
       ⟨some 28, .load 1 false (.tmp 27), none⟩,
       ⟨some 29, .sliceOp 1 (.tmp 20) none (some (.tmp 24)) (some (.tmp 28)), none⟩,
       ⟨some 30, .nilCheck (.tmp 16), none⟩,
       ⟨some 31, .faddr 0 (.tmp 30), none⟩,
       ⟨none, .store 1 (.tmp 31) (.tmp 29), none⟩])
     (.seq
      (.region [⟨some 32, .move (.tmp 3), none⟩,
        ⟨some 2, .move (.tmp 32), none⟩])
      .ret))))), [.tmp 2]⟩

/-- (*purlin/journal.Log).Torn -/
def a31 : AFunc := ⟨17,
 (.seq
  (.region [⟨some 2, .move (.const (.bool false)), none⟩])
  (.seq
   (.region [⟨some 3, .move (.tmp 0), none⟩,
     ⟨some 4, .eqnil true .p (.tmp 3), none⟩,
     ⟨some 5, .move (.tmp 4), none⟩,
     ⟨some 6, .move (.tmp 0), some (5, true)⟩,
     ⟨some 7, .nilCheck (.tmp 6), some (5, true)⟩,
     ⟨some 8, .faddr 2 (.tmp 7), some (5, true)⟩,
     ⟨some 9, .load 1 false (.tmp 8), some (5, true)⟩,
     ⟨some 10, .move (.tmp 0), some (5, true)⟩,
     ⟨some 11, .nilCheck (.tmp 10), some (5, true)⟩,
     ⟨some 12, .faddr 0 (.tmp 11), some (5, true)⟩,
     ⟨some 13, .load 1 false (.tmp 12), some (5, true)⟩,
     ⟨some 14, .lenS (.tmp 13), some (5, true)⟩,
     ⟨some 15, .iop .lss (.tmp 9) (.tmp 14), some (5, true)⟩,
     ⟨some 16, .pick (.tmp 5) (.tmp 15) (.const (.bool false)), none⟩,
     ⟨some 2, .move (.tmp 16), none⟩])
   .ret)), [.tmp 2]⟩

/-- (*purlin/journal.Log).Bytes -/
def a32 : AFunc := ⟨10,
 (.seq
  (.region [⟨some 2, .move (.const .nilslice), none⟩])
  (.seq
   (.seq
    (.region [⟨some 3, .move (.tmp 0), none⟩,
      ⟨some 4, .eqnil false .p (.tmp 3), none⟩])
    (.cond (.tmp 4)
     (.seq
      (.region [⟨some 2, .move (.const .nilslice), none⟩])
      .ret)
     .skip))
   (.seq
    (.region [⟨some 5, .move (.tmp 0), none⟩,
      ⟨some 6, .nilCheck (.tmp 5), none⟩,
      ⟨some 7, .faddr 0 (.tmp 6), none⟩,
      ⟨some 8, .load 1 false (.tmp 7), none⟩,
      ⟨some 9, .call .shared 65 [(.tmp 8)], none⟩,
      ⟨some 2, .move (.tmp 9), none⟩])
    .ret))), [.tmp 2]⟩

/-- (*purlin/journal.Log).Append -/
def a33 : AFunc := ⟨17,
 (.seq
  (.region [⟨some 4, .move (.const (.int .i64 0)), none⟩])
  (.seq
   (.region [⟨some 8, .move (.tmp 0), none⟩,
     ⟨some 9, .move (.tmp 1), none⟩,
     ⟨some 10, .move (.tmp 1), none⟩,
     ⟨some 11, .lenS (.tmp 10), none⟩,
     ⟨some 12, .iop .add (.tmp 11) (.const (.int .i64 8)), none⟩,
     ⟨some 13, .call .shared 36 [(.tmp 8), (.tmp 9), (.tmp 12)], none⟩,
     ⟨some 7, .move (.tmp 13), none⟩,
     ⟨some 14, .extract (.tmp 7) 0, none⟩,
     ⟨some 15, .extract (.tmp 7) 1, none⟩,
     ⟨some 5, .move (.tmp 14), none⟩,
     ⟨some 6, .move (.tmp 15), none⟩])
   (.seq
    (.region [⟨some 16, .move (.tmp 6), none⟩,
      ⟨some 4, .move (.tmp 16), none⟩])
    .ret))), [.tmp 4]⟩

/-- purlin/journal.New -/
def a34 : AFunc := ⟨3,
 (.seq
  (.region [⟨some 0, .move (.const .nilptr), none⟩])
  (.seq
   (.region [⟨some 1, .build [.nilslice, (.int .i64 0), (.int .i64 0)] [], none⟩,
     ⟨some 2, .box (.tmp 1), none⟩,
     ⟨some 0, .move (.tmp 2), none⟩])
   .ret)), [.tmp 0]⟩

/-- (*purlin/journal.Log).Len -/
def a35 : AFunc := ⟨15,
 (.seq
  (.region [⟨some 2, .move (.const (.int .i64 0)), none⟩,
    ⟨some 3, .move (.const (.int .i64 0)), none⟩])
  (.seq
   (.seq
    (.region [⟨some 4, .move (.tmp 0), none⟩,
      ⟨some 5, .eqnil false .p (.tmp 4), none⟩])
    (.cond (.tmp 5)
     (.seq
      (.region [⟨some 2, .move (.const (.int .i64 0)), none⟩,
        ⟨some 3, .move (.const (.int .i64 0)), none⟩])
      .ret)
     .skip))
   (.seq
    (.region [⟨some 6, .move (.tmp 0), none⟩,
      ⟨some 7, .nilCheck (.tmp 6), none⟩,
      ⟨some 8, .faddr 1 (.tmp 7), none⟩,
      ⟨some 9, .load 1 false (.tmp 8), none⟩,
      ⟨some 10, .move (.tmp 0), none⟩,
      ⟨some 11, .nilCheck (.tmp 10), none⟩,
      ⟨some 12, .faddr 0 (.tmp 11), none⟩,
      ⟨some 13, .load 1 false (.tmp 12), none⟩,
      ⟨some 14, .lenS (.tmp 13), none⟩,
      ⟨some 2, .move (.tmp 9), none⟩,
      ⟨some 3, .move (.tmp 14), none⟩])
    .ret))), [.tmp 2, .tmp 3]⟩

/-- (*purlin/journal.Log).Cut -/
def a36 : AFunc := ⟨55,
 (.seq
  (.region [⟨some 6, .move (.const (.bool false)), none⟩,
    ⟨some 7, .move (.const (.int .i64 0)), none⟩])
  (.seq
   (.block 0
    (.seq
     (.region [⟨some 12, .move (.tmp 0), none⟩,
       ⟨some 13, .eqnil false .p (.tmp 12), none⟩,
       ⟨some 11, .move (.tmp 13), none⟩])
     (.cond (.tmp 11)
      (.seq
       (.region [⟨some 6, .move (.const (.bool false)), none⟩,
         ⟨some 7, .move (.const (.int .i64 1)), none⟩])
       .ret)
      (.seq
       (.region [⟨some 15, .move (.tmp 0), none⟩,
         ⟨some 16, .call .shared 31 [(.tmp 15)], none⟩,
         ⟨some 14, .move (.tmp 16), none⟩])
       (.cond (.tmp 14)
        (.seq
         (.region [⟨some 6, .move (.const (.bool false)), none⟩,
           ⟨some 7, .move (.const (.int .i64 140)), none⟩])
         .ret)
        .skip)))))
   (.seq
    (.region [⟨some 18, .move (.tmp 1), none⟩,
      ⟨some 19, .call .shared 15 [(.tmp 18)], none⟩,
      ⟨some 17, .move (.tmp 19), none⟩,
      ⟨some 20, .extract (.tmp 17) 0, none⟩,
      ⟨some 21, .extract (.tmp 17) 1, none⟩,
      ⟨some 8, .move (.tmp 20), none⟩,
      ⟨some 9, .move (.tmp 21), none⟩])
    (.seq
     (.block 1
      (.seq
       (.region [⟨some 23, .move (.tmp 9), none⟩,
         ⟨some 24, .iop .neq (.tmp 23) (.const (.int .i64 0)), none⟩,
         ⟨some 22, .move (.tmp 24), none⟩])
       (.cond (.tmp 22)
        (.seq
         (.region [⟨some 25, .move (.tmp 9), none⟩,
           ⟨some 6, .move (.const (.bool false)), none⟩,
           ⟨some 7, .move (.tmp 25), none⟩])
         .ret)
        (.seq
         (.region [⟨some 27, .move (.tmp 2), none⟩,
           ⟨some 28, .iop .lss (.tmp 27) (.const (.int .i64 0)), none⟩,
           ⟨some 26, .move (.tmp 28), none⟩])
         (.cond (.tmp 26)
          (.seq
           (.region [⟨some 6, .move (.const (.bool false)), none⟩,
             ⟨some 7, .move (.const (.int .i64 2)), none⟩])
           .ret)
          .skip)))))
     (.seq
      (.region [⟨some 29, .move (.tmp 0), none⟩,
        ⟨some 30, .nilCheck (.tmp 29), none⟩,
        ⟨some 31, .faddr 1 (.tmp 30), none⟩,
        ⟨some 32, .load 1 false (.tmp 31), none⟩,
        ⟨some 10, .move (.tmp 32), none⟩])
      (.seq
       (.region [⟨some 33, .move (.tmp 0), none⟩,
         ⟨some 34, .move (.tmp 0), none⟩,
         ⟨some 35, .nilCheck (.tmp 34), none⟩,
         ⟨some 36, .faddr 0 (.tmp 35), none⟩,
         ⟨some 37, .load 1 false (.tmp 36), none⟩,
         ⟨some 38, .move (.tmp 8), none⟩,
         ⟨some 39, .move (.tmp 2), none⟩,
         ⟨some 40, .move (.tmp 8), none⟩,
         ⟨some 41, .lenS (.tmp 40), none⟩,
         ⟨some 42, .minI [(.tmp 39), (.tmp 41)], none⟩,
         ⟨some 43, .sliceOp 1 (.tmp 38) none (some (.tmp 42)) none, none⟩,
         ⟨some 44, .append 1 1 (.tmp 37) (.tmp 43), none⟩,
         ⟨some 45, .nilCheck (.tmp 33), none⟩,
         ⟨some 46, .faddr 0 (.tmp 45), none⟩,
         ⟨none, .store 1 (.tmp 46) (.tmp 44), none⟩])
       (.seq
        (.region [⟨some 47, .move (.tmp 0), none⟩,
          ⟨some 48, .call .shared 72 [(.tmp 47)], none⟩])
        (.seq
         (.region [⟨some 49, .move (.tmp 0), none⟩,
           ⟨some 50, .nilCheck (.tmp 49), none⟩,
           ⟨some 51, .faddr 1 (.tmp 50), none⟩,
           ⟨some 52, .load 1 false (.tmp 51), none⟩,
           ⟨some 53, .move (.tmp 10), none⟩,
           ⟨some 54, .iop .gtr (.tmp 52) (.tmp 53), none⟩,
           ⟨some 6, .move (.tmp 54), none⟩,
           ⟨some 7, .move (.const (.int .i64 0)), none⟩])
         .ret)))))))), [.tmp 6, .tmp 7]⟩

/-- (*purlin/journal.Log).Fork -/
def a37 : AFunc := ⟨20,
 (.seq
  (.region [⟨some 2, .move (.const .nilptr), none⟩])
  (.seq
   (.seq
    (.region [⟨some 3, .move (.tmp 0), none⟩,
      ⟨some 4, .eqnil false .p (.tmp 3), none⟩])
    (.cond (.tmp 4)
     (.seq
      (.region [⟨some 2, .move (.const .nilptr), none⟩])
      .ret)
     .skip))
   (.seq
    (.drawn [⟨some 5, .move (.tmp 0), none⟩,
      ⟨some 6, .nilCheck (.tmp 5), none⟩,
      ⟨some 7, .faddr 0 (.tmp 6), none⟩,
      ⟨some 8, .load 1 false (.tmp 7), none⟩,
      ⟨some 9, .call .shared 65 [(.tmp 8)], none⟩,
      ⟨some 10, .move (.tmp 0), none⟩,
      ⟨some 11, .nilCheck (.tmp 10), none⟩,
      ⟨some 12, .faddr 1 (.tmp 11), none⟩,
      ⟨some 13, .load 1 false (.tmp 12), none⟩,
      ⟨some 14, .move (.tmp 0), none⟩,
      ⟨some 15, .nilCheck (.tmp 14), none⟩,
      ⟨some 16, .faddr 2 (.tmp 15), none⟩,
      ⟨some 17, .load 1 false (.tmp 16), none⟩,
      ⟨some 18, .build [.nilslice, (.int .i64 0), (.int .i64 0)] [(0, 1, (.tmp 9)), (1, 1, (.tmp 13)), (2, 1, (.tmp 17))], none⟩,
      ⟨some 19, .box (.tmp 18), none⟩,
      ⟨some 2, .move (.tmp 19), none⟩] [(8, 4), (12, 4)])
    .ret))), [.tmp 2]⟩

/-- purlin/purlinref14.Open -/
def a38 : AFunc := ⟨8,
 (.seq
  (.region [⟨some 2, .move (.const .nilptr), none⟩])
  (.seq
   (.region [⟨some 3, .lit 1 [(.int .u8 0)] false 0 [], none⟩,
     ⟨some 4, .move (.tmp 0), none⟩,
     ⟨some 5, .append 1 1 (.tmp 3) (.tmp 4), none⟩,
     ⟨some 6, .build [.nilslice] [(0, 1, (.tmp 5))], none⟩,
     ⟨some 7, .box (.tmp 6), none⟩,
     ⟨some 2, .move (.tmp 7), none⟩])
   .ret)), [.tmp 2]⟩

/-- (purlin/purlinlaw14.both).alike -/
def a39 : AFunc := ⟨56,
 (.seq
  (.region [⟨some 1, .box (.tmp 0), none⟩,
    ⟨some 2, .move (.const (.bool false)), none⟩])
  (.seq
   (.region [⟨some 6, .faddr 0 (.tmp 1), none⟩,
     ⟨some 7, .load 1 false (.tmp 6), none⟩,
     ⟨some 8, .call .shared 35 [(.tmp 7)], none⟩,
     ⟨some 5, .move (.tmp 8), none⟩,
     ⟨some 9, .extract (.tmp 5) 0, none⟩,
     ⟨some 10, .extract (.tmp 5) 1, none⟩,
     ⟨some 3, .move (.tmp 9), none⟩,
     ⟨some 4, .move (.tmp 10), none⟩])
   (.seq
    (.drawn [⟨some 11, .faddr 0 (.tmp 1), none⟩,
      ⟨some 12, .load 1 false (.tmp 11), none⟩,
      ⟨some 13, .call .shared 32 [(.tmp 12)], none⟩,
      ⟨some 14, .faddr 1 (.tmp 1), none⟩,
      ⟨some 15, .load 1 false (.tmp 14), none⟩,
      ⟨some 16, .nilCheck (.tmp 15), none⟩,
      ⟨some 17, .faddr 0 (.tmp 16), none⟩,
      ⟨some 18, .load 1 false (.tmp 17), none⟩,
      ⟨some 19, .call .shared 20 [(.tmp 13), (.tmp 18)], none⟩,
      ⟨some 20, .move (.tmp 19), none⟩,
      ⟨some 21, .faddr 0 (.tmp 1), some (20, true)⟩,
      ⟨some 22, .load 1 false (.tmp 21), some (20, true)⟩,
      ⟨some 23, .call .shared 31 [(.tmp 22)], some (20, true)⟩,
      ⟨some 24, .faddr 1 (.tmp 1), some (20, true)⟩,
      ⟨some 25, .load 1 false (.tmp 24), some (20, true)⟩,
      ⟨some 26, .call .shared 73 [(.tmp 25)], some (20, true)⟩,
      ⟨some 27, .bop false (.tmp 23) (.tmp 26), some (20, true)⟩,
      ⟨some 28, .pick (.tmp 20) (.tmp 27) (.const (.bool false)), none⟩,
      ⟨some 29, .move (.tmp 28), none⟩,
      ⟨some 30, .faddr 0 (.tmp 1), some (29, true)⟩,
      ⟨some 31, .load 1 false (.tmp 30), some (29, true)⟩,
      ⟨some 32, .call .shared 29 [(.tmp 31)], some (29, true)⟩,
      ⟨some 33, .faddr 1 (.tmp 1), some (29, true)⟩,
      ⟨some 34, .load 1 false (.tmp 33), some (29, true)⟩,
      ⟨some 35, .call .shared 74 [(.tmp 34)], some (29, true)⟩,
      ⟨some 36, .call .shared 23 [(.tmp 32), (.tmp 35)], some (29, true)⟩,
      ⟨some 37, .pick (.tmp 29) (.tmp 36) (.const (.bool false)), none⟩,
      ⟨some 38, .move (.tmp 37), none⟩,
      ⟨some 39, .move (.tmp 3), some (38, true)⟩,
      ⟨some 40, .faddr 1 (.tmp 1), some (38, true)⟩,
      ⟨some 41, .load 1 false (.tmp 40), some (38, true)⟩,
      ⟨some 42, .call .shared 74 [(.tmp 41)], some (38, true)⟩,
      ⟨some 43, .lenS (.tmp 42), some (38, true)⟩,
      ⟨some 44, .iop .eql (.tmp 39) (.tmp 43), some (38, true)⟩,
      ⟨some 45, .pick (.tmp 38) (.tmp 44) (.const (.bool false)), none⟩,
      ⟨some 46, .move (.tmp 45), none⟩,
      ⟨some 47, .move (.tmp 4), some (46, true)⟩,
      ⟨some 48, .faddr 1 (.tmp 1), some (46, true)⟩,
      ⟨some 49, .load 1 false (.tmp 48), some (46, true)⟩,
      ⟨some 50, .nilCheck (.tmp 49), some (46, true)⟩,
      ⟨some 51, .faddr 0 (.tmp 50), some (46, true)⟩,
      ⟨some 52, .load 1 false (.tmp 51), some (46, true)⟩,
      ⟨some 53, .lenS (.tmp 52), some (46, true)⟩,
      ⟨some 54, .iop .eql (.tmp 47) (.tmp 53), some (46, true)⟩,
      ⟨some 55, .pick (.tmp 46) (.tmp 54) (.const (.bool false)), none⟩,
      ⟨some 2, .move (.tmp 55), none⟩] [(4, 2), (7, 2), (14, 12), (23, 21)])
    .ret))), [.tmp 2]⟩

/-- (*purlin/purlinref14.Log).Fork -/
def a40 : AFunc := ⟨10,
 (.seq
  (.region [⟨some 2, .move (.const .nilptr), none⟩])
  (.seq
   (.seq
    (.region [⟨some 3, .move (.tmp 0), none⟩,
      ⟨some 4, .eqnil false .p (.tmp 3), none⟩])
    (.cond (.tmp 4)
     (.seq
      (.region [⟨some 2, .move (.const .nilptr), none⟩])
      .ret)
     .skip))
   (.seq
    (.region [⟨some 5, .move (.tmp 0), none⟩,
      ⟨some 6, .nilCheck (.tmp 5), none⟩,
      ⟨some 7, .faddr 0 (.tmp 6), none⟩,
      ⟨some 8, .load 1 false (.tmp 7), none⟩,
      ⟨some 9, .call .shared 38 [(.tmp 8)], none⟩,
      ⟨some 2, .move (.tmp 9), none⟩])
    .ret))), [.tmp 2]⟩

/-- (purlin/purlinlaw14.both).do -/
def a41 : AFunc := ⟨85,
 (.seq
  (.region [⟨some 2, .box (.tmp 0), none⟩,
    ⟨some 3, .box (.tmp 1), none⟩,
    ⟨some 4, .move (.const (.bool false)), none⟩])
  (.seq
   (.region [⟨some 11, .faddr 2 (.tmp 3), none⟩,
     ⟨some 12, .load 1 false (.tmp 11), none⟩,
     ⟨some 13, .call .shared 14 [(.tmp 12)], none⟩,
     ⟨some 5, .move (.tmp 13), none⟩])
   (.seq
    (.seq
     (.region [⟨some 14, .faddr 0 (.tmp 3), none⟩,
       ⟨some 15, .load 1 false (.tmp 14), none⟩])
     (.block 0
      (.seq
       (.region [⟨some 17, .iop .eql (.tmp 15) (.const (.int .i64 0)), none⟩,
         ⟨some 16, .move (.tmp 17), none⟩])
       (.cond (.tmp 16)
        (.seq
         (.drawn [⟨some 18, .faddr 0 (.tmp 2), none⟩,
           ⟨some 19, .load 1 false (.tmp 18), none⟩,
           ⟨some 20, .move (.tmp 5), none⟩,
           ⟨some 21, .call .shared 33 [(.tmp 19), (.tmp 20)], none⟩,
           ⟨some 22, .faddr 1 (.tmp 2), none⟩,
           ⟨some 23, .load 1 false (.tmp 22), none⟩,
           ⟨some 24, .faddr 2 (.tmp 3), none⟩,
           ⟨some 25, .load 1 false (.tmp 24), none⟩,
           ⟨some 26, .call .shared 75 [(.tmp 23), (.tmp 25)], none⟩,
           ⟨some 27, .iop .neq (.tmp 21) (.tmp 26), none⟩] [(5, 3), (7, 3)])
         (.cond (.tmp 27)
          (.seq
           (.region [⟨some 4, .move (.const (.bool false)), none⟩])
           .ret)
          .skip))
        (.seq
         (.region [⟨some 29, .iop .eql (.tmp 15) (.const (.int .i64 1)), none⟩,
           ⟨some 28, .move (.tmp 29), none⟩])
         (.cond (.tmp 28)
          (.seq
           (.region [⟨some 31, .faddr 0 (.tmp 2), none⟩,
             ⟨some 32, .load 1 false (.tmp 31), none⟩,
             ⟨some 33, .move (.tmp 5), none⟩,
             ⟨some 34, .faddr 1 (.tmp 3), none⟩,
             ⟨some 35, .load 1 false (.tmp 34), none⟩,
             ⟨some 36, .call .shared 36 [(.tmp 32), (.tmp 33), (.tmp 35)], none⟩,
             ⟨some 30, .move (.tmp 36), none⟩,
             ⟨some 37, .extract (.tmp 30) 0, none⟩,
             ⟨some 38, .extract (.tmp 30) 1, none⟩,
             ⟨some 6, .move (.tmp 37), none⟩,
             ⟨some 7, .move (.tmp 38), none⟩])
           (.seq
            (.region [⟨some 40, .faddr 1 (.tmp 2), none⟩,
              ⟨some 41, .load 1 false (.tmp 40), none⟩,
              ⟨some 42, .faddr 2 (.tmp 3), none⟩,
              ⟨some 43, .load 1 false (.tmp 42), none⟩,
              ⟨some 44, .faddr 1 (.tmp 3), none⟩,
              ⟨some 45, .load 1 false (.tmp 44), none⟩,
              ⟨some 46, .call .shared 76 [(.tmp 41), (.tmp 43), (.tmp 45)], none⟩,
              ⟨some 39, .move (.tmp 46), none⟩,
              ⟨some 47, .extract (.tmp 39) 0, none⟩,
              ⟨some 48, .extract (.tmp 39) 1, none⟩,
              ⟨some 8, .move (.tmp 47), none⟩,
              ⟨some 9, .move (.tmp 48), none⟩])
            (.seq
             (.region [⟨some 49, .move (.tmp 6), none⟩,
               ⟨some 50, .move (.tmp 8), none⟩,
               ⟨some 51, .bop true (.tmp 49) (.tmp 50), none⟩,
               ⟨some 52, .move (.tmp 51), none⟩,
               ⟨some 53, .move (.tmp 7), some (52, false)⟩,
               ⟨some 54, .move (.tmp 9), some (52, false)⟩,
               ⟨some 55, .iop .neq (.tmp 53) (.tmp 54), some (52, false)⟩,
               ⟨some 56, .pick (.tmp 52) (.const (.bool true)) (.tmp 55), none⟩])
             (.cond (.tmp 56)
              (.seq
               (.region [⟨some 4, .move (.const (.bool false)), none⟩])
               .ret)
              .skip))))
          (.seq
           (.region [⟨some 58, .iop .eql (.tmp 15) (.const (.int .i64 2)), none⟩,
             ⟨some 57, .move (.tmp 58), none⟩])
           (.cond (.tmp 57)
            (.seq
             (.drawn [⟨some 59, .faddr 0 (.tmp 2), none⟩,
               ⟨some 60, .load 1 false (.tmp 59), none⟩,
               ⟨some 61, .call .shared 30 [(.tmp 60)], none⟩,
               ⟨some 62, .faddr 1 (.tmp 2), none⟩,
               ⟨some 63, .load 1 false (.tmp 62), none⟩,
               ⟨some 64, .call .shared 77 [(.tmp 63)], none⟩,
               ⟨some 65, .iop .neq (.tmp 61) (.tmp 64), none⟩] [(4, 2)])
             (.cond (.tmp 65)
              (.seq
               (.region [⟨some 4, .move (.const (.bool false)), none⟩])
               .ret)
              .skip))
            .skip))))))))
    (.seq
     (.seq
      (.region [⟨some 66, .move (.tmp 5), none⟩,
        ⟨some 67, .faddr 2 (.tmp 3), none⟩,
        ⟨some 68, .load 1 false (.tmp 67), none⟩,
        ⟨some 69, .call .shared 27 [(.tmp 66), (.tmp 68)], none⟩,
        ⟨some 70, .not (.tmp 69), none⟩])
      (.cond (.tmp 70)
       (.seq
        (.region [⟨some 4, .move (.const (.bool false)), none⟩])
        .ret)
       .skip))
     (.seq
      (.seq
       (.region [⟨some 10, .move (.const (.int .i64 0)), none⟩])
       (.block 1
        (.loop [2, 5, 10]
         (.seq
          (.seq
           (.region [⟨some 71, .move (.tmp 10), none⟩,
             ⟨some 72, .move (.tmp 5), none⟩,
             ⟨some 73, .lenS (.tmp 72), none⟩,
             ⟨some 74, .iop .lss (.tmp 71) (.tmp 73), none⟩])
           (.cond (.tmp 74)
            .skip
            (.exit 1)))
          (.seq
           (.block 2
            (.region [⟨some 77, .move (.tmp 5), none⟩,
              ⟨some 78, .move (.tmp 10), none⟩,
              ⟨some 79, .iaddr 1 (.tmp 77) (.tmp 78), none⟩,
              ⟨some 80, .load 1 false (.tmp 79), none⟩,
              ⟨some 81, .iop .xor (.tmp 80) (.const (.int .u8 255)), none⟩,
              ⟨some 82, .iaddr 1 (.tmp 77) (.tmp 78), none⟩,
              ⟨none, .store 1 (.tmp 82) (.tmp 81), none⟩]))
           (.region [⟨some 75, .move (.tmp 10), none⟩,
             ⟨some 76, .iop .add (.tmp 75) (.const (.int .i64 1)), none⟩,
             ⟨some 10, .move (.tmp 76), none⟩]))))))
      (.seq
       (.region [⟨some 83, .load 2 true (.tmp 2), none⟩,
         ⟨some 84, .call .shared 39 [(.tmp 83)], none⟩,
         ⟨some 4, .move (.tmp 84), none⟩])
       .ret)))))), [.tmp 4]⟩

/-- purlin/journal.four -/
def a62 : AFunc := ⟨15,
 (.seq
  (.region [⟨some 2, .move (.const .nilslice), none⟩])
  (.seq
   (.region [⟨some 3, .move (.tmp 0), none⟩,
     ⟨some 4, .iop .shr (.tmp 3) (.const (.int .u64 24)), none⟩,
     ⟨some 5, .convI .u8 (.tmp 4), none⟩,
     ⟨some 6, .move (.tmp 0), none⟩,
     ⟨some 7, .iop .shr (.tmp 6) (.const (.int .u64 16)), none⟩,
     ⟨some 8, .convI .u8 (.tmp 7), none⟩,
     ⟨some 9, .move (.tmp 0), none⟩,
     ⟨some 10, .iop .shr (.tmp 9) (.const (.int .u64 8)), none⟩,
     ⟨some 11, .convI .u8 (.tmp 10), none⟩,
     ⟨some 12, .move (.tmp 0), none⟩,
     ⟨some 13, .convI .u8 (.tmp 12), none⟩,
     ⟨some 14, .lit 1 [(.int .u8 0)] false 4 [(0, (.tmp 5)), (1, (.tmp 8)), (2, (.tmp 11)), (3, (.tmp 13))], none⟩,
     ⟨some 2, .move (.tmp 14), none⟩])
   .ret)), [.tmp 2]⟩

/-- purlin/purlinref14.four -/
def a63 : AFunc := ⟨15,
 (.seq
  (.region [⟨some 2, .move (.const .nilslice), none⟩])
  (.seq
   (.region [⟨some 3, .move (.tmp 0), none⟩,
     ⟨some 4, .iop .shr (.tmp 3) (.const (.int .u64 24)), none⟩,
     ⟨some 5, .convI .u8 (.tmp 4), none⟩,
     ⟨some 6, .move (.tmp 0), none⟩,
     ⟨some 7, .iop .shr (.tmp 6) (.const (.int .u64 16)), none⟩,
     ⟨some 8, .convI .u8 (.tmp 7), none⟩,
     ⟨some 9, .move (.tmp 0), none⟩,
     ⟨some 10, .iop .shr (.tmp 9) (.const (.int .u64 8)), none⟩,
     ⟨some 11, .convI .u8 (.tmp 10), none⟩,
     ⟨some 12, .move (.tmp 0), none⟩,
     ⟨some 13, .convI .u8 (.tmp 12), none⟩,
     ⟨some 14, .lit 1 [(.int .u8 0)] false 4 [(0, (.tmp 5)), (1, (.tmp 8)), (2, (.tmp 11)), (3, (.tmp 13))], none⟩,
     ⟨some 2, .move (.tmp 14), none⟩])
   .ret)), [.tmp 2]⟩

/-- purlin/journal.first -/
def a64 : AFunc := ⟨34,
 (.seq
  (.region [⟨some 2, .move (.const .nilslice), none⟩,
    ⟨some 3, .move (.const (.bool false)), none⟩])
  (.seq
   (.seq
    (.region [⟨some 6, .move (.tmp 0), none⟩,
      ⟨some 7, .lenS (.tmp 6), none⟩,
      ⟨some 8, .iop .lss (.tmp 7) (.const (.int .i64 8)), none⟩])
    (.cond (.tmp 8)
     (.seq
      (.region [⟨some 2, .move (.const .nilslice), none⟩,
        ⟨some 3, .move (.const (.bool false)), none⟩])
      .ret)
     .skip))
   (.seq
    (.region [⟨some 9, .move (.tmp 0), none⟩,
      ⟨some 10, .call .shared 92 [(.tmp 9)], none⟩,
      ⟨some 11, .convI .i64 (.tmp 10), none⟩,
      ⟨some 4, .move (.tmp 11), none⟩])
    (.seq
     (.seq
      (.region [⟨some 12, .move (.tmp 4), none⟩,
        ⟨some 13, .iop .gtr (.tmp 12) (.const (.int .i64 131072)), none⟩,
        ⟨some 14, .move (.tmp 13), none⟩,
        ⟨some 15, .move (.tmp 0), some (14, false)⟩,
        ⟨some 16, .lenS (.tmp 15), some (14, false)⟩,
        ⟨some 17, .iop .sub (.tmp 16) (.const (.int .i64 8)), some (14, false)⟩,
        ⟨some 18, .move (.tmp 4), some (14, false)⟩,
        ⟨some 19, .iop .lss (.tmp 17) (.tmp 18), some (14, false)⟩,
        ⟨some 20, .pick (.tmp 14) (.const (.bool true)) (.tmp 19), none⟩])
      (.cond (.tmp 20)
       (.seq
        (.region [⟨some 2, .move (.const .nilslice), none⟩,
          ⟨some 3, .move (.const (.bool false)), none⟩])
        .ret)
       .skip))
     (.seq
      (.region [⟨some 21, .move (.tmp 0), none⟩,
        ⟨some 22, .move (.tmp 4), none⟩,
        ⟨some 23, .iop .add (.const (.int .i64 8)) (.tmp 22), none⟩,
        ⟨some 24, .move (.tmp 4), none⟩,
        ⟨some 25, .iop .add (.const (.int .i64 8)) (.tmp 24), none⟩,
        ⟨some 26, .sliceOp 1 (.tmp 21) (some (.const (.int .i64 8))) (some (.tmp 23)) (some (.tmp 25)), none⟩,
        ⟨some 5, .move (.tmp 26), none⟩])
      (.seq
       (.region [⟨some 27, .move (.tmp 5), none⟩,
         ⟨some 28, .move (.tmp 5), none⟩,
         ⟨some 29, .call .shared 21 [(.tmp 28)], none⟩,
         ⟨some 30, .move (.tmp 0), none⟩,
         ⟨some 31, .sliceOp 1 (.tmp 30) (some (.const (.int .i64 4))) none none, none⟩,
         ⟨some 32, .call .shared 92 [(.tmp 31)], none⟩,
         ⟨some 33, .iop .eql (.tmp 29) (.tmp 32), none⟩,
         ⟨some 2, .move (.tmp 27), none⟩,
         ⟨some 3, .move (.tmp 33), none⟩])
       .ret)))))), [.tmp 2, .tmp 3]⟩

/-- bytes.Clone -/
def a65 : AFunc := ⟨8,
 (.seq
  (.region [⟨some 2, .move (.const .nilslice), none⟩])
  (.seq
   (.seq
    (.region [⟨some 3, .move (.tmp 0), none⟩,
      ⟨some 4, .eqnil false .s (.tmp 3), none⟩])
    (.cond (.tmp 4)
     (.seq
      (.region [⟨some 2, .move (.const .nilslice), none⟩])
      .ret)
     .skip))
   (.seq
    (.region [⟨some 5, .lit 1 [(.int .u8 0)] false 0 [], none⟩,
      ⟨some 6, .move (.tmp 0), none⟩,
      ⟨some 7, .append 1 1 (.tmp 5) (.tmp 6), none⟩,
      ⟨some 2, .move (.tmp 7), none⟩])
    .ret))), [.tmp 2]⟩

/-- purlin/purlinref14.number -/
def a66 : AFunc := ⟨25,
 (.seq
  (.region [⟨some 2, .move (.const (.int .u32 0)), none⟩])
  (.seq
   (.region [⟨some 3, .move (.tmp 0), none⟩,
     ⟨some 4, .iaddr 1 (.tmp 3) (.const (.int .i64 0)), none⟩,
     ⟨some 5, .load 1 false (.tmp 4), none⟩,
     ⟨some 6, .convI .u32 (.tmp 5), none⟩,
     ⟨some 7, .iop .shl (.tmp 6) (.const (.int .u64 24)), none⟩,
     ⟨some 8, .move (.tmp 0), none⟩,
     ⟨some 9, .iaddr 1 (.tmp 8) (.const (.int .i64 1)), none⟩,
     ⟨some 10, .load 1 false (.tmp 9), none⟩,
     ⟨some 11, .convI .u32 (.tmp 10), none⟩,
     ⟨some 12, .iop .shl (.tmp 11) (.const (.int .u64 16)), none⟩,
     ⟨some 13, .iop .or (.tmp 7) (.tmp 12), none⟩,
     ⟨some 14, .move (.tmp 0), none⟩,
     ⟨some 15, .iaddr 1 (.tmp 14) (.const (.int .i64 2)), none⟩,
     ⟨some 16, .load 1 false (.tmp 15), none⟩,
     ⟨some 17, .convI .u32 (.tmp 16), none⟩,
     ⟨some 18, .iop .shl (.tmp 17) (.const (.int .u64 8)), none⟩,
     ⟨some 19, .iop .or (.tmp 13) (.tmp 18), none⟩,
     ⟨some 20, .move (.tmp 0), none⟩,
     ⟨some 21, .iaddr 1 (.tmp 20) (.const (.int .i64 3)), none⟩,
     ⟨some 22, .load 1 false (.tmp 21), none⟩,
     ⟨some 23, .convI .u32 (.tmp 22), none⟩,
     ⟨some 24, .iop .or (.tmp 19) (.tmp 23), none⟩,
     ⟨some 2, .move (.tmp 24), none⟩])
   .ret)), [.tmp 2]⟩

/-- (*purlin/purlinmem.Book).aloneBytes -/
def a67 : AFunc := ⟨131,
 (.seq
  (.region [⟨some 2, .move (.const (.bool false)), none⟩])
  (.seq
   (.seq
    (.region [⟨some 3, .move (.const (.int .i64 0)), none⟩])
    (.block 0
     (.loop [0, 3]
      (.seq
       (.seq
        (.region [⟨some 12, .move (.tmp 3), none⟩,
          ⟨some 13, .move (.tmp 0), none⟩,
          ⟨some 14, .nilCheck (.tmp 13), none⟩,
          ⟨some 15, .faddr 0 (.tmp 14), none⟩,
          ⟨some 16, .load 1 false (.tmp 15), none⟩,
          ⟨some 17, .lenS (.tmp 16), none⟩,
          ⟨some 18, .iop .lss (.tmp 12) (.tmp 17), none⟩])
        (.cond (.tmp 18)
         .skip
         (.exit 0)))
       (.seq
        (.block 1
         (.seq
          (.region [⟨some 4, .move (.const (.int .i64 0)), none⟩])
          (.block 2
           (.loop [0, 3, 4]
            (.seq
             (.seq
              (.region [⟨some 21, .move (.tmp 4), none⟩,
                ⟨some 22, .move (.tmp 0), none⟩,
                ⟨some 23, .nilCheck (.tmp 22), none⟩,
                ⟨some 24, .faddr 0 (.tmp 23), none⟩,
                ⟨some 25, .load 1 false (.tmp 24), none⟩,
                ⟨some 26, .move (.tmp 3), none⟩,
                ⟨some 27, .iaddr 1 (.tmp 25) (.tmp 26), none⟩,
                ⟨some 28, .load 1 false (.tmp 27), none⟩,
                ⟨some 29, .lenS (.tmp 28), none⟩,
                ⟨some 30, .iop .lss (.tmp 21) (.tmp 29), none⟩])
              (.cond (.tmp 30)
               .skip
               (.exit 2)))
             (.seq
              (.block 3
               (.region [⟨some 33, .move (.tmp 0), none⟩,
                 ⟨some 34, .nilCheck (.tmp 33), none⟩,
                 ⟨some 35, .faddr 0 (.tmp 34), none⟩,
                 ⟨some 36, .load 1 false (.tmp 35), none⟩,
                 ⟨some 37, .move (.tmp 3), none⟩,
                 ⟨some 38, .iaddr 1 (.tmp 36) (.tmp 37), none⟩,
                 ⟨some 39, .load 1 false (.tmp 38), none⟩,
                 ⟨some 40, .move (.tmp 4), none⟩,
                 ⟨some 41, .move (.tmp 3), none⟩,
                 ⟨some 42, .iop .rem (.tmp 41) (.const (.int .i64 200)), none⟩,
                 ⟨some 43, .iop .add (.const (.int .i64 48)) (.tmp 42), none⟩,
                 ⟨some 44, .convI .u8 (.tmp 43), none⟩,
                 ⟨some 45, .iaddr 1 (.tmp 39) (.tmp 40), none⟩,
                 ⟨none, .store 1 (.tmp 45) (.tmp 44), none⟩]))
              (.region [⟨some 31, .move (.tmp 4), none⟩,
                ⟨some 32, .iop .add (.tmp 31) (.const (.int .i64 1)), none⟩,
                ⟨some 4, .move (.tmp 32), none⟩])))))))
        (.region [⟨some 19, .move (.tmp 3), none⟩,
          ⟨some 20, .iop .add (.tmp 19) (.const (.int .i64 1)), none⟩,
          ⟨some 3, .move (.tmp 20), none⟩]))))))
   (.seq
    (.region [⟨some 5, .move (.const .nilslice), none⟩])
    (.seq
     (.seq
      (.region [⟨some 6, .move (.const (.int .i64 0)), none⟩])
      (.block 4
       (.loop [0, 5, 6]
        (.seq
         (.seq
          (.region [⟨some 46, .move (.tmp 6), none⟩,
            ⟨some 47, .move (.tmp 0), none⟩,
            ⟨some 48, .nilCheck (.tmp 47), none⟩,
            ⟨some 49, .faddr 0 (.tmp 48), none⟩,
            ⟨some 50, .load 1 false (.tmp 49), none⟩,
            ⟨some 51, .lenS (.tmp 50), none⟩,
            ⟨some 52, .iop .lss (.tmp 46) (.tmp 51), none⟩])
          (.cond (.tmp 52)
           .skip
           (.exit 4)))
         (.seq
          (.block 5
           (.seq
            (.region [⟨some 55, .move (.tmp 0), none⟩,
              ⟨some 56, .nilCheck (.tmp 55), none⟩,
              ⟨some 57, .faddr 0 (.tmp 56), none⟩,
              ⟨some 58, .load 1 false (.tmp 57), none⟩,
              ⟨some 59, .move (.tmp 6), none⟩,
              ⟨some 60, .iaddr 1 (.tmp 58) (.tmp 59), none⟩,
              ⟨some 61, .load 1 false (.tmp 60), none⟩,
              ⟨some 7, .move (.tmp 61), none⟩])
            (.seq
             (.seq
              (.region [⟨some 8, .move (.const (.int .i64 0)), none⟩])
              (.block 6
               (.loop [0, 5, 6, 7, 8]
                (.seq
                 (.seq
                  (.region [⟨some 62, .move (.tmp 8), none⟩,
                    ⟨some 63, .iop .lss (.tmp 62) (.const (.int .i64 20)), none⟩])
                  (.cond (.tmp 63)
                   .skip
                   (.exit 6)))
                 (.seq
                  (.block 7
                   (.region [⟨some 66, .move (.tmp 7), none⟩,
                     ⟨some 67, .move (.tmp 6), none⟩,
                     ⟨some 68, .iop .rem (.tmp 67) (.const (.int .i64 200)), none⟩,
                     ⟨some 69, .iop .add (.const (.int .i64 48)) (.tmp 68), none⟩,
                     ⟨some 70, .convI .u8 (.tmp 69), none⟩,
                     ⟨some 71, .lit 1 [(.int .u8 0)] false 1 [(0, (.tmp 70))], none⟩,
                     ⟨some 72, .append 1 1 (.tmp 66) (.tmp 71), none⟩,
                     ⟨some 7, .move (.tmp 72), none⟩]))
                  (.region [⟨some 64, .move (.tmp 8), none⟩,
                    ⟨some 65, .iop .add (.tmp 64) (.const (.int .i64 1)), none⟩,
                    ⟨some 8, .move (.tmp 65), none⟩]))))))
             (.region [⟨some 73, .move (.tmp 5), none⟩,
               ⟨some 74, .move (.tmp 7), none⟩,
               ⟨some 75, .litA 1 [.nilslice] false 1 [(0, (.tmp 74))], none⟩,
               ⟨some 76, .append 1 24 (.tmp 73) (.tmp 75), none⟩,
               ⟨some 5, .move (.tmp 76), none⟩]))))
          (.region [⟨some 53, .move (.tmp 6), none⟩,
            ⟨some 54, .iop .add (.tmp 53) (.const (.int .i64 1)), none⟩,
            ⟨some 6, .move (.tmp 54), none⟩]))))))
     (.seq
      (.seq
       (.region [⟨some 9, .move (.const (.int .i64 0)), none⟩])
       (.block 8
        (.loop [0, 5, 9]
         (.seq
          (.seq
           (.region [⟨some 77, .move (.tmp 9), none⟩,
             ⟨some 78, .move (.tmp 5), none⟩,
             ⟨some 79, .lenS (.tmp 78), none⟩,
             ⟨some 80, .iop .lss (.tmp 77) (.tmp 79), none⟩])
           (.cond (.tmp 80)
            .skip
            (.exit 8)))
          (.seq
           (.block 9
            (.seq
             (.seq
              (.region [⟨some 10, .move (.const (.int .i64 0)), none⟩])
              (.block 10
               (.loop [0, 5, 9, 10]
                (.seq
                 (.seq
                  (.region [⟨some 83, .move (.tmp 10), none⟩,
                    ⟨some 84, .move (.tmp 5), none⟩,
                    ⟨some 85, .move (.tmp 9), none⟩,
                    ⟨some 86, .iaddr 1 (.tmp 84) (.tmp 85), none⟩,
                    ⟨some 87, .load 1 false (.tmp 86), none⟩,
                    ⟨some 88, .lenS (.tmp 87), none⟩,
                    ⟨some 89, .iop .lss (.tmp 83) (.tmp 88), none⟩])
                  (.cond (.tmp 89)
                   .skip
                   (.exit 10)))
                 (.seq
                  (.block 11
                   (.seq
                    (.region [⟨some 92, .move (.tmp 5), none⟩,
                      ⟨some 93, .move (.tmp 9), none⟩,
                      ⟨some 94, .iaddr 1 (.tmp 92) (.tmp 93), none⟩,
                      ⟨some 95, .load 1 false (.tmp 94), none⟩,
                      ⟨some 96, .move (.tmp 10), none⟩,
                      ⟨some 97, .iaddr 1 (.tmp 95) (.tmp 96), none⟩,
                      ⟨some 98, .load 1 false (.tmp 97), none⟩,
                      ⟨some 99, .move (.tmp 9), none⟩,
                      ⟨some 100, .iop .rem (.tmp 99) (.const (.int .i64 200)), none⟩,
                      ⟨some 101, .iop .add (.const (.int .i64 48)) (.tmp 100), none⟩,
                      ⟨some 102, .convI .u8 (.tmp 101), none⟩,
                      ⟨some 103, .iop .neq (.tmp 98) (.tmp 102), none⟩])
                    (.cond (.tmp 103)
                     (.seq
                      (.region [⟨some 2, .move (.const (.bool false)), none⟩])
                      .ret)
                     .skip)))
                  (.region [⟨some 90, .move (.tmp 10), none⟩,
                    ⟨some 91, .iop .add (.tmp 90) (.const (.int .i64 1)), none⟩,
                    ⟨some 10, .move (.tmp 91), none⟩]))))))
             (.seq
              (.region [⟨some 11, .move (.const (.int .i64 0)), none⟩])
              (.block 12
               (.loop [0, 5, 9, 11]
                (.seq
                 (.seq
                  (.region [⟨some 104, .move (.tmp 11), none⟩,
                    ⟨some 105, .move (.tmp 0), none⟩,
                    ⟨some 106, .nilCheck (.tmp 105), none⟩,
                    ⟨some 107, .faddr 0 (.tmp 106), none⟩,
                    ⟨some 108, .load 1 false (.tmp 107), none⟩,
                    ⟨some 109, .move (.tmp 9), none⟩,
                    ⟨some 110, .iaddr 1 (.tmp 108) (.tmp 109), none⟩,
                    ⟨some 111, .load 1 false (.tmp 110), none⟩,
                    ⟨some 112, .lenS (.tmp 111), none⟩,
                    ⟨some 113, .iop .lss (.tmp 104) (.tmp 112), none⟩])
                  (.cond (.tmp 113)
                   .skip
                   (.exit 12)))
                 (.seq
                  (.block 13
                   (.seq
                    (.region [⟨some 116, .move (.tmp 0), none⟩,
                      ⟨some 117, .nilCheck (.tmp 116), none⟩,
                      ⟨some 118, .faddr 0 (.tmp 117), none⟩,
                      ⟨some 119, .load 1 false (.tmp 118), none⟩,
                      ⟨some 120, .move (.tmp 9), none⟩,
                      ⟨some 121, .iaddr 1 (.tmp 119) (.tmp 120), none⟩,
                      ⟨some 122, .load 1 false (.tmp 121), none⟩,
                      ⟨some 123, .move (.tmp 11), none⟩,
                      ⟨some 124, .iaddr 1 (.tmp 122) (.tmp 123), none⟩,
                      ⟨some 125, .load 1 false (.tmp 124), none⟩,
                      ⟨some 126, .move (.tmp 9), none⟩,
                      ⟨some 127, .iop .rem (.tmp 126) (.const (.int .i64 200)), none⟩,
                      ⟨some 128, .iop .add (.const (.int .i64 48)) (.tmp 127), none⟩,
                      ⟨some 129, .convI .u8 (.tmp 128), none⟩,
                      ⟨some 130, .iop .neq (.tmp 125) (.tmp 129), none⟩])
                    (.cond (.tmp 130)
                     (.seq
                      (.region [⟨some 2, .move (.const (.bool false)), none⟩])
                      .ret)
                     .skip)))
                  (.region [⟨some 114, .move (.tmp 11), none⟩,
                    ⟨some 115, .iop .add (.tmp 114) (.const (.int .i64 1)), none⟩,
                    ⟨some 11, .move (.tmp 115), none⟩]))))))))
           (.region [⟨some 81, .move (.tmp 9), none⟩,
             ⟨some 82, .iop .add (.tmp 81) (.const (.int .i64 1)), none⟩,
             ⟨some 9, .move (.tmp 82), none⟩]))))))
      (.seq
       (.region [⟨some 2, .move (.const (.bool true)), none⟩])
       .ret)))))), [.tmp 2]⟩

/-- (*purlin/purlinmem.Book).aloneTexts -/
def a68 : AFunc := ⟨123,
 (.seq
  (.region [⟨some 2, .move (.const (.bool false)), none⟩])
  (.seq
   (.seq
    (.region [⟨some 3, .move (.const (.int .i64 0)), none⟩])
    (.block 0
     (.loop [0, 3]
      (.seq
       (.seq
        (.region [⟨some 12, .move (.tmp 3), none⟩,
          ⟨some 13, .move (.tmp 0), none⟩,
          ⟨some 14, .nilCheck (.tmp 13), none⟩,
          ⟨some 15, .faddr 1 (.tmp 14), none⟩,
          ⟨some 16, .load 1 false (.tmp 15), none⟩,
          ⟨some 17, .lenS (.tmp 16), none⟩,
          ⟨some 18, .iop .lss (.tmp 12) (.tmp 17), none⟩])
        (.cond (.tmp 18)
         .skip
         (.exit 0)))
       (.seq
        (.block 1
         (.seq
          (.region [⟨some 4, .move (.const (.int .i64 0)), none⟩])
          (.block 2
           (.loop [0, 3, 4]
            (.seq
             (.seq
              (.region [⟨some 21, .move (.tmp 4), none⟩,
                ⟨some 22, .move (.tmp 0), none⟩,
                ⟨some 23, .nilCheck (.tmp 22), none⟩,
                ⟨some 24, .faddr 1 (.tmp 23), none⟩,
                ⟨some 25, .load 1 false (.tmp 24), none⟩,
                ⟨some 26, .move (.tmp 3), none⟩,
                ⟨some 27, .iaddr 1 (.tmp 25) (.tmp 26), none⟩,
                ⟨some 28, .load 1 false (.tmp 27), none⟩,
                ⟨some 29, .lenS (.tmp 28), none⟩,
                ⟨some 30, .iop .lss (.tmp 21) (.tmp 29), none⟩])
              (.cond (.tmp 30)
               .skip
               (.exit 2)))
             (.seq
              (.block 3
               (.drawn [⟨some 33, .move (.tmp 0), none⟩,
                 ⟨some 34, .nilCheck (.tmp 33), none⟩,
                 ⟨some 35, .faddr 1 (.tmp 34), none⟩,
                 ⟨some 36, .load 1 false (.tmp 35), none⟩,
                 ⟨some 37, .move (.tmp 3), none⟩,
                 ⟨some 38, .iaddr 1 (.tmp 36) (.tmp 37), none⟩,
                 ⟨some 39, .load 1 false (.tmp 38), none⟩,
                 ⟨some 40, .move (.tmp 4), none⟩,
                 ⟨some 41, .move (.tmp 3), none⟩,
                 ⟨some 42, .call .shared 93 [(.tmp 41)], none⟩,
                 ⟨some 43, .iaddr 1 (.tmp 39) (.tmp 40), none⟩,
                 ⟨none, .store 1 (.tmp 43) (.tmp 42), none⟩] [(3, 9), (6, 9)]))
              (.region [⟨some 31, .move (.tmp 4), none⟩,
                ⟨some 32, .iop .add (.tmp 31) (.const (.int .i64 1)), none⟩,
                ⟨some 4, .move (.tmp 32), none⟩])))))))
        (.region [⟨some 19, .move (.tmp 3), none⟩,
          ⟨some 20, .iop .add (.tmp 19) (.const (.int .i64 1)), none⟩,
          ⟨some 3, .move (.tmp 20), none⟩]))))))
   (.seq
    (.region [⟨some 5, .move (.const .nilslice), none⟩])
    (.seq
     (.seq
      (.region [⟨some 6, .move (.const (.int .i64 0)), none⟩])
      (.block 4
       (.loop [0, 5, 6]
        (.seq
         (.seq
          (.region [⟨some 44, .move (.tmp 6), none⟩,
            ⟨some 45, .move (.tmp 0), none⟩,
            ⟨some 46, .nilCheck (.tmp 45), none⟩,
            ⟨some 47, .faddr 1 (.tmp 46), none⟩,
            ⟨some 48, .load 1 false (.tmp 47), none⟩,
            ⟨some 49, .lenS (.tmp 48), none⟩,
            ⟨some 50, .iop .lss (.tmp 44) (.tmp 49), none⟩])
          (.cond (.tmp 50)
           .skip
           (.exit 4)))
         (.seq
          (.block 5
           (.seq
            (.region [⟨some 53, .move (.tmp 0), none⟩,
              ⟨some 54, .nilCheck (.tmp 53), none⟩,
              ⟨some 55, .faddr 1 (.tmp 54), none⟩,
              ⟨some 56, .load 1 false (.tmp 55), none⟩,
              ⟨some 57, .move (.tmp 6), none⟩,
              ⟨some 58, .iaddr 1 (.tmp 56) (.tmp 57), none⟩,
              ⟨some 59, .load 1 false (.tmp 58), none⟩,
              ⟨some 7, .move (.tmp 59), none⟩])
            (.seq
             (.seq
              (.region [⟨some 8, .move (.const (.int .i64 0)), none⟩])
              (.block 6
               (.loop [0, 5, 6, 7, 8]
                (.seq
                 (.seq
                  (.region [⟨some 60, .move (.tmp 8), none⟩,
                    ⟨some 61, .iop .lss (.tmp 60) (.const (.int .i64 20)), none⟩])
                  (.cond (.tmp 61)
                   .skip
                   (.exit 6)))
                 (.seq
                  (.block 7
                   (.region [⟨some 64, .move (.tmp 7), none⟩,
                     ⟨some 65, .move (.tmp 6), none⟩,
                     ⟨some 66, .call .shared 93 [(.tmp 65)], none⟩,
                     ⟨some 67, .lit 1 [(.str [])] false 1 [(0, (.tmp 66))], none⟩,
                     ⟨some 68, .append 1 16 (.tmp 64) (.tmp 67), none⟩,
                     ⟨some 7, .move (.tmp 68), none⟩]))
                  (.region [⟨some 62, .move (.tmp 8), none⟩,
                    ⟨some 63, .iop .add (.tmp 62) (.const (.int .i64 1)), none⟩,
                    ⟨some 8, .move (.tmp 63), none⟩]))))))
             (.region [⟨some 69, .move (.tmp 5), none⟩,
               ⟨some 70, .move (.tmp 7), none⟩,
               ⟨some 71, .litA 1 [.nilslice] false 1 [(0, (.tmp 70))], none⟩,
               ⟨some 72, .append 1 24 (.tmp 69) (.tmp 71), none⟩,
               ⟨some 5, .move (.tmp 72), none⟩]))))
          (.region [⟨some 51, .move (.tmp 6), none⟩,
            ⟨some 52, .iop .add (.tmp 51) (.const (.int .i64 1)), none⟩,
            ⟨some 6, .move (.tmp 52), none⟩]))))))
     (.seq
      (.seq
       (.region [⟨some 9, .move (.const (.int .i64 0)), none⟩])
       (.block 8
        (.loop [0, 5, 9]
         (.seq
          (.seq
           (.region [⟨some 73, .move (.tmp 9), none⟩,
             ⟨some 74, .move (.tmp 5), none⟩,
             ⟨some 75, .lenS (.tmp 74), none⟩,
             ⟨some 76, .iop .lss (.tmp 73) (.tmp 75), none⟩])
           (.cond (.tmp 76)
            .skip
            (.exit 8)))
          (.seq
           (.block 9
            (.seq
             (.seq
              (.region [⟨some 10, .move (.const (.int .i64 0)), none⟩])
              (.block 10
               (.loop [0, 5, 9, 10]
                (.seq
                 (.seq
                  (.region [⟨some 79, .move (.tmp 10), none⟩,
                    ⟨some 80, .move (.tmp 5), none⟩,
                    ⟨some 81, .move (.tmp 9), none⟩,
                    ⟨some 82, .iaddr 1 (.tmp 80) (.tmp 81), none⟩,
                    ⟨some 83, .load 1 false (.tmp 82), none⟩,
                    ⟨some 84, .lenS (.tmp 83), none⟩,
                    ⟨some 85, .iop .lss (.tmp 79) (.tmp 84), none⟩])
                  (.cond (.tmp 85)
                   .skip
                   (.exit 10)))
                 (.seq
                  (.block 11
                   (.seq
                    (.drawn [⟨some 88, .move (.tmp 5), none⟩,
                      ⟨some 89, .move (.tmp 9), none⟩,
                      ⟨some 90, .iaddr 1 (.tmp 88) (.tmp 89), none⟩,
                      ⟨some 91, .load 1 false (.tmp 90), none⟩,
                      ⟨some 92, .move (.tmp 10), none⟩,
                      ⟨some 93, .iaddr 1 (.tmp 91) (.tmp 92), none⟩,
                      ⟨some 94, .load 1 false (.tmp 93), none⟩,
                      ⟨some 95, .move (.tmp 9), none⟩,
                      ⟨some 96, .call .shared 93 [(.tmp 95)], none⟩,
                      ⟨some 97, .sop .neq (.tmp 94) (.tmp 96), none⟩] [(3, 8), (6, 8)])
                    (.cond (.tmp 97)
                     (.seq
                      (.region [⟨some 2, .move (.const (.bool false)), none⟩])
                      .ret)
                     .skip)))
                  (.region [⟨some 86, .move (.tmp 10), none⟩,
                    ⟨some 87, .iop .add (.tmp 86) (.const (.int .i64 1)), none⟩,
                    ⟨some 10, .move (.tmp 87), none⟩]))))))
             (.seq
              (.region [⟨some 11, .move (.const (.int .i64 0)), none⟩])
              (.block 12
               (.loop [0, 5, 9, 11]
                (.seq
                 (.seq
                  (.region [⟨some 98, .move (.tmp 11), none⟩,
                    ⟨some 99, .move (.tmp 0), none⟩,
                    ⟨some 100, .nilCheck (.tmp 99), none⟩,
                    ⟨some 101, .faddr 1 (.tmp 100), none⟩,
                    ⟨some 102, .load 1 false (.tmp 101), none⟩,
                    ⟨some 103, .move (.tmp 9), none⟩,
                    ⟨some 104, .iaddr 1 (.tmp 102) (.tmp 103), none⟩,
                    ⟨some 105, .load 1 false (.tmp 104), none⟩,
                    ⟨some 106, .lenS (.tmp 105), none⟩,
                    ⟨some 107, .iop .lss (.tmp 98) (.tmp 106), none⟩])
                  (.cond (.tmp 107)
                   .skip
                   (.exit 12)))
                 (.seq
                  (.block 13
                   (.seq
                    (.drawn [⟨some 110, .move (.tmp 0), none⟩,
                      ⟨some 111, .nilCheck (.tmp 110), none⟩,
                      ⟨some 112, .faddr 1 (.tmp 111), none⟩,
                      ⟨some 113, .load 1 false (.tmp 112), none⟩,
                      ⟨some 114, .move (.tmp 9), none⟩,
                      ⟨some 115, .iaddr 1 (.tmp 113) (.tmp 114), none⟩,
                      ⟨some 116, .load 1 false (.tmp 115), none⟩,
                      ⟨some 117, .move (.tmp 11), none⟩,
                      ⟨some 118, .iaddr 1 (.tmp 116) (.tmp 117), none⟩,
                      ⟨some 119, .load 1 false (.tmp 118), none⟩,
                      ⟨some 120, .move (.tmp 9), none⟩,
                      ⟨some 121, .call .shared 93 [(.tmp 120)], none⟩,
                      ⟨some 122, .sop .neq (.tmp 119) (.tmp 121), none⟩] [(3, 11), (6, 11), (9, 11)])
                    (.cond (.tmp 122)
                     (.seq
                      (.region [⟨some 2, .move (.const (.bool false)), none⟩])
                      .ret)
                     .skip)))
                  (.region [⟨some 108, .move (.tmp 11), none⟩,
                    ⟨some 109, .iop .add (.tmp 108) (.const (.int .i64 1)), none⟩,
                    ⟨some 11, .move (.tmp 109), none⟩]))))))))
           (.region [⟨some 77, .move (.tmp 9), none⟩,
             ⟨some 78, .iop .add (.tmp 77) (.const (.int .i64 1)), none⟩,
             ⟨some 9, .move (.tmp 78), none⟩]))))))
      (.seq
       (.region [⟨some 2, .move (.const (.bool true)), none⟩])
       .ret)))))), [.tmp 2]⟩

/-- (*purlin/purlinmem.Book).aloneInts -/
def a69 : AFunc := ⟨123,
 (.seq
  (.region [⟨some 2, .move (.const (.bool false)), none⟩])
  (.seq
   (.seq
    (.region [⟨some 3, .move (.const (.int .i64 0)), none⟩])
    (.block 0
     (.loop [0, 3]
      (.seq
       (.seq
        (.region [⟨some 12, .move (.tmp 3), none⟩,
          ⟨some 13, .move (.tmp 0), none⟩,
          ⟨some 14, .nilCheck (.tmp 13), none⟩,
          ⟨some 15, .faddr 2 (.tmp 14), none⟩,
          ⟨some 16, .load 1 false (.tmp 15), none⟩,
          ⟨some 17, .lenS (.tmp 16), none⟩,
          ⟨some 18, .iop .lss (.tmp 12) (.tmp 17), none⟩])
        (.cond (.tmp 18)
         .skip
         (.exit 0)))
       (.seq
        (.block 1
         (.seq
          (.region [⟨some 4, .move (.const (.int .i64 0)), none⟩])
          (.block 2
           (.loop [0, 3, 4]
            (.seq
             (.seq
              (.region [⟨some 21, .move (.tmp 4), none⟩,
                ⟨some 22, .move (.tmp 0), none⟩,
                ⟨some 23, .nilCheck (.tmp 22), none⟩,
                ⟨some 24, .faddr 2 (.tmp 23), none⟩,
                ⟨some 25, .load 1 false (.tmp 24), none⟩,
                ⟨some 26, .move (.tmp 3), none⟩,
                ⟨some 27, .iaddr 1 (.tmp 25) (.tmp 26), none⟩,
                ⟨some 28, .load 1 false (.tmp 27), none⟩,
                ⟨some 29, .lenS (.tmp 28), none⟩,
                ⟨some 30, .iop .lss (.tmp 21) (.tmp 29), none⟩])
              (.cond (.tmp 30)
               .skip
               (.exit 2)))
             (.seq
              (.block 3
               (.region [⟨some 33, .move (.tmp 0), none⟩,
                 ⟨some 34, .nilCheck (.tmp 33), none⟩,
                 ⟨some 35, .faddr 2 (.tmp 34), none⟩,
                 ⟨some 36, .load 1 false (.tmp 35), none⟩,
                 ⟨some 37, .move (.tmp 3), none⟩,
                 ⟨some 38, .iaddr 1 (.tmp 36) (.tmp 37), none⟩,
                 ⟨some 39, .load 1 false (.tmp 38), none⟩,
                 ⟨some 40, .move (.tmp 4), none⟩,
                 ⟨some 41, .move (.tmp 3), none⟩,
                 ⟨some 42, .iop .sub (.const (.int .i64 (-9000))) (.tmp 41), none⟩,
                 ⟨some 43, .iaddr 1 (.tmp 39) (.tmp 40), none⟩,
                 ⟨none, .store 1 (.tmp 43) (.tmp 42), none⟩]))
              (.region [⟨some 31, .move (.tmp 4), none⟩,
                ⟨some 32, .iop .add (.tmp 31) (.const (.int .i64 1)), none⟩,
                ⟨some 4, .move (.tmp 32), none⟩])))))))
        (.region [⟨some 19, .move (.tmp 3), none⟩,
          ⟨some 20, .iop .add (.tmp 19) (.const (.int .i64 1)), none⟩,
          ⟨some 3, .move (.tmp 20), none⟩]))))))
   (.seq
    (.region [⟨some 5, .move (.const .nilslice), none⟩])
    (.seq
     (.seq
      (.region [⟨some 6, .move (.const (.int .i64 0)), none⟩])
      (.block 4
       (.loop [0, 5, 6]
        (.seq
         (.seq
          (.region [⟨some 44, .move (.tmp 6), none⟩,
            ⟨some 45, .move (.tmp 0), none⟩,
            ⟨some 46, .nilCheck (.tmp 45), none⟩,
            ⟨some 47, .faddr 2 (.tmp 46), none⟩,
            ⟨some 48, .load 1 false (.tmp 47), none⟩,
            ⟨some 49, .lenS (.tmp 48), none⟩,
            ⟨some 50, .iop .lss (.tmp 44) (.tmp 49), none⟩])
          (.cond (.tmp 50)
           .skip
           (.exit 4)))
         (.seq
          (.block 5
           (.seq
            (.region [⟨some 53, .move (.tmp 0), none⟩,
              ⟨some 54, .nilCheck (.tmp 53), none⟩,
              ⟨some 55, .faddr 2 (.tmp 54), none⟩,
              ⟨some 56, .load 1 false (.tmp 55), none⟩,
              ⟨some 57, .move (.tmp 6), none⟩,
              ⟨some 58, .iaddr 1 (.tmp 56) (.tmp 57), none⟩,
              ⟨some 59, .load 1 false (.tmp 58), none⟩,
              ⟨some 7, .move (.tmp 59), none⟩])
            (.seq
             (.seq
              (.region [⟨some 8, .move (.const (.int .i64 0)), none⟩])
              (.block 6
               (.loop [0, 5, 6, 7, 8]
                (.seq
                 (.seq
                  (.region [⟨some 60, .move (.tmp 8), none⟩,
                    ⟨some 61, .iop .lss (.tmp 60) (.const (.int .i64 20)), none⟩])
                  (.cond (.tmp 61)
                   .skip
                   (.exit 6)))
                 (.seq
                  (.block 7
                   (.region [⟨some 64, .move (.tmp 7), none⟩,
                     ⟨some 65, .move (.tmp 6), none⟩,
                     ⟨some 66, .iop .sub (.const (.int .i64 (-9000))) (.tmp 65), none⟩,
                     ⟨some 67, .lit 1 [(.int .i64 0)] false 1 [(0, (.tmp 66))], none⟩,
                     ⟨some 68, .append 1 8 (.tmp 64) (.tmp 67), none⟩,
                     ⟨some 7, .move (.tmp 68), none⟩]))
                  (.region [⟨some 62, .move (.tmp 8), none⟩,
                    ⟨some 63, .iop .add (.tmp 62) (.const (.int .i64 1)), none⟩,
                    ⟨some 8, .move (.tmp 63), none⟩]))))))
             (.region [⟨some 69, .move (.tmp 5), none⟩,
               ⟨some 70, .move (.tmp 7), none⟩,
               ⟨some 71, .litA 1 [.nilslice] false 1 [(0, (.tmp 70))], none⟩,
               ⟨some 72, .append 1 24 (.tmp 69) (.tmp 71), none⟩,
               ⟨some 5, .move (.tmp 72), none⟩]))))
          (.region [⟨some 51, .move (.tmp 6), none⟩,
            ⟨some 52, .iop .add (.tmp 51) (.const (.int .i64 1)), none⟩,
            ⟨some 6, .move (.tmp 52), none⟩]))))))
     (.seq
      (.seq
       (.region [⟨some 9, .move (.const (.int .i64 0)), none⟩])
       (.block 8
        (.loop [0, 5, 9]
         (.seq
          (.seq
           (.region [⟨some 73, .move (.tmp 9), none⟩,
             ⟨some 74, .move (.tmp 5), none⟩,
             ⟨some 75, .lenS (.tmp 74), none⟩,
             ⟨some 76, .iop .lss (.tmp 73) (.tmp 75), none⟩])
           (.cond (.tmp 76)
            .skip
            (.exit 8)))
          (.seq
           (.block 9
            (.seq
             (.seq
              (.region [⟨some 10, .move (.const (.int .i64 0)), none⟩])
              (.block 10
               (.loop [0, 5, 9, 10]
                (.seq
                 (.seq
                  (.region [⟨some 79, .move (.tmp 10), none⟩,
                    ⟨some 80, .move (.tmp 5), none⟩,
                    ⟨some 81, .move (.tmp 9), none⟩,
                    ⟨some 82, .iaddr 1 (.tmp 80) (.tmp 81), none⟩,
                    ⟨some 83, .load 1 false (.tmp 82), none⟩,
                    ⟨some 84, .lenS (.tmp 83), none⟩,
                    ⟨some 85, .iop .lss (.tmp 79) (.tmp 84), none⟩])
                  (.cond (.tmp 85)
                   .skip
                   (.exit 10)))
                 (.seq
                  (.block 11
                   (.seq
                    (.region [⟨some 88, .move (.tmp 5), none⟩,
                      ⟨some 89, .move (.tmp 9), none⟩,
                      ⟨some 90, .iaddr 1 (.tmp 88) (.tmp 89), none⟩,
                      ⟨some 91, .load 1 false (.tmp 90), none⟩,
                      ⟨some 92, .move (.tmp 10), none⟩,
                      ⟨some 93, .iaddr 1 (.tmp 91) (.tmp 92), none⟩,
                      ⟨some 94, .load 1 false (.tmp 93), none⟩,
                      ⟨some 95, .move (.tmp 9), none⟩,
                      ⟨some 96, .iop .sub (.const (.int .i64 (-9000))) (.tmp 95), none⟩,
                      ⟨some 97, .iop .neq (.tmp 94) (.tmp 96), none⟩])
                    (.cond (.tmp 97)
                     (.seq
                      (.region [⟨some 2, .move (.const (.bool false)), none⟩])
                      .ret)
                     .skip)))
                  (.region [⟨some 86, .move (.tmp 10), none⟩,
                    ⟨some 87, .iop .add (.tmp 86) (.const (.int .i64 1)), none⟩,
                    ⟨some 10, .move (.tmp 87), none⟩]))))))
             (.seq
              (.region [⟨some 11, .move (.const (.int .i64 0)), none⟩])
              (.block 12
               (.loop [0, 5, 9, 11]
                (.seq
                 (.seq
                  (.region [⟨some 98, .move (.tmp 11), none⟩,
                    ⟨some 99, .move (.tmp 0), none⟩,
                    ⟨some 100, .nilCheck (.tmp 99), none⟩,
                    ⟨some 101, .faddr 2 (.tmp 100), none⟩,
                    ⟨some 102, .load 1 false (.tmp 101), none⟩,
                    ⟨some 103, .move (.tmp 9), none⟩,
                    ⟨some 104, .iaddr 1 (.tmp 102) (.tmp 103), none⟩,
                    ⟨some 105, .load 1 false (.tmp 104), none⟩,
                    ⟨some 106, .lenS (.tmp 105), none⟩,
                    ⟨some 107, .iop .lss (.tmp 98) (.tmp 106), none⟩])
                  (.cond (.tmp 107)
                   .skip
                   (.exit 12)))
                 (.seq
                  (.block 13
                   (.seq
                    (.region [⟨some 110, .move (.tmp 0), none⟩,
                      ⟨some 111, .nilCheck (.tmp 110), none⟩,
                      ⟨some 112, .faddr 2 (.tmp 111), none⟩,
                      ⟨some 113, .load 1 false (.tmp 112), none⟩,
                      ⟨some 114, .move (.tmp 9), none⟩,
                      ⟨some 115, .iaddr 1 (.tmp 113) (.tmp 114), none⟩,
                      ⟨some 116, .load 1 false (.tmp 115), none⟩,
                      ⟨some 117, .move (.tmp 11), none⟩,
                      ⟨some 118, .iaddr 1 (.tmp 116) (.tmp 117), none⟩,
                      ⟨some 119, .load 1 false (.tmp 118), none⟩,
                      ⟨some 120, .move (.tmp 9), none⟩,
                      ⟨some 121, .iop .sub (.const (.int .i64 (-9000))) (.tmp 120), none⟩,
                      ⟨some 122, .iop .neq (.tmp 119) (.tmp 121), none⟩])
                    (.cond (.tmp 122)
                     (.seq
                      (.region [⟨some 2, .move (.const (.bool false)), none⟩])
                      .ret)
                     .skip)))
                  (.region [⟨some 108, .move (.tmp 11), none⟩,
                    ⟨some 109, .iop .add (.tmp 108) (.const (.int .i64 1)), none⟩,
                    ⟨some 11, .move (.tmp 109), none⟩]))))))))
           (.region [⟨some 77, .move (.tmp 9), none⟩,
             ⟨some 78, .iop .add (.tmp 77) (.const (.int .i64 1)), none⟩,
             ⟨some 9, .move (.tmp 78), none⟩]))))))
      (.seq
       (.region [⟨some 2, .move (.const (.bool true)), none⟩])
       .ret)))))), [.tmp 2]⟩

/-- (*purlin/purlinmem.Book).aloneCells -/
def a70 : AFunc := ⟨127,
 (.seq
  (.region [⟨some 2, .move (.const (.bool false)), none⟩])
  (.seq
   (.seq
    (.region [⟨some 3, .move (.const (.int .i64 0)), none⟩])
    (.block 0
     (.loop [0, 3]
      (.seq
       (.seq
        (.region [⟨some 12, .move (.tmp 3), none⟩,
          ⟨some 13, .move (.tmp 0), none⟩,
          ⟨some 14, .nilCheck (.tmp 13), none⟩,
          ⟨some 15, .faddr 3 (.tmp 14), none⟩,
          ⟨some 16, .load 1 false (.tmp 15), none⟩,
          ⟨some 17, .lenS (.tmp 16), none⟩,
          ⟨some 18, .iop .lss (.tmp 12) (.tmp 17), none⟩])
        (.cond (.tmp 18)
         .skip
         (.exit 0)))
       (.seq
        (.block 1
         (.seq
          (.region [⟨some 4, .move (.const (.int .i64 0)), none⟩])
          (.block 2
           (.loop [0, 3, 4]
            (.seq
             (.seq
              (.region [⟨some 21, .move (.tmp 4), none⟩,
                ⟨some 22, .move (.tmp 0), none⟩,
                ⟨some 23, .nilCheck (.tmp 22), none⟩,
                ⟨some 24, .faddr 3 (.tmp 23), none⟩,
                ⟨some 25, .load 1 false (.tmp 24), none⟩,
                ⟨some 26, .move (.tmp 3), none⟩,
                ⟨some 27, .iaddr 1 (.tmp 25) (.tmp 26), none⟩,
                ⟨some 28, .load 1 false (.tmp 27), none⟩,
                ⟨some 29, .lenS (.tmp 28), none⟩,
                ⟨some 30, .iop .lss (.tmp 21) (.tmp 29), none⟩])
              (.cond (.tmp 30)
               .skip
               (.exit 2)))
             (.seq
              (.block 3
               (.region [⟨some 33, .move (.tmp 0), none⟩,
                 ⟨some 34, .nilCheck (.tmp 33), none⟩,
                 ⟨some 35, .faddr 3 (.tmp 34), none⟩,
                 ⟨some 36, .load 1 false (.tmp 35), none⟩,
                 ⟨some 37, .move (.tmp 3), none⟩,
                 ⟨some 38, .iaddr 1 (.tmp 36) (.tmp 37), none⟩,
                 ⟨some 39, .load 1 false (.tmp 38), none⟩,
                 ⟨some 40, .move (.tmp 4), none⟩,
                 ⟨some 41, .move (.tmp 3), none⟩,
                 ⟨some 42, .iop .sub (.const (.int .i64 (-9000))) (.tmp 41), none⟩,
                 ⟨some 43, .build [(.int .u8 0), (.str []), (.int .i64 0), (.int .i64 0), (.int .i64 0)] [(2, 1, (.tmp 42))], none⟩,
                 ⟨some 44, .iaddr 5 (.tmp 39) (.tmp 40), none⟩,
                 ⟨none, .store 5 (.tmp 44) (.tmp 43), none⟩]))
              (.region [⟨some 31, .move (.tmp 4), none⟩,
                ⟨some 32, .iop .add (.tmp 31) (.const (.int .i64 1)), none⟩,
                ⟨some 4, .move (.tmp 32), none⟩])))))))
        (.region [⟨some 19, .move (.tmp 3), none⟩,
          ⟨some 20, .iop .add (.tmp 19) (.const (.int .i64 1)), none⟩,
          ⟨some 3, .move (.tmp 20), none⟩]))))))
   (.seq
    (.region [⟨some 5, .move (.const .nilslice), none⟩])
    (.seq
     (.seq
      (.region [⟨some 6, .move (.const (.int .i64 0)), none⟩])
      (.block 4
       (.loop [0, 5, 6]
        (.seq
         (.seq
          (.region [⟨some 45, .move (.tmp 6), none⟩,
            ⟨some 46, .move (.tmp 0), none⟩,
            ⟨some 47, .nilCheck (.tmp 46), none⟩,
            ⟨some 48, .faddr 3 (.tmp 47), none⟩,
            ⟨some 49, .load 1 false (.tmp 48), none⟩,
            ⟨some 50, .lenS (.tmp 49), none⟩,
            ⟨some 51, .iop .lss (.tmp 45) (.tmp 50), none⟩])
          (.cond (.tmp 51)
           .skip
           (.exit 4)))
         (.seq
          (.block 5
           (.seq
            (.region [⟨some 54, .move (.tmp 0), none⟩,
              ⟨some 55, .nilCheck (.tmp 54), none⟩,
              ⟨some 56, .faddr 3 (.tmp 55), none⟩,
              ⟨some 57, .load 1 false (.tmp 56), none⟩,
              ⟨some 58, .move (.tmp 6), none⟩,
              ⟨some 59, .iaddr 1 (.tmp 57) (.tmp 58), none⟩,
              ⟨some 60, .load 1 false (.tmp 59), none⟩,
              ⟨some 7, .move (.tmp 60), none⟩])
            (.seq
             (.seq
              (.region [⟨some 8, .move (.const (.int .i64 0)), none⟩])
              (.block 6
               (.loop [0, 5, 6, 7, 8]
                (.seq
                 (.seq
                  (.region [⟨some 61, .move (.tmp 8), none⟩,
                    ⟨some 62, .iop .lss (.tmp 61) (.const (.int .i64 20)), none⟩])
                  (.cond (.tmp 62)
                   .skip
                   (.exit 6)))
                 (.seq
                  (.block 7
                   (.region [⟨some 65, .move (.tmp 7), none⟩,
                     ⟨some 66, .move (.tmp 6), none⟩,
                     ⟨some 67, .iop .sub (.const (.int .i64 (-9000))) (.tmp 66), none⟩,
                     ⟨some 68, .build [(.int .u8 0), (.str []), (.int .i64 0), (.int .i64 0), (.int .i64 0)] [(2, 1, (.tmp 67))], none⟩,
                     ⟨some 69, .lit 5 [(.int .u8 0), (.str []), (.int .i64 0), (.int .i64 0), (.int .i64 0)] true 1 [(0, (.tmp 68))], none⟩,
                     ⟨some 70, .append 5 48 (.tmp 65) (.tmp 69), none⟩,
                     ⟨some 7, .move (.tmp 70), none⟩]))
                  (.region [⟨some 63, .move (.tmp 8), none⟩,
                    ⟨some 64, .iop .add (.tmp 63) (.const (.int .i64 1)), none⟩,
                    ⟨some 8, .move (.tmp 64), none⟩]))))))
             (.region [⟨some 71, .move (.tmp 5), none⟩,
               ⟨some 72, .move (.tmp 7), none⟩,
               ⟨some 73, .litA 1 [.nilslice] false 1 [(0, (.tmp 72))], none⟩,
               ⟨some 74, .append 1 24 (.tmp 71) (.tmp 73), none⟩,
               ⟨some 5, .move (.tmp 74), none⟩]))))
          (.region [⟨some 52, .move (.tmp 6), none⟩,
            ⟨some 53, .iop .add (.tmp 52) (.const (.int .i64 1)), none⟩,
            ⟨some 6, .move (.tmp 53), none⟩]))))))
     (.seq
      (.seq
       (.region [⟨some 9, .move (.const (.int .i64 0)), none⟩])
       (.block 8
        (.loop [0, 5, 9]
         (.seq
          (.seq
           (.region [⟨some 75, .move (.tmp 9), none⟩,
             ⟨some 76, .move (.tmp 5), none⟩,
             ⟨some 77, .lenS (.tmp 76), none⟩,
             ⟨some 78, .iop .lss (.tmp 75) (.tmp 77), none⟩])
           (.cond (.tmp 78)
            .skip
            (.exit 8)))
          (.seq
           (.block 9
            (.seq
             (.seq
              (.region [⟨some 10, .move (.const (.int .i64 0)), none⟩])
              (.block 10
               (.loop [0, 5, 9, 10]
                (.seq
                 (.seq
                  (.region [⟨some 81, .move (.tmp 10), none⟩,
                    ⟨some 82, .move (.tmp 5), none⟩,
                    ⟨some 83, .move (.tmp 9), none⟩,
                    ⟨some 84, .iaddr 1 (.tmp 82) (.tmp 83), none⟩,
                    ⟨some 85, .load 1 false (.tmp 84), none⟩,
                    ⟨some 86, .lenS (.tmp 85), none⟩,
                    ⟨some 87, .iop .lss (.tmp 81) (.tmp 86), none⟩])
                  (.cond (.tmp 87)
                   .skip
                   (.exit 10)))
                 (.seq
                  (.block 11
                   (.seq
                    (.region [⟨some 90, .move (.tmp 5), none⟩,
                      ⟨some 91, .move (.tmp 9), none⟩,
                      ⟨some 92, .iaddr 1 (.tmp 90) (.tmp 91), none⟩,
                      ⟨some 93, .load 1 false (.tmp 92), none⟩,
                      ⟨some 94, .move (.tmp 10), none⟩,
                      ⟨some 95, .iaddr 5 (.tmp 93) (.tmp 94), none⟩,
                      ⟨some 96, .load 5 true (.tmp 95), none⟩,
                      ⟨some 97, .move (.tmp 9), none⟩,
                      ⟨some 98, .iop .sub (.const (.int .i64 (-9000))) (.tmp 97), none⟩,
                      ⟨some 99, .build [(.int .u8 0), (.str []), (.int .i64 0), (.int .i64 0), (.int .i64 0)] [(2, 1, (.tmp 98))], none⟩,
                      ⟨some 100, .eqs true [.i, .s, .i, .i, .i] (.tmp 96) (.tmp 99), none⟩])
                    (.cond (.tmp 100)
                     (.seq
                      (.region [⟨some 2, .move (.const (.bool false)), none⟩])
                      .ret)
                     .skip)))
                  (.region [⟨some 88, .move (.tmp 10), none⟩,
                    ⟨some 89, .iop .add (.tmp 88) (.const (.int .i64 1)), none⟩,
                    ⟨some 10, .move (.tmp 89), none⟩]))))))
             (.seq
              (.region [⟨some 11, .move (.const (.int .i64 0)), none⟩])
              (.block 12
               (.loop [0, 5, 9, 11]
                (.seq
                 (.seq
                  (.region [⟨some 101, .move (.tmp 11), none⟩,
                    ⟨some 102, .move (.tmp 0), none⟩,
                    ⟨some 103, .nilCheck (.tmp 102), none⟩,
                    ⟨some 104, .faddr 3 (.tmp 103), none⟩,
                    ⟨some 105, .load 1 false (.tmp 104), none⟩,
                    ⟨some 106, .move (.tmp 9), none⟩,
                    ⟨some 107, .iaddr 1 (.tmp 105) (.tmp 106), none⟩,
                    ⟨some 108, .load 1 false (.tmp 107), none⟩,
                    ⟨some 109, .lenS (.tmp 108), none⟩,
                    ⟨some 110, .iop .lss (.tmp 101) (.tmp 109), none⟩])
                  (.cond (.tmp 110)
                   .skip
                   (.exit 12)))
                 (.seq
                  (.block 13
                   (.seq
                    (.region [⟨some 113, .move (.tmp 0), none⟩,
                      ⟨some 114, .nilCheck (.tmp 113), none⟩,
                      ⟨some 115, .faddr 3 (.tmp 114), none⟩,
                      ⟨some 116, .load 1 false (.tmp 115), none⟩,
                      ⟨some 117, .move (.tmp 9), none⟩,
                      ⟨some 118, .iaddr 1 (.tmp 116) (.tmp 117), none⟩,
                      ⟨some 119, .load 1 false (.tmp 118), none⟩,
                      ⟨some 120, .move (.tmp 11), none⟩,
                      ⟨some 121, .iaddr 5 (.tmp 119) (.tmp 120), none⟩,
                      ⟨some 122, .load 5 true (.tmp 121), none⟩,
                      ⟨some 123, .move (.tmp 9), none⟩,
                      ⟨some 124, .iop .sub (.const (.int .i64 (-9000))) (.tmp 123), none⟩,
                      ⟨some 125, .build [(.int .u8 0), (.str []), (.int .i64 0), (.int .i64 0), (.int .i64 0)] [(2, 1, (.tmp 124))], none⟩,
                      ⟨some 126, .eqs true [.i, .s, .i, .i, .i] (.tmp 122) (.tmp 125), none⟩])
                    (.cond (.tmp 126)
                     (.seq
                      (.region [⟨some 2, .move (.const (.bool false)), none⟩])
                      .ret)
                     .skip)))
                  (.region [⟨some 111, .move (.tmp 11), none⟩,
                    ⟨some 112, .iop .add (.tmp 111) (.const (.int .i64 1)), none⟩,
                    ⟨some 11, .move (.tmp 112), none⟩]))))))))
           (.region [⟨some 79, .move (.tmp 9), none⟩,
             ⟨some 80, .iop .add (.tmp 79) (.const (.int .i64 1)), none⟩,
             ⟨some 9, .move (.tmp 80), none⟩]))))))
      (.seq
       (.region [⟨some 2, .move (.const (.bool true)), none⟩])
       .ret)))))), [.tmp 2]⟩

/-- (*purlin/purlinmem.Book).aloneNames -/
def a71 : AFunc := ⟨127,
 (.seq
  (.region [⟨some 2, .move (.const (.bool false)), none⟩])
  (.seq
   (.seq
    (.region [⟨some 3, .move (.const (.int .i64 0)), none⟩])
    (.block 0
     (.loop [0, 3]
      (.seq
       (.seq
        (.region [⟨some 12, .move (.tmp 3), none⟩,
          ⟨some 13, .move (.tmp 0), none⟩,
          ⟨some 14, .nilCheck (.tmp 13), none⟩,
          ⟨some 15, .faddr 4 (.tmp 14), none⟩,
          ⟨some 16, .load 1 false (.tmp 15), none⟩,
          ⟨some 17, .lenS (.tmp 16), none⟩,
          ⟨some 18, .iop .lss (.tmp 12) (.tmp 17), none⟩])
        (.cond (.tmp 18)
         .skip
         (.exit 0)))
       (.seq
        (.block 1
         (.seq
          (.region [⟨some 4, .move (.const (.int .i64 0)), none⟩])
          (.block 2
           (.loop [0, 3, 4]
            (.seq
             (.seq
              (.region [⟨some 21, .move (.tmp 4), none⟩,
                ⟨some 22, .move (.tmp 0), none⟩,
                ⟨some 23, .nilCheck (.tmp 22), none⟩,
                ⟨some 24, .faddr 4 (.tmp 23), none⟩,
                ⟨some 25, .load 1 false (.tmp 24), none⟩,
                ⟨some 26, .move (.tmp 3), none⟩,
                ⟨some 27, .iaddr 1 (.tmp 25) (.tmp 26), none⟩,
                ⟨some 28, .load 1 false (.tmp 27), none⟩,
                ⟨some 29, .lenS (.tmp 28), none⟩,
                ⟨some 30, .iop .lss (.tmp 21) (.tmp 29), none⟩])
              (.cond (.tmp 30)
               .skip
               (.exit 2)))
             (.seq
              (.block 3
               (.region [⟨some 33, .move (.tmp 0), none⟩,
                 ⟨some 34, .nilCheck (.tmp 33), none⟩,
                 ⟨some 35, .faddr 4 (.tmp 34), none⟩,
                 ⟨some 36, .load 1 false (.tmp 35), none⟩,
                 ⟨some 37, .move (.tmp 3), none⟩,
                 ⟨some 38, .iaddr 1 (.tmp 36) (.tmp 37), none⟩,
                 ⟨some 39, .load 1 false (.tmp 38), none⟩,
                 ⟨some 40, .move (.tmp 4), none⟩,
                 ⟨some 41, .move (.tmp 3), none⟩,
                 ⟨some 42, .iop .sub (.const (.int .i64 (-9000))) (.tmp 41), none⟩,
                 ⟨some 43, .build [(.int .i64 0), (.int .i64 0)] [(0, 1, (.tmp 42))], none⟩,
                 ⟨some 44, .iaddr 2 (.tmp 39) (.tmp 40), none⟩,
                 ⟨none, .store 2 (.tmp 44) (.tmp 43), none⟩]))
              (.region [⟨some 31, .move (.tmp 4), none⟩,
                ⟨some 32, .iop .add (.tmp 31) (.const (.int .i64 1)), none⟩,
                ⟨some 4, .move (.tmp 32), none⟩])))))))
        (.region [⟨some 19, .move (.tmp 3), none⟩,
          ⟨some 20, .iop .add (.tmp 19) (.const (.int .i64 1)), none⟩,
          ⟨some 3, .move (.tmp 20), none⟩]))))))
   (.seq
    (.region [⟨some 5, .move (.const .nilslice), none⟩])
    (.seq
     (.seq
      (.region [⟨some 6, .move (.const (.int .i64 0)), none⟩])
      (.block 4
       (.loop [0, 5, 6]
        (.seq
         (.seq
          (.region [⟨some 45, .move (.tmp 6), none⟩,
            ⟨some 46, .move (.tmp 0), none⟩,
            ⟨some 47, .nilCheck (.tmp 46), none⟩,
            ⟨some 48, .faddr 4 (.tmp 47), none⟩,
            ⟨some 49, .load 1 false (.tmp 48), none⟩,
            ⟨some 50, .lenS (.tmp 49), none⟩,
            ⟨some 51, .iop .lss (.tmp 45) (.tmp 50), none⟩])
          (.cond (.tmp 51)
           .skip
           (.exit 4)))
         (.seq
          (.block 5
           (.seq
            (.region [⟨some 54, .move (.tmp 0), none⟩,
              ⟨some 55, .nilCheck (.tmp 54), none⟩,
              ⟨some 56, .faddr 4 (.tmp 55), none⟩,
              ⟨some 57, .load 1 false (.tmp 56), none⟩,
              ⟨some 58, .move (.tmp 6), none⟩,
              ⟨some 59, .iaddr 1 (.tmp 57) (.tmp 58), none⟩,
              ⟨some 60, .load 1 false (.tmp 59), none⟩,
              ⟨some 7, .move (.tmp 60), none⟩])
            (.seq
             (.seq
              (.region [⟨some 8, .move (.const (.int .i64 0)), none⟩])
              (.block 6
               (.loop [0, 5, 6, 7, 8]
                (.seq
                 (.seq
                  (.region [⟨some 61, .move (.tmp 8), none⟩,
                    ⟨some 62, .iop .lss (.tmp 61) (.const (.int .i64 20)), none⟩])
                  (.cond (.tmp 62)
                   .skip
                   (.exit 6)))
                 (.seq
                  (.block 7
                   (.region [⟨some 65, .move (.tmp 7), none⟩,
                     ⟨some 66, .move (.tmp 6), none⟩,
                     ⟨some 67, .iop .sub (.const (.int .i64 (-9000))) (.tmp 66), none⟩,
                     ⟨some 68, .build [(.int .i64 0), (.int .i64 0)] [(0, 1, (.tmp 67))], none⟩,
                     ⟨some 69, .lit 2 [(.int .i64 0), (.int .i64 0)] true 1 [(0, (.tmp 68))], none⟩,
                     ⟨some 70, .append 2 16 (.tmp 65) (.tmp 69), none⟩,
                     ⟨some 7, .move (.tmp 70), none⟩]))
                  (.region [⟨some 63, .move (.tmp 8), none⟩,
                    ⟨some 64, .iop .add (.tmp 63) (.const (.int .i64 1)), none⟩,
                    ⟨some 8, .move (.tmp 64), none⟩]))))))
             (.region [⟨some 71, .move (.tmp 5), none⟩,
               ⟨some 72, .move (.tmp 7), none⟩,
               ⟨some 73, .litA 1 [.nilslice] false 1 [(0, (.tmp 72))], none⟩,
               ⟨some 74, .append 1 24 (.tmp 71) (.tmp 73), none⟩,
               ⟨some 5, .move (.tmp 74), none⟩]))))
          (.region [⟨some 52, .move (.tmp 6), none⟩,
            ⟨some 53, .iop .add (.tmp 52) (.const (.int .i64 1)), none⟩,
            ⟨some 6, .move (.tmp 53), none⟩]))))))
     (.seq
      (.seq
       (.region [⟨some 9, .move (.const (.int .i64 0)), none⟩])
       (.block 8
        (.loop [0, 5, 9]
         (.seq
          (.seq
           (.region [⟨some 75, .move (.tmp 9), none⟩,
             ⟨some 76, .move (.tmp 5), none⟩,
             ⟨some 77, .lenS (.tmp 76), none⟩,
             ⟨some 78, .iop .lss (.tmp 75) (.tmp 77), none⟩])
           (.cond (.tmp 78)
            .skip
            (.exit 8)))
          (.seq
           (.block 9
            (.seq
             (.seq
              (.region [⟨some 10, .move (.const (.int .i64 0)), none⟩])
              (.block 10
               (.loop [0, 5, 9, 10]
                (.seq
                 (.seq
                  (.region [⟨some 81, .move (.tmp 10), none⟩,
                    ⟨some 82, .move (.tmp 5), none⟩,
                    ⟨some 83, .move (.tmp 9), none⟩,
                    ⟨some 84, .iaddr 1 (.tmp 82) (.tmp 83), none⟩,
                    ⟨some 85, .load 1 false (.tmp 84), none⟩,
                    ⟨some 86, .lenS (.tmp 85), none⟩,
                    ⟨some 87, .iop .lss (.tmp 81) (.tmp 86), none⟩])
                  (.cond (.tmp 87)
                   .skip
                   (.exit 10)))
                 (.seq
                  (.block 11
                   (.seq
                    (.region [⟨some 90, .move (.tmp 5), none⟩,
                      ⟨some 91, .move (.tmp 9), none⟩,
                      ⟨some 92, .iaddr 1 (.tmp 90) (.tmp 91), none⟩,
                      ⟨some 93, .load 1 false (.tmp 92), none⟩,
                      ⟨some 94, .move (.tmp 10), none⟩,
                      ⟨some 95, .iaddr 2 (.tmp 93) (.tmp 94), none⟩,
                      ⟨some 96, .load 2 true (.tmp 95), none⟩,
                      ⟨some 97, .move (.tmp 9), none⟩,
                      ⟨some 98, .iop .sub (.const (.int .i64 (-9000))) (.tmp 97), none⟩,
                      ⟨some 99, .build [(.int .i64 0), (.int .i64 0)] [(0, 1, (.tmp 98))], none⟩,
                      ⟨some 100, .eqs true [.i, .i] (.tmp 96) (.tmp 99), none⟩])
                    (.cond (.tmp 100)
                     (.seq
                      (.region [⟨some 2, .move (.const (.bool false)), none⟩])
                      .ret)
                     .skip)))
                  (.region [⟨some 88, .move (.tmp 10), none⟩,
                    ⟨some 89, .iop .add (.tmp 88) (.const (.int .i64 1)), none⟩,
                    ⟨some 10, .move (.tmp 89), none⟩]))))))
             (.seq
              (.region [⟨some 11, .move (.const (.int .i64 0)), none⟩])
              (.block 12
               (.loop [0, 5, 9, 11]
                (.seq
                 (.seq
                  (.region [⟨some 101, .move (.tmp 11), none⟩,
                    ⟨some 102, .move (.tmp 0), none⟩,
                    ⟨some 103, .nilCheck (.tmp 102), none⟩,
                    ⟨some 104, .faddr 4 (.tmp 103), none⟩,
                    ⟨some 105, .load 1 false (.tmp 104), none⟩,
                    ⟨some 106, .move (.tmp 9), none⟩,
                    ⟨some 107, .iaddr 1 (.tmp 105) (.tmp 106), none⟩,
                    ⟨some 108, .load 1 false (.tmp 107), none⟩,
                    ⟨some 109, .lenS (.tmp 108), none⟩,
                    ⟨some 110, .iop .lss (.tmp 101) (.tmp 109), none⟩])
                  (.cond (.tmp 110)
                   .skip
                   (.exit 12)))
                 (.seq
                  (.block 13
                   (.seq
                    (.region [⟨some 113, .move (.tmp 0), none⟩,
                      ⟨some 114, .nilCheck (.tmp 113), none⟩,
                      ⟨some 115, .faddr 4 (.tmp 114), none⟩,
                      ⟨some 116, .load 1 false (.tmp 115), none⟩,
                      ⟨some 117, .move (.tmp 9), none⟩,
                      ⟨some 118, .iaddr 1 (.tmp 116) (.tmp 117), none⟩,
                      ⟨some 119, .load 1 false (.tmp 118), none⟩,
                      ⟨some 120, .move (.tmp 11), none⟩,
                      ⟨some 121, .iaddr 2 (.tmp 119) (.tmp 120), none⟩,
                      ⟨some 122, .load 2 true (.tmp 121), none⟩,
                      ⟨some 123, .move (.tmp 9), none⟩,
                      ⟨some 124, .iop .sub (.const (.int .i64 (-9000))) (.tmp 123), none⟩,
                      ⟨some 125, .build [(.int .i64 0), (.int .i64 0)] [(0, 1, (.tmp 124))], none⟩,
                      ⟨some 126, .eqs true [.i, .i] (.tmp 122) (.tmp 125), none⟩])
                    (.cond (.tmp 126)
                     (.seq
                      (.region [⟨some 2, .move (.const (.bool false)), none⟩])
                      .ret)
                     .skip)))
                  (.region [⟨some 111, .move (.tmp 11), none⟩,
                    ⟨some 112, .iop .add (.tmp 111) (.const (.int .i64 1)), none⟩,
                    ⟨some 11, .move (.tmp 112), none⟩]))))))))
           (.region [⟨some 79, .move (.tmp 9), none⟩,
             ⟨some 80, .iop .add (.tmp 79) (.const (.int .i64 1)), none⟩,
             ⟨some 9, .move (.tmp 80), none⟩]))))))
      (.seq
       (.region [⟨some 2, .move (.const (.bool true)), none⟩])
       .ret)))))), [.tmp 2]⟩

/-- (*purlin/journal.Log).look -/
def a72 : AFunc := ⟨36,
 (.block 0
  (.loop [0]
   (.block 1
    (.seq
     (.region [⟨some 5, .move (.tmp 0), none⟩,
       ⟨some 6, .nilCheck (.tmp 5), none⟩,
       ⟨some 7, .faddr 0 (.tmp 6), none⟩,
       ⟨some 8, .load 1 false (.tmp 7), none⟩,
       ⟨some 9, .move (.tmp 0), none⟩,
       ⟨some 10, .nilCheck (.tmp 9), none⟩,
       ⟨some 11, .faddr 2 (.tmp 10), none⟩,
       ⟨some 12, .load 1 false (.tmp 11), none⟩,
       ⟨some 13, .sliceOp 1 (.tmp 8) (some (.tmp 12)) none none, none⟩,
       ⟨some 14, .call .shared 64 [(.tmp 13)], none⟩,
       ⟨some 4, .move (.tmp 14), none⟩,
       ⟨some 15, .extract (.tmp 4) 0, none⟩,
       ⟨some 16, .extract (.tmp 4) 1, none⟩,
       ⟨some 2, .move (.tmp 15), none⟩,
       ⟨some 3, .move (.tmp 16), none⟩])
     (.seq
      (.seq
       (.region [⟨some 17, .move (.tmp 3), none⟩,
         ⟨some 18, .not (.tmp 17), none⟩])
       (.cond (.tmp 18)
        .ret
        .skip))
      (.seq
       (.region [⟨some 19, .move (.tmp 0), none⟩,
         ⟨some 20, .nilCheck (.tmp 19), none⟩,
         ⟨some 21, .faddr 1 (.tmp 20), none⟩,
         ⟨some 22, .load 1 false (.tmp 21), none⟩,
         ⟨some 23, .iop .add (.tmp 22) (.const (.int .i64 1)), none⟩,
         ⟨some 24, .nilCheck (.tmp 19), none⟩,
         ⟨some 25, .faddr 1 (.tmp 24), none⟩,
         ⟨none, .store 1 (.tmp 25) (.tmp 23), none⟩])
       (.region [⟨some 26, .move (.tmp 0), none⟩,
         ⟨some 27, .nilCheck (.tmp 26), none⟩,
         ⟨some 28, .faddr 2 (.tmp 27), none⟩,
         ⟨some 29, .load 1 false (.tmp 28), none⟩,
         ⟨some 30, .move (.tmp 2), none⟩,
         ⟨some 31, .lenS (.tmp 30), none⟩,
         ⟨some 32, .iop .add (.const (.int .i64 8)) (.tmp 31), none⟩,
         ⟨some 33, .iop .add (.tmp 29) (.tmp 32), none⟩,
         ⟨some 34, .nilCheck (.tmp 26), none⟩,
         ⟨some 35, .faddr 2 (.tmp 34), none⟩,
         ⟨none, .store 1 (.tmp 35) (.tmp 33), none⟩]))))))), []⟩

/-- (*purlin/purlinref14.Log).Torn -/
def a73 : AFunc := ⟨19,
 (.seq
  (.region [⟨some 2, .move (.const (.bool false)), none⟩])
  (.seq
   (.seq
    (.region [⟨some 6, .move (.tmp 0), none⟩,
      ⟨some 7, .eqnil false .p (.tmp 6), none⟩])
    (.cond (.tmp 7)
     (.seq
      (.region [⟨some 2, .move (.const (.bool false)), none⟩])
      .ret)
     .skip))
   (.seq
    (.region [⟨some 9, .move (.tmp 0), none⟩,
      ⟨some 10, .nilCheck (.tmp 9), none⟩,
      ⟨some 11, .faddr 0 (.tmp 10), none⟩,
      ⟨some 12, .load 1 false (.tmp 11), none⟩,
      ⟨some 13, .call .shared 18 [(.tmp 12)], none⟩,
      ⟨some 8, .move (.tmp 13), none⟩,
      ⟨some 14, .extract (.tmp 8) 0, none⟩,
      ⟨some 15, .extract (.tmp 8) 1, none⟩,
      ⟨some 16, .extract (.tmp 8) 2, none⟩,
      ⟨some 3, .move (.tmp 14), none⟩,
      ⟨some 4, .move (.tmp 15), none⟩,
      ⟨some 5, .move (.tmp 16), none⟩])
    (.seq
     (.region [⟨some 17, .move (.tmp 5), none⟩,
       ⟨some 18, .iop .neq (.tmp 17) (.const (.int .i64 0)), none⟩,
       ⟨some 2, .move (.tmp 18), none⟩])
     .ret)))), [.tmp 2]⟩

/-- (*purlin/purlinref14.Log).Payloads -/
def a74 : AFunc := ⟨18,
 (.seq
  (.region [⟨some 2, .move (.const .nilslice), none⟩])
  (.seq
   (.seq
    (.region [⟨some 6, .move (.tmp 0), none⟩,
      ⟨some 7, .eqnil false .p (.tmp 6), none⟩])
    (.cond (.tmp 7)
     (.seq
      (.region [⟨some 2, .move (.const .nilslice), none⟩])
      .ret)
     .skip))
   (.seq
    (.region [⟨some 9, .move (.tmp 0), none⟩,
      ⟨some 10, .nilCheck (.tmp 9), none⟩,
      ⟨some 11, .faddr 0 (.tmp 10), none⟩,
      ⟨some 12, .load 1 false (.tmp 11), none⟩,
      ⟨some 13, .call .shared 18 [(.tmp 12)], none⟩,
      ⟨some 8, .move (.tmp 13), none⟩,
      ⟨some 14, .extract (.tmp 8) 0, none⟩,
      ⟨some 15, .extract (.tmp 8) 1, none⟩,
      ⟨some 16, .extract (.tmp 8) 2, none⟩,
      ⟨some 3, .move (.tmp 14), none⟩,
      ⟨some 4, .move (.tmp 15), none⟩,
      ⟨some 5, .move (.tmp 16), none⟩])
    (.seq
     (.region [⟨some 17, .move (.tmp 3), none⟩,
       ⟨some 2, .move (.tmp 17), none⟩])
     .ret)))), [.tmp 2]⟩

/-- (*purlin/purlinref14.Log).Append -/
def a75 : AFunc := ⟨27,
 (.seq
  (.region [⟨some 4, .move (.const (.int .i64 0)), none⟩])
  (.seq
   (.region [⟨some 8, .move (.tmp 0), none⟩,
     ⟨some 9, .move (.tmp 1), none⟩,
     ⟨some 10, .call .shared 94 [(.tmp 8), (.tmp 9)], none⟩,
     ⟨some 7, .move (.tmp 10), none⟩,
     ⟨some 11, .extract (.tmp 7) 0, none⟩,
     ⟨some 12, .extract (.tmp 7) 1, none⟩,
     ⟨some 5, .move (.tmp 11), none⟩,
     ⟨some 6, .move (.tmp 12), none⟩])
   (.seq
    (.seq
     (.region [⟨some 13, .move (.tmp 6), none⟩,
       ⟨some 14, .iop .eql (.tmp 13) (.const (.int .i64 0)), none⟩])
     (.cond (.tmp 14)
      (.region [⟨some 15, .move (.tmp 0), none⟩,
        ⟨some 16, .lit 1 [(.int .u8 0)] false 0 [], none⟩,
        ⟨some 17, .move (.tmp 0), none⟩,
        ⟨some 18, .nilCheck (.tmp 17), none⟩,
        ⟨some 19, .faddr 0 (.tmp 18), none⟩,
        ⟨some 20, .load 1 false (.tmp 19), none⟩,
        ⟨some 21, .append 1 1 (.tmp 16) (.tmp 20), none⟩,
        ⟨some 22, .move (.tmp 5), none⟩,
        ⟨some 23, .append 1 1 (.tmp 21) (.tmp 22), none⟩,
        ⟨some 24, .nilCheck (.tmp 15), none⟩,
        ⟨some 25, .faddr 0 (.tmp 24), none⟩,
        ⟨none, .store 1 (.tmp 25) (.tmp 23), none⟩])
      .skip))
    (.seq
     (.region [⟨some 26, .move (.tmp 6), none⟩,
       ⟨some 4, .move (.tmp 26), none⟩])
     .ret)))), [.tmp 4]⟩

/-- (*purlin/purlinref14.Log).Cut -/
def a76 : AFunc := ⟨43,
 (.seq
  (.region [⟨some 6, .move (.const (.bool false)), none⟩,
    ⟨some 7, .move (.const (.int .i64 0)), none⟩])
  (.seq
   (.region [⟨some 12, .move (.tmp 0), none⟩,
     ⟨some 13, .move (.tmp 1), none⟩,
     ⟨some 14, .call .shared 94 [(.tmp 12), (.tmp 13)], none⟩,
     ⟨some 11, .move (.tmp 14), none⟩,
     ⟨some 15, .extract (.tmp 11) 0, none⟩,
     ⟨some 16, .extract (.tmp 11) 1, none⟩,
     ⟨some 8, .move (.tmp 15), none⟩,
     ⟨some 9, .move (.tmp 16), none⟩])
   (.seq
    (.seq
     (.region [⟨some 17, .move (.tmp 9), none⟩,
       ⟨some 18, .iop .neq (.tmp 17) (.const (.int .i64 0)), none⟩])
     (.cond (.tmp 18)
      (.seq
       (.region [⟨some 19, .move (.tmp 9), none⟩,
         ⟨some 6, .move (.const (.bool false)), none⟩,
         ⟨some 7, .move (.tmp 19), none⟩])
       .ret)
      .skip))
    (.seq
     (.seq
      (.region [⟨some 20, .move (.tmp 2), none⟩,
        ⟨some 21, .iop .lss (.tmp 20) (.const (.int .i64 0)), none⟩])
      (.cond (.tmp 21)
       (.seq
        (.region [⟨some 6, .move (.const (.bool false)), none⟩,
          ⟨some 7, .move (.const (.int .i64 2)), none⟩])
        .ret)
       .skip))
     (.seq
      (.region [⟨some 22, .move (.tmp 2), none⟩,
        ⟨some 23, .move (.tmp 8), none⟩,
        ⟨some 24, .lenS (.tmp 23), none⟩,
        ⟨some 25, .iop .geq (.tmp 22) (.tmp 24), none⟩,
        ⟨some 10, .move (.tmp 25), none⟩])
      (.seq
       (.seq
        (.region [⟨some 26, .move (.tmp 10), none⟩])
        (.cond (.tmp 26)
         (.region [⟨some 27, .move (.tmp 8), none⟩,
           ⟨some 28, .lenS (.tmp 27), none⟩,
           ⟨some 2, .move (.tmp 28), none⟩])
         .skip))
       (.seq
        (.region [⟨some 29, .move (.tmp 0), none⟩,
          ⟨some 30, .lit 1 [(.int .u8 0)] false 0 [], none⟩,
          ⟨some 31, .move (.tmp 0), none⟩,
          ⟨some 32, .nilCheck (.tmp 31), none⟩,
          ⟨some 33, .faddr 0 (.tmp 32), none⟩,
          ⟨some 34, .load 1 false (.tmp 33), none⟩,
          ⟨some 35, .append 1 1 (.tmp 30) (.tmp 34), none⟩,
          ⟨some 36, .move (.tmp 8), none⟩,
          ⟨some 37, .move (.tmp 2), none⟩,
          ⟨some 38, .sliceOp 1 (.tmp 36) none (some (.tmp 37)) none, none⟩,
          ⟨some 39, .append 1 1 (.tmp 35) (.tmp 38), none⟩,
          ⟨some 40, .nilCheck (.tmp 29), none⟩,
          ⟨some 41, .faddr 0 (.tmp 40), none⟩,
          ⟨none, .store 1 (.tmp 41) (.tmp 39), none⟩])
        (.seq
         (.region [⟨some 42, .move (.tmp 10), none⟩,
           ⟨some 6, .move (.tmp 42), none⟩,
           ⟨some 7, .move (.const (.int .i64 0)), none⟩])
         .ret)))))))), [.tmp 6, .tmp 7]⟩

/-- (*purlin/purlinref14.Log).Mend -/
def a77 : AFunc := ⟨37,
 (.seq
  (.region [⟨some 2, .move (.const (.int .i64 0)), none⟩])
  (.seq
   (.seq
    (.region [⟨some 7, .move (.tmp 0), none⟩,
      ⟨some 8, .eqnil false .p (.tmp 7), none⟩])
    (.cond (.tmp 8)
     (.seq
      (.region [⟨some 2, .move (.const (.int .i64 0)), none⟩])
      .ret)
     .skip))
   (.seq
    (.region [⟨some 10, .move (.tmp 0), none⟩,
      ⟨some 11, .nilCheck (.tmp 10), none⟩,
      ⟨some 12, .faddr 0 (.tmp 11), none⟩,
      ⟨some 13, .load 1 false (.tmp 12), none⟩,
      ⟨some 14, .call .shared 18 [(.tmp 13)], none⟩,
      ⟨some 9, .move (.tmp 14), none⟩,
      ⟨some 15, .extract (.tmp 9) 0, none⟩,
      ⟨some 16, .extract (.tmp 9) 1, none⟩,
      ⟨some 17, .extract (.tmp 9) 2, none⟩,
      ⟨some 3, .move (.tmp 15), none⟩,
      ⟨some 4, .move (.tmp 16), none⟩,
      ⟨some 5, .move (.tmp 17), none⟩])
    (.seq
     (.region [⟨some 18, .move (.tmp 0), none⟩,
       ⟨some 19, .nilCheck (.tmp 18), none⟩,
       ⟨some 20, .faddr 0 (.tmp 19), none⟩,
       ⟨some 21, .load 1 false (.tmp 20), none⟩,
       ⟨some 22, .lenS (.tmp 21), none⟩,
       ⟨some 23, .move (.tmp 4), none⟩,
       ⟨some 24, .iop .sub (.tmp 22) (.tmp 23), none⟩,
       ⟨some 6, .move (.tmp 24), none⟩])
     (.seq
      (.region [⟨some 25, .move (.tmp 0), none⟩,
        ⟨some 26, .lit 1 [(.int .u8 0)] false 0 [], none⟩,
        ⟨some 27, .move (.tmp 0), none⟩,
        ⟨some 28, .nilCheck (.tmp 27), none⟩,
        ⟨some 29, .faddr 0 (.tmp 28), none⟩,
        ⟨some 30, .load 1 false (.tmp 29), none⟩,
        ⟨some 31, .move (.tmp 4), none⟩,
        ⟨some 32, .sliceOp 1 (.tmp 30) none (some (.tmp 31)) none, none⟩,
        ⟨some 33, .append 1 1 (.tmp 26) (.tmp 32), none⟩,
        ⟨some 34, .nilCheck (.tmp 25), none⟩,
        ⟨some 35, .faddr 0 (.tmp 34), none⟩,
        ⟨none, .store 1 (.tmp 35) (.tmp 33), none⟩])
      (.seq
       (.region [⟨some 36, .move (.tmp 6), none⟩,
         ⟨some 2, .move (.tmp 36), none⟩])
       .ret)))))), [.tmp 2]⟩

/-- purlin/journal.ofFour -/
def a92 : AFunc := ⟨25,
 (.seq
  (.region [⟨some 2, .move (.const (.int .u32 0)), none⟩])
  (.seq
   (.region [⟨some 3, .move (.tmp 0), none⟩,
     ⟨some 4, .iaddr 1 (.tmp 3) (.const (.int .i64 0)), none⟩,
     ⟨some 5, .load 1 false (.tmp 4), none⟩,
     ⟨some 6, .convI .u32 (.tmp 5), none⟩,
     ⟨some 7, .iop .shl (.tmp 6) (.const (.int .u64 24)), none⟩,
     ⟨some 8, .move (.tmp 0), none⟩,
     ⟨some 9, .iaddr 1 (.tmp 8) (.const (.int .i64 1)), none⟩,
     ⟨some 10, .load 1 false (.tmp 9), none⟩,
     ⟨some 11, .convI .u32 (.tmp 10), none⟩,
     ⟨some 12, .iop .shl (.tmp 11) (.const (.int .u64 16)), none⟩,
     ⟨some 13, .iop .or (.tmp 7) (.tmp 12), none⟩,
     ⟨some 14, .move (.tmp 0), none⟩,
     ⟨some 15, .iaddr 1 (.tmp 14) (.const (.int .i64 2)), none⟩,
     ⟨some 16, .load 1 false (.tmp 15), none⟩,
     ⟨some 17, .convI .u32 (.tmp 16), none⟩,
     ⟨some 18, .iop .shl (.tmp 17) (.const (.int .u64 8)), none⟩,
     ⟨some 19, .iop .or (.tmp 13) (.tmp 18), none⟩,
     ⟨some 20, .move (.tmp 0), none⟩,
     ⟨some 21, .iaddr 1 (.tmp 20) (.const (.int .i64 3)), none⟩,
     ⟨some 22, .load 1 false (.tmp 21), none⟩,
     ⟨some 23, .convI .u32 (.tmp 22), none⟩,
     ⟨some 24, .iop .or (.tmp 19) (.tmp 23), none⟩,
     ⟨some 2, .move (.tmp 24), none⟩])
   .ret)), [.tmp 2]⟩

/-- purlin/purlinmem.text -/
def a93 : AFunc := ⟨20,
 (.seq
  (.region [⟨some 2, .move (.const (.str [])), none⟩])
  (.seq
   (.region [⟨some 3, .move (.tmp 0), none⟩,
     ⟨some 4, .iop .rem (.tmp 3) (.const (.int .i64 26)), none⟩,
     ⟨some 5, .iop .add (.const (.int .i64 97)) (.tmp 4), none⟩,
     ⟨some 6, .convI .u8 (.tmp 5), none⟩,
     ⟨some 7, .move (.tmp 0), none⟩,
     ⟨some 8, .iop .quo (.tmp 7) (.const (.int .i64 26)), none⟩,
     ⟨some 9, .iop .rem (.tmp 8) (.const (.int .i64 26)), none⟩,
     ⟨some 10, .iop .add (.const (.int .i64 97)) (.tmp 9), none⟩,
     ⟨some 11, .convI .u8 (.tmp 10), none⟩,
     ⟨some 12, .move (.tmp 0), none⟩,
     ⟨some 13, .iop .quo (.tmp 12) (.const (.int .i64 676)), none⟩,
     ⟨some 14, .iop .rem (.tmp 13) (.const (.int .i64 26)), none⟩,
     ⟨some 15, .iop .add (.const (.int .i64 97)) (.tmp 14), none⟩,
     ⟨some 16, .convI .u8 (.tmp 15), none⟩,
     ⟨some 17, .lit 1 [(.int .u8 0)] false 3 [(0, (.tmp 6)), (1, (.tmp 11)), (2, (.tmp 16))], none⟩,
     ⟨some 18, .fail, none⟩,
     ⟨some 19, .sop .add (.const (.str [109, 97, 114, 107, 32])) (.tmp 18), none⟩,
     ⟨some 2, .move (.tmp 19), none⟩])
   .ret)), [.tmp 2]⟩

/-- (*purlin/purlinref14.Log).record -/
def a94 : AFunc := ⟨14,
 (.seq
  (.region [⟨some 4, .move (.const .nilslice), none⟩,
    ⟨some 5, .move (.const (.int .i64 0)), none⟩])
  (.seq
   (.seq
    (.region [⟨some 6, .move (.tmp 0), none⟩,
      ⟨some 7, .eqnil false .p (.tmp 6), none⟩])
    (.cond (.tmp 7)
     (.seq
      (.region [⟨some 4, .move (.const .nilslice), none⟩,
        ⟨some 5, .move (.const (.int .i64 1)), none⟩])
      .ret)
     .skip))
   (.seq
    (.seq
     (.region [⟨some 8, .move (.tmp 0), none⟩,
       ⟨some 9, .call .shared 73 [(.tmp 8)], none⟩])
     (.cond (.tmp 9)
      (.seq
       (.region [⟨some 4, .move (.const .nilslice), none⟩,
         ⟨some 5, .move (.const (.int .i64 140)), none⟩])
       .ret)
      .skip))
    (.seq
     (.region [⟨some 10, .move (.tmp 1), none⟩,
       ⟨some 11, .call .shared 16 [(.tmp 10)], none⟩,
       ⟨some 12, .extract (.tmp 11) 0, none⟩,
       ⟨some 13, .extract (.tmp 11) 1, none⟩,
       ⟨some 4, .move (.tmp 12), none⟩,
       ⟨some 5, .move (.tmp 13), none⟩])
     .ret)))), [.tmp 4, .tmp 5]⟩


def ir : FuncId → Option AFunc
  | 3 => some a3
  | 4 => some a4
  | 5 => some a5
  | 6 => some a6
  | 7 => some a7
  | 8 => some a8
  | 14 => some a14
  | 15 => some a15
  | 16 => some a16
  | 17 => some a17
  | 18 => some a18
  | 19 => some a19
  | 20 => some a20
  | 21 => some a21
  | 22 => some a22
  | 23 => some a23
  | 24 => some a24
  | 25 => some a25
  | 26 => some a26
  | 27 => some a27
  | 28 => some a28
  | 29 => some a29
  | 30 => some a30
  | 31 => some a31
  | 32 => some a32
  | 33 => some a33
  | 34 => some a34
  | 35 => some a35
  | 36 => some a36
  | 37 => some a37
  | 38 => some a38
  | 39 => some a39
  | 40 => some a40
  | 41 => some a41
  | 62 => some a62
  | 63 => some a63
  | 64 => some a64
  | 65 => some a65
  | 66 => some a66
  | 67 => some a67
  | 68 => some a68
  | 69 => some a69
  | 70 => some a70
  | 71 => some a71
  | 72 => some a72
  | 73 => some a73
  | 74 => some a74
  | 75 => some a75
  | 76 => some a76
  | 77 => some a77
  | 92 => some a92
  | 93 => some a93
  | 94 => some a94
  | _ => none
def cfg : Cfg := ⟨ir, fun f => f, fun _ => none⟩

theorem ok3 : FnOk cfg Try.prog 3 a3 := ⟨⟨Try.f3, _, Try.func3, by decide, rfl, rfl, by kernel_rfl, by kernel_rfl⟩⟩
theorem ok4 : FnOk cfg Try.prog 4 a4 := ⟨⟨Try.f4, _, Try.func4, by decide, rfl, rfl, by kernel_rfl, by kernel_rfl⟩⟩
theorem ok5 : FnOk cfg Try.prog 5 a5 := ⟨⟨Try.f5, _, Try.func5, by decide, rfl, rfl, by kernel_rfl, by kernel_rfl⟩⟩
theorem ok6 : FnOk cfg Try.prog 6 a6 := ⟨⟨Try.f6, _, Try.func6, by decide, rfl, rfl, by kernel_rfl, by kernel_rfl⟩⟩
theorem ok7 : FnOk cfg Try.prog 7 a7 := ⟨⟨Try.f7, _, Try.func7, by decide, rfl, rfl, by kernel_rfl, by kernel_rfl⟩⟩
theorem ok8 : FnOk cfg Try.prog 8 a8 := ⟨⟨Try.f8, _, Try.func8, by decide, rfl, rfl, by kernel_rfl, by kernel_rfl⟩⟩
theorem ok14 : FnOk cfg Try.prog 14 a14 := ⟨⟨Try.f14, _, Try.func14, by decide, rfl, rfl, by kernel_rfl, by kernel_rfl⟩⟩
theorem ok15 : FnOk cfg Try.prog 15 a15 := ⟨⟨Try.f15, _, Try.func15, by decide, rfl, rfl, by kernel_rfl, by kernel_rfl⟩⟩
theorem ok16 : FnOk cfg Try.prog 16 a16 := ⟨⟨Try.f16, _, Try.func16, by decide, rfl, rfl, by kernel_rfl, by kernel_rfl⟩⟩
theorem ok17 : FnOk cfg Try.prog 17 a17 := ⟨⟨Try.f17, _, Try.func17, by decide, rfl, rfl, by kernel_rfl, by kernel_rfl⟩⟩
theorem ok18 : FnOk cfg Try.prog 18 a18 := ⟨⟨Try.f18, _, Try.func18, by decide, rfl, rfl, by kernel_rfl, by kernel_rfl⟩⟩
theorem ok19 : FnOk cfg Try.prog 19 a19 := ⟨⟨Try.f19, _, Try.func19, by decide, rfl, rfl, by kernel_rfl, by kernel_rfl⟩⟩
theorem ok20 : FnOk cfg Try.prog 20 a20 := ⟨⟨Try.f20, _, Try.func20, by decide, rfl, rfl, by kernel_rfl, by kernel_rfl⟩⟩
theorem ok21 : FnOk cfg Try.prog 21 a21 := ⟨⟨Try.f21, _, Try.func21, by decide, rfl, rfl, by kernel_rfl, by kernel_rfl⟩⟩
theorem ok22 : FnOk cfg Try.prog 22 a22 := ⟨⟨Try.f22, _, Try.func22, by decide, rfl, rfl, by kernel_rfl, by kernel_rfl⟩⟩
theorem ok23 : FnOk cfg Try.prog 23 a23 := ⟨⟨Try.f23, _, Try.func23, by decide, rfl, rfl, by kernel_rfl, by kernel_rfl⟩⟩
theorem ok24 : FnOk cfg Try.prog 24 a24 := ⟨⟨Try.f24, _, Try.func24, by decide, rfl, rfl, by kernel_rfl, by kernel_rfl⟩⟩
theorem ok25 : FnOk cfg Try.prog 25 a25 := ⟨⟨Try.f25, _, Try.func25, by decide, rfl, rfl, by kernel_rfl, by kernel_rfl⟩⟩
theorem ok26 : FnOk cfg Try.prog 26 a26 := ⟨⟨Try.f26, _, Try.func26, by decide, rfl, rfl, by kernel_rfl, by kernel_rfl⟩⟩
theorem ok27 : FnOk cfg Try.prog 27 a27 := ⟨⟨Try.f27, _, Try.func27, by decide, rfl, rfl, by kernel_rfl, by kernel_rfl⟩⟩
theorem ok28 : FnOk cfg Try.prog 28 a28 := ⟨⟨Try.f28, _, Try.func28, by decide, rfl, rfl, by kernel_rfl, by kernel_rfl⟩⟩
theorem ok29 : FnOk cfg Try.prog 29 a29 := ⟨⟨Try.f29, _, Try.func29, by decide, rfl, rfl, by kernel_rfl, by kernel_rfl⟩⟩
theorem ok30 : FnOk cfg Try.prog 30 a30 := ⟨⟨Try.f30, _, Try.func30, by decide, rfl, rfl, by kernel_rfl, by kernel_rfl⟩⟩
theorem ok31 : FnOk cfg Try.prog 31 a31 := ⟨⟨Try.f31, _, Try.func31, by decide, rfl, rfl, by kernel_rfl, by kernel_rfl⟩⟩
theorem ok32 : FnOk cfg Try.prog 32 a32 := ⟨⟨Try.f32, _, Try.func32, by decide, rfl, rfl, by kernel_rfl, by kernel_rfl⟩⟩
theorem ok33 : FnOk cfg Try.prog 33 a33 := ⟨⟨Try.f33, _, Try.func33, by decide, rfl, rfl, by kernel_rfl, by kernel_rfl⟩⟩
theorem ok34 : FnOk cfg Try.prog 34 a34 := ⟨⟨Try.f34, _, Try.func34, by decide, rfl, rfl, by kernel_rfl, by kernel_rfl⟩⟩
theorem ok35 : FnOk cfg Try.prog 35 a35 := ⟨⟨Try.f35, _, Try.func35, by decide, rfl, rfl, by kernel_rfl, by kernel_rfl⟩⟩
theorem ok36 : FnOk cfg Try.prog 36 a36 := ⟨⟨Try.f36, _, Try.func36, by decide, rfl, rfl, by kernel_rfl, by kernel_rfl⟩⟩
theorem ok37 : FnOk cfg Try.prog 37 a37 := ⟨⟨Try.f37, _, Try.func37, by decide, rfl, rfl, by kernel_rfl, by kernel_rfl⟩⟩
theorem ok38 : FnOk cfg Try.prog 38 a38 := ⟨⟨Try.f38, _, Try.func38, by decide, rfl, rfl, by kernel_rfl, by kernel_rfl⟩⟩
theorem ok39 : FnOk cfg Try.prog 39 a39 := ⟨⟨Try.f39, _, Try.func39, by decide, rfl, rfl, by kernel_rfl, by kernel_rfl⟩⟩
theorem ok40 : FnOk cfg Try.prog 40 a40 := ⟨⟨Try.f40, _, Try.func40, by decide, rfl, rfl, by kernel_rfl, by kernel_rfl⟩⟩
theorem ok41 : FnOk cfg Try.prog 41 a41 := ⟨⟨Try.f41, _, Try.func41, by decide, rfl, rfl, by kernel_rfl, by kernel_rfl⟩⟩
theorem ok62 : FnOk cfg Try.prog 62 a62 := ⟨⟨Try.f62, _, Try.func62, by decide, rfl, rfl, by kernel_rfl, by kernel_rfl⟩⟩
theorem ok63 : FnOk cfg Try.prog 63 a63 := ⟨⟨Try.f63, _, Try.func63, by decide, rfl, rfl, by kernel_rfl, by kernel_rfl⟩⟩
theorem ok64 : FnOk cfg Try.prog 64 a64 := ⟨⟨Try.f64, _, Try.func64, by decide, rfl, rfl, by kernel_rfl, by kernel_rfl⟩⟩
theorem ok65 : FnOk cfg Try.prog 65 a65 := ⟨⟨Try.f65, _, Try.func65, by decide, rfl, rfl, by kernel_rfl, by kernel_rfl⟩⟩
theorem ok66 : FnOk cfg Try.prog 66 a66 := ⟨⟨Try.f66, _, Try.func66, by decide, rfl, rfl, by kernel_rfl, by kernel_rfl⟩⟩
theorem ok67 : FnOk cfg Try.prog 67 a67 := ⟨⟨Try.f67, _, Try.func67, by decide, rfl, rfl, by kernel_rfl, by kernel_rfl⟩⟩
theorem ok68 : FnOk cfg Try.prog 68 a68 := ⟨⟨Try.f68, _, Try.func68, by decide, rfl, rfl, by kernel_rfl, by kernel_rfl⟩⟩
theorem ok69 : FnOk cfg Try.prog 69 a69 := ⟨⟨Try.f69, _, Try.func69, by decide, rfl, rfl, by kernel_rfl, by kernel_rfl⟩⟩
theorem ok70 : FnOk cfg Try.prog 70 a70 := ⟨⟨Try.f70, _, Try.func70, by decide, rfl, rfl, by kernel_rfl, by kernel_rfl⟩⟩
theorem ok71 : FnOk cfg Try.prog 71 a71 := ⟨⟨Try.f71, _, Try.func71, by decide, rfl, rfl, by kernel_rfl, by kernel_rfl⟩⟩
theorem ok72 : FnOk cfg Try.prog 72 a72 := ⟨⟨Try.f72, _, Try.func72, by decide, rfl, rfl, by kernel_rfl, by kernel_rfl⟩⟩
theorem ok73 : FnOk cfg Try.prog 73 a73 := ⟨⟨Try.f73, _, Try.func73, by decide, rfl, rfl, by kernel_rfl, by kernel_rfl⟩⟩
theorem ok74 : FnOk cfg Try.prog 74 a74 := ⟨⟨Try.f74, _, Try.func74, by decide, rfl, rfl, by kernel_rfl, by kernel_rfl⟩⟩
theorem ok75 : FnOk cfg Try.prog 75 a75 := ⟨⟨Try.f75, _, Try.func75, by decide, rfl, rfl, by kernel_rfl, by kernel_rfl⟩⟩
theorem ok76 : FnOk cfg Try.prog 76 a76 := ⟨⟨Try.f76, _, Try.func76, by decide, rfl, rfl, by kernel_rfl, by kernel_rfl⟩⟩
theorem ok77 : FnOk cfg Try.prog 77 a77 := ⟨⟨Try.f77, _, Try.func77, by decide, rfl, rfl, by kernel_rfl, by kernel_rfl⟩⟩
theorem ok92 : FnOk cfg Try.prog 92 a92 := ⟨⟨Try.f92, _, Try.func92, by decide, rfl, rfl, by kernel_rfl, by kernel_rfl⟩⟩
theorem ok93 : FnOk cfg Try.prog 93 a93 := ⟨⟨Try.f93, _, Try.func93, by decide, rfl, rfl, by kernel_rfl, by kernel_rfl⟩⟩
theorem ok94 : FnOk cfg Try.prog 94 a94 := ⟨⟨Try.f94, _, Try.func94, by decide, rfl, rfl, by kernel_rfl, by kernel_rfl⟩⟩

theorem all : ∀ f fn, cfg.ir f = some fn → FnOk cfg Try.prog f fn := by
  intro f fn h
  have h' : ir f = some fn := h
  unfold ir at h'
  split at h'
  · injection h' with h'; subst h'; exact ok3
  · injection h' with h'; subst h'; exact ok4
  · injection h' with h'; subst h'; exact ok5
  · injection h' with h'; subst h'; exact ok6
  · injection h' with h'; subst h'; exact ok7
  · injection h' with h'; subst h'; exact ok8
  · injection h' with h'; subst h'; exact ok14
  · injection h' with h'; subst h'; exact ok15
  · injection h' with h'; subst h'; exact ok16
  · injection h' with h'; subst h'; exact ok17
  · injection h' with h'; subst h'; exact ok18
  · injection h' with h'; subst h'; exact ok19
  · injection h' with h'; subst h'; exact ok20
  · injection h' with h'; subst h'; exact ok21
  · injection h' with h'; subst h'; exact ok22
  · injection h' with h'; subst h'; exact ok23
  · injection h' with h'; subst h'; exact ok24
  · injection h' with h'; subst h'; exact ok25
  · injection h' with h'; subst h'; exact ok26
  · injection h' with h'; subst h'; exact ok27
  · injection h' with h'; subst h'; exact ok28
  · injection h' with h'; subst h'; exact ok29
  · injection h' with h'; subst h'; exact ok30
  · injection h' with h'; subst h'; exact ok31
  · injection h' with h'; subst h'; exact ok32
  · injection h' with h'; subst h'; exact ok33
  · injection h' with h'; subst h'; exact ok34
  · injection h' with h'; subst h'; exact ok35
  · injection h' with h'; subst h'; exact ok36
  · injection h' with h'; subst h'; exact ok37
  · injection h' with h'; subst h'; exact ok38
  · injection h' with h'; subst h'; exact ok39
  · injection h' with h'; subst h'; exact ok40
  · injection h' with h'; subst h'; exact ok41
  · injection h' with h'; subst h'; exact ok62
  · injection h' with h'; subst h'; exact ok63
  · injection h' with h'; subst h'; exact ok64
  · injection h' with h'; subst h'; exact ok65
  · injection h' with h'; subst h'; exact ok66
  · injection h' with h'; subst h'; exact ok67
  · injection h' with h'; subst h'; exact ok68
  · injection h' with h'; subst h'; exact ok69
  · injection h' with h'; subst h'; exact ok70
  · injection h' with h'; subst h'; exact ok71
  · injection h' with h'; subst h'; exact ok72
  · injection h' with h'; subst h'; exact ok73
  · injection h' with h'; subst h'; exact ok74
  · injection h' with h'; subst h'; exact ok75
  · injection h' with h'; subst h'; exact ok76
  · injection h' with h'; subst h'; exact ok77
  · injection h' with h'; subst h'; exact ok92
  · injection h' with h'; subst h'; exact ok93
  · injection h' with h'; subst h'; exact ok94
  · cases h'
end Go.Proofs.Ytmocplkpnickgaa.Am.CJ
