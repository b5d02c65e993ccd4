/-
  THE FUNCTIONS THAT A LAW REACHES, as texts of the abstract machine (written by a program out of the translation), and that each of them stands for the model's: checked by evaluation.
-/
import Derived.Test.YtmocplkpnickgaaAmLaw
import Derived.Test.YtmocplkpnickgaaProg
namespace Go.Proofs.Ytmocplkpnickgaa.Am.C7
open Go Go.Proofs.Ytmocplkpnickgaa.Am
set_option linter.unusedVariables false
set_option maxRecDepth 100000

/-- purlin/purlinlaw14.JournalNone -/
def a7 : AFunc := ⟨68,
 (.seq
  (.region [⟨some 4, .move (.const (.bool false)), none⟩])
  (.seq
   (.region [⟨some 5, .move (.const .nilptr), none⟩])
   (.seq
    (.region [⟨some 11, .move (.tmp 5), none⟩,
      ⟨some 12, .move (.tmp 0), none⟩,
      ⟨some 13, .move (.tmp 1), none⟩,
      ⟨some 14, .call .shared 36 [(.tmp 11), (.tmp 12), (.tmp 13)], none⟩,
      ⟨some 10, .move (.tmp 14), none⟩,
      ⟨some 15, .extract (.tmp 10) 0, none⟩,
      ⟨some 16, .extract (.tmp 10) 1, none⟩,
      ⟨some 6, .move (.tmp 15), none⟩,
      ⟨some 7, .move (.tmp 16), none⟩])
    (.seq
     (.region [⟨some 18, .move (.tmp 5), none⟩,
       ⟨some 19, .call .shared 35 [(.tmp 18)], none⟩,
       ⟨some 17, .move (.tmp 19), none⟩,
       ⟨some 20, .extract (.tmp 17) 0, none⟩,
       ⟨some 21, .extract (.tmp 17) 1, none⟩,
       ⟨some 8, .move (.tmp 20), none⟩,
       ⟨some 9, .move (.tmp 21), none⟩])
     (.seq
      (.region [⟨some 22, .call .shared 19 [], none⟩,
        ⟨some 23, .move (.tmp 22), none⟩,
        ⟨some 24, .move (.tmp 5), some (23, true)⟩,
        ⟨some 25, .move (.tmp 0), some (23, true)⟩,
        ⟨some 26, .call .shared 33 [(.tmp 24), (.tmp 25)], some (23, true)⟩,
        ⟨some 27, .iop .eql (.tmp 26) (.const (.int .i64 1)), some (23, true)⟩,
        ⟨some 28, .pick (.tmp 23) (.tmp 27) (.const (.bool false)), none⟩,
        ⟨some 29, .move (.tmp 28), none⟩,
        ⟨some 30, .move (.tmp 7), some (29, true)⟩,
        ⟨some 31, .iop .eql (.tmp 30) (.const (.int .i64 1)), some (29, true)⟩,
        ⟨some 32, .pick (.tmp 29) (.tmp 31) (.const (.bool false)), none⟩,
        ⟨some 33, .move (.tmp 32), none⟩,
        ⟨some 34, .move (.tmp 5), some (33, true)⟩,
        ⟨some 35, .call .shared 31 [(.tmp 34)], some (33, true)⟩,
        ⟨some 36, .not (.tmp 35), some (33, true)⟩,
        ⟨some 37, .pick (.tmp 33) (.tmp 36) (.const (.bool false)), none⟩,
        ⟨some 38, .move (.tmp 37), none⟩,
        ⟨some 39, .move (.tmp 5), some (38, true)⟩,
        ⟨some 40, .call .shared 30 [(.tmp 39)], some (38, true)⟩,
        ⟨some 41, .iop .eql (.tmp 40) (.const (.int .i64 0)), some (38, true)⟩,
        ⟨some 42, .pick (.tmp 38) (.tmp 41) (.const (.bool false)), none⟩,
        ⟨some 43, .move (.tmp 42), none⟩,
        ⟨some 44, .move (.tmp 5), some (43, true)⟩,
        ⟨some 45, .call .shared 29 [(.tmp 44)], some (43, true)⟩,
        ⟨some 46, .lenS (.tmp 45), some (43, true)⟩,
        ⟨some 47, .iop .eql (.tmp 46) (.const (.int .i64 0)), some (43, true)⟩,
        ⟨some 48, .pick (.tmp 43) (.tmp 47) (.const (.bool false)), none⟩,
        ⟨some 49, .move (.tmp 48), none⟩,
        ⟨some 50, .move (.tmp 5), some (49, true)⟩,
        ⟨some 51, .call .shared 32 [(.tmp 50)], some (49, true)⟩,
        ⟨some 52, .lenS (.tmp 51), some (49, true)⟩,
        ⟨some 53, .iop .eql (.tmp 52) (.const (.int .i64 0)), some (49, true)⟩,
        ⟨some 54, .pick (.tmp 49) (.tmp 53) (.const (.bool false)), none⟩,
        ⟨some 55, .move (.tmp 54), none⟩,
        ⟨some 56, .move (.tmp 8), some (55, true)⟩,
        ⟨some 57, .iop .eql (.tmp 56) (.const (.int .i64 0)), some (55, true)⟩,
        ⟨some 58, .pick (.tmp 55) (.tmp 57) (.const (.bool false)), none⟩,
        ⟨some 59, .move (.tmp 58), none⟩,
        ⟨some 60, .move (.tmp 9), some (59, true)⟩,
        ⟨some 61, .iop .eql (.tmp 60) (.const (.int .i64 0)), some (59, true)⟩,
        ⟨some 62, .pick (.tmp 59) (.tmp 61) (.const (.bool false)), none⟩,
        ⟨some 63, .move (.tmp 62), none⟩,
        ⟨some 64, .move (.tmp 5), some (63, true)⟩,
        ⟨some 65, .call .shared 37 [(.tmp 64)], some (63, true)⟩,
        ⟨some 66, .eqnil false .p (.tmp 65), some (63, true)⟩,
        ⟨some 67, .pick (.tmp 63) (.tmp 66) (.const (.bool false)), none⟩,
        ⟨some 4, .move (.tmp 67), none⟩])
      .ret))))), [.tmp 4]⟩

/-- purlin/journal.Record -/
def a15 : AFunc := ⟨19,
 (.seq
  (.region [⟨some 2, .move (.const .nilslice), none⟩,
    ⟨some 3, .move (.const (.int .i64 0)), none⟩])
  (.seq
   (.seq
    (.region [⟨some 5, .move (.tmp 0), none⟩,
      ⟨some 6, .lenS (.tmp 5), none⟩,
      ⟨some 7, .iop .gtr (.tmp 6) (.const (.int .i64 131072)), none⟩])
    (.cond (.tmp 7)
     (.seq
      (.region [⟨some 2, .move (.const .nilslice), none⟩,
        ⟨some 3, .move (.const (.int .i64 5)), none⟩])
      .ret)
     .skip))
   (.seq
    (.region [⟨some 8, .move (.tmp 0), none⟩,
      ⟨some 9, .lenS (.tmp 8), none⟩,
      ⟨some 10, .convI .u32 (.tmp 9), none⟩,
      ⟨some 11, .call .shared 62 [(.tmp 10)], none⟩,
      ⟨some 12, .move (.tmp 0), none⟩,
      ⟨some 13, .call .shared 21 [(.tmp 12)], none⟩,
      ⟨some 14, .call .shared 62 [(.tmp 13)], none⟩,
      ⟨some 15, .append 1 1 (.tmp 11) (.tmp 14), none⟩,
      ⟨some 4, .move (.tmp 15), none⟩])
    (.seq
     (.region [⟨some 16, .move (.tmp 4), none⟩,
       ⟨some 17, .move (.tmp 0), none⟩,
       ⟨some 18, .append 1 1 (.tmp 16) (.tmp 17), none⟩,
       ⟨some 2, .move (.tmp 18), none⟩,
       ⟨some 3, .move (.const (.int .i64 0)), none⟩])
     .ret)))), [.tmp 2, .tmp 3]⟩

/-- purlin/journal.Read -/
def a17 : AFunc := ⟨34,
 (.seq
  (.region [⟨some 2, .move (.const .nilslice), none⟩,
    ⟨some 3, .move (.const (.int .i64 0)), none⟩,
    ⟨some 4, .move (.const (.int .i64 0)), none⟩])
  (.seq
   (.block 0
    (.loop [0, 2, 3]
     (.seq
      (.seq
       (.region [⟨some 7, .move (.tmp 3), none⟩,
         ⟨some 8, .move (.tmp 0), none⟩,
         ⟨some 9, .lenS (.tmp 8), none⟩,
         ⟨some 10, .iop .lss (.tmp 7) (.tmp 9), none⟩])
       (.cond (.tmp 10)
        .skip
        (.exit 0)))
      (.block 1
       (.seq
        (.region [⟨some 12, .move (.tmp 0), none⟩,
          ⟨some 13, .move (.tmp 3), none⟩,
          ⟨some 14, .sliceOp 1 (.tmp 12) (some (.tmp 13)) none none, none⟩,
          ⟨some 15, .call .shared 64 [(.tmp 14)], none⟩,
          ⟨some 11, .move (.tmp 15), none⟩,
          ⟨some 16, .extract (.tmp 11) 0, none⟩,
          ⟨some 17, .extract (.tmp 11) 1, none⟩,
          ⟨some 5, .move (.tmp 16), none⟩,
          ⟨some 6, .move (.tmp 17), none⟩])
        (.seq
         (.seq
          (.region [⟨some 18, .move (.tmp 6), none⟩,
            ⟨some 19, .not (.tmp 18), none⟩])
          (.cond (.tmp 19)
           (.seq
            (.region [⟨some 20, .move (.tmp 2), none⟩,
              ⟨some 21, .move (.tmp 3), none⟩,
              ⟨some 2, .move (.tmp 20), none⟩,
              ⟨some 3, .move (.tmp 21), none⟩,
              ⟨some 4, .move (.const (.int .i64 140)), none⟩])
            .ret)
           .skip))
         (.seq
          (.region [⟨some 22, .move (.tmp 2), none⟩,
            ⟨some 23, .move (.tmp 5), none⟩,
            ⟨some 24, .call .iso 65 [(.tmp 23)], none⟩,
            ⟨some 25, .lit 1 [.nilslice] false 1 [(0, (.tmp 24))], none⟩,
            ⟨some 26, .append 1 24 (.tmp 22) (.tmp 25), none⟩,
            ⟨some 2, .move (.tmp 26), none⟩])
          (.region [⟨some 27, .move (.tmp 3), none⟩,
            ⟨some 28, .move (.tmp 5), none⟩,
            ⟨some 29, .lenS (.tmp 28), none⟩,
            ⟨some 30, .iop .add (.const (.int .i64 8)) (.tmp 29), none⟩,
            ⟨some 31, .iop .add (.tmp 27) (.tmp 30), none⟩,
            ⟨some 3, .move (.tmp 31), none⟩]))))))))
   (.seq
    (.region [⟨some 32, .move (.tmp 2), none⟩,
      ⟨some 33, .move (.tmp 3), none⟩,
      ⟨some 2, .move (.tmp 32), none⟩,
      ⟨some 3, .move (.tmp 33), none⟩,
      ⟨some 4, .move (.const (.int .i64 0)), none⟩])
    .ret))), [.tmp 2, .tmp 3, .tmp 4]⟩

/-- purlin/purlinlaw14.live -/
def a19 : AFunc := ⟨66,
 (.seq
  (.region [⟨some 0, .move (.const (.bool false)), none⟩])
  (.seq
   (.region [⟨some 8, .lit 1 [(.int .u8 0)] false 1 [(0, (.const (.int .u8 97)))], none⟩,
     ⟨some 9, .call .shared 15 [(.tmp 8)], none⟩,
     ⟨some 7, .move (.tmp 9), none⟩,
     ⟨some 10, .extract (.tmp 7) 0, none⟩,
     ⟨some 11, .extract (.tmp 7) 1, none⟩,
     ⟨some 1, .move (.tmp 10), none⟩,
     ⟨some 2, .move (.tmp 11), none⟩])
   (.seq
    (.region [⟨some 12, .call .shared 34 [], none⟩,
      ⟨some 3, .move (.tmp 12), none⟩])
    (.seq
     (.region [⟨some 13, .move (.tmp 3), none⟩,
       ⟨some 14, .lit 1 [(.int .u8 0)] false 2 [(0, (.const (.int .u8 1))), (1, (.const (.int .u8 2)))], none⟩,
       ⟨some 15, .call .shared 33 [(.tmp 13), (.tmp 14)], none⟩,
       ⟨some 4, .move (.tmp 15), none⟩])
     (.seq
      (.region [⟨some 17, .move (.tmp 3), none⟩,
        ⟨some 18, .lit 1 [(.int .u8 0)] false 1 [(0, (.const (.int .u8 3)))], none⟩,
        ⟨some 19, .call .shared 36 [(.tmp 17), (.tmp 18), (.const (.int .i64 8))], none⟩,
        ⟨some 16, .move (.tmp 19), none⟩,
        ⟨some 20, .extract (.tmp 16) 0, none⟩,
        ⟨some 21, .extract (.tmp 16) 1, none⟩,
        ⟨some 5, .move (.tmp 20), none⟩,
        ⟨some 6, .move (.tmp 21), none⟩])
      (.seq
       (.region [⟨some 22, .move (.tmp 2), none⟩,
         ⟨some 23, .iop .eql (.tmp 22) (.const (.int .i64 0)), none⟩,
         ⟨some 24, .move (.tmp 23), none⟩,
         ⟨some 25, .move (.tmp 1), some (24, true)⟩,
         ⟨some 26, .lit 1 [(.int .u8 0)] false 9 [(0, (.const (.int .u8 0))), (1, (.const (.int .u8 0))), (2, (.const (.int .u8 0))), (3, (.const (.int .u8 1))), (4, (.const (.int .u8 228))), (5, (.const (.int .u8 12))), (6, (.const (.int .u8 41))), (7, (.const (.int .u8 44))), (8, (.const (.int .u8 97)))], some (24, true)⟩,
         ⟨some 27, .call .shared 20 [(.tmp 25), (.tmp 26)], some (24, true)⟩,
         ⟨some 28, .pick (.tmp 24) (.tmp 27) (.const (.bool false)), none⟩,
         ⟨some 29, .move (.tmp 28), none⟩,
         ⟨some 30, .move (.tmp 4), some (29, true)⟩,
         ⟨some 31, .iop .eql (.tmp 30) (.const (.int .i64 0)), some (29, true)⟩,
         ⟨some 32, .pick (.tmp 29) (.tmp 31) (.const (.bool false)), none⟩,
         ⟨some 33, .move (.tmp 32), none⟩,
         ⟨some 34, .move (.tmp 5), some (33, true)⟩,
         ⟨some 35, .not (.tmp 34), some (33, true)⟩,
         ⟨some 36, .pick (.tmp 33) (.tmp 35) (.const (.bool false)), none⟩,
         ⟨some 37, .move (.tmp 36), none⟩,
         ⟨some 38, .move (.tmp 6), some (37, true)⟩,
         ⟨some 39, .iop .eql (.tmp 38) (.const (.int .i64 0)), some (37, true)⟩,
         ⟨some 40, .pick (.tmp 37) (.tmp 39) (.const (.bool false)), none⟩,
         ⟨some 41, .move (.tmp 40), none⟩,
         ⟨some 42, .move (.tmp 3), some (41, true)⟩,
         ⟨some 43, .call .shared 31 [(.tmp 42)], some (41, true)⟩,
         ⟨some 44, .pick (.tmp 41) (.tmp 43) (.const (.bool false)), none⟩,
         ⟨some 45, .move (.tmp 44), none⟩,
         ⟨some 46, .move (.tmp 3), some (45, true)⟩,
         ⟨some 47, .call .shared 33 [(.tmp 46), (.const .nilslice)], some (45, true)⟩,
         ⟨some 48, .iop .eql (.tmp 47) (.const (.int .i64 140)), some (45, true)⟩,
         ⟨some 49, .pick (.tmp 45) (.tmp 48) (.const (.bool false)), none⟩,
         ⟨some 50, .move (.tmp 49), none⟩,
         ⟨some 51, .move (.tmp 3), some (50, true)⟩,
         ⟨some 52, .call .shared 30 [(.tmp 51)], some (50, true)⟩,
         ⟨some 53, .iop .eql (.tmp 52) (.const (.int .i64 8)), some (50, true)⟩,
         ⟨some 54, .pick (.tmp 50) (.tmp 53) (.const (.bool false)), none⟩,
         ⟨some 55, .move (.tmp 54), none⟩,
         ⟨some 56, .move (.tmp 3), some (55, true)⟩,
         ⟨some 57, .call .shared 31 [(.tmp 56)], some (55, true)⟩,
         ⟨some 58, .not (.tmp 57), some (55, true)⟩,
         ⟨some 59, .pick (.tmp 55) (.tmp 58) (.const (.bool false)), none⟩,
         ⟨some 60, .move (.tmp 59), none⟩,
         ⟨some 61, .move (.tmp 3), some (60, true)⟩,
         ⟨some 62, .call .shared 29 [(.tmp 61)], some (60, true)⟩,
         ⟨some 63, .lenS (.tmp 62), some (60, true)⟩,
         ⟨some 64, .iop .eql (.tmp 63) (.const (.int .i64 1)), some (60, true)⟩,
         ⟨some 65, .pick (.tmp 60) (.tmp 64) (.const (.bool false)), none⟩,
         ⟨some 0, .move (.tmp 65), none⟩])
       .ret)))))), [.tmp 0]⟩

/-- purlin/purlinmem.Same -/
def a20 : AFunc := ⟨26,
 (.seq
  (.region [⟨some 4, .move (.const (.bool false)), none⟩])
  (.seq
   (.seq
    (.region [⟨some 6, .move (.tmp 0), none⟩,
      ⟨some 7, .lenS (.tmp 6), none⟩,
      ⟨some 8, .move (.tmp 1), none⟩,
      ⟨some 9, .lenS (.tmp 8), none⟩,
      ⟨some 10, .iop .neq (.tmp 7) (.tmp 9), none⟩])
    (.cond (.tmp 10)
     (.seq
      (.region [⟨some 4, .move (.const (.bool false)), none⟩])
      .ret)
     .skip))
   (.seq
    (.seq
     (.region [⟨some 5, .move (.const (.int .i64 0)), none⟩])
     (.block 0
      (.loop [0, 1, 5]
       (.seq
        (.seq
         (.region [⟨some 11, .move (.tmp 5), none⟩,
           ⟨some 12, .move (.tmp 0), none⟩,
           ⟨some 13, .lenS (.tmp 12), none⟩,
           ⟨some 14, .iop .lss (.tmp 11) (.tmp 13), none⟩])
         (.cond (.tmp 14)
          .skip
          (.exit 0)))
        (.seq
         (.block 1
          (.seq
           (.region [⟨some 17, .move (.tmp 0), none⟩,
             ⟨some 18, .move (.tmp 5), none⟩,
             ⟨some 19, .iaddr 1 (.tmp 17) (.tmp 18), none⟩,
             ⟨some 20, .load 1 false (.tmp 19), none⟩,
             ⟨some 21, .move (.tmp 1), none⟩,
             ⟨some 22, .move (.tmp 5), none⟩,
             ⟨some 23, .iaddr 1 (.tmp 21) (.tmp 22), none⟩,
             ⟨some 24, .load 1 false (.tmp 23), none⟩,
             ⟨some 25, .iop .neq (.tmp 20) (.tmp 24), none⟩])
           (.cond (.tmp 25)
            (.seq
             (.region [⟨some 4, .move (.const (.bool false)), none⟩])
             .ret)
            .skip)))
         (.region [⟨some 15, .move (.tmp 5), none⟩,
           ⟨some 16, .iop .add (.tmp 15) (.const (.int .i64 1)), none⟩,
           ⟨some 5, .move (.tmp 16), none⟩]))))))
    (.seq
     (.region [⟨some 4, .move (.const (.bool true)), none⟩])
     .ret)))), [.tmp 4]⟩

/-- purlin/journal.Sum -/
def a21 : AFunc := ⟨19,
 (.seq
  (.region [⟨some 2, .move (.const (.int .u32 0)), none⟩])
  (.seq
   (.region [⟨some 3, .move (.const (.int .u32 2166136261)), none⟩])
   (.seq
    (.seq
     (.region [⟨some 6, .move (.tmp 0), none⟩,
       ⟨some 7, .lenS (.tmp 6), none⟩,
       ⟨some 8, .move (.const (.int .i64 0)), none⟩])
     (.block 0
      (.loop [3, 6, 7, 8]
       (.seq
        (.region [⟨some 9, .iop .lss (.tmp 8) (.tmp 7), none⟩])
        (.seq
         (.cond (.tmp 9)
          .skip
          (.exit 0))
         (.seq
          (.block 1
           (.seq
            (.region [⟨some 10, .iaddr 1 (.tmp 6) (.tmp 8), none⟩,
              ⟨some 11, .load 1 false (.tmp 10), none⟩,
              ⟨some 5, .move (.tmp 11), none⟩])
            (.region [⟨some 12, .move (.tmp 3), none⟩,
              ⟨some 13, .move (.tmp 5), none⟩,
              ⟨some 14, .convI .u32 (.tmp 13), none⟩,
              ⟨some 15, .iop .xor (.tmp 12) (.tmp 14), none⟩,
              ⟨some 16, .iop .mul (.tmp 15) (.const (.int .u32 16777619)), none⟩,
              ⟨some 3, .move (.tmp 16), none⟩])))
          (.region [⟨some 17, .iop .add (.tmp 8) (.const (.int .i64 1)), none⟩,
            ⟨some 8, .move (.tmp 17), none⟩])))))))
    (.seq
     (.region [⟨some 18, .move (.tmp 3), none⟩,
       ⟨some 2, .move (.tmp 18), none⟩])
     .ret)))), [.tmp 2]⟩

/-- (*purlin/journal.Log).Payloads -/
def a29 : AFunc := ⟨18,
 (.seq
  (.region [⟨some 2, .move (.const .nilslice), none⟩])
  (.seq
   (.seq
    (.region [⟨some 6, .move (.tmp 0), none⟩,
      ⟨some 7, .eqnil false .p (.tmp 6), none⟩])
    (.cond (.tmp 7)
     (.seq
      (.region [⟨some 2, .move (.const .nilslice), none⟩])
      .ret)
     .skip))
   (.seq
    (.region [⟨some 9, .move (.tmp 0), none⟩,
      ⟨some 10, .nilCheck (.tmp 9), none⟩,
      ⟨some 11, .faddr 0 (.tmp 10), none⟩,
      ⟨some 12, .load 1 false (.tmp 11), none⟩,
      ⟨some 13, .call .shared 17 [(.tmp 12)], none⟩,
      ⟨some 8, .move (.tmp 13), none⟩,
      ⟨some 14, .extract (.tmp 8) 0, none⟩,
      ⟨some 15, .extract (.tmp 8) 1, none⟩,
      ⟨some 16, .extract (.tmp 8) 2, none⟩,
      ⟨some 3, .move (.tmp 14), none⟩,
      ⟨some 4, .move (.tmp 15), none⟩,
      ⟨some 5, .move (.tmp 16), none⟩])
    (.seq
     (.region [⟨some 17, .move (.tmp 3), none⟩,
       ⟨some 2, .move (.tmp 17), none⟩])
     .ret)))), [.tmp 2]⟩

/-- (*purlin/journal.Log).Mend -/
def a30 : AFunc := ⟨33,
 (.seq
  (.region [⟨some 2, .move (.const (.int .i64 0)), none⟩])
  (.seq
   (.seq
    (.region [⟨some 4, .move (.tmp 0), none⟩,
      ⟨some 5, .eqnil false .p (.tmp 4), none⟩])
    (.cond (.tmp 5)
     (.seq
      (.region [⟨some 2, .move (.const (.int .i64 0)), none⟩])
      .ret)
     .skip))
   (.seq
    (.region [⟨some 6, .move (.tmp 0), none⟩,
      ⟨some 7, .nilCheck (.tmp 6), none⟩,
      ⟨some 8, .faddr 0 (.tmp 7), none⟩,
      ⟨some 9, .load 1 false (.tmp 8), none⟩,
      ⟨some 10, .lenS (.tmp 9), none⟩,
      ⟨some 11, .move (.tmp 0), none⟩,
      ⟨some 12, .nilCheck (.tmp 11), none⟩,
      ⟨some 13, .faddr 2 (.tmp 12), none⟩,
      ⟨some 14, .load 1 false (.tmp 13), none⟩,
      ⟨some 15, .iop .sub (.tmp 10) (.tmp 14), none⟩,
      ⟨some 3, .move (.tmp 15), none⟩])
    (.seq
     (.region [⟨some 16, .move (.tmp 0), none⟩,
       ⟨some 17, .move (.tmp 0), none⟩,
       ⟨some 18, .nilCheck (.tmp 17), none⟩,
       ⟨some 19, .faddr 0 (.tmp 18), none⟩,
       ⟨some 20, .load 1 false (.tmp 19), none⟩,
       ⟨some 21, .move (.tmp 0), none⟩,
       ⟨some 22, .nilCheck (.tmp 21), none⟩,
       ⟨some 23, .faddr 2 (.tmp 22), none⟩,
       ⟨some 24, .load 1 false (.tmp 23), none⟩,
       ⟨some 25, .move (.tmp 0), none⟩,
       ⟨some 26, .nilCheck (.tmp 25), none⟩,
       ⟨some 27, .faddr 2 (.tmp 26), none⟩,
       ⟨some 28, .load 1 false (.tmp 27), none⟩,
       ⟨some 29, .sliceOp 1 (.tmp 20) none (some (.tmp 24)) (some (.tmp 28)), none⟩,
       ⟨some 30, .nilCheck (.tmp 16), none⟩,
       ⟨some 31, .faddr 0 (.tmp 30), none⟩,
       ⟨none, .store 1 (.tmp 31) (.tmp 29), none⟩])
     (.seq
      (.region [⟨some 32, .move (.tmp 3), none⟩,
        ⟨some 2, .move (.tmp 32), none⟩])
      .ret))))), [.tmp 2]⟩

/-- (*purlin/journal.Log).Torn -/
def a31 : AFunc := ⟨17,
 (.seq
  (.region [⟨some 2, .move (.const (.bool false)), none⟩])
  (.seq
   (.region [⟨some 3, .move (.tmp 0), none⟩,
     ⟨some 4, .eqnil true .p (.tmp 3), none⟩,
     ⟨some 5, .move (.tmp 4), none⟩,
     ⟨some 6, .move (.tmp 0), some (5, true)⟩,
     ⟨some 7, .nilCheck (.tmp 6), some (5, true)⟩,
     ⟨some 8, .faddr 2 (.tmp 7), some (5, true)⟩,
     ⟨some 9, .load 1 false (.tmp 8), some (5, true)⟩,
     ⟨some 10, .move (.tmp 0), some (5, true)⟩,
     ⟨some 11, .nilCheck (.tmp 10), some (5, true)⟩,
     ⟨some 12, .faddr 0 (.tmp 11), some (5, true)⟩,
     ⟨some 13, .load 1 false (.tmp 12), some (5, true)⟩,
     ⟨some 14, .lenS (.tmp 13), some (5, true)⟩,
     ⟨some 15, .iop .lss (.tmp 9) (.tmp 14), some (5, true)⟩,
     ⟨some 16, .pick (.tmp 5) (.tmp 15) (.const (.bool false)), none⟩,
     ⟨some 2, .move (.tmp 16), none⟩])
   .ret)), [.tmp 2]⟩

/-- (*purlin/journal.Log).Bytes -/
def a32 : AFunc := ⟨10,
 (.seq
  (.region [⟨some 2, .move (.const .nilslice), none⟩])
  (.seq
   (.seq
    (.region [⟨some 3, .move (.tmp 0), none⟩,
      ⟨some 4, .eqnil false .p (.tmp 3), none⟩])
    (.cond (.tmp 4)
     (.seq
      (.region [⟨some 2, .move (.const .nilslice), none⟩])
      .ret)
     .skip))
   (.seq
    (.region [⟨some 5, .move (.tmp 0), none⟩,
      ⟨some 6, .nilCheck (.tmp 5), none⟩,
      ⟨some 7, .faddr 0 (.tmp 6), none⟩,
      ⟨some 8, .load 1 false (.tmp 7), none⟩,
      ⟨some 9, .call .shared 65 [(.tmp 8)], none⟩,
      ⟨some 2, .move (.tmp 9), none⟩])
    .ret))), [.tmp 2]⟩

/-- (*purlin/journal.Log).Append -/
def a33 : AFunc := ⟨17,
 (.seq
  (.region [⟨some 4, .move (.const (.int .i64 0)), none⟩])
  (.seq
   (.region [⟨some 8, .move (.tmp 0), none⟩,
     ⟨some 9, .move (.tmp 1), none⟩,
     ⟨some 10, .move (.tmp 1), none⟩,
     ⟨some 11, .lenS (.tmp 10), none⟩,
     ⟨some 12, .iop .add (.tmp 11) (.const (.int .i64 8)), none⟩,
     ⟨some 13, .call .shared 36 [(.tmp 8), (.tmp 9), (.tmp 12)], none⟩,
     ⟨some 7, .move (.tmp 13), none⟩,
     ⟨some 14, .extract (.tmp 7) 0, none⟩,
     ⟨some 15, .extract (.tmp 7) 1, none⟩,
     ⟨some 5, .move (.tmp 14), none⟩,
     ⟨some 6, .move (.tmp 15), none⟩])
   (.seq
    (.region [⟨some 16, .move (.tmp 6), none⟩,
      ⟨some 4, .move (.tmp 16), none⟩])
    .ret))), [.tmp 4]⟩

/-- purlin/journal.New -/
def a34 : AFunc := ⟨3,
 (.seq
  (.region [⟨some 0, .move (.const .nilptr), none⟩])
  (.seq
   (.region [⟨some 1, .build [.nilslice, (.int .i64 0), (.int .i64 0)] [], none⟩,
     ⟨some 2, .box (.tmp 1), none⟩,
     ⟨some 0, .move (.tmp 2), none⟩])
   .ret)), [.tmp 0]⟩

/-- (*purlin/journal.Log).Len -/
def a35 : AFunc := ⟨15,
 (.seq
  (.region [⟨some 2, .move (.const (.int .i64 0)), none⟩,
    ⟨some 3, .move (.const (.int .i64 0)), none⟩])
  (.seq
   (.seq
    (.region [⟨some 4, .move (.tmp 0), none⟩,
      ⟨some 5, .eqnil false .p (.tmp 4), none⟩])
    (.cond (.tmp 5)
     (.seq
      (.region [⟨some 2, .move (.const (.int .i64 0)), none⟩,
        ⟨some 3, .move (.const (.int .i64 0)), none⟩])
      .ret)
     .skip))
   (.seq
    (.region [⟨some 6, .move (.tmp 0), none⟩,
      ⟨some 7, .nilCheck (.tmp 6), none⟩,
      ⟨some 8, .faddr 1 (.tmp 7), none⟩,
      ⟨some 9, .load 1 false (.tmp 8), none⟩,
      ⟨some 10, .move (.tmp 0), none⟩,
      ⟨some 11, .nilCheck (.tmp 10), none⟩,
      ⟨some 12, .faddr 0 (.tmp 11), none⟩,
      ⟨some 13, .load 1 false (.tmp 12), none⟩,
      ⟨some 14, .lenS (.tmp 13), none⟩,
      ⟨some 2, .move (.tmp 9), none⟩,
      ⟨some 3, .move (.tmp 14), none⟩])
    .ret))), [.tmp 2, .tmp 3]⟩

/-- (*purlin/journal.Log).Cut -/
def a36 : AFunc := ⟨55,
 (.seq
  (.region [⟨some 6, .move (.const (.bool false)), none⟩,
    ⟨some 7, .move (.const (.int .i64 0)), none⟩])
  (.seq
   (.block 0
    (.seq
     (.region [⟨some 12, .move (.tmp 0), none⟩,
       ⟨some 13, .eqnil false .p (.tmp 12), none⟩,
       ⟨some 11, .move (.tmp 13), none⟩])
     (.cond (.tmp 11)
      (.seq
       (.region [⟨some 6, .move (.const (.bool false)), none⟩,
         ⟨some 7, .move (.const (.int .i64 1)), none⟩])
       .ret)
      (.seq
       (.region [⟨some 15, .move (.tmp 0), none⟩,
         ⟨some 16, .call .shared 31 [(.tmp 15)], none⟩,
         ⟨some 14, .move (.tmp 16), none⟩])
       (.cond (.tmp 14)
        (.seq
         (.region [⟨some 6, .move (.const (.bool false)), none⟩,
           ⟨some 7, .move (.const (.int .i64 140)), none⟩])
         .ret)
        .skip)))))
   (.seq
    (.region [⟨some 18, .move (.tmp 1), none⟩,
      ⟨some 19, .call .shared 15 [(.tmp 18)], none⟩,
      ⟨some 17, .move (.tmp 19), none⟩,
      ⟨some 20, .extract (.tmp 17) 0, none⟩,
      ⟨some 21, .extract (.tmp 17) 1, none⟩,
      ⟨some 8, .move (.tmp 20), none⟩,
      ⟨some 9, .move (.tmp 21), none⟩])
    (.seq
     (.block 1
      (.seq
       (.region [⟨some 23, .move (.tmp 9), none⟩,
         ⟨some 24, .iop .neq (.tmp 23) (.const (.int .i64 0)), none⟩,
         ⟨some 22, .move (.tmp 24), none⟩])
       (.cond (.tmp 22)
        (.seq
         (.region [⟨some 25, .move (.tmp 9), none⟩,
           ⟨some 6, .move (.const (.bool false)), none⟩,
           ⟨some 7, .move (.tmp 25), none⟩])
         .ret)
        (.seq
         (.region [⟨some 27, .move (.tmp 2), none⟩,
           ⟨some 28, .iop .lss (.tmp 27) (.const (.int .i64 0)), none⟩,
           ⟨some 26, .move (.tmp 28), none⟩])
         (.cond (.tmp 26)
          (.seq
           (.region [⟨some 6, .move (.const (.bool false)), none⟩,
             ⟨some 7, .move (.const (.int .i64 2)), none⟩])
           .ret)
          .skip)))))
     (.seq
      (.region [⟨some 29, .move (.tmp 0), none⟩,
        ⟨some 30, .nilCheck (.tmp 29), none⟩,
        ⟨some 31, .faddr 1 (.tmp 30), none⟩,
        ⟨some 32, .load 1 false (.tmp 31), none⟩,
        ⟨some 10, .move (.tmp 32), none⟩])
      (.seq
       (.region [⟨some 33, .move (.tmp 0), none⟩,
         ⟨some 34, .move (.tmp 0), none⟩,
         ⟨some 35, .nilCheck (.tmp 34), none⟩,
         ⟨some 36, .faddr 0 (.tmp 35), none⟩,
         ⟨some 37, .load 1 false (.tmp 36), none⟩,
         ⟨some 38, .move (.tmp 8), none⟩,
         ⟨some 39, .move (.tmp 2), none⟩,
         ⟨some 40, .move (.tmp 8), none⟩,
         ⟨some 41, .lenS (.tmp 40), none⟩,
         ⟨some 42, .minI [(.tmp 39), (.tmp 41)], none⟩,
         ⟨some 43, .sliceOp 1 (.tmp 38) none (some (.tmp 42)) none, none⟩,
         ⟨some 44, .append 1 1 (.tmp 37) (.tmp 43), none⟩,
         ⟨some 45, .nilCheck (.tmp 33), none⟩,
         ⟨some 46, .faddr 0 (.tmp 45), none⟩,
         ⟨none, .store 1 (.tmp 46) (.tmp 44), none⟩])
       (.seq
        (.region [⟨some 47, .move (.tmp 0), none⟩,
          ⟨some 48, .call .shared 72 [(.tmp 47)], none⟩])
        (.seq
         (.region [⟨some 49, .move (.tmp 0), none⟩,
           ⟨some 50, .nilCheck (.tmp 49), none⟩,
           ⟨some 51, .faddr 1 (.tmp 50), none⟩,
           ⟨some 52, .load 1 false (.tmp 51), none⟩,
           ⟨some 53, .move (.tmp 10), none⟩,
           ⟨some 54, .iop .gtr (.tmp 52) (.tmp 53), none⟩,
           ⟨some 6, .move (.tmp 54), none⟩,
           ⟨some 7, .move (.const (.int .i64 0)), none⟩])
         .ret)))))))), [.tmp 6, .tmp 7]⟩

/-- (*purlin/journal.Log).Fork -/
def a37 : AFunc := ⟨20,
 (.seq
  (.region [⟨some 2, .move (.const .nilptr), none⟩])
  (.seq
   (.seq
    (.region [⟨some 3, .move (.tmp 0), none⟩,
      ⟨some 4, .eqnil false .p (.tmp 3), none⟩])
    (.cond (.tmp 4)
     (.seq
      (.region [⟨some 2, .move (.const .nilptr), none⟩])
      .ret)
     .skip))
   (.seq
    (.drawn [⟨some 5, .move (.tmp 0), none⟩,
      ⟨some 6, .nilCheck (.tmp 5), none⟩,
      ⟨some 7, .faddr 0 (.tmp 6), none⟩,
      ⟨some 8, .load 1 false (.tmp 7), none⟩,
      ⟨some 9, .call .shared 65 [(.tmp 8)], none⟩,
      ⟨some 10, .move (.tmp 0), none⟩,
      ⟨some 11, .nilCheck (.tmp 10), none⟩,
      ⟨some 12, .faddr 1 (.tmp 11), none⟩,
      ⟨some 13, .load 1 false (.tmp 12), none⟩,
      ⟨some 14, .move (.tmp 0), none⟩,
      ⟨some 15, .nilCheck (.tmp 14), none⟩,
      ⟨some 16, .faddr 2 (.tmp 15), none⟩,
      ⟨some 17, .load 1 false (.tmp 16), none⟩,
      ⟨some 18, .build [.nilslice, (.int .i64 0), (.int .i64 0)] [(0, 1, (.tmp 9)), (1, 1, (.tmp 13)), (2, 1, (.tmp 17))], none⟩,
      ⟨some 19, .box (.tmp 18), none⟩,
      ⟨some 2, .move (.tmp 19), none⟩] [(8, 4), (12, 4)])
    .ret))), [.tmp 2]⟩

/-- purlin/journal.four -/
def a62 : AFunc := ⟨15,
 (.seq
  (.region [⟨some 2, .move (.const .nilslice), none⟩])
  (.seq
   (.region [⟨some 3, .move (.tmp 0), none⟩,
     ⟨some 4, .iop .shr (.tmp 3) (.const (.int .u64 24)), none⟩,
     ⟨some 5, .convI .u8 (.tmp 4), none⟩,
     ⟨some 6, .move (.tmp 0), none⟩,
     ⟨some 7, .iop .shr (.tmp 6) (.const (.int .u64 16)), none⟩,
     ⟨some 8, .convI .u8 (.tmp 7), none⟩,
     ⟨some 9, .move (.tmp 0), none⟩,
     ⟨some 10, .iop .shr (.tmp 9) (.const (.int .u64 8)), none⟩,
     ⟨some 11, .convI .u8 (.tmp 10), none⟩,
     ⟨some 12, .move (.tmp 0), none⟩,
     ⟨some 13, .convI .u8 (.tmp 12), none⟩,
     ⟨some 14, .lit 1 [(.int .u8 0)] false 4 [(0, (.tmp 5)), (1, (.tmp 8)), (2, (.tmp 11)), (3, (.tmp 13))], none⟩,
     ⟨some 2, .move (.tmp 14), none⟩])
   .ret)), [.tmp 2]⟩

/-- purlin/journal.first -/
def a64 : AFunc := ⟨34,
 (.seq
  (.region [⟨some 2, .move (.const .nilslice), none⟩,
    ⟨some 3, .move (.const (.bool false)), none⟩])
  (.seq
   (.seq
    (.region [⟨some 6, .move (.tmp 0), none⟩,
      ⟨some 7, .lenS (.tmp 6), none⟩,
      ⟨some 8, .iop .lss (.tmp 7) (.const (.int .i64 8)), none⟩])
    (.cond (.tmp 8)
     (.seq
      (.region [⟨some 2, .move (.const .nilslice), none⟩,
        ⟨some 3, .move (.const (.bool false)), none⟩])
      .ret)
     .skip))
   (.seq
    (.region [⟨some 9, .move (.tmp 0), none⟩,
      ⟨some 10, .call .shared 92 [(.tmp 9)], none⟩,
      ⟨some 11, .convI .i64 (.tmp 10), none⟩,
      ⟨some 4, .move (.tmp 11), none⟩])
    (.seq
     (.seq
      (.region [⟨some 12, .move (.tmp 4), none⟩,
        ⟨some 13, .iop .gtr (.tmp 12) (.const (.int .i64 131072)), none⟩,
        ⟨some 14, .move (.tmp 13), none⟩,
        ⟨some 15, .move (.tmp 0), some (14, false)⟩,
        ⟨some 16, .lenS (.tmp 15), some (14, false)⟩,
        ⟨some 17, .iop .sub (.tmp 16) (.const (.int .i64 8)), some (14, false)⟩,
        ⟨some 18, .move (.tmp 4), some (14, false)⟩,
        ⟨some 19, .iop .lss (.tmp 17) (.tmp 18), some (14, false)⟩,
        ⟨some 20, .pick (.tmp 14) (.const (.bool true)) (.tmp 19), none⟩])
      (.cond (.tmp 20)
       (.seq
        (.region [⟨some 2, .move (.const .nilslice), none⟩,
          ⟨some 3, .move (.const (.bool false)), none⟩])
        .ret)
       .skip))
     (.seq
      (.region [⟨some 21, .move (.tmp 0), none⟩,
        ⟨some 22, .move (.tmp 4), none⟩,
        ⟨some 23, .iop .add (.const (.int .i64 8)) (.tmp 22), none⟩,
        ⟨some 24, .move (.tmp 4), none⟩,
        ⟨some 25, .iop .add (.const (.int .i64 8)) (.tmp 24), none⟩,
        ⟨some 26, .sliceOp 1 (.tmp 21) (some (.const (.int .i64 8))) (some (.tmp 23)) (some (.tmp 25)), none⟩,
        ⟨some 5, .move (.tmp 26), none⟩])
      (.seq
       (.region [⟨some 27, .move (.tmp 5), none⟩,
         ⟨some 28, .move (.tmp 5), none⟩,
         ⟨some 29, .call .shared 21 [(.tmp 28)], none⟩,
         ⟨some 30, .move (.tmp 0), none⟩,
         ⟨some 31, .sliceOp 1 (.tmp 30) (some (.const (.int .i64 4))) none none, none⟩,
         ⟨some 32, .call .shared 92 [(.tmp 31)], none⟩,
         ⟨some 33, .iop .eql (.tmp 29) (.tmp 32), none⟩,
         ⟨some 2, .move (.tmp 27), none⟩,
         ⟨some 3, .move (.tmp 33), none⟩])
       .ret)))))), [.tmp 2, .tmp 3]⟩

/-- bytes.Clone -/
def a65 : AFunc := ⟨8,
 (.seq
  (.region [⟨some 2, .move (.const .nilslice), none⟩])
  (.seq
   (.seq
    (.region [⟨some 3, .move (.tmp 0), none⟩,
      ⟨some 4, .eqnil false .s (.tmp 3), none⟩])
    (.cond (.tmp 4)
     (.seq
      (.region [⟨some 2, .move (.const .nilslice), none⟩])
      .ret)
     .skip))
   (.seq
    (.region [⟨some 5, .lit 1 [(.int .u8 0)] false 0 [], none⟩,
      ⟨some 6, .move (.tmp 0), none⟩,
      ⟨some 7, .append 1 1 (.tmp 5) (.tmp 6), none⟩,
      ⟨some 2, .move (.tmp 7), none⟩])
    .ret))), [.tmp 2]⟩

/-- (*purlin/journal.Log).look -/
def a72 : AFunc := ⟨36,
 (.block 0
  (.loop [0]
   (.block 1
    (.seq
     (.region [⟨some 5, .move (.tmp 0), none⟩,
       ⟨some 6, .nilCheck (.tmp 5), none⟩,
       ⟨some 7, .faddr 0 (.tmp 6), none⟩,
       ⟨some 8, .load 1 false (.tmp 7), none⟩,
       ⟨some 9, .move (.tmp 0), none⟩,
       ⟨some 10, .nilCheck (.tmp 9), none⟩,
       ⟨some 11, .faddr 2 (.tmp 10), none⟩,
       ⟨some 12, .load 1 false (.tmp 11), none⟩,
       ⟨some 13, .sliceOp 1 (.tmp 8) (some (.tmp 12)) none none, none⟩,
       ⟨some 14, .call .shared 64 [(.tmp 13)], none⟩,
       ⟨some 4, .move (.tmp 14), none⟩,
       ⟨some 15, .extract (.tmp 4) 0, none⟩,
       ⟨some 16, .extract (.tmp 4) 1, none⟩,
       ⟨some 2, .move (.tmp 15), none⟩,
       ⟨some 3, .move (.tmp 16), none⟩])
     (.seq
      (.seq
       (.region [⟨some 17, .move (.tmp 3), none⟩,
         ⟨some 18, .not (.tmp 17), none⟩])
       (.cond (.tmp 18)
        .ret
        .skip))
      (.seq
       (.region [⟨some 19, .move (.tmp 0), none⟩,
         ⟨some 20, .nilCheck (.tmp 19), none⟩,
         ⟨some 21, .faddr 1 (.tmp 20), none⟩,
         ⟨some 22, .load 1 false (.tmp 21), none⟩,
         ⟨some 23, .iop .add (.tmp 22) (.const (.int .i64 1)), none⟩,
         ⟨some 24, .nilCheck (.tmp 19), none⟩,
         ⟨some 25, .faddr 1 (.tmp 24), none⟩,
         ⟨none, .store 1 (.tmp 25) (.tmp 23), none⟩])
       (.region [⟨some 26, .move (.tmp 0), none⟩,
         ⟨some 27, .nilCheck (.tmp 26), none⟩,
         ⟨some 28, .faddr 2 (.tmp 27), none⟩,
         ⟨some 29, .load 1 false (.tmp 28), none⟩,
         ⟨some 30, .move (.tmp 2), none⟩,
         ⟨some 31, .lenS (.tmp 30), none⟩,
         ⟨some 32, .iop .add (.const (.int .i64 8)) (.tmp 31), none⟩,
         ⟨some 33, .iop .add (.tmp 29) (.tmp 32), none⟩,
         ⟨some 34, .nilCheck (.tmp 26), none⟩,
         ⟨some 35, .faddr 2 (.tmp 34), none⟩,
         ⟨none, .store 1 (.tmp 35) (.tmp 33), none⟩]))))))), []⟩

/-- purlin/journal.ofFour -/
def a92 : AFunc := ⟨25,
 (.seq
  (.region [⟨some 2, .move (.const (.int .u32 0)), none⟩])
  (.seq
   (.region [⟨some 3, .move (.tmp 0), none⟩,
     ⟨some 4, .iaddr 1 (.tmp 3) (.const (.int .i64 0)), none⟩,
     ⟨some 5, .load 1 false (.tmp 4), none⟩,
     ⟨some 6, .convI .u32 (.tmp 5), none⟩,
     ⟨some 7, .iop .shl (.tmp 6) (.const (.int .u64 24)), none⟩,
     ⟨some 8, .move (.tmp 0), none⟩,
     ⟨some 9, .iaddr 1 (.tmp 8) (.const (.int .i64 1)), none⟩,
     ⟨some 10, .load 1 false (.tmp 9), none⟩,
     ⟨some 11, .convI .u32 (.tmp 10), none⟩,
     ⟨some 12, .iop .shl (.tmp 11) (.const (.int .u64 16)), none⟩,
     ⟨some 13, .iop .or (.tmp 7) (.tmp 12), none⟩,
     ⟨some 14, .move (.tmp 0), none⟩,
     ⟨some 15, .iaddr 1 (.tmp 14) (.const (.int .i64 2)), none⟩,
     ⟨some 16, .load 1 false (.tmp 15), none⟩,
     ⟨some 17, .convI .u32 (.tmp 16), none⟩,
     ⟨some 18, .iop .shl (.tmp 17) (.const (.int .u64 8)), none⟩,
     ⟨some 19, .iop .or (.tmp 13) (.tmp 18), none⟩,
     ⟨some 20, .move (.tmp 0), none⟩,
     ⟨some 21, .iaddr 1 (.tmp 20) (.const (.int .i64 3)), none⟩,
     ⟨some 22, .load 1 false (.tmp 21), none⟩,
     ⟨some 23, .convI .u32 (.tmp 22), none⟩,
     ⟨some 24, .iop .or (.tmp 19) (.tmp 23), none⟩,
     ⟨some 2, .move (.tmp 24), none⟩])
   .ret)), [.tmp 2]⟩


def ir : FuncId → Option AFunc
  | 7 => some a7
  | 15 => some a15
  | 17 => some a17
  | 19 => some a19
  | 20 => some a20
  | 21 => some a21
  | 29 => some a29
  | 30 => some a30
  | 31 => some a31
  | 32 => some a32
  | 33 => some a33
  | 34 => some a34
  | 35 => some a35
  | 36 => some a36
  | 37 => some a37
  | 62 => some a62
  | 64 => some a64
  | 65 => some a65
  | 72 => some a72
  | 92 => some a92
  | _ => none
def cfg : Cfg := ⟨ir, fun f => f, fun _ => none⟩

theorem ok7 : FnOk cfg Try.prog 7 a7 := ⟨⟨Try.f7, _, Try.func7, by decide, rfl, rfl, by kernel_rfl, by kernel_rfl⟩⟩
theorem ok15 : FnOk cfg Try.prog 15 a15 := ⟨⟨Try.f15, _, Try.func15, by decide, rfl, rfl, by kernel_rfl, by kernel_rfl⟩⟩
theorem ok17 : FnOk cfg Try.prog 17 a17 := ⟨⟨Try.f17, _, Try.func17, by decide, rfl, rfl, by kernel_rfl, by kernel_rfl⟩⟩
theorem ok19 : FnOk cfg Try.prog 19 a19 := ⟨⟨Try.f19, _, Try.func19, by decide, rfl, rfl, by kernel_rfl, by kernel_rfl⟩⟩
theorem ok20 : FnOk cfg Try.prog 20 a20 := ⟨⟨Try.f20, _, Try.func20, by decide, rfl, rfl, by kernel_rfl, by kernel_rfl⟩⟩
theorem ok21 : FnOk cfg Try.prog 21 a21 := ⟨⟨Try.f21, _, Try.func21, by decide, rfl, rfl, by kernel_rfl, by kernel_rfl⟩⟩
theorem ok29 : FnOk cfg Try.prog 29 a29 := ⟨⟨Try.f29, _, Try.func29, by decide, rfl, rfl, by kernel_rfl, by kernel_rfl⟩⟩
theorem ok30 : FnOk cfg Try.prog 30 a30 := ⟨⟨Try.f30, _, Try.func30, by decide, rfl, rfl, by kernel_rfl, by kernel_rfl⟩⟩
theorem ok31 : FnOk cfg Try.prog 31 a31 := ⟨⟨Try.f31, _, Try.func31, by decide, rfl, rfl, by kernel_rfl, by kernel_rfl⟩⟩
theorem ok32 : FnOk cfg Try.prog 32 a32 := ⟨⟨Try.f32, _, Try.func32, by decide, rfl, rfl, by kernel_rfl, by kernel_rfl⟩⟩
theorem ok33 : FnOk cfg Try.prog 33 a33 := ⟨⟨Try.f33, _, Try.func33, by decide, rfl, rfl, by kernel_rfl, by kernel_rfl⟩⟩
theorem ok34 : FnOk cfg Try.prog 34 a34 := ⟨⟨Try.f34, _, Try.func34, by decide, rfl, rfl, by kernel_rfl, by kernel_rfl⟩⟩
theorem ok35 : FnOk cfg Try.prog 35 a35 := ⟨⟨Try.f35, _, Try.func35, by decide, rfl, rfl, by kernel_rfl, by kernel_rfl⟩⟩
theorem ok36 : FnOk cfg Try.prog 36 a36 := ⟨⟨Try.f36, _, Try.func36, by decide, rfl, rfl, by kernel_rfl, by kernel_rfl⟩⟩
theorem ok37 : FnOk cfg Try.prog 37 a37 := ⟨⟨Try.f37, _, Try.func37, by decide, rfl, rfl, by kernel_rfl, by kernel_rfl⟩⟩
theorem ok62 : FnOk cfg Try.prog 62 a62 := ⟨⟨Try.f62, _, Try.func62, by decide, rfl, rfl, by kernel_rfl, by kernel_rfl⟩⟩
theorem ok64 : FnOk cfg Try.prog 64 a64 := ⟨⟨Try.f64, _, Try.func64, by decide, rfl, rfl, by kernel_rfl, by kernel_rfl⟩⟩
theorem ok65 : FnOk cfg Try.prog 65 a65 := ⟨⟨Try.f65, _, Try.func65, by decide, rfl, rfl, by kernel_rfl, by kernel_rfl⟩⟩
theorem ok72 : FnOk cfg Try.prog 72 a72 := ⟨⟨Try.f72, _, Try.func72, by decide, rfl, rfl, by kernel_rfl, by kernel_rfl⟩⟩
theorem ok92 : FnOk cfg Try.prog 92 a92 := ⟨⟨Try.f92, _, Try.func92, by decide, rfl, rfl, by kernel_rfl, by kernel_rfl⟩⟩

theorem all : ∀ f fn, cfg.ir f = some fn → FnOk cfg Try.prog f fn := by
  intro f fn h
  have h' : ir f = some fn := h
  unfold ir at h'
  split at h'
  · injection h' with h'; subst h'; exact ok7
  · injection h' with h'; subst h'; exact ok15
  · injection h' with h'; subst h'; exact ok17
  · injection h' with h'; subst h'; exact ok19
  · injection h' with h'; subst h'; exact ok20
  · injection h' with h'; subst h'; exact ok21
  · injection h' with h'; subst h'; exact ok29
  · injection h' with h'; subst h'; exact ok30
  · injection h' with h'; subst h'; exact ok31
  · injection h' with h'; subst h'; exact ok32
  · injection h' with h'; subst h'; exact ok33
  · injection h' with h'; subst h'; exact ok34
  · injection h' with h'; subst h'; exact ok35
  · injection h' with h'; subst h'; exact ok36
  · injection h' with h'; subst h'; exact ok37
  · injection h' with h'; subst h'; exact ok62
  · injection h' with h'; subst h'; exact ok64
  · injection h' with h'; subst h'; exact ok65
  · injection h' with h'; subst h'; exact ok72
  · injection h' with h'; subst h'; exact ok92
  · cases h'
end Go.Proofs.Ytmocplkpnickgaa.Am.C7
