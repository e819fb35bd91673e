/- The program's functions as the small code (printed by Gen.lean), second part. -/
import Derived.Test.YteekkjfjpoaihaaEv
set_option linter.all false
namespace Go.Proofs.Yteekkjfjpoaihaa.Eng
open Go

/-- slices.Index[[]int,int] -/
def x63 : XFn := ⟨19, (.seq (.reg [⟨(some 4), none, (.mv (.c (.s (.int .i64 0)))), 0⟩] 0)
 (.seq (.seq (.reg [⟨(some 6), none, (.mv (.t 0)), 0⟩,
    ⟨(some 7), none, (.len (.t 6)), 0⟩,
    ⟨(some 8), none, (.mv (.c (.s (.int .i64 0)))), 0⟩] 0)
  (.block 0 (.loop (.seq (.reg [⟨(some 9), none, (.bin .lss (.t 8) (.t 7)), 0⟩] 0)
    (.seq (.cond (.t 9)
      .skip
      (.exit 0))
    (.seq (.block 1 (.seq (.reg [⟨(some 10), none, (.mv (.t 8)), 0⟩,
        ⟨(some 5), none, (.mv (.t 10)), 0⟩] 0)
      (.seq (.reg [⟨(some 11), none, (.mv (.t 1)), 0⟩,
        ⟨(some 12), none, (.mv (.t 0)), 0⟩,
        ⟨(some 13), none, (.mv (.t 5)), 0⟩,
        ⟨(some 14), none, (.iadS 1 (.t 12) (.t 13)), 0⟩,
        ⟨(some 15), none, (.ld .one (.t 14)), 0⟩,
        ⟨(some 16), none, (.bin .eql (.t 11) (.t 15)), 0⟩] 0)
      (.cond (.t 16)
       (.seq (.reg [⟨(some 17), none, (.mv (.t 5)), 0⟩,
         ⟨(some 4), none, (.mv (.t 17)), 0⟩] 0)
       .ret)
       .skip))))
    (.reg [⟨(some 18), none, (.bin .add (.t 8) (.c (.s (.int .i64 1)))), 0⟩,
     ⟨(some 8), none, (.mv (.t 18)), 0⟩] 0)))))))
 (.seq (.reg [⟨(some 4), none, (.mv (.c (.s (.int .i64 (-1))))), 0⟩] 0)
 .ret))), [(.t 4)]⟩

/-- slices.Max[[]int,int] -/
def x64 : XFn := ⟨25, (.seq (.reg [⟨(some 2), none, (.mv (.c (.s (.int .i64 0)))), 0⟩] 0)
 (.seq (.seq (.reg [⟨(some 5), none, (.mv (.t 0)), 0⟩,
    ⟨(some 6), none, (.len (.t 5)), 0⟩,
    ⟨(some 7), none, (.bin .lss (.t 6) (.c (.s (.int .i64 1)))), 0⟩] 0)
  (.cond (.t 7)
   (.reg [⟨(some 8), none, .bad, 0⟩,
    ⟨none, none, .bad, 0⟩] 0)
   .skip))
 (.seq (.reg [⟨(some 9), none, (.mv (.t 0)), 0⟩,
   ⟨(some 10), none, (.iadS 1 (.t 9) (.c (.s (.int .i64 0)))), 0⟩,
   ⟨(some 11), none, (.ld .one (.t 10)), 0⟩,
   ⟨(some 3), none, (.mv (.t 11)), 0⟩] 0)
 (.seq (.seq (.reg [⟨(some 4), none, (.mv (.c (.s (.int .i64 1)))), 0⟩] 0)
  (.block 0 (.loop (.seq (.seq (.reg [⟨(some 12), none, (.mv (.t 4)), 0⟩,
       ⟨(some 13), none, (.mv (.t 0)), 0⟩,
       ⟨(some 14), none, (.len (.t 13)), 0⟩,
       ⟨(some 15), none, (.bin .lss (.t 12) (.t 14)), 0⟩] 0)
     (.cond (.t 15)
      .skip
      (.exit 0)))
    (.seq (.block 1 (.reg [⟨(some 18), none, (.mv (.t 3)), 0⟩,
       ⟨(some 19), none, (.mv (.t 0)), 0⟩,
       ⟨(some 20), none, (.mv (.t 4)), 0⟩,
       ⟨(some 21), none, (.iadS 1 (.t 19) (.t 20)), 0⟩,
       ⟨(some 22), none, (.ld .one (.t 21)), 0⟩,
       ⟨(some 23), none, (.mx [(.t 18), (.t 22)]), 0⟩,
       ⟨(some 3), none, (.mv (.t 23)), 0⟩] 0))
    (.reg [⟨(some 16), none, (.mv (.t 4)), 0⟩,
     ⟨(some 17), none, (.bin .add (.t 16) (.c (.s (.int .i64 1)))), 0⟩,
     ⟨(some 4), none, (.mv (.t 17)), 0⟩] 0))))))
 (.seq (.reg [⟨(some 24), none, (.mv (.t 3)), 0⟩,
   ⟨(some 2), none, (.mv (.t 24)), 0⟩] 0)
 .ret))))), [(.t 2)]⟩

/-- slices.Reverse[[]int,int] -/
def x65 : XFn := ⟨28, (.seq (.reg [⟨(some 4), none, (.mv (.t 0)), 0⟩,
   ⟨(some 5), none, (.len (.t 4)), 0⟩,
   ⟨(some 6), none, (.bin .sub (.t 5) (.c (.s (.int .i64 1)))), 0⟩,
   ⟨(some 2), none, (.mv (.c (.s (.int .i64 0)))), 0⟩,
   ⟨(some 3), none, (.mv (.t 6)), 0⟩] 0)
 (.block 0 (.loop (.seq (.seq (.reg [⟨(some 7), none, (.mv (.t 2)), 0⟩,
      ⟨(some 8), none, (.mv (.t 3)), 0⟩,
      ⟨(some 9), none, (.bin .lss (.t 7) (.t 8)), 0⟩] 0)
    (.cond (.t 9)
     .skip
     (.exit 0)))
   (.seq (.block 1 (.regD [⟨(some 14), none, (.mv (.t 0)), 0⟩,
      ⟨(some 15), none, (.mv (.t 2)), 0⟩,
      ⟨(some 16), none, (.mv (.t 0)), 0⟩,
      ⟨(some 17), none, (.mv (.t 3)), 0⟩,
      ⟨(some 18), none, (.mv (.t 0)), 0⟩,
      ⟨(some 19), none, (.mv (.t 3)), 0⟩,
      ⟨(some 20), none, (.iadS 1 (.t 18) (.t 19)), 0⟩,
      ⟨(some 21), none, (.ld .one (.t 20)), 0⟩,
      ⟨(some 22), none, (.mv (.t 0)), 0⟩,
      ⟨(some 23), none, (.mv (.t 2)), 0⟩,
      ⟨(some 24), none, (.iadS 1 (.t 22) (.t 23)), 0⟩,
      ⟨(some 25), none, (.ld .one (.t 24)), 0⟩,
      ⟨(some 26), none, (.iadS 1 (.t 14) (.t 15)), 0⟩,
      ⟨none, none, (.st .one (.t 26) (.t 21)), 0⟩,
      ⟨(some 27), none, (.iadS 1 (.t 16) (.t 17)), 0⟩,
      ⟨none, none, (.st .one (.t 27) (.t 25)), 0⟩] 0 []))
   (.reg [⟨(some 10), none, (.mv (.t 2)), 0⟩,
    ⟨(some 11), none, (.bin .add (.t 10) (.c (.s (.int .i64 1)))), 0⟩,
    ⟨(some 12), none, (.mv (.t 3)), 0⟩,
    ⟨(some 13), none, (.bin .sub (.t 12) (.c (.s (.int .i64 1)))), 0⟩,
    ⟨(some 2), none, (.mv (.t 11)), 0⟩,
    ⟨(some 3), none, (.mv (.t 13)), 0⟩] 0)))))), []⟩

/-- slices.ContainsFunc[[]int,int] -/
def x66 : XFn := ⟨9, (.seq (.reg [⟨(some 4), none, (.mv (.c (.s (.bool false)))), 0⟩] 0)
 (.seq (.reg [⟨(some 5), none, (.mv (.t 0)), 0⟩,
   ⟨(some 6), none, (.mv (.t 1)), 0⟩,
   ⟨(some 7), none, (.call (.c (.s (.fn 96 []))) [(.t 5), (.t 6)]), 0⟩,
   ⟨(some 8), none, (.bin .geq (.t 7) (.c (.s (.int .i64 0)))), 8⟩,
   ⟨(some 4), none, (.mv (.t 8)), 8⟩] 8)
 .ret)), [(.t 4)]⟩

/-- girouette/shells.Made$1 -/
def x67 : XFn := ⟨13, (.seq (.reg [⟨(some 3), none, (.mv (.c (.s (.bool false)))), 0⟩] 0)
 (.seq (.reg [⟨(some 4), none, (.mv (.t 0)), 0⟩,
   ⟨(some 5), none, (.bin .lss (.t 4) (.c (.s (.int .i64 0)))), 0⟩,
   ⟨(some 6), none, (.mv (.t 5)), 0⟩,
   ⟨(some 7), (some (6, false)), (.mv (.t 0)), 0⟩,
   ⟨(some 8), (some (6, false)), (.ld .one (.t 1)), 0⟩,
   ⟨(some 9), (some (6, false)), (.conv .u64 (.t 8)), 0⟩,
   ⟨(some 10), (some (6, false)), (.bin .shl (.c (.s (.int .i64 1))) (.t 9)), 0⟩,
   ⟨(some 11), (some (6, false)), (.bin .geq (.t 7) (.t 10)), 0⟩,
   ⟨(some 12), none, (.pick (.t 6) (.c (.s (.bool true))) (.t 11)), 0⟩,
   ⟨(some 3), none, (.mv (.t 12)), 0⟩] 0)
 .ret)), [(.t 3)]⟩

/-- girouette/shells.few -/
def x68 : XFn := ⟨22, (.seq (.reg [⟨(some 1), none, (.box 95 (.t 0)), 0⟩,
   ⟨(some 2), none, (.mv (.c (.s .nils))), 1⟩,
   ⟨(some 3), none, (.mv (.c (.s (.int .i64 0)))), 1⟩] 1)
 (.seq (.reg [⟨(some 5), none, (.ld (.many 0 64) (.t 1)), 0⟩,
   ⟨(some 6), none, (.call (.c (.s (.fn 97 []))) [(.t 5)]), 0⟩,
   ⟨(some 4), none, (.mv (.t 6)), 8⟩] 8)
 (.seq (.block 0 (.seq (.reg [⟨(some 8), none, (.mv (.t 4)), 0⟩,
     ⟨(some 9), none, (.len (.t 8)), 0⟩,
     ⟨(some 10), none, (.bin .eql (.t 9) (.c (.s (.int .i64 0)))), 0⟩,
     ⟨(some 11), none, (.mv (.t 10)), 0⟩,
     ⟨(some 12), (some (11, false)), (.mv (.t 4)), 0⟩,
     ⟨(some 13), (some (11, false)), (.iadS 1 (.t 12) (.c (.s (.int .i64 0)))), 0⟩,
     ⟨(some 14), (some (11, false)), (.ld .one (.t 13)), 0⟩,
     ⟨(some 15), (some (11, false)), (.bin .eql (.t 14) (.c (.s (.int .i64 0)))), 0⟩,
     ⟨(some 16), none, (.pick (.t 11) (.c (.s (.bool true))) (.t 15)), 0⟩,
     ⟨(some 7), none, (.mv (.t 16)), 0⟩] 0)
   (.cond (.t 7)
    (.seq (.reg [⟨(some 2), none, (.mv (.c (.s .nils))), 0⟩,
      ⟨(some 3), none, (.mv (.c (.s (.int .i64 4)))), 0⟩] 0)
    .ret)
    (.seq (.reg [⟨(some 18), none, (.mv (.t 4)), 0⟩,
      ⟨(some 19), none, (.len (.t 18)), 0⟩,
      ⟨(some 20), none, (.bin .gtr (.t 19) (.c (.s (.int .i64 10)))), 0⟩,
      ⟨(some 17), none, (.mv (.t 20)), 0⟩] 0)
    (.cond (.t 17)
     (.seq (.reg [⟨(some 2), none, (.mv (.c (.s .nils))), 0⟩,
       ⟨(some 3), none, (.mv (.c (.s (.int .i64 8)))), 0⟩] 0)
     .ret)
     .skip)))))
 (.seq (.reg [⟨(some 21), none, (.mv (.t 4)), 0⟩,
   ⟨(some 2), none, (.mv (.t 21)), 0⟩,
   ⟨(some 3), none, (.mv (.c (.s (.int .i64 0)))), 0⟩] 0)
 .ret)))), [(.t 2), (.t 3)]⟩

/-- girouette/shells.closed -/
def x69 : XFn := ⟨20, (.seq (.reg [⟨(some 2), none, (.alloc 95 (.pb [] 64 ff)), 0⟩] 1)
 (.seq (.reg [⟨(some 3), none, (.alloc 95 (.pb [] 64 ff)), 0⟩] 1)
 (.seq (.seq (.reg [⟨(some 7), none, (.mv (.t 0)), 0⟩,
    ⟨(some 8), none, (.len (.t 7)), 0⟩,
    ⟨(some 9), none, (.mv (.c (.s (.int .i64 0)))), 0⟩] 0)
  (.block 0 (.loop (.seq (.reg [⟨(some 10), none, (.bin .lss (.t 9) (.t 8)), 0⟩] 0)
    (.seq (.cond (.t 10)
      .skip
      (.exit 0))
    (.seq (.block 1 (.seq (.reg [⟨(some 11), none, (.iadS 1 (.t 7) (.t 9)), 0⟩,
        ⟨(some 12), none, (.ld .one (.t 11)), 0⟩,
        ⟨(some 5), none, (.mv (.t 12)), 0⟩] 0)
      (.seq (.reg [⟨(some 13), none, (.mv (.t 5)), 0⟩,
        ⟨(some 14), none, (.call (.c (.s (.fn 98 []))) [(.t 13)]), 0⟩] 8)
      (.block 2 (.rf (.t 14) [15] (.reg [⟨(some 6), none, (.mv (.t 15)), 0⟩] 0) (.block 3 (.reg [⟨(some 16), none, (.mv (.t 6)), 0⟩,
          ⟨(some 17), none, (.iad 64 1 (.t 3) (.t 16)), 0⟩,
          ⟨none, none, (.st .one (.t 17) (.c (.s (.bool true)))), 0⟩] 0)))))))
    (.reg [⟨(some 18), none, (.bin .add (.t 9) (.c (.s (.int .i64 1)))), 0⟩,
     ⟨(some 9), none, (.mv (.t 18)), 0⟩] 0)))))))
 (.seq (.reg [⟨(some 19), none, (.ld (.many 0 64) (.t 3)), 0⟩,
   ⟨none, none, (.st (.many 0 64) (.t 2) (.t 19)), 0⟩] 0)
 .ret)))), [(.cell 2 (.many 0 64))]⟩

/-- girouette/shells.open -/
def x70 : XFn := ⟨84, (.seq (.reg [⟨(some 4), none, (.mv (.c (.s .nilp))), 0⟩,
   ⟨(some 5), none, (.mv (.c (.s (.int .i64 0)))), 0⟩] 0)
 (.seq (.seq (.reg [⟨(some 11), none, (.mv (.t 0)), 0⟩,
    ⟨(some 12), none, (.bin .lss (.t 11) (.c (.s (.int .i64 1)))), 0⟩,
    ⟨(some 13), none, (.mv (.t 12)), 0⟩,
    ⟨(some 14), (some (13, false)), (.mv (.t 0)), 0⟩,
    ⟨(some 15), (some (13, false)), (.bin .gtr (.t 14) (.c (.s (.int .i64 6)))), 0⟩,
    ⟨(some 16), none, (.pick (.t 13) (.c (.s (.bool true))) (.t 15)), 0⟩] 0)
  (.cond (.t 16)
   (.seq (.reg [⟨(some 4), none, (.mv (.c (.s .nilp))), 0⟩,
     ⟨(some 5), none, (.mv (.c (.s (.int .i64 1)))), 0⟩] 0)
   .ret)
   .skip))
 (.seq (.seq (.reg [⟨(some 17), none, (.mv (.t 1)), 0⟩,
    ⟨(some 18), none, (.len (.t 17)), 0⟩,
    ⟨(some 19), none, (.bin .lss (.t 18) (.c (.s (.int .i64 1)))), 0⟩,
    ⟨(some 20), none, (.mv (.t 19)), 0⟩,
    ⟨(some 21), (some (20, false)), (.mv (.t 1)), 0⟩,
    ⟨(some 22), (some (20, false)), (.len (.t 21)), 0⟩,
    ⟨(some 23), (some (20, false)), (.bin .gtr (.t 22) (.c (.s (.int .i64 10)))), 0⟩,
    ⟨(some 24), none, (.pick (.t 20) (.c (.s (.bool true))) (.t 23)), 0⟩] 0)
  (.cond (.t 24)
   (.seq (.reg [⟨(some 4), none, (.mv (.c (.s .nilp))), 0⟩,
     ⟨(some 5), none, (.mv (.c (.s (.int .i64 10)))), 0⟩] 0)
   .ret)
   .skip))
 (.seq (.seq (.reg [⟨(some 25), none, (.mv (.t 1)), 0⟩,
    ⟨(some 26), none, (.len (.t 25)), 0⟩,
    ⟨(some 27), none, (.mv (.c (.s (.int .i64 0)))), 0⟩] 0)
  (.block 0 (.loop (.seq (.reg [⟨(some 28), none, (.bin .lss (.t 27) (.t 26)), 0⟩] 0)
    (.seq (.cond (.t 28)
      .skip
      (.exit 0))
    (.seq (.block 1 (.seq (.reg [⟨(some 29), none, (.mv (.t 27)), 0⟩,
        ⟨(some 30), none, (.iadS 1 (.t 25) (.t 27)), 0⟩,
        ⟨(some 31), none, (.ld .one (.t 30)), 0⟩,
        ⟨(some 6), none, (.mv (.t 29)), 0⟩,
        ⟨(some 7), none, (.mv (.t 31)), 0⟩] 0)
      (.seq (.seq (.reg [⟨(some 32), none, (.mv (.t 7)), 0⟩,
         ⟨(some 33), none, (.bin .lss (.t 32) (.c (.s (.int .i64 1)))), 0⟩,
         ⟨(some 34), none, (.mv (.t 33)), 0⟩,
         ⟨(some 35), (some (34, false)), (.mv (.t 7)), 0⟩,
         ⟨(some 36), (some (34, false)), (.mv (.t 0)), 0⟩,
         ⟨(some 37), (some (34, false)), (.conv .u64 (.t 36)), 0⟩,
         ⟨(some 38), (some (34, false)), (.bin .shl (.c (.s (.int .i64 1))) (.t 37)), 0⟩,
         ⟨(some 39), (some (34, false)), (.bin .geq (.t 35) (.t 38)), 0⟩,
         ⟨(some 40), none, (.pick (.t 34) (.c (.s (.bool true))) (.t 39)), 0⟩,
         ⟨(some 41), none, (.mv (.t 40)), 0⟩,
         ⟨(some 42), (some (41, false)), (.mv (.t 6)), 0⟩,
         ⟨(some 43), (some (41, false)), (.bin .gtr (.t 42) (.c (.s (.int .i64 0)))), 0⟩,
         ⟨(some 44), (some (41, false)), (.mv (.t 43)), 0⟩,
         ⟨(some 45), (some (44, true)), (.mv (.t 1)), 0⟩,
         ⟨(some 46), (some (44, true)), (.mv (.t 6)), 0⟩,
         ⟨(some 47), (some (44, true)), (.bin .sub (.t 46) (.c (.s (.int .i64 1)))), 0⟩,
         ⟨(some 48), (some (44, true)), (.iadS 1 (.t 45) (.t 47)), 0⟩,
         ⟨(some 49), (some (44, true)), (.ld .one (.t 48)), 0⟩,
         ⟨(some 50), (some (44, true)), (.mv (.t 7)), 0⟩,
         ⟨(some 51), (some (44, true)), (.bin .geq (.t 49) (.t 50)), 0⟩,
         ⟨(some 52), (some (41, false)), (.pick (.t 44) (.t 51) (.c (.s (.bool false)))), 0⟩,
         ⟨(some 53), none, (.pick (.t 41) (.c (.s (.bool true))) (.t 52)), 0⟩] 0)
       (.cond (.t 53)
        (.seq (.reg [⟨(some 4), none, (.mv (.c (.s .nilp))), 0⟩,
          ⟨(some 5), none, (.mv (.c (.s (.int .i64 10)))), 0⟩] 0)
        .ret)
        .skip))
      (.seq (.reg [⟨(some 54), none, (.mv (.t 1)), 0⟩,
        ⟨(some 55), none, (.len (.t 54)), 0⟩,
        ⟨(some 56), none, (.mv (.c (.s (.int .i64 0)))), 0⟩] 0)
      (.block 2 (.loop (.seq (.reg [⟨(some 57), none, (.bin .lss (.t 56) (.t 55)), 0⟩] 0)
        (.seq (.cond (.t 57)
          .skip
          (.exit 2))
        (.seq (.block 3 (.seq (.reg [⟨(some 58), none, (.mv (.t 56)), 0⟩,
            ⟨(some 59), none, (.iadS 1 (.t 54) (.t 56)), 0⟩,
            ⟨(some 60), none, (.ld .one (.t 59)), 0⟩,
            ⟨(some 8), none, (.mv (.t 58)), 0⟩,
            ⟨(some 9), none, (.mv (.t 60)), 0⟩] 0)
          (.seq (.reg [⟨(some 61), none, (.mv (.t 8)), 0⟩,
            ⟨(some 62), none, (.mv (.t 6)), 0⟩,
            ⟨(some 63), none, (.bin .neq (.t 61) (.t 62)), 0⟩,
            ⟨(some 64), none, (.mv (.t 63)), 0⟩,
            ⟨(some 65), (some (64, true)), (.mv (.t 7)), 0⟩,
            ⟨(some 66), (some (64, true)), (.mv (.t 9)), 0⟩,
            ⟨(some 67), (some (64, true)), (.bin .and (.t 65) (.t 66)), 0⟩,
            ⟨(some 68), (some (64, true)), (.mv (.t 7)), 0⟩,
            ⟨(some 69), (some (64, true)), (.bin .eql (.t 67) (.t 68)), 0⟩,
            ⟨(some 70), none, (.pick (.t 64) (.t 69) (.c (.s (.bool false)))), 0⟩] 0)
          (.cond (.t 70)
           (.seq (.reg [⟨(some 4), none, (.mv (.c (.s .nilp))), 0⟩,
             ⟨(some 5), none, (.mv (.c (.s (.int .i64 10)))), 0⟩] 0)
           .ret)
           .skip))))
        (.reg [⟨(some 71), none, (.bin .add (.t 56) (.c (.s (.int .i64 1)))), 0⟩,
         ⟨(some 56), none, (.mv (.t 71)), 0⟩] 0))))))))))
    (.reg [⟨(some 72), none, (.bin .add (.t 27) (.c (.s (.int .i64 1)))), 0⟩,
     ⟨(some 27), none, (.mv (.t 72)), 0⟩] 0)))))))
 (.seq (.reg [⟨(some 73), none, (.mv (.t 0)), 0⟩,
   ⟨(some 74), none, (.mv (.t 1)), 0⟩,
   ⟨(some 75), none, (.call (.c (.s (.fn 99 []))) [(.t 74)]), 0⟩,
   ⟨(some 76), none, (.bld (.pb [(.int .i64 0), .nils] 64 ff) [((0, 1), (.t 73)), ((1, 1), (.t 75))]), 8⟩,
   ⟨(some 77), none, (.box 103 (.t 76)), 8⟩,
   ⟨(some 10), none, (.mv (.t 77)), 9⟩] 9)
 (.seq (.reg [⟨(some 78), none, (.mv (.t 10)), 0⟩,
   ⟨(some 79), none, (.mv (.t 1)), 0⟩,
   ⟨(some 80), none, (.call (.c (.s (.fn 69 []))) [(.t 79)]), 0⟩,
   ⟨(some 81), none, (.nck (.t 78)), 8⟩,
   ⟨(some 82), none, (.fad 2 (.t 81)), 8⟩,
   ⟨none, none, (.st (.many 0 64) (.t 82) (.t 80)), 8⟩] 8)
 (.seq (.reg [⟨(some 83), none, (.mv (.t 10)), 0⟩,
   ⟨(some 4), none, (.mv (.t 83)), 0⟩,
   ⟨(some 5), none, (.mv (.c (.s (.int .i64 0)))), 0⟩] 0)
 .ret))))))), [(.t 4), (.t 5)]⟩

/-- (*girouette/shells.complex).counts -/
def x71 : XFn := ⟨29, (.seq (.reg [⟨(some 2), none, (.mv (.c (.s .nils))), 0⟩] 0)
 (.seq (.reg [⟨(some 6), none, (.mv (.t 0)), 0⟩,
   ⟨(some 7), none, (.call (.c (.s (.fn 100 []))) [(.t 6)]), 0⟩,
   ⟨(some 8), none, (.bin .add (.t 7) (.c (.s (.int .i64 1)))), 8⟩,
   ⟨(some 9), none, (.mkS 3 .i64 (.t 8)), 8⟩,
   ⟨(some 3), none, (.mv (.t 9)), 9⟩] 9)
 (.seq (.seq (.reg [⟨(some 10), none, (.mv (.t 0)), 0⟩,
    ⟨(some 11), none, (.nck (.t 10)), 0⟩,
    ⟨(some 12), none, (.fad 2 (.t 11)), 0⟩,
    ⟨(some 13), none, (.ld (.many 0 64) (.t 12)), 0⟩,
    ⟨(some 14), none, (.call (.c (.s (.fn 73 []))) [(.t 13)]), 0⟩,
    ⟨(some 15), none, (.len (.t 14)), 8⟩,
    ⟨(some 16), none, (.mv (.c (.s (.int .i64 0)))), 8⟩] 8)
  (.block 0 (.loop (.seq (.reg [⟨(some 17), none, (.bin .lss (.t 16) (.t 15)), 0⟩] 0)
    (.seq (.cond (.t 17)
      .skip
      (.exit 0))
    (.seq (.block 1 (.seq (.reg [⟨(some 18), none, (.iadS 1 (.t 14) (.t 16)), 0⟩,
        ⟨(some 19), none, (.ld .one (.t 18)), 0⟩,
        ⟨(some 5), none, (.mv (.t 19)), 0⟩] 0)
      (.reg [⟨(some 20), none, (.mv (.t 3)), 0⟩,
       ⟨(some 21), none, (.mv (.t 5)), 0⟩,
       ⟨(some 22), none, (.call (.c (.s (.fn 101 []))) [(.t 21)]), 0⟩,
       ⟨(some 23), none, (.iadS 1 (.t 20) (.t 22)), 8⟩,
       ⟨(some 24), none, (.ld .one (.t 23)), 8⟩,
       ⟨(some 25), none, (.bin .add (.t 24) (.c (.s (.int .i64 1)))), 8⟩,
       ⟨(some 26), none, (.iadS 1 (.t 20) (.t 22)), 8⟩,
       ⟨none, none, (.st .one (.t 26) (.t 25)), 8⟩] 8)))
    (.reg [⟨(some 27), none, (.bin .add (.t 16) (.c (.s (.int .i64 1)))), 0⟩,
     ⟨(some 16), none, (.mv (.t 27)), 0⟩] 0)))))))
 (.seq (.reg [⟨(some 28), none, (.mv (.t 3)), 0⟩,
   ⟨(some 2), none, (.mv (.t 28)), 0⟩] 0)
 .ret)))), [(.t 2)]⟩

/-- girouette/shells.Collapse$1 -/
def x72 : XFn := ⟨42, (.seq (.reg [⟨(some 4), none, (.alloc 4 (.s (.bool false))), 0⟩] 1)
 (.seq (.seq (.reg [⟨(some 7), none, (.ld (.many 0 64) (.t 0)), 0⟩,
    ⟨(some 8), none, (.call (.c (.s (.fn 73 []))) [(.t 7)]), 0⟩,
    ⟨(some 9), none, (.len (.t 8)), 8⟩,
    ⟨(some 10), none, (.bin .eql (.t 9) (.c (.s (.int .i64 2)))), 8⟩] 8)
  (.cond (.t 10)
   (.seq (.reg [⟨none, none, (.st .one (.t 4) (.c (.s (.bool true)))), 0⟩] 0)
   .ret)
   .skip))
 (.seq (.seq (.reg [⟨(some 11), none, (.ld .one (.t 1)), 0⟩,
    ⟨(some 12), none, (.ld (.many 0 64) (.t 0)), 0⟩,
    ⟨(some 13), none, (.lkup (.bools 64) .bool1 false (.t 11) (.t 12)), 0⟩] 0)
  (.cond (.t 13)
   (.seq (.reg [⟨none, none, (.st .one (.t 4) (.c (.s (.bool false)))), 0⟩] 0)
   .ret)
   .skip))
 (.seq (.seq (.reg [⟨(some 14), none, (.ld (.many 0 64) (.t 0)), 0⟩,
    ⟨(some 15), none, (.call (.c (.s (.fn 74 []))) [(.t 14)]), 0⟩] 8)
  (.block 0 (.rf (.t 15) [16] (.reg [⟨(some 5), none, (.alloc 108 (.pb [(.int .i64 0), (.int .i64 0)] 0 ff)), 0⟩,
     ⟨none, none, (.st (.many 2 0) (.t 5) (.t 16)), 1⟩] 1) (.block 1 (.seq (.reg [⟨(some 17), none, (.ld (.many 0 64) (.t 0)), 0⟩,
       ⟨(some 6), none, (.alloc 95 (.pb [] 64 ff)), 0⟩,
       ⟨none, none, (.st (.many 0 64) (.t 6) (.t 17)), 1⟩] 1)
     (.seq (.regD [⟨(some 18), none, (.fad 0 (.t 5)), 0⟩,
       ⟨(some 19), none, (.ld .one (.t 18)), 0⟩,
       ⟨(some 20), none, (.fad 1 (.t 5)), 0⟩,
       ⟨(some 21), none, (.ld .one (.t 20)), 0⟩,
       ⟨(some 22), none, (.iad 64 1 (.t 0) (.t 19)), 0⟩,
       ⟨none, none, (.st .one (.t 22) (.c (.s (.bool false)))), 0⟩,
       ⟨(some 23), none, (.iad 64 1 (.t 0) (.t 21)), 0⟩,
       ⟨none, none, (.st .one (.t 23) (.c (.s (.bool false)))), 0⟩] 0 [(3, 5)])
     (.seq (.reg [⟨(some 24), none, (.ld .one (.t 2)), 0⟩,
       ⟨(some 25), none, (.fad 0 (.t 5)), 0⟩,
       ⟨(some 26), none, (.ld .one (.t 25)), 0⟩,
       ⟨(some 27), none, (.fad 1 (.t 5)), 0⟩,
       ⟨(some 28), none, (.ld .one (.t 27)), 0⟩,
       ⟨(some 29), none, (.bld (.pb [(.int .i64 0), (.int .i64 0)] 0 ff) [((0, 1), (.t 26)), ((1, 1), (.t 28))]), 0⟩,
       ⟨(some 30), none, (.bsl 38 .i64 2 1 [(0, (.t 29))]), 0⟩,
       ⟨(some 31), none, (.app 38 .i64 2 (.t 24) (.t 30)), 1⟩,
       ⟨none, none, (.st .one (.t 2) (.t 31)), 2⟩] 2)
     (.seq (.seq (.reg [⟨(some 32), none, (.ld .one (.t 3)), 0⟩,
        ⟨(some 33), none, (.call (.t 32) []), 0⟩] 8)
      (.cond (.t 33)
       (.seq (.reg [⟨none, none, (.st .one (.t 4) (.c (.s (.bool true)))), 0⟩] 0)
       .ret)
       .skip))
     (.seq (.reg [⟨(some 34), none, (.ld (.many 0 64) (.t 6)), 0⟩,
       ⟨none, none, (.st (.many 0 64) (.t 0) (.t 34)), 0⟩] 0)
     (.reg [⟨(some 35), none, (.ld .one (.t 2)), 0⟩,
      ⟨(some 36), none, (.ld .one (.t 2)), 0⟩,
      ⟨(some 37), none, (.len (.t 36)), 0⟩,
      ⟨(some 38), none, (.bin .sub (.t 37) (.c (.s (.int .i64 1)))), 0⟩,
      ⟨(some 39), none, (.slc 2 (.t 35) none (some (.t 38))), 0⟩,
      ⟨none, none, (.st .one (.t 2) (.t 39)), 0⟩] 0))))))))))
 (.seq (.reg [⟨(some 40), none, (.ld .one (.t 1)), 0⟩,
   ⟨(some 41), none, (.ld (.many 0 64) (.t 0)), 0⟩,
   ⟨none, none, (.mupd (.bools 64) .bool1 (.t 40) (.t 41) (.c (.s (.bool true)))), 0⟩] 0)
 (.seq (.reg [⟨none, none, (.st .one (.t 4) (.c (.s (.bool false)))), 0⟩] 0)
 .ret)))))), [(.cell 4 .one)]⟩

/-- (girouette/shells.faces).list -/
def x73 : XFn := ⟨18, (.seq (.reg [⟨(some 1), none, (.box 95 (.t 0)), 0⟩,
   ⟨(some 2), none, (.mv (.c (.s .nils))), 1⟩] 1)
 (.seq (.reg [⟨(some 3), none, (.mv (.c (.s .nils))), 0⟩] 0)
 (.seq (.seq (.reg [⟨(some 6), none, (.ld (.many 0 64) (.t 1)), 0⟩,
    ⟨(some 7), none, (.mv (.c (.s (.int .i64 0)))), 0⟩] 0)
  (.block 0 (.loop (.seq (.reg [⟨(some 8), none, (.bin .lss (.t 7) (.c (.s (.int .i64 64)))), 0⟩] 0)
    (.seq (.cond (.t 8)
      .skip
      (.exit 0))
    (.seq (.block 1 (.seq (.reg [⟨(some 9), none, (.mv (.t 7)), 0⟩,
        ⟨(some 10), none, (.idx 64 1 .one (.t 6) (.t 7)), 0⟩,
        ⟨(some 4), none, (.mv (.t 9)), 0⟩,
        ⟨(some 5), none, (.mv (.t 10)), 0⟩] 0)
      (.seq (.reg [⟨(some 11), none, (.mv (.t 5)), 0⟩] 0)
      (.cond (.t 11)
       (.reg [⟨(some 12), none, (.mv (.t 3)), 0⟩,
        ⟨(some 13), none, (.mv (.t 4)), 0⟩,
        ⟨(some 14), none, (.bsl 3 .i64 1 1 [(0, (.t 13))]), 0⟩,
        ⟨(some 15), none, (.app 3 .i64 1 (.t 12) (.t 14)), 1⟩,
        ⟨(some 3), none, (.mv (.t 15)), 2⟩] 2)
       .skip))))
    (.reg [⟨(some 16), none, (.bin .add (.t 7) (.c (.s (.int .i64 1)))), 0⟩,
     ⟨(some 7), none, (.mv (.t 16)), 0⟩] 0)))))))
 (.seq (.reg [⟨(some 17), none, (.mv (.t 3)), 0⟩,
   ⟨(some 2), none, (.mv (.t 17)), 0⟩] 0)
 .ret)))), [(.t 2)]⟩

/-- (girouette/shells.faces).pairs -/
def x74 : XFn := ⟨4, (.seq (.reg [⟨(some 1), none, (.box 95 (.t 0)), 0⟩,
   ⟨(some 2), none, (.mv (.c (.s .nilf))), 1⟩] 1)
 (.seq (.reg [⟨(some 3), none, (.mkf 102 [(.t 1)]), 0⟩,
   ⟨(some 2), none, (.mv (.t 3)), 0⟩] 0)
 .ret)), [(.t 2)]⟩

/-- (*girouette/shells.complex).hollows -/
def x75 : XFn := ⟨37, (.seq (.reg [⟨(some 2), none, (.mv (.c (.s .nils))), 0⟩] 0)
 (.seq (.reg [⟨(some 3), none, (.mv (.c (.s .nils))), 0⟩] 0)
 (.seq (.reg [⟨(some 8), none, (.mv (.t 0)), 0⟩,
   ⟨(some 9), none, (.call (.c (.s (.fn 71 []))) [(.t 8)]), 0⟩,
   ⟨(some 4), none, (.mv (.t 9)), 8⟩] 8)
 (.seq (.seq (.reg [⟨(some 5), none, (.mv (.c (.s (.int .i64 1)))), 0⟩] 0)
  (.block 0 (.loop (.seq (.seq (.reg [⟨(some 10), none, (.mv (.t 5)), 0⟩,
       ⟨(some 11), none, (.mv (.t 4)), 0⟩,
       ⟨(some 12), none, (.len (.t 11)), 0⟩,
       ⟨(some 13), none, (.bin .lss (.t 10) (.t 12)), 0⟩] 0)
     (.cond (.t 13)
      .skip
      (.exit 0)))
    (.seq (.block 1 (.seq (.reg [⟨(some 16), none, (.mv (.t 0)), 0⟩,
        ⟨(some 17), none, (.mv (.t 5)), 0⟩,
        ⟨(some 18), none, (.call (.c (.s (.fn 105 []))) [(.t 16), (.t 17)]), 0⟩,
        ⟨(some 19), none, (.call (.c (.s (.fn 104 []))) [(.t 18)]), 8⟩,
        ⟨(some 20), none, (.mv (.t 0)), 16⟩,
        ⟨(some 21), none, (.mv (.t 5)), 16⟩,
        ⟨(some 22), none, (.bin .add (.t 21) (.c (.s (.int .i64 1)))), 16⟩,
        ⟨(some 23), none, (.call (.c (.s (.fn 105 []))) [(.t 20), (.t 22)]), 16⟩,
        ⟨(some 24), none, (.call (.c (.s (.fn 104 []))) [(.t 23)]), 24⟩,
        ⟨(some 6), none, (.mv (.t 19)), 32⟩,
        ⟨(some 7), none, (.mv (.t 24)), 32⟩] 32)
      (.reg [⟨(some 25), none, (.mv (.t 3)), 0⟩,
       ⟨(some 26), none, (.mv (.t 4)), 0⟩,
       ⟨(some 27), none, (.mv (.t 5)), 0⟩,
       ⟨(some 28), none, (.iadS 1 (.t 26) (.t 27)), 0⟩,
       ⟨(some 29), none, (.ld .one (.t 28)), 0⟩,
       ⟨(some 30), none, (.mv (.t 6)), 0⟩,
       ⟨(some 31), none, (.bin .sub (.t 29) (.t 30)), 0⟩,
       ⟨(some 32), none, (.mv (.t 7)), 0⟩,
       ⟨(some 33), none, (.bin .sub (.t 31) (.t 32)), 0⟩,
       ⟨(some 34), none, (.bsl 3 .i64 1 1 [(0, (.t 33))]), 0⟩,
       ⟨(some 35), none, (.app 3 .i64 1 (.t 25) (.t 34)), 1⟩,
       ⟨(some 3), none, (.mv (.t 35)), 2⟩] 2)))
    (.reg [⟨(some 14), none, (.mv (.t 5)), 0⟩,
     ⟨(some 15), none, (.bin .add (.t 14) (.c (.s (.int .i64 1)))), 0⟩,
     ⟨(some 5), none, (.mv (.t 15)), 0⟩] 0))))))
 (.seq (.reg [⟨(some 36), none, (.mv (.t 3)), 0⟩,
   ⟨(some 2), none, (.mv (.t 36)), 0⟩] 0)
 .ret))))), [(.t 2)]⟩

/-- girouette/shells.Collapse$2 -/
def x76 : XFn := ⟨5, (.seq (.reg [⟨(some 2), none, (.mv (.c (.s (.bool false)))), 0⟩] 0)
 (.seq (.reg [⟨(some 3), none, (.mv (.t 0)), 0⟩,
   ⟨(some 4), none, (.bin .gtr (.t 3) (.c (.s (.int .i64 0)))), 0⟩,
   ⟨(some 2), none, (.mv (.t 4)), 0⟩] 0)
 .ret)), [(.t 2)]⟩

/-- girouette/labels.Label -/
def x77 : XFn := ⟨24, (.seq (.reg [⟨(some 4), none, (.alloc 41 (.s .nils)), 0⟩,
   ⟨(some 5), none, (.alloc 4 (.s (.bool false))), 1⟩,
   ⟨(some 6), none, (.alloc 25 (.s (.int .i64 0))), 2⟩] 3)
 (.seq (.reg [⟨(some 11), none, (.mv (.t 0)), 0⟩,
   ⟨(some 12), none, (.mv (.t 1)), 0⟩,
   ⟨(some 13), none, (.call (.c (.s (.fn 106 []))) [(.t 11), (.t 12)]), 0⟩,
   ⟨(some 10), none, (.mv (.t 13)), 8⟩,
   ⟨(some 14), none, (.extr (.t 10) 0), 8⟩,
   ⟨(some 15), none, (.extr (.t 10) 1), 8⟩,
   ⟨(some 7), none, (.mv (.t 14)), 8⟩,
   ⟨(some 8), none, (.mv (.t 15)), 8⟩] 8)
 (.seq (.seq (.reg [⟨(some 16), none, (.mv (.t 8)), 0⟩,
    ⟨(some 17), none, (.bin .neq (.t 16) (.c (.s (.int .i64 0)))), 0⟩] 0)
  (.cond (.t 17)
   (.seq (.reg [⟨(some 18), none, (.mv (.t 8)), 0⟩,
     ⟨none, none, (.st .one (.t 4) (.c (.s .nils))), 0⟩,
     ⟨none, none, (.st .one (.t 5) (.c (.s (.bool false)))), 0⟩,
     ⟨none, none, (.st .one (.t 6) (.t 18)), 0⟩] 0)
   .ret)
   .skip))
 (.seq (.seq (.reg [⟨(some 19), none, (.mv (.t 7)), 0⟩,
    ⟨(some 20), none, (.call (.c (.s (.fn 107 []))) [(.t 19)]), 0⟩] 8)
  (.block 0 (.rf (.t 20) [21] (.reg [⟨(some 9), none, (.mv (.t 21)), 0⟩] 0) (.block 1 (.seq (.reg [⟨(some 22), none, (.mv (.t 9)), 0⟩,
       ⟨(some 23), none, (.call (.c (.s (.fn 99 []))) [(.t 22)]), 0⟩,
       ⟨none, none, (.st .one (.t 4) (.t 23)), 8⟩,
       ⟨none, none, (.st .one (.t 5) (.c (.s (.bool true)))), 8⟩,
       ⟨none, none, (.st .one (.t 6) (.c (.s (.int .i64 0)))), 8⟩] 8)
     .ret)))))
 (.seq (.reg [⟨none, none, (.st .one (.t 4) (.c (.s .nils))), 0⟩,
   ⟨none, none, (.st .one (.t 5) (.c (.s (.bool false)))), 0⟩,
   ⟨none, none, (.st .one (.t 6) (.c (.s (.int .i64 0)))), 0⟩] 0)
 .ret))))), [(.cell 4 .one), (.cell 5 .one), (.cell 6 .one)]⟩

/-- girouette/girouetteref03.Has -/
def x78 : XFn := ⟨18, (.seq (.reg [⟨(some 3), none, (.box 38 (.t 1)), 0⟩,
   ⟨(some 4), none, (.mv (.c (.s (.bool false)))), 1⟩] 1)
 (.seq (.seq (.reg [⟨(some 5), none, (.mv (.c (.s (.int .i64 0)))), 0⟩] 0)
  (.block 0 (.loop (.seq (.seq (.reg [⟨(some 6), none, (.mv (.t 5)), 0⟩,
       ⟨(some 7), none, (.mv (.t 0)), 0⟩,
       ⟨(some 8), none, (.len (.t 7)), 0⟩,
       ⟨(some 9), none, (.bin .lss (.t 6) (.t 8)), 0⟩] 0)
     (.cond (.t 9)
      .skip
      (.exit 0)))
    (.seq (.block 1 (.seq (.regD [⟨(some 12), none, (.mv (.t 0)), 0⟩,
        ⟨(some 13), none, (.mv (.t 5)), 0⟩,
        ⟨(some 14), none, (.iadS 2 (.t 12) (.t 13)), 0⟩,
        ⟨(some 15), none, (.ld (.many 2 0) (.t 14)), 0⟩,
        ⟨(some 16), none, (.ld (.many 2 0) (.t 3)), 0⟩,
        ⟨(some 17), none, (.eqv (.agg 2 0) false (.t 15) (.t 16)), 0⟩] 0 [])
      (.cond (.t 17)
       (.seq (.reg [⟨(some 4), none, (.mv (.c (.s (.bool true)))), 0⟩] 0)
       .ret)
       .skip)))
    (.reg [⟨(some 10), none, (.mv (.t 5)), 0⟩,
     ⟨(some 11), none, (.bin .add (.t 10) (.c (.s (.int .i64 1)))), 0⟩,
     ⟨(some 5), none, (.mv (.t 11)), 0⟩] 0))))))
 (.seq (.reg [⟨(some 4), none, (.mv (.c (.s (.bool false)))), 0⟩] 0)
 .ret))), [(.t 4)]⟩

/-- girouette/girouetteref03.less -/
def x79 : XFn := ⟨24, (.seq (.reg [⟨(some 2), none, (.box 38 (.t 0)), 0⟩,
   ⟨(some 3), none, (.box 38 (.t 1)), 1⟩,
   ⟨(some 4), none, (.mv (.c (.s (.bool false)))), 2⟩] 2)
 (.seq (.reg [⟨(some 5), none, (.iad 2 1 (.t 2) (.c (.s (.int .i64 0)))), 0⟩,
   ⟨(some 6), none, (.ld .one (.t 5)), 0⟩,
   ⟨(some 7), none, (.iad 2 1 (.t 3) (.c (.s (.int .i64 0)))), 0⟩,
   ⟨(some 8), none, (.ld .one (.t 7)), 0⟩,
   ⟨(some 9), none, (.bin .lss (.t 6) (.t 8)), 0⟩,
   ⟨(some 10), none, (.mv (.t 9)), 0⟩,
   ⟨(some 11), (some (10, false)), (.iad 2 1 (.t 2) (.c (.s (.int .i64 0)))), 0⟩,
   ⟨(some 12), (some (10, false)), (.ld .one (.t 11)), 0⟩,
   ⟨(some 13), (some (10, false)), (.iad 2 1 (.t 3) (.c (.s (.int .i64 0)))), 0⟩,
   ⟨(some 14), (some (10, false)), (.ld .one (.t 13)), 0⟩,
   ⟨(some 15), (some (10, false)), (.bin .eql (.t 12) (.t 14)), 0⟩,
   ⟨(some 16), (some (10, false)), (.mv (.t 15)), 0⟩,
   ⟨(some 17), (some (16, true)), (.iad 2 1 (.t 2) (.c (.s (.int .i64 1)))), 0⟩,
   ⟨(some 18), (some (16, true)), (.ld .one (.t 17)), 0⟩,
   ⟨(some 19), (some (16, true)), (.iad 2 1 (.t 3) (.c (.s (.int .i64 1)))), 0⟩,
   ⟨(some 20), (some (16, true)), (.ld .one (.t 19)), 0⟩,
   ⟨(some 21), (some (16, true)), (.bin .lss (.t 18) (.t 20)), 0⟩,
   ⟨(some 22), (some (10, false)), (.pick (.t 16) (.t 21) (.c (.s (.bool false)))), 0⟩,
   ⟨(some 23), none, (.pick (.t 10) (.c (.s (.bool true))) (.t 22)), 0⟩,
   ⟨(some 4), none, (.mv (.t 23)), 0⟩] 0)
 .ret)), [(.t 4)]⟩

/-- girouette/orders.joined -/
def x80 : XFn := ⟨40, (.seq (.reg [⟨(some 2), none, (.alloc 70 (.pb [] 49 ff)), 0⟩] 1)
 (.seq (.reg [⟨(some 3), none, (.alloc 70 (.pb [] 49 ff)), 0⟩] 1)
 (.seq (.seq (.reg [⟨(some 8), none, (.mv (.t 0)), 0⟩,
    ⟨(some 9), none, (.len (.t 8)), 0⟩,
    ⟨(some 10), none, (.mv (.c (.s (.int .i64 0)))), 0⟩] 0)
  (.block 0 (.loop (.seq (.reg [⟨(some 11), none, (.bin .lss (.t 10) (.t 9)), 0⟩] 0)
    (.seq (.cond (.t 11)
      .skip
      (.exit 0))
    (.seq (.block 1 (.seq (.reg [⟨(some 12), none, (.iadS 49 (.t 8) (.t 10)), 0⟩,
        ⟨(some 13), none, (.ld (.many 0 49) (.t 12)), 0⟩,
        ⟨(some 5), none, (.alloc 70 (.pb [] 49 ff)), 0⟩,
        ⟨none, none, (.st (.many 0 49) (.t 5) (.t 13)), 1⟩] 1)
      (.seq (.reg [⟨(some 14), none, (.mv (.c (.s (.int .i64 0)))), 0⟩] 0)
      (.block 2 (.loop (.seq (.reg [⟨(some 15), none, (.bin .lss (.t 14) (.c (.s (.int .i64 7)))), 0⟩] 0)
        (.seq (.cond (.t 15)
          .skip
          (.exit 2))
        (.seq (.block 3 (.seq (.reg [⟨(some 16), none, (.mv (.t 14)), 0⟩,
            ⟨(some 6), none, (.mv (.t 16)), 0⟩] 0)
          (.seq (.reg [⟨(some 17), none, (.mv (.c (.s (.int .i64 0)))), 0⟩] 0)
          (.block 4 (.loop (.seq (.reg [⟨(some 18), none, (.bin .lss (.t 17) (.c (.s (.int .i64 7)))), 0⟩] 0)
            (.seq (.cond (.t 18)
              .skip
              (.exit 4))
            (.seq (.block 5 (.seq (.reg [⟨(some 19), none, (.mv (.t 17)), 0⟩,
                ⟨(some 7), none, (.mv (.t 19)), 0⟩] 0)
              (.regD [⟨(some 20), none, (.mv (.t 6)), 0⟩,
               ⟨(some 21), none, (.mv (.t 7)), 0⟩,
               ⟨(some 22), none, (.mv (.t 6)), 0⟩,
               ⟨(some 23), none, (.mv (.t 7)), 0⟩,
               ⟨(some 24), none, (.iad 7 7 (.t 3) (.t 22)), 0⟩,
               ⟨(some 25), none, (.iad 7 1 (.t 24) (.t 23)), 0⟩,
               ⟨(some 26), none, (.ld .one (.t 25)), 0⟩,
               ⟨(some 27), none, (.mv (.t 26)), 0⟩,
               ⟨(some 28), (some (27, false)), (.mv (.t 6)), 0⟩,
               ⟨(some 29), (some (27, false)), (.mv (.t 7)), 0⟩,
               ⟨(some 30), (some (27, false)), (.iad 7 7 (.t 5) (.t 28)), 0⟩,
               ⟨(some 31), (some (27, false)), (.iad 7 1 (.t 30) (.t 29)), 0⟩,
               ⟨(some 32), (some (27, false)), (.ld .one (.t 31)), 0⟩,
               ⟨(some 33), none, (.pick (.t 27) (.c (.s (.bool true))) (.t 32)), 0⟩,
               ⟨(some 34), none, (.iad 7 7 (.t 3) (.t 20)), 0⟩,
               ⟨(some 35), none, (.iad 7 1 (.t 34) (.t 21)), 0⟩,
               ⟨none, none, (.st .one (.t 35) (.t 33)), 0⟩] 0 [])))
            (.reg [⟨(some 36), none, (.bin .add (.t 17) (.c (.s (.int .i64 1)))), 0⟩,
             ⟨(some 17), none, (.mv (.t 36)), 0⟩] 0)))))))))
        (.reg [⟨(some 37), none, (.bin .add (.t 14) (.c (.s (.int .i64 1)))), 0⟩,
         ⟨(some 14), none, (.mv (.t 37)), 0⟩] 0)))))))))
    (.reg [⟨(some 38), none, (.bin .add (.t 10) (.c (.s (.int .i64 1)))), 0⟩,
     ⟨(some 10), none, (.mv (.t 38)), 0⟩] 0)))))))
 (.seq (.reg [⟨(some 39), none, (.ld (.many 0 49) (.t 3)), 0⟩,
   ⟨none, none, (.st (.many 0 49) (.t 2) (.t 39)), 0⟩] 0)
 .ret)))), [(.cell 2 (.many 0 49))]⟩

/-- (*girouette/orders.graph).others -/
def x81 : XFn := ⟨50, (.seq (.reg [⟨(some 2), none, (.mv (.c (.s .nilp))), 0⟩] 0)
 (.seq (.reg [⟨(some 6), none, (.mv (.t 0)), 0⟩,
   ⟨(some 7), none, (.nck (.t 6)), 0⟩,
   ⟨(some 8), none, (.fad 0 (.t 7)), 0⟩,
   ⟨(some 9), none, (.ld .one (.t 8)), 0⟩,
   ⟨(some 10), none, (.bld (.pb [(.int .i64 0)] 49 ff) [((0, 1), (.t 9))]), 0⟩,
   ⟨(some 11), none, (.box 115 (.t 10)), 0⟩,
   ⟨(some 3), none, (.mv (.t 11)), 1⟩] 1)
 (.seq (.seq (.reg [⟨(some 12), none, (.mv (.t 0)), 0⟩,
    ⟨(some 13), none, (.nck (.t 12)), 0⟩,
    ⟨(some 14), none, (.fad 0 (.t 13)), 0⟩,
    ⟨(some 15), none, (.ld .one (.t 14)), 0⟩,
    ⟨(some 16), none, (.mv (.c (.s (.int .i64 0)))), 0⟩] 0)
  (.block 0 (.loop (.seq (.reg [⟨(some 17), none, (.bin .lss (.t 16) (.t 15)), 0⟩] 0)
    (.seq (.cond (.t 17)
      .skip
      (.exit 0))
    (.seq (.block 1 (.seq (.reg [⟨(some 18), none, (.mv (.t 16)), 0⟩,
        ⟨(some 4), none, (.mv (.t 18)), 0⟩] 0)
      (.seq (.reg [⟨(some 19), none, (.mv (.t 0)), 0⟩,
        ⟨(some 20), none, (.nck (.t 19)), 0⟩,
        ⟨(some 21), none, (.fad 0 (.t 20)), 0⟩,
        ⟨(some 22), none, (.ld .one (.t 21)), 0⟩,
        ⟨(some 23), none, (.mv (.c (.s (.int .i64 0)))), 0⟩] 0)
      (.block 2 (.loop (.seq (.reg [⟨(some 24), none, (.bin .lss (.t 23) (.t 22)), 0⟩] 0)
        (.seq (.cond (.t 24)
          .skip
          (.exit 2))
        (.seq (.block 3 (.seq (.reg [⟨(some 25), none, (.mv (.t 23)), 0⟩,
            ⟨(some 5), none, (.mv (.t 25)), 0⟩] 0)
          (.regD [⟨(some 26), none, (.mv (.t 3)), 0⟩,
           ⟨(some 27), none, (.mv (.t 4)), 0⟩,
           ⟨(some 28), none, (.mv (.t 5)), 0⟩,
           ⟨(some 29), none, (.mv (.t 4)), 0⟩,
           ⟨(some 30), none, (.mv (.t 5)), 0⟩,
           ⟨(some 31), none, (.bin .neq (.t 29) (.t 30)), 0⟩,
           ⟨(some 32), none, (.mv (.t 31)), 0⟩,
           ⟨(some 33), (some (32, true)), (.mv (.t 0)), 0⟩,
           ⟨(some 34), (some (32, true)), (.mv (.t 4)), 0⟩,
           ⟨(some 35), (some (32, true)), (.mv (.t 5)), 0⟩,
           ⟨(some 36), (some (32, true)), (.nck (.t 33)), 0⟩,
           ⟨(some 37), (some (32, true)), (.fad 1 (.t 36)), 0⟩,
           ⟨(some 38), (some (32, true)), (.iad 7 7 (.t 37) (.t 34)), 0⟩,
           ⟨(some 39), (some (32, true)), (.iad 7 1 (.t 38) (.t 35)), 0⟩,
           ⟨(some 40), (some (32, true)), (.ld .one (.t 39)), 0⟩,
           ⟨(some 41), (some (32, true)), (.not (.t 40)), 0⟩,
           ⟨(some 42), none, (.pick (.t 32) (.t 41) (.c (.s (.bool false)))), 0⟩,
           ⟨(some 43), none, (.nck (.t 26)), 0⟩,
           ⟨(some 44), none, (.fad 1 (.t 43)), 0⟩,
           ⟨(some 45), none, (.iad 7 7 (.t 44) (.t 27)), 0⟩,
           ⟨(some 46), none, (.iad 7 1 (.t 45) (.t 28)), 0⟩,
           ⟨none, none, (.st .one (.t 46) (.t 42)), 0⟩] 0 [])))
        (.reg [⟨(some 47), none, (.bin .add (.t 23) (.c (.s (.int .i64 1)))), 0⟩,
         ⟨(some 23), none, (.mv (.t 47)), 0⟩] 0)))))))))
    (.reg [⟨(some 48), none, (.bin .add (.t 16) (.c (.s (.int .i64 1)))), 0⟩,
     ⟨(some 16), none, (.mv (.t 48)), 0⟩] 0)))))))
 (.seq (.reg [⟨(some 49), none, (.mv (.t 3)), 0⟩,
   ⟨(some 2), none, (.mv (.t 49)), 0⟩] 0)
 .ret)))), [(.t 2)]⟩

/-- (girouette/orders.relation).line -/
def x82 : XFn := ⟨33, (.seq (.reg [⟨(some 2), none, (.box 70 (.t 0)), 0⟩,
   ⟨(some 4), none, (.mv (.c (.s .nils))), 1⟩] 1)
 (.seq (.reg [⟨(some 9), none, (.mv (.t 1)), 0⟩,
   ⟨(some 10), none, (.mkS 3 .i64 (.t 9)), 0⟩,
   ⟨(some 5), none, (.mv (.t 10)), 1⟩] 1)
 (.seq (.seq (.reg [⟨(some 11), none, (.mv (.t 1)), 0⟩,
    ⟨(some 12), none, (.mv (.c (.s (.int .i64 0)))), 0⟩] 0)
  (.block 0 (.loop (.seq (.reg [⟨(some 13), none, (.bin .lss (.t 12) (.t 11)), 0⟩] 0)
    (.seq (.cond (.t 13)
      .skip
      (.exit 0))
    (.seq (.block 1 (.seq (.reg [⟨(some 14), none, (.mv (.t 12)), 0⟩,
        ⟨(some 6), none, (.mv (.t 14)), 0⟩] 0)
      (.seq (.reg [⟨(some 7), none, (.mv (.c (.s (.int .i64 0)))), 0⟩] 0)
      (.seq (.seq (.reg [⟨(some 15), none, (.mv (.t 1)), 0⟩,
         ⟨(some 16), none, (.mv (.c (.s (.int .i64 0)))), 0⟩] 0)
       (.block 2 (.loop (.seq (.reg [⟨(some 17), none, (.bin .lss (.t 16) (.t 15)), 0⟩] 0)
         (.seq (.cond (.t 17)
           .skip
           (.exit 2))
         (.seq (.block 3 (.seq (.reg [⟨(some 18), none, (.mv (.t 16)), 0⟩,
             ⟨(some 8), none, (.mv (.t 18)), 0⟩] 0)
           (.seq (.reg [⟨(some 19), none, (.mv (.t 8)), 0⟩,
             ⟨(some 20), none, (.mv (.t 6)), 0⟩,
             ⟨(some 21), none, (.iad 7 7 (.t 2) (.t 19)), 0⟩,
             ⟨(some 22), none, (.iad 7 1 (.t 21) (.t 20)), 0⟩,
             ⟨(some 23), none, (.ld .one (.t 22)), 0⟩] 0)
           (.cond (.t 23)
            (.reg [⟨(some 24), none, (.mv (.t 7)), 0⟩,
             ⟨(some 25), none, (.bin .add (.t 24) (.c (.s (.int .i64 1)))), 0⟩,
             ⟨(some 7), none, (.mv (.t 25)), 0⟩] 0)
            .skip))))
         (.reg [⟨(some 26), none, (.bin .add (.t 16) (.c (.s (.int .i64 1)))), 0⟩,
          ⟨(some 16), none, (.mv (.t 26)), 0⟩] 0)))))))
      (.reg [⟨(some 27), none, (.mv (.t 5)), 0⟩,
       ⟨(some 28), none, (.mv (.t 7)), 0⟩,
       ⟨(some 29), none, (.mv (.t 6)), 0⟩,
       ⟨(some 30), none, (.iadS 1 (.t 27) (.t 28)), 0⟩,
       ⟨none, none, (.st .one (.t 30) (.t 29)), 0⟩] 0)))))
    (.reg [⟨(some 31), none, (.bin .add (.t 12) (.c (.s (.int .i64 1)))), 0⟩,
     ⟨(some 12), none, (.mv (.t 31)), 0⟩] 0)))))))
 (.seq (.reg [⟨(some 32), none, (.mv (.t 5)), 0⟩,
   ⟨(some 4), none, (.mv (.t 32)), 0⟩] 0)
 .ret)))), [(.t 4)]⟩

/-- girouette/girouetteref03.joined -/
def x83 : XFn := ⟨16, (.seq (.reg [⟨(some 6), none, (.mv (.c (.s (.bool false)))), 0⟩] 0)
 (.seq (.reg [⟨(some 7), none, (.mv (.t 0)), 0⟩,
   ⟨(some 8), none, (.mv (.t 1)), 0⟩,
   ⟨(some 9), none, (.mv (.t 2)), 0⟩,
   ⟨(some 10), none, (.mn [(.t 8), (.t 9)]), 0⟩,
   ⟨(some 11), none, (.mv (.t 1)), 0⟩,
   ⟨(some 12), none, (.mv (.t 2)), 0⟩,
   ⟨(some 13), none, (.mx [(.t 11), (.t 12)]), 0⟩,
   ⟨(some 14), none, (.bld (.pb [(.int .i64 0), (.int .i64 0)] 0 ff) [((0, 1), (.t 10)), ((1, 1), (.t 13))]), 0⟩,
   ⟨(some 15), none, (.call (.c (.s (.fn 78 []))) [(.t 7), (.t 14)]), 0⟩,
   ⟨(some 6), none, (.mv (.t 15)), 8⟩] 8)
 .ret)), [(.t 6)]⟩

/-- girouette/girouetteref03.arrows -/
def x84 : XFn := ⟨34, (.seq (.reg [⟨(some 4), none, (.mv (.c (.s .nils))), 0⟩] 0)
 (.seq (.reg [⟨(some 5), none, (.mv (.c (.s .nils))), 0⟩] 0)
 (.seq (.seq (.reg [⟨(some 6), none, (.mv (.c (.s (.int .i64 0)))), 0⟩] 0)
  (.block 0 (.loop (.seq (.seq (.reg [⟨(some 8), none, (.mv (.t 6)), 0⟩,
       ⟨(some 9), none, (.mv (.t 0)), 0⟩,
       ⟨(some 10), none, (.bin .lss (.t 8) (.t 9)), 0⟩] 0)
     (.cond (.t 10)
      .skip
      (.exit 0)))
    (.seq (.block 1 (.seq (.reg [⟨(some 7), none, (.mv (.c (.s (.int .i64 0)))), 0⟩] 0)
      (.block 2 (.loop (.seq (.seq (.reg [⟨(some 13), none, (.mv (.t 7)), 0⟩,
           ⟨(some 14), none, (.mv (.t 0)), 0⟩,
           ⟨(some 15), none, (.bin .lss (.t 13) (.t 14)), 0⟩] 0)
         (.cond (.t 15)
          .skip
          (.exit 2)))
        (.seq (.block 3 (.seq (.reg [⟨(some 18), none, (.mv (.t 6)), 0⟩,
            ⟨(some 19), none, (.mv (.t 7)), 0⟩,
            ⟨(some 20), none, (.bin .neq (.t 18) (.t 19)), 0⟩,
            ⟨(some 21), none, (.mv (.t 20)), 0⟩,
            ⟨(some 22), (some (21, true)), (.mv (.t 1)), 0⟩,
            ⟨(some 23), (some (21, true)), (.mv (.t 6)), 0⟩,
            ⟨(some 24), (some (21, true)), (.mv (.t 7)), 0⟩,
            ⟨(some 25), (some (21, true)), (.call (.c (.s (.fn 83 []))) [(.t 22), (.t 23), (.t 24)]), 0⟩,
            ⟨(some 26), none, (.pick (.t 21) (.t 25) (.c (.s (.bool false)))), 8⟩] 8)
          (.cond (.t 26)
           (.reg [⟨(some 27), none, (.mv (.t 5)), 0⟩,
            ⟨(some 28), none, (.mv (.t 6)), 0⟩,
            ⟨(some 29), none, (.mv (.t 7)), 0⟩,
            ⟨(some 30), none, (.bld (.pb [(.int .i64 0), (.int .i64 0)] 0 ff) [((0, 1), (.t 28)), ((1, 1), (.t 29))]), 0⟩,
            ⟨(some 31), none, (.bsl 38 .i64 2 1 [(0, (.t 30))]), 0⟩,
            ⟨(some 32), none, (.app 38 .i64 2 (.t 27) (.t 31)), 1⟩,
            ⟨(some 5), none, (.mv (.t 32)), 2⟩] 2)
           .skip)))
        (.reg [⟨(some 16), none, (.mv (.t 7)), 0⟩,
         ⟨(some 17), none, (.bin .add (.t 16) (.c (.s (.int .i64 1)))), 0⟩,
         ⟨(some 7), none, (.mv (.t 17)), 0⟩] 0)))))))
    (.reg [⟨(some 11), none, (.mv (.t 6)), 0⟩,
     ⟨(some 12), none, (.bin .add (.t 11) (.c (.s (.int .i64 1)))), 0⟩,
     ⟨(some 6), none, (.mv (.t 12)), 0⟩] 0))))))
 (.seq (.reg [⟨(some 33), none, (.mv (.t 5)), 0⟩,
   ⟨(some 4), none, (.mv (.t 33)), 0⟩] 0)
 .ret)))), [(.t 4)]⟩

/-- girouette/girouetteref03.Class -/
def x85 : XFn := ⟨111, (.seq (.reg [⟨(some 5), none, (.box 38 (.t 2)), 0⟩,
   ⟨(some 6), none, (.mv (.c (.s .nils))), 1⟩,
   ⟨(some 7), none, (.mv (.c (.s .nils))), 1⟩] 1)
 (.seq (.reg [⟨(some 20), none, (.mv (.t 0)), 0⟩,
   ⟨(some 21), none, (.mv (.t 1)), 0⟩,
   ⟨(some 22), none, (.call (.c (.s (.fn 84 []))) [(.t 20), (.t 21)]), 0⟩,
   ⟨(some 8), none, (.mv (.t 22)), 8⟩] 8)
 (.seq (.reg [⟨(some 23), none, (.mmk (.ints 2) .int1), 0⟩,
   ⟨(some 24), none, (.ld (.many 2 0) (.t 5)), 1⟩,
   ⟨none, none, (.mupd (.ints 2) .int1 (.t 23) (.t 24) (.c (.s (.int .i64 0)))), 1⟩,
   ⟨(some 25), none, (.mv (.t 23)), 1⟩,
   ⟨(some 9), none, (.mv (.t 25)), 1⟩] 1)
 (.seq (.reg [⟨(some 26), none, (.ld (.many 2 0) (.t 5)), 0⟩,
   ⟨(some 27), none, (.bsl 38 .i64 2 1 [(0, (.t 26))]), 0⟩,
   ⟨(some 10), none, (.mv (.t 27)), 1⟩] 1)
 (.seq (.seq (.reg [⟨(some 11), none, (.mv (.c (.s (.int .i64 0)))), 0⟩] 0)
  (.block 0 (.loop (.seq (.seq (.reg [⟨(some 28), none, (.mv (.t 11)), 0⟩,
       ⟨(some 29), none, (.mv (.t 10)), 0⟩,
       ⟨(some 30), none, (.len (.t 29)), 0⟩,
       ⟨(some 31), none, (.bin .lss (.t 28) (.t 30)), 0⟩] 0)
     (.cond (.t 31)
      .skip
      (.exit 0)))
    (.seq (.block 1 (.seq (.reg [⟨(some 12), none, (.mv (.c (.s (.int .i64 0)))), 0⟩] 0)
      (.block 2 (.loop (.seq (.seq (.reg [⟨(some 34), none, (.mv (.t 12)), 0⟩,
           ⟨(some 35), none, (.mv (.t 8)), 0⟩,
           ⟨(some 36), none, (.len (.t 35)), 0⟩,
           ⟨(some 37), none, (.bin .lss (.t 34) (.t 36)), 0⟩] 0)
         (.cond (.t 37)
          .skip
          (.exit 2)))
        (.seq (.block 3 (.seq (.reg [⟨(some 41), none, (.mv (.t 9)), 0⟩,
            ⟨(some 42), none, (.mv (.t 8)), 0⟩,
            ⟨(some 43), none, (.mv (.t 12)), 0⟩,
            ⟨(some 44), none, (.iadS 2 (.t 42) (.t 43)), 0⟩,
            ⟨(some 45), none, (.ld (.many 2 0) (.t 44)), 0⟩,
            ⟨(some 46), none, (.lkup (.ints 2) .int1 true (.t 41) (.t 45)), 0⟩,
            ⟨(some 40), none, (.mv (.t 46)), 0⟩,
            ⟨(some 47), none, (.extr (.t 40) 0), 0⟩,
            ⟨(some 48), none, (.extr (.t 40) 1), 0⟩,
            ⟨(some 13), none, (.mv (.t 47)), 0⟩,
            ⟨(some 14), none, (.mv (.t 48)), 0⟩] 0)
          (.seq (.regD [⟨(some 49), none, (.mv (.t 14)), 0⟩,
            ⟨(some 50), none, (.not (.t 49)), 0⟩,
            ⟨(some 51), none, (.mv (.t 50)), 0⟩,
            ⟨(some 52), (some (51, true)), (.mv (.t 1)), 0⟩,
            ⟨(some 53), (some (51, true)), (.mv (.t 10)), 0⟩,
            ⟨(some 54), (some (51, true)), (.mv (.t 11)), 0⟩,
            ⟨(some 55), (some (51, true)), (.iadS 2 (.t 53) (.t 54)), 0⟩,
            ⟨(some 56), (some (51, true)), (.ld (.many 2 0) (.t 55)), 0⟩,
            ⟨(some 57), (some (51, true)), (.mv (.t 8)), 0⟩,
            ⟨(some 58), (some (51, true)), (.mv (.t 12)), 0⟩,
            ⟨(some 59), (some (51, true)), (.iadS 2 (.t 57) (.t 58)), 0⟩,
            ⟨(some 60), (some (51, true)), (.ld (.many 2 0) (.t 59)), 0⟩,
            ⟨(some 61), (some (51, true)), (.call (.c (.s (.fn 108 []))) [(.t 52), (.t 56), (.t 60)]), 0⟩,
            ⟨(some 62), none, (.pick (.t 51) (.t 61) (.c (.s (.bool false)))), 8⟩] 8 [])
          (.cond (.t 62)
           (.seq (.regD [⟨(some 63), none, (.mv (.t 9)), 0⟩,
             ⟨(some 64), none, (.mv (.t 8)), 0⟩,
             ⟨(some 65), none, (.mv (.t 12)), 0⟩,
             ⟨(some 66), none, (.iadS 2 (.t 64) (.t 65)), 0⟩,
             ⟨(some 67), none, (.ld (.many 2 0) (.t 66)), 0⟩,
             ⟨(some 68), none, (.mv (.t 9)), 0⟩,
             ⟨(some 69), none, (.mv (.t 10)), 0⟩,
             ⟨(some 70), none, (.mv (.t 11)), 0⟩,
             ⟨(some 71), none, (.iadS 2 (.t 69) (.t 70)), 0⟩,
             ⟨(some 72), none, (.ld (.many 2 0) (.t 71)), 0⟩,
             ⟨(some 73), none, (.lkup (.ints 2) .int1 false (.t 68) (.t 72)), 0⟩,
             ⟨(some 74), none, (.bin .add (.t 73) (.c (.s (.int .i64 1)))), 0⟩,
             ⟨none, none, (.mupd (.ints 2) .int1 (.t 63) (.t 67) (.t 74)), 0⟩] 0 [])
           (.reg [⟨(some 75), none, (.mv (.t 10)), 0⟩,
            ⟨(some 76), none, (.mv (.t 8)), 0⟩,
            ⟨(some 77), none, (.mv (.t 12)), 0⟩,
            ⟨(some 78), none, (.iadS 2 (.t 76) (.t 77)), 0⟩,
            ⟨(some 79), none, (.ld (.many 2 0) (.t 78)), 0⟩,
            ⟨(some 80), none, (.bsl 38 .i64 2 1 [(0, (.t 79))]), 0⟩,
            ⟨(some 81), none, (.app 38 .i64 2 (.t 75) (.t 80)), 1⟩,
            ⟨(some 10), none, (.mv (.t 81)), 2⟩] 2))
           .skip))))
        (.reg [⟨(some 38), none, (.mv (.t 12)), 0⟩,
         ⟨(some 39), none, (.bin .add (.t 38) (.c (.s (.int .i64 1)))), 0⟩,
         ⟨(some 12), none, (.mv (.t 39)), 0⟩] 0)))))))
    (.reg [⟨(some 32), none, (.mv (.t 11)), 0⟩,
     ⟨(some 33), none, (.bin .add (.t 32) (.c (.s (.int .i64 1)))), 0⟩,
     ⟨(some 11), none, (.mv (.t 33)), 0⟩] 0))))))
 (.seq (.reg [⟨(some 15), none, (.mv (.c (.s .nils))), 0⟩] 0)
 (.seq (.reg [⟨(some 16), none, (.mv (.c (.s .nils))), 0⟩] 0)
 (.seq (.seq (.reg [⟨(some 17), none, (.mv (.c (.s (.int .i64 0)))), 0⟩] 0)
  (.block 4 (.loop (.seq (.seq (.reg [⟨(some 82), none, (.mv (.t 17)), 0⟩,
       ⟨(some 83), none, (.mv (.t 8)), 0⟩,
       ⟨(some 84), none, (.len (.t 83)), 0⟩,
       ⟨(some 85), none, (.bin .lss (.t 82) (.t 84)), 0⟩] 0)
     (.cond (.t 85)
      .skip
      (.exit 4)))
    (.seq (.block 5 (.seq (.reg [⟨(some 89), none, (.mv (.t 9)), 0⟩,
        ⟨(some 90), none, (.mv (.t 8)), 0⟩,
        ⟨(some 91), none, (.mv (.t 17)), 0⟩,
        ⟨(some 92), none, (.iadS 2 (.t 90) (.t 91)), 0⟩,
        ⟨(some 93), none, (.ld (.many 2 0) (.t 92)), 0⟩,
        ⟨(some 94), none, (.lkup (.ints 2) .int1 true (.t 89) (.t 93)), 0⟩,
        ⟨(some 88), none, (.mv (.t 94)), 0⟩,
        ⟨(some 95), none, (.extr (.t 88) 0), 0⟩,
        ⟨(some 96), none, (.extr (.t 88) 1), 0⟩,
        ⟨(some 18), none, (.mv (.t 95)), 0⟩,
        ⟨(some 19), none, (.mv (.t 96)), 0⟩] 0)
      (.seq (.reg [⟨(some 97), none, (.mv (.t 19)), 0⟩] 0)
      (.cond (.t 97)
       (.seq (.reg [⟨(some 98), none, (.mv (.t 15)), 0⟩,
         ⟨(some 99), none, (.mv (.t 8)), 0⟩,
         ⟨(some 100), none, (.mv (.t 17)), 0⟩,
         ⟨(some 101), none, (.iadS 2 (.t 99) (.t 100)), 0⟩,
         ⟨(some 102), none, (.ld (.many 2 0) (.t 101)), 0⟩,
         ⟨(some 103), none, (.bsl 38 .i64 2 1 [(0, (.t 102))]), 0⟩,
         ⟨(some 104), none, (.app 38 .i64 2 (.t 98) (.t 103)), 1⟩,
         ⟨(some 15), none, (.mv (.t 104)), 2⟩] 2)
       (.reg [⟨(some 105), none, (.mv (.t 16)), 0⟩,
        ⟨(some 106), none, (.mv (.t 18)), 0⟩,
        ⟨(some 107), none, (.bsl 3 .i64 1 1 [(0, (.t 106))]), 0⟩,
        ⟨(some 108), none, (.app 3 .i64 1 (.t 105) (.t 107)), 1⟩,
        ⟨(some 16), none, (.mv (.t 108)), 2⟩] 2))
       .skip))))
    (.reg [⟨(some 86), none, (.mv (.t 17)), 0⟩,
     ⟨(some 87), none, (.bin .add (.t 86) (.c (.s (.int .i64 1)))), 0⟩,
     ⟨(some 17), none, (.mv (.t 87)), 0⟩] 0))))))
 (.seq (.reg [⟨(some 109), none, (.mv (.t 15)), 0⟩,
   ⟨(some 110), none, (.mv (.t 16)), 0⟩,
   ⟨(some 6), none, (.mv (.t 109)), 0⟩,
   ⟨(some 7), none, (.mv (.t 110)), 0⟩] 0)
 .ret))))))))), [(.t 6), (.t 7)]⟩

/-- girouette/girouetteref03.before -/
def x86 : XFn := ⟨26, (.seq (.reg [⟨(some 6), none, (.mv (.c (.s (.bool false)))), 0⟩] 0)
 (.seq (.seq (.reg [⟨(some 7), none, (.mv (.c (.s (.int .i64 0)))), 0⟩] 0)
  (.block 0 (.loop (.seq (.seq (.reg [⟨(some 8), none, (.mv (.t 7)), 0⟩,
       ⟨(some 9), none, (.mv (.t 0)), 0⟩,
       ⟨(some 10), none, (.len (.t 9)), 0⟩,
       ⟨(some 11), none, (.bin .lss (.t 8) (.t 10)), 0⟩] 0)
     (.cond (.t 11)
      .skip
      (.exit 0)))
    (.seq (.block 1 (.seq (.seq (.reg [⟨(some 14), none, (.mv (.t 0)), 0⟩,
         ⟨(some 15), none, (.mv (.t 7)), 0⟩,
         ⟨(some 16), none, (.iadS 1 (.t 14) (.t 15)), 0⟩,
         ⟨(some 17), none, (.ld .one (.t 16)), 0⟩,
         ⟨(some 18), none, (.mv (.t 1)), 0⟩,
         ⟨(some 19), none, (.bin .eql (.t 17) (.t 18)), 0⟩] 0)
       (.cond (.t 19)
        (.seq (.reg [⟨(some 6), none, (.mv (.c (.s (.bool true)))), 0⟩] 0)
        .ret)
        .skip))
      (.seq (.reg [⟨(some 20), none, (.mv (.t 0)), 0⟩,
        ⟨(some 21), none, (.mv (.t 7)), 0⟩,
        ⟨(some 22), none, (.iadS 1 (.t 20) (.t 21)), 0⟩,
        ⟨(some 23), none, (.ld .one (.t 22)), 0⟩,
        ⟨(some 24), none, (.mv (.t 2)), 0⟩,
        ⟨(some 25), none, (.bin .eql (.t 23) (.t 24)), 0⟩] 0)
      (.cond (.t 25)
       (.seq (.reg [⟨(some 6), none, (.mv (.c (.s (.bool false)))), 0⟩] 0)
       .ret)
       .skip))))
    (.reg [⟨(some 12), none, (.mv (.t 7)), 0⟩,
     ⟨(some 13), none, (.bin .add (.t 12) (.c (.s (.int .i64 1)))), 0⟩,
     ⟨(some 7), none, (.mv (.t 13)), 0⟩] 0))))))
 (.seq (.reg [⟨(some 6), none, (.mv (.c (.s (.bool false)))), 0⟩] 0)
 .ret))), [(.t 6)]⟩

/-- (*girouette/orders.graph).has -/
def x87 : XFn := ⟨35, (.seq (.reg [⟨(some 3), none, (.box 77 (.t 1)), 0⟩,
   ⟨(some 4), none, (.mv (.c (.s (.bool false)))), 1⟩] 1)
 (.seq (.regD [⟨(some 5), none, (.fad 0 (.t 3)), 0⟩,
   ⟨(some 6), none, (.ld .one (.t 5)), 0⟩,
   ⟨(some 7), none, (.fad 1 (.t 3)), 0⟩,
   ⟨(some 8), none, (.ld .one (.t 7)), 0⟩,
   ⟨(some 9), none, (.mn [(.t 6), (.t 8)]), 0⟩,
   ⟨(some 10), none, (.bin .geq (.t 9) (.c (.s (.int .i64 0)))), 0⟩,
   ⟨(some 11), none, (.mv (.t 10)), 0⟩,
   ⟨(some 12), (some (11, true)), (.fad 0 (.t 3)), 0⟩,
   ⟨(some 13), (some (11, true)), (.ld .one (.t 12)), 0⟩,
   ⟨(some 14), (some (11, true)), (.fad 1 (.t 3)), 0⟩,
   ⟨(some 15), (some (11, true)), (.ld .one (.t 14)), 0⟩,
   ⟨(some 16), (some (11, true)), (.mx [(.t 13), (.t 15)]), 0⟩,
   ⟨(some 17), (some (11, true)), (.mv (.t 0)), 0⟩,
   ⟨(some 18), (some (11, true)), (.nck (.t 17)), 0⟩,
   ⟨(some 19), (some (11, true)), (.fad 0 (.t 18)), 0⟩,
   ⟨(some 20), (some (11, true)), (.ld .one (.t 19)), 0⟩,
   ⟨(some 21), (some (11, true)), (.bin .lss (.t 16) (.t 20)), 0⟩,
   ⟨(some 22), none, (.pick (.t 11) (.t 21) (.c (.s (.bool false)))), 0⟩,
   ⟨(some 23), none, (.mv (.t 22)), 0⟩,
   ⟨(some 24), (some (23, true)), (.mv (.t 0)), 0⟩,
   ⟨(some 25), (some (23, true)), (.fad 0 (.t 3)), 0⟩,
   ⟨(some 26), (some (23, true)), (.ld .one (.t 25)), 0⟩,
   ⟨(some 27), (some (23, true)), (.fad 1 (.t 3)), 0⟩,
   ⟨(some 28), (some (23, true)), (.ld .one (.t 27)), 0⟩,
   ⟨(some 29), (some (23, true)), (.nck (.t 24)), 0⟩,
   ⟨(some 30), (some (23, true)), (.fad 1 (.t 29)), 0⟩,
   ⟨(some 31), (some (23, true)), (.iad 7 7 (.t 30) (.t 26)), 0⟩,
   ⟨(some 32), (some (23, true)), (.iad 7 1 (.t 31) (.t 28)), 0⟩,
   ⟨(some 33), (some (23, true)), (.ld .one (.t 32)), 0⟩,
   ⟨(some 34), none, (.pick (.t 23) (.t 33) (.c (.s (.bool false)))), 0⟩,
   ⟨(some 4), none, (.mv (.t 34)), 0⟩] 0 [])
 .ret)), [(.t 4)]⟩

/-- (*girouette/orders.graph).forced -/
def x88 : XFn := ⟨6, (.seq (.reg [⟨(some 2), none, (.box 64 (.t 0)), 0⟩,
   ⟨(some 3), none, (.box 77 (.t 1)), 1⟩,
   ⟨(some 4), none, (.mv (.c (.s .nilf))), 2⟩] 2)
 (.seq (.reg [⟨(some 5), none, (.mkf 109 [(.t 3), (.t 2)]), 0⟩,
   ⟨(some 4), none, (.mv (.t 5)), 0⟩] 0)
 .ret)), [(.t 4)]⟩

/-- girouette/orders.list -/
def x89 : XFn := ⟨21, (.seq (.reg [⟨(some 2), none, (.mv (.c (.s .nils))), 0⟩] 0)
 (.seq (.reg [⟨(some 6), none, (.mv (.t 0)), 0⟩,
   ⟨(some 7), none, (.call (.c (.s (.fn 110 []))) [(.t 6), (.c (.s (.fn 111 [])))]), 0⟩] 8)
 (.seq (.reg [⟨(some 3), none, (.mv (.c (.s .nils))), 0⟩] 0)
 (.seq (.seq (.reg [⟨(some 8), none, (.mv (.t 0)), 0⟩,
    ⟨(some 9), none, (.len (.t 8)), 0⟩,
    ⟨(some 10), none, (.mv (.c (.s (.int .i64 0)))), 0⟩] 0)
  (.block 0 (.loop (.seq (.reg [⟨(some 11), none, (.bin .lss (.t 10) (.t 9)), 0⟩] 0)
    (.seq (.cond (.t 11)
      .skip
      (.exit 0))
    (.seq (.block 1 (.seq (.reg [⟨(some 12), none, (.iadS 2 (.t 8) (.t 10)), 0⟩,
        ⟨(some 13), none, (.ld (.many 2 0) (.t 12)), 0⟩,
        ⟨(some 5), none, (.alloc 77 (.pb [(.int .i64 0), (.int .i64 0)] 0 ff)), 0⟩,
        ⟨none, none, (.st (.many 2 0) (.t 5) (.t 13)), 1⟩] 1)
      (.reg [⟨(some 14), none, (.mv (.t 3)), 0⟩,
       ⟨(some 15), none, (.ld (.many 2 0) (.t 5)), 0⟩,
       ⟨(some 16), none, (.call (.c (.s (.fn 92 []))) [(.t 15)]), 0⟩,
       ⟨(some 17), none, (.bsl 38 .i64 2 1 [(0, (.t 16))]), 8⟩,
       ⟨(some 18), none, (.app 38 .i64 2 (.t 14) (.t 17)), 9⟩,
       ⟨(some 3), none, (.mv (.t 18)), 10⟩] 10)))
    (.reg [⟨(some 19), none, (.bin .add (.t 10) (.c (.s (.int .i64 1)))), 0⟩,
     ⟨(some 10), none, (.mv (.t 19)), 0⟩] 0)))))))
 (.seq (.reg [⟨(some 20), none, (.mv (.t 3)), 0⟩,
   ⟨(some 2), none, (.mv (.t 20)), 0⟩] 0)
 .ret))))), [(.t 2)]⟩

/-- (girouette/orders.arrow).turned -/
def x90 : XFn := ⟨8, (.seq (.reg [⟨(some 1), none, (.box 77 (.t 0)), 0⟩,
   ⟨(some 2), none, (.alloc 77 (.pb [(.int .i64 0), (.int .i64 0)] 0 ff)), 1⟩] 2)
 (.seq (.reg [⟨(some 3), none, (.fad 1 (.t 1)), 0⟩,
   ⟨(some 4), none, (.ld .one (.t 3)), 0⟩,
   ⟨(some 5), none, (.fad 0 (.t 1)), 0⟩,
   ⟨(some 6), none, (.ld .one (.t 5)), 0⟩,
   ⟨(some 7), none, (.bld (.pb [(.int .i64 0), (.int .i64 0)] 0 ff) [((0, 1), (.t 4)), ((1, 1), (.t 6))]), 0⟩,
   ⟨none, none, (.st (.many 2 0) (.t 2) (.t 7)), 0⟩] 0)
 .ret)), [(.cell 2 (.many 2 0))]⟩

/-- slices.Reverse[[]girouette/orders.arrow,girouette/orders.arrow] -/
def x91 : XFn := ⟨28, (.seq (.reg [⟨(some 4), none, (.mv (.t 0)), 0⟩,
   ⟨(some 5), none, (.len (.t 4)), 0⟩,
   ⟨(some 6), none, (.bin .sub (.t 5) (.c (.s (.int .i64 1)))), 0⟩,
   ⟨(some 2), none, (.mv (.c (.s (.int .i64 0)))), 0⟩,
   ⟨(some 3), none, (.mv (.t 6)), 0⟩] 0)
 (.block 0 (.loop (.seq (.seq (.reg [⟨(some 7), none, (.mv (.t 2)), 0⟩,
      ⟨(some 8), none, (.mv (.t 3)), 0⟩,
      ⟨(some 9), none, (.bin .lss (.t 7) (.t 8)), 0⟩] 0)
    (.cond (.t 9)
     .skip
     (.exit 0)))
   (.seq (.block 1 (.regD [⟨(some 14), none, (.mv (.t 0)), 0⟩,
      ⟨(some 15), none, (.mv (.t 2)), 0⟩,
      ⟨(some 16), none, (.mv (.t 0)), 0⟩,
      ⟨(some 17), none, (.mv (.t 3)), 0⟩,
      ⟨(some 18), none, (.mv (.t 0)), 0⟩,
      ⟨(some 19), none, (.mv (.t 3)), 0⟩,
      ⟨(some 20), none, (.iadS 2 (.t 18) (.t 19)), 0⟩,
      ⟨(some 21), none, (.ld (.many 2 0) (.t 20)), 0⟩,
      ⟨(some 22), none, (.mv (.t 0)), 0⟩,
      ⟨(some 23), none, (.mv (.t 2)), 0⟩,
      ⟨(some 24), none, (.iadS 2 (.t 22) (.t 23)), 0⟩,
      ⟨(some 25), none, (.ld (.many 2 0) (.t 24)), 0⟩,
      ⟨(some 26), none, (.iadS 2 (.t 14) (.t 15)), 0⟩,
      ⟨none, none, (.st (.many 2 0) (.t 26) (.t 21)), 0⟩,
      ⟨(some 27), none, (.iadS 2 (.t 16) (.t 17)), 0⟩,
      ⟨none, none, (.st (.many 2 0) (.t 27) (.t 25)), 0⟩] 0 []))
   (.reg [⟨(some 10), none, (.mv (.t 2)), 0⟩,
    ⟨(some 11), none, (.bin .add (.t 10) (.c (.s (.int .i64 1)))), 0⟩,
    ⟨(some 12), none, (.mv (.t 3)), 0⟩,
    ⟨(some 13), none, (.bin .sub (.t 12) (.c (.s (.int .i64 1)))), 0⟩,
    ⟨(some 2), none, (.mv (.t 11)), 0⟩,
    ⟨(some 3), none, (.mv (.t 13)), 0⟩] 0)))))), []⟩

/-- (girouette/orders.arrow).told -/
def x92 : XFn := ⟨8, (.seq (.reg [⟨(some 1), none, (.box 77 (.t 0)), 0⟩,
   ⟨(some 2), none, (.alloc 38 (.pb [(.int .i64 0), (.int .i64 0)] 0 ff)), 1⟩] 2)
 (.seq (.reg [⟨(some 3), none, (.fad 0 (.t 1)), 0⟩,
   ⟨(some 4), none, (.ld .one (.t 3)), 0⟩,
   ⟨(some 5), none, (.fad 1 (.t 1)), 0⟩,
   ⟨(some 6), none, (.ld .one (.t 5)), 0⟩,
   ⟨(some 7), none, (.bld (.pb [(.int .i64 0), (.int .i64 0)] 0 ff) [((0, 1), (.t 4)), ((1, 1), (.t 6))]), 0⟩,
   ⟨none, none, (.st (.many 2 0) (.t 2) (.t 7)), 0⟩] 0)
 .ret)), [(.cell 2 (.many 2 0))]⟩

/-- slices.Compare[[]int,int] -/
def x93 : XFn := ⟨36, (.seq (.reg [⟨(some 4), none, (.mv (.c (.s (.int .i64 0)))), 0⟩] 0)
 (.seq (.seq (.reg [⟨(some 9), none, (.mv (.t 0)), 0⟩,
    ⟨(some 10), none, (.len (.t 9)), 0⟩,
    ⟨(some 11), none, (.mv (.c (.s (.int .i64 0)))), 0⟩] 0)
  (.block 0 (.loop (.seq (.reg [⟨(some 12), none, (.bin .lss (.t 11) (.t 10)), 0⟩] 0)
    (.seq (.cond (.t 12)
      .skip
      (.exit 0))
    (.seq (.block 1 (.seq (.reg [⟨(some 13), none, (.mv (.t 11)), 0⟩,
        ⟨(some 14), none, (.iadS 1 (.t 9) (.t 11)), 0⟩,
        ⟨(some 15), none, (.ld .one (.t 14)), 0⟩,
        ⟨(some 5), none, (.mv (.t 13)), 0⟩,
        ⟨(some 6), none, (.mv (.t 15)), 0⟩] 0)
      (.seq (.seq (.reg [⟨(some 16), none, (.mv (.t 5)), 0⟩,
         ⟨(some 17), none, (.mv (.t 1)), 0⟩,
         ⟨(some 18), none, (.len (.t 17)), 0⟩,
         ⟨(some 19), none, (.bin .geq (.t 16) (.t 18)), 0⟩] 0)
       (.cond (.t 19)
        (.seq (.reg [⟨(some 4), none, (.mv (.c (.s (.int .i64 1)))), 0⟩] 0)
        .ret)
        .skip))
      (.seq (.reg [⟨(some 20), none, (.mv (.t 1)), 0⟩,
        ⟨(some 21), none, (.mv (.t 5)), 0⟩,
        ⟨(some 22), none, (.iadS 1 (.t 20) (.t 21)), 0⟩,
        ⟨(some 23), none, (.ld .one (.t 22)), 0⟩,
        ⟨(some 7), none, (.mv (.t 23)), 0⟩] 0)
      (.seq (.reg [⟨(some 24), none, (.mv (.t 6)), 0⟩,
        ⟨(some 25), none, (.mv (.t 7)), 0⟩,
        ⟨(some 26), none, (.call (.c (.s (.fn 112 []))) [(.t 24), (.t 25)]), 0⟩,
        ⟨(some 8), none, (.mv (.t 26)), 8⟩] 8)
      (.seq (.reg [⟨(some 27), none, (.mv (.t 8)), 0⟩,
        ⟨(some 28), none, (.bin .neq (.t 27) (.c (.s (.int .i64 0)))), 0⟩] 0)
      (.cond (.t 28)
       (.seq (.reg [⟨(some 29), none, (.mv (.t 8)), 0⟩,
         ⟨(some 4), none, (.mv (.t 29)), 0⟩] 0)
       .ret)
       .skip)))))))
    (.reg [⟨(some 30), none, (.bin .add (.t 11) (.c (.s (.int .i64 1)))), 0⟩,
     ⟨(some 11), none, (.mv (.t 30)), 0⟩] 0)))))))
 (.seq (.seq (.reg [⟨(some 31), none, (.mv (.t 0)), 0⟩,
    ⟨(some 32), none, (.len (.t 31)), 0⟩,
    ⟨(some 33), none, (.mv (.t 1)), 0⟩,
    ⟨(some 34), none, (.len (.t 33)), 0⟩,
    ⟨(some 35), none, (.bin .lss (.t 32) (.t 34)), 0⟩] 0)
  (.cond (.t 35)
   (.seq (.reg [⟨(some 4), none, (.mv (.c (.s (.int .i64 (-1))))), 0⟩] 0)
   .ret)
   .skip))
 (.seq (.reg [⟨(some 4), none, (.mv (.c (.s (.int .i64 0)))), 0⟩] 0)
 .ret)))), [(.t 4)]⟩

/-- girouette/orders.common -/
def x94 : XFn := ⟨76, (.seq (.reg [⟨(some 3), none, (.box 48 (.t 1)), 0⟩,
   ⟨(some 4), none, (.alloc 70 (.pb [] 49 ff)), 1⟩,
   ⟨(some 5), none, (.mv (.c (.s (.int .i64 0)))), 2⟩] 2)
 (.seq (.reg [⟨(some 6), none, (.alloc 70 (.pb [] 49 ff)), 0⟩] 1)
 (.seq (.seq (.reg [⟨(some 13), none, (.mv (.t 0)), 0⟩,
    ⟨(some 14), none, (.bin .lss (.t 13) (.c (.s (.int .i64 1)))), 0⟩,
    ⟨(some 15), none, (.mv (.t 14)), 0⟩,
    ⟨(some 16), (some (15, false)), (.mv (.t 0)), 0⟩,
    ⟨(some 17), (some (15, false)), (.bin .gtr (.t 16) (.c (.s (.int .i64 7)))), 0⟩,
    ⟨(some 18), none, (.pick (.t 15) (.c (.s (.bool true))) (.t 17)), 0⟩] 0)
  (.cond (.t 18)
   (.seq (.reg [⟨(some 19), none, (.ld (.many 0 49) (.t 6)), 0⟩,
     ⟨none, none, (.st (.many 0 49) (.t 4) (.t 19)), 0⟩,
     ⟨(some 5), none, (.mv (.c (.s (.int .i64 1)))), 0⟩] 0)
   .ret)
   .skip))
 (.seq (.reg [⟨(some 21), none, (.mv (.t 0)), 0⟩,
   ⟨(some 22), none, (.iad 2 1 (.t 3) (.c (.s (.int .i64 0)))), 0⟩,
   ⟨(some 23), none, (.ld .one (.t 22)), 0⟩,
   ⟨(some 24), none, (.call (.c (.s (.fn 113 []))) [(.t 21), (.t 23)]), 0⟩,
   ⟨(some 20), none, (.mv (.t 24)), 8⟩,
   ⟨(some 25), none, (.extr (.t 20) 0), 8⟩,
   ⟨(some 26), none, (.extr (.t 20) 1), 8⟩,
   ⟨(some 7), none, (.mv (.t 25)), 8⟩,
   ⟨(some 8), none, (.mv (.t 26)), 8⟩] 8)
 (.seq (.reg [⟨(some 28), none, (.mv (.t 0)), 0⟩,
   ⟨(some 29), none, (.iad 2 1 (.t 3) (.c (.s (.int .i64 1)))), 0⟩,
   ⟨(some 30), none, (.ld .one (.t 29)), 0⟩,
   ⟨(some 31), none, (.call (.c (.s (.fn 113 []))) [(.t 28), (.t 30)]), 0⟩,
   ⟨(some 27), none, (.mv (.t 31)), 8⟩,
   ⟨(some 32), none, (.extr (.t 27) 0), 8⟩,
   ⟨(some 33), none, (.extr (.t 27) 1), 8⟩,
   ⟨(some 9), none, (.mv (.t 32)), 8⟩,
   ⟨(some 10), none, (.mv (.t 33)), 8⟩] 8)
 (.seq (.seq (.reg [⟨(some 34), none, (.mv (.t 8)), 0⟩,
    ⟨(some 35), none, (.not (.t 34)), 0⟩,
    ⟨(some 36), none, (.mv (.t 35)), 0⟩,
    ⟨(some 37), (some (36, false)), (.mv (.t 10)), 0⟩,
    ⟨(some 38), (some (36, false)), (.not (.t 37)), 0⟩,
    ⟨(some 39), none, (.pick (.t 36) (.c (.s (.bool true))) (.t 38)), 0⟩] 0)
  (.cond (.t 39)
   (.seq (.reg [⟨(some 40), none, (.ld (.many 0 49) (.t 6)), 0⟩,
     ⟨none, none, (.st (.many 0 49) (.t 4) (.t 40)), 0⟩,
     ⟨(some 5), none, (.mv (.c (.s (.int .i64 1)))), 0⟩] 0)
   .ret)
   .skip))
 (.seq (.seq (.reg [⟨(some 41), none, (.mv (.t 0)), 0⟩,
    ⟨(some 42), none, (.mv (.c (.s (.int .i64 0)))), 0⟩] 0)
  (.block 0 (.loop (.seq (.reg [⟨(some 43), none, (.bin .lss (.t 42) (.t 41)), 0⟩] 0)
    (.seq (.cond (.t 43)
      .skip
      (.exit 0))
    (.seq (.block 1 (.seq (.reg [⟨(some 44), none, (.mv (.t 42)), 0⟩,
        ⟨(some 11), none, (.mv (.t 44)), 0⟩] 0)
      (.seq (.reg [⟨(some 45), none, (.mv (.t 0)), 0⟩,
        ⟨(some 46), none, (.mv (.c (.s (.int .i64 0)))), 0⟩] 0)
      (.block 2 (.loop (.seq (.reg [⟨(some 47), none, (.bin .lss (.t 46) (.t 45)), 0⟩] 0)
        (.seq (.cond (.t 47)
          .skip
          (.exit 2))
        (.seq (.block 3 (.seq (.reg [⟨(some 48), none, (.mv (.t 46)), 0⟩,
            ⟨(some 12), none, (.mv (.t 48)), 0⟩] 0)
          (.regD [⟨(some 49), none, (.mv (.t 11)), 0⟩,
           ⟨(some 50), none, (.mv (.t 12)), 0⟩,
           ⟨(some 51), none, (.mv (.t 7)), 0⟩,
           ⟨(some 52), none, (.mv (.t 11)), 0⟩,
           ⟨(some 53), none, (.iadS 1 (.t 51) (.t 52)), 0⟩,
           ⟨(some 54), none, (.ld .one (.t 53)), 0⟩,
           ⟨(some 55), none, (.mv (.t 7)), 0⟩,
           ⟨(some 56), none, (.mv (.t 12)), 0⟩,
           ⟨(some 57), none, (.iadS 1 (.t 55) (.t 56)), 0⟩,
           ⟨(some 58), none, (.ld .one (.t 57)), 0⟩,
           ⟨(some 59), none, (.bin .lss (.t 54) (.t 58)), 0⟩,
           ⟨(some 60), none, (.mv (.t 59)), 0⟩,
           ⟨(some 61), (some (60, true)), (.mv (.t 9)), 0⟩,
           ⟨(some 62), (some (60, true)), (.mv (.t 11)), 0⟩,
           ⟨(some 63), (some (60, true)), (.iadS 1 (.t 61) (.t 62)), 0⟩,
           ⟨(some 64), (some (60, true)), (.ld .one (.t 63)), 0⟩,
           ⟨(some 65), (some (60, true)), (.mv (.t 9)), 0⟩,
           ⟨(some 66), (some (60, true)), (.mv (.t 12)), 0⟩,
           ⟨(some 67), (some (60, true)), (.iadS 1 (.t 65) (.t 66)), 0⟩,
           ⟨(some 68), (some (60, true)), (.ld .one (.t 67)), 0⟩,
           ⟨(some 69), (some (60, true)), (.bin .lss (.t 64) (.t 68)), 0⟩,
           ⟨(some 70), none, (.pick (.t 60) (.t 69) (.c (.s (.bool false)))), 0⟩,
           ⟨(some 71), none, (.iad 7 7 (.t 6) (.t 49)), 0⟩,
           ⟨(some 72), none, (.iad 7 1 (.t 71) (.t 50)), 0⟩,
           ⟨none, none, (.st .one (.t 72) (.t 70)), 0⟩] 0 [])))
        (.reg [⟨(some 73), none, (.bin .add (.t 46) (.c (.s (.int .i64 1)))), 0⟩,
         ⟨(some 46), none, (.mv (.t 73)), 0⟩] 0)))))))))
    (.reg [⟨(some 74), none, (.bin .add (.t 42) (.c (.s (.int .i64 1)))), 0⟩,
     ⟨(some 42), none, (.mv (.t 74)), 0⟩] 0)))))))
 (.seq (.reg [⟨(some 75), none, (.ld (.many 0 49) (.t 6)), 0⟩,
   ⟨none, none, (.st (.many 0 49) (.t 4) (.t 75)), 0⟩,
   ⟨(some 5), none, (.mv (.c (.s (.int .i64 0)))), 0⟩] 0)
 .ret)))))))), [(.cell 4 (.many 0 49)), (.t 5)]⟩

/-- (girouette/orders.relation).layers$1 -/
def x95 : XFn := ⟨25, (.seq (.reg [⟨(some 5), none, (.mv (.c (.s (.int .i64 0)))), 0⟩] 0)
 (.seq (.reg [⟨(some 6), none, (.mv (.c (.s (.int .i64 0)))), 0⟩] 0)
 (.seq (.seq (.reg [⟨(some 8), none, (.ld .one (.t 1)), 0⟩,
    ⟨(some 9), none, (.mv (.c (.s (.int .i64 0)))), 0⟩] 0)
  (.block 0 (.loop (.seq (.reg [⟨(some 10), none, (.bin .lss (.t 9) (.t 8)), 0⟩] 0)
    (.seq (.cond (.t 10)
      .skip
      (.exit 0))
    (.seq (.block 1 (.seq (.reg [⟨(some 11), none, (.mv (.t 9)), 0⟩,
        ⟨(some 7), none, (.mv (.t 11)), 0⟩] 0)
      (.seq (.reg [⟨(some 12), none, (.mv (.t 7)), 0⟩,
        ⟨(some 13), none, (.mv (.t 0)), 0⟩,
        ⟨(some 14), none, (.iad 7 7 (.t 2) (.t 12)), 0⟩,
        ⟨(some 15), none, (.iad 7 1 (.t 14) (.t 13)), 0⟩,
        ⟨(some 16), none, (.ld .one (.t 15)), 0⟩] 0)
      (.cond (.t 16)
       (.reg [⟨(some 17), none, (.mv (.t 6)), 0⟩,
        ⟨(some 18), none, (.ld .one (.t 3)), 0⟩,
        ⟨(some 19), none, (.mv (.t 7)), 0⟩,
        ⟨(some 20), none, (.call (.t 18) [(.t 19)]), 0⟩,
        ⟨(some 21), none, (.bin .add (.t 20) (.c (.s (.int .i64 1)))), 8⟩,
        ⟨(some 22), none, (.mx [(.t 17), (.t 21)]), 8⟩,
        ⟨(some 6), none, (.mv (.t 22)), 8⟩] 8)
       .skip))))
    (.reg [⟨(some 23), none, (.bin .add (.t 9) (.c (.s (.int .i64 1)))), 0⟩,
     ⟨(some 9), none, (.mv (.t 23)), 0⟩] 0)))))))
 (.seq (.reg [⟨(some 24), none, (.mv (.t 6)), 0⟩,
   ⟨(some 5), none, (.mv (.t 24)), 0⟩] 0)
 .ret)))), [(.t 5)]⟩

/-- slices.IndexFunc[[]int,int] -/
def x96 : XFn := ⟨19, (.seq (.reg [⟨(some 4), none, (.mv (.c (.s (.int .i64 0)))), 0⟩] 0)
 (.seq (.seq (.reg [⟨(some 6), none, (.mv (.t 0)), 0⟩,
    ⟨(some 7), none, (.len (.t 6)), 0⟩,
    ⟨(some 8), none, (.mv (.c (.s (.int .i64 0)))), 0⟩] 0)
  (.block 0 (.loop (.seq (.reg [⟨(some 9), none, (.bin .lss (.t 8) (.t 7)), 0⟩] 0)
    (.seq (.cond (.t 9)
      .skip
      (.exit 0))
    (.seq (.block 1 (.seq (.reg [⟨(some 10), none, (.mv (.t 8)), 0⟩,
        ⟨(some 5), none, (.mv (.t 10)), 0⟩] 0)
      (.seq (.reg [⟨(some 11), none, (.mv (.t 1)), 0⟩,
        ⟨(some 12), none, (.mv (.t 0)), 0⟩,
        ⟨(some 13), none, (.mv (.t 5)), 0⟩,
        ⟨(some 14), none, (.iadS 1 (.t 12) (.t 13)), 0⟩,
        ⟨(some 15), none, (.ld .one (.t 14)), 0⟩,
        ⟨(some 16), none, (.call (.t 11) [(.t 15)]), 0⟩] 8)
      (.cond (.t 16)
       (.seq (.reg [⟨(some 17), none, (.mv (.t 5)), 0⟩,
         ⟨(some 4), none, (.mv (.t 17)), 0⟩] 0)
       .ret)
       .skip))))
    (.reg [⟨(some 18), none, (.bin .add (.t 8) (.c (.s (.int .i64 1)))), 0⟩,
     ⟨(some 8), none, (.mv (.t 18)), 0⟩] 0)))))))
 (.seq (.reg [⟨(some 4), none, (.mv (.c (.s (.int .i64 (-1))))), 0⟩] 0)
 .ret))), [(.t 4)]⟩

/-- (girouette/shells.faces).greatest -/
def x97 : XFn := ⟨38, (.seq (.reg [⟨(some 1), none, (.box 95 (.t 0)), 0⟩,
   ⟨(some 2), none, (.mv (.c (.s .nils))), 1⟩] 1)
 (.scope (.seq (.reg [⟨(some 3), none, (.mv (.c (.s .nils))), 0⟩] 0)
  (.seq (.label 0)
  (.seq (.seq (.reg [⟨(some 8), none, (.ld (.many 0 64) (.t 1)), 0⟩,
     ⟨(some 9), none, (.mv (.c (.s (.int .i64 0)))), 0⟩] 0)
   (.block 0 (.loop (.seq (.reg [⟨(some 10), none, (.bin .lss (.t 9) (.c (.s (.int .i64 64)))), 0⟩] 0)
     (.seq (.cond (.t 10)
       .skip
       (.exit 0))
     (.seq (.block 1 (.seq (.reg [⟨(some 11), none, (.mv (.t 9)), 0⟩,
         ⟨(some 12), none, (.idx 64 1 .one (.t 8) (.t 9)), 0⟩,
         ⟨(some 4), none, (.mv (.t 11)), 0⟩,
         ⟨(some 5), none, (.mv (.t 12)), 0⟩] 0)
       (.seq (.seq (.reg [⟨(some 13), none, (.mv (.t 5)), 0⟩,
          ⟨(some 14), none, (.not (.t 13)), 0⟩] 0)
        (.cond (.t 14)
         (.exit 1)
         .skip))
       (.seq (.seq (.reg [⟨(some 15), none, (.mv (.c (.s (.int .i64 0)))), 0⟩] 0)
        (.block 2 (.loop (.seq (.reg [⟨(some 16), none, (.bin .lss (.t 15) (.c (.s (.int .i64 6)))), 0⟩] 0)
          (.seq (.cond (.t 16)
            .skip
            (.exit 2))
          (.seq (.block 3 (.seq (.reg [⟨(some 17), none, (.mv (.t 15)), 0⟩,
              ⟨(some 6), none, (.mv (.t 17)), 0⟩] 0)
            (.seq (.reg [⟨(some 18), none, (.mv (.t 4)), 0⟩,
              ⟨(some 19), none, (.mv (.t 6)), 0⟩,
              ⟨(some 20), none, (.conv .u64 (.t 19)), 0⟩,
              ⟨(some 21), none, (.bin .shl (.c (.s (.int .i64 1))) (.t 20)), 0⟩,
              ⟨(some 22), none, (.bin .or (.t 18) (.t 21)), 0⟩,
              ⟨(some 7), none, (.mv (.t 22)), 0⟩] 0)
            (.seq (.reg [⟨(some 23), none, (.mv (.t 7)), 0⟩,
              ⟨(some 24), none, (.mv (.t 4)), 0⟩,
              ⟨(some 25), none, (.bin .neq (.t 23) (.t 24)), 0⟩,
              ⟨(some 26), none, (.mv (.t 25)), 0⟩,
              ⟨(some 27), (some (26, true)), (.mv (.t 7)), 0⟩,
              ⟨(some 28), (some (26, true)), (.iad 64 1 (.t 1) (.t 27)), 0⟩,
              ⟨(some 29), (some (26, true)), (.ld .one (.t 28)), 0⟩,
              ⟨(some 30), none, (.pick (.t 26) (.t 29) (.c (.s (.bool false)))), 0⟩] 0)
            (.cond (.t 30)
             (.exit 1)
             .skip)))))
          (.reg [⟨(some 31), none, (.bin .add (.t 15) (.c (.s (.int .i64 1)))), 0⟩,
           ⟨(some 15), none, (.mv (.t 31)), 0⟩] 0)))))))
       (.reg [⟨(some 32), none, (.mv (.t 3)), 0⟩,
        ⟨(some 33), none, (.mv (.t 4)), 0⟩,
        ⟨(some 34), none, (.bsl 3 .i64 1 1 [(0, (.t 33))]), 0⟩,
        ⟨(some 35), none, (.app 3 .i64 1 (.t 32) (.t 34)), 1⟩,
        ⟨(some 3), none, (.mv (.t 35)), 2⟩] 2)))))
     (.reg [⟨(some 36), none, (.bin .add (.t 9) (.c (.s (.int .i64 1)))), 0⟩,
      ⟨(some 9), none, (.mv (.t 36)), 0⟩] 0)))))))
  (.seq (.reg [⟨(some 37), none, (.mv (.t 3)), 0⟩,
    ⟨(some 2), none, (.mv (.t 37)), 0⟩] 0)
  .ret)))))), [(.t 2)]⟩

/-- girouette/shells.parts -/
def x98 : XFn := ⟨4, (.seq (.reg [⟨(some 1), none, (.box 3 (.t 0)), 0⟩,
   ⟨(some 2), none, (.mv (.c (.s .nilf))), 1⟩] 1)
 (.seq (.reg [⟨(some 3), none, (.mkf 114 [(.t 1)]), 0⟩,
   ⟨(some 2), none, (.mv (.t 3)), 0⟩] 0)
 .ret)), [(.t 2)]⟩

/-- slices.Clone[[]int,int] -/
def x99 : XFn := ⟨8, (.seq (.reg [⟨(some 2), none, (.mv (.c (.s .nils))), 0⟩] 0)
 (.seq (.seq (.reg [⟨(some 3), none, (.mv (.t 0)), 0⟩,
    ⟨(some 4), none, (.eqv .nil false (.t 3) (.c (.s .nils))), 0⟩] 0)
  (.cond (.t 4)
   (.seq (.reg [⟨(some 2), none, (.mv (.c (.s .nils))), 0⟩] 0)
   .ret)
   .skip))
 (.seq (.reg [⟨(some 5), none, (.bsl 3 .i64 1 0 []), 0⟩,
   ⟨(some 6), none, (.mv (.t 0)), 1⟩,
   ⟨(some 7), none, (.app 3 .i64 1 (.t 5) (.t 6)), 1⟩,
   ⟨(some 2), none, (.mv (.t 7)), 2⟩] 2)
 .ret))), [(.t 2)]⟩

/-- (*girouette/shells.complex).corners -/
def x100 : XFn := ⟨21, (.seq (.reg [⟨(some 2), none, (.mv (.c (.s (.int .i64 0)))), 0⟩] 0)
 (.seq (.reg [⟨(some 3), none, (.mv (.c (.s (.int .i64 0)))), 0⟩] 0)
 (.seq (.seq (.reg [⟨(some 6), none, (.mv (.t 0)), 0⟩,
    ⟨(some 7), none, (.nck (.t 6)), 0⟩,
    ⟨(some 8), none, (.fad 1 (.t 7)), 0⟩,
    ⟨(some 9), none, (.ld .one (.t 8)), 0⟩,
    ⟨(some 10), none, (.len (.t 9)), 0⟩,
    ⟨(some 11), none, (.mv (.c (.s (.int .i64 0)))), 0⟩] 0)
  (.block 0 (.loop (.seq (.reg [⟨(some 12), none, (.bin .lss (.t 11) (.t 10)), 0⟩] 0)
    (.seq (.cond (.t 12)
      .skip
      (.exit 0))
    (.seq (.block 1 (.seq (.reg [⟨(some 13), none, (.iadS 1 (.t 9) (.t 11)), 0⟩,
        ⟨(some 14), none, (.ld .one (.t 13)), 0⟩,
        ⟨(some 5), none, (.mv (.t 14)), 0⟩] 0)
      (.reg [⟨(some 15), none, (.mv (.t 3)), 0⟩,
       ⟨(some 16), none, (.mv (.t 5)), 0⟩,
       ⟨(some 17), none, (.call (.c (.s (.fn 101 []))) [(.t 16)]), 0⟩,
       ⟨(some 18), none, (.mx [(.t 15), (.t 17)]), 8⟩,
       ⟨(some 3), none, (.mv (.t 18)), 8⟩] 8)))
    (.reg [⟨(some 19), none, (.bin .add (.t 11) (.c (.s (.int .i64 1)))), 0⟩,
     ⟨(some 11), none, (.mv (.t 19)), 0⟩] 0)))))))
 (.seq (.reg [⟨(some 20), none, (.mv (.t 3)), 0⟩,
   ⟨(some 2), none, (.mv (.t 20)), 0⟩] 0)
 .ret)))), [(.t 2)]⟩

/-- girouette/shells.size -/
def x101 : XFn := ⟨6, (.seq (.reg [⟨(some 2), none, (.mv (.c (.s (.int .i64 0)))), 0⟩] 0)
 (.seq (.reg [⟨(some 3), none, (.mv (.t 0)), 0⟩,
   ⟨(some 4), none, (.conv .u64 (.t 3)), 0⟩,
   ⟨(some 5), none, (.call (.c (.s (.fn 115 []))) [(.t 4)]), 0⟩,
   ⟨(some 2), none, (.mv (.t 5)), 8⟩] 8)
 .ret)), [(.t 2)]⟩

/-- (girouette/shells.faces).pairs$1 -/
def x102 : XFn := ⟨43, (.seq (.reg [⟨(some 7), none, (.ld (.many 0 64) (.t 1)), 0⟩,
   ⟨(some 8), none, (.mv (.c (.s (.int .i64 0)))), 0⟩] 0)
 (.block 0 (.loop (.seq (.reg [⟨(some 9), none, (.bin .lss (.t 8) (.c (.s (.int .i64 64)))), 0⟩] 0)
   (.seq (.cond (.t 9)
     .skip
     (.exit 0))
   (.seq (.block 1 (.seq (.reg [⟨(some 10), none, (.mv (.t 8)), 0⟩,
       ⟨(some 11), none, (.idx 64 1 .one (.t 7) (.t 8)), 0⟩,
       ⟨(some 3), none, (.mv (.t 10)), 0⟩,
       ⟨(some 4), none, (.mv (.t 11)), 0⟩] 0)
     (.seq (.reg [⟨(some 12), none, (.mv (.c (.s (.int .i64 0)))), 0⟩] 0)
     (.block 2 (.loop (.seq (.reg [⟨(some 13), none, (.bin .lss (.t 12) (.c (.s (.int .i64 6)))), 0⟩] 0)
       (.seq (.cond (.t 13)
         .skip
         (.exit 2))
       (.seq (.block 3 (.seq (.reg [⟨(some 14), none, (.mv (.t 12)), 0⟩,
           ⟨(some 5), none, (.mv (.t 14)), 0⟩] 0)
         (.seq (.reg [⟨(some 15), none, (.mv (.t 3)), 0⟩,
           ⟨(some 16), none, (.mv (.t 3)), 0⟩,
           ⟨(some 17), none, (.mv (.t 5)), 0⟩,
           ⟨(some 18), none, (.conv .u64 (.t 17)), 0⟩,
           ⟨(some 19), none, (.bin .shl (.c (.s (.int .i64 1))) (.t 18)), 0⟩,
           ⟨(some 20), none, (.bin .or (.t 16) (.t 19)), 0⟩,
           ⟨(some 21), none, (.bld (.pb [(.int .i64 0), (.int .i64 0)] 0 ff) [((0, 1), (.t 15)), ((1, 1), (.t 20))]), 0⟩,
           ⟨(some 6), none, (.alloc 108 (.pb [(.int .i64 0), (.int .i64 0)] 0 ff)), 0⟩,
           ⟨none, none, (.st (.many 2 0) (.t 6) (.t 21)), 1⟩] 1)
         (.seq (.reg [⟨(some 22), none, (.mv (.t 4)), 0⟩,
           ⟨(some 23), none, (.mv (.t 22)), 0⟩,
           ⟨(some 24), (some (23, true)), (.ld (.many 2 0) (.t 6)), 0⟩,
           ⟨(some 25), (some (23, true)), (.mv (.t 3)), 0⟩,
           ⟨(some 26), (some (23, true)), (.mv (.t 3)), 0⟩,
           ⟨(some 27), (some (23, true)), (.bld (.pb [(.int .i64 0), (.int .i64 0)] 0 ff) [((0, 1), (.t 25)), ((1, 1), (.t 26))]), 0⟩,
           ⟨(some 28), (some (23, true)), (.eqv (.agg 2 0) true (.t 24) (.t 27)), 0⟩,
           ⟨(some 29), none, (.pick (.t 23) (.t 28) (.c (.s (.bool false)))), 0⟩,
           ⟨(some 30), none, (.mv (.t 29)), 0⟩,
           ⟨(some 31), (some (30, true)), (.ld (.many 0 64) (.t 1)), 0⟩,
           ⟨(some 32), (some (30, true)), (.ld (.many 2 0) (.t 6)), 0⟩,
           ⟨(some 33), (some (30, true)), (.call (.c (.s (.fn 103 []))) [(.t 31), (.t 32)]), 0⟩,
           ⟨(some 34), none, (.pick (.t 30) (.t 33) (.c (.s (.bool false)))), 8⟩,
           ⟨(some 35), none, (.mv (.t 34)), 8⟩,
           ⟨(some 36), (some (35, true)), (.mv (.t 0)), 8⟩,
           ⟨(some 37), (some (35, true)), (.ld (.many 2 0) (.t 6)), 8⟩,
           ⟨(some 38), (some (35, true)), (.call (.t 36) [(.t 37)]), 8⟩,
           ⟨(some 39), (some (35, true)), (.not (.t 38)), 16⟩,
           ⟨(some 40), none, (.pick (.t 35) (.t 39) (.c (.s (.bool false)))), 16⟩] 16)
         (.cond (.t 40)
          .ret
          .skip)))))
       (.reg [⟨(some 41), none, (.bin .add (.t 12) (.c (.s (.int .i64 1)))), 0⟩,
        ⟨(some 12), none, (.mv (.t 41)), 0⟩] 0)))))))))
   (.reg [⟨(some 42), none, (.bin .add (.t 8) (.c (.s (.int .i64 1)))), 0⟩,
    ⟨(some 8), none, (.mv (.t 42)), 0⟩] 0))))))), []⟩

/-- (girouette/shells.faces).can -/
def x103 : XFn := ⟨83, (.seq (.reg [⟨(some 2), none, (.box 95 (.t 0)), 0⟩,
   ⟨(some 3), none, (.box 108 (.t 1)), 1⟩,
   ⟨(some 4), none, (.mv (.c (.s (.bool false)))), 2⟩] 2)
 (.seq (.seq (.regD [⟨(some 7), none, (.fad 0 (.t 3)), 0⟩,
    ⟨(some 8), none, (.ld .one (.t 7)), 0⟩,
    ⟨(some 9), none, (.bin .lss (.t 8) (.c (.s (.int .i64 1)))), 0⟩,
    ⟨(some 10), none, (.mv (.t 9)), 0⟩,
    ⟨(some 11), (some (10, false)), (.fad 0 (.t 3)), 0⟩,
    ⟨(some 12), (some (10, false)), (.ld .one (.t 11)), 0⟩,
    ⟨(some 13), (some (10, false)), (.bin .geq (.t 12) (.c (.s (.int .i64 64)))), 0⟩,
    ⟨(some 14), none, (.pick (.t 10) (.c (.s (.bool true))) (.t 13)), 0⟩,
    ⟨(some 15), none, (.mv (.t 14)), 0⟩,
    ⟨(some 16), (some (15, false)), (.fad 1 (.t 3)), 0⟩,
    ⟨(some 17), (some (15, false)), (.ld .one (.t 16)), 0⟩,
    ⟨(some 18), (some (15, false)), (.bin .geq (.t 17) (.c (.s (.int .i64 64)))), 0⟩,
    ⟨(some 19), none, (.pick (.t 15) (.c (.s (.bool true))) (.t 18)), 0⟩,
    ⟨(some 20), none, (.mv (.t 19)), 0⟩,
    ⟨(some 21), (some (20, false)), (.fad 1 (.t 3)), 0⟩,
    ⟨(some 22), (some (20, false)), (.ld .one (.t 21)), 0⟩,
    ⟨(some 23), (some (20, false)), (.bin .lss (.t 22) (.c (.s (.int .i64 1)))), 0⟩,
    ⟨(some 24), none, (.pick (.t 20) (.c (.s (.bool true))) (.t 23)), 0⟩,
    ⟨(some 25), none, (.mv (.t 24)), 0⟩,
    ⟨(some 26), (some (25, false)), (.fad 0 (.t 3)), 0⟩,
    ⟨(some 27), (some (25, false)), (.ld .one (.t 26)), 0⟩,
    ⟨(some 28), (some (25, false)), (.iad 64 1 (.t 2) (.t 27)), 0⟩,
    ⟨(some 29), (some (25, false)), (.ld .one (.t 28)), 0⟩,
    ⟨(some 30), (some (25, false)), (.not (.t 29)), 0⟩,
    ⟨(some 31), none, (.pick (.t 25) (.c (.s (.bool true))) (.t 30)), 0⟩,
    ⟨(some 32), none, (.mv (.t 31)), 0⟩,
    ⟨(some 33), (some (32, false)), (.fad 1 (.t 3)), 0⟩,
    ⟨(some 34), (some (32, false)), (.ld .one (.t 33)), 0⟩,
    ⟨(some 35), (some (32, false)), (.iad 64 1 (.t 2) (.t 34)), 0⟩,
    ⟨(some 36), (some (32, false)), (.ld .one (.t 35)), 0⟩,
    ⟨(some 37), (some (32, false)), (.not (.t 36)), 0⟩,
    ⟨(some 38), none, (.pick (.t 32) (.c (.s (.bool true))) (.t 37)), 0⟩,
    ⟨(some 39), none, (.mv (.t 38)), 0⟩,
    ⟨(some 40), (some (39, false)), (.fad 0 (.t 3)), 0⟩,
    ⟨(some 41), (some (39, false)), (.ld .one (.t 40)), 0⟩,
    ⟨(some 42), (some (39, false)), (.fad 1 (.t 3)), 0⟩,
    ⟨(some 43), (some (39, false)), (.ld .one (.t 42)), 0⟩,
    ⟨(some 44), (some (39, false)), (.bin .andNot (.t 41) (.t 43)), 0⟩,
    ⟨(some 45), (some (39, false)), (.bin .neq (.t 44) (.c (.s (.int .i64 0)))), 0⟩,
    ⟨(some 46), none, (.pick (.t 39) (.c (.s (.bool true))) (.t 45)), 0⟩,
    ⟨(some 47), none, (.mv (.t 46)), 0⟩,
    ⟨(some 48), (some (47, false)), (.fad 1 (.t 3)), 0⟩,
    ⟨(some 49), (some (47, false)), (.ld .one (.t 48)), 0⟩,
    ⟨(some 50), (some (47, false)), (.call (.c (.s (.fn 101 []))) [(.t 49)]), 0⟩,
    ⟨(some 51), (some (47, false)), (.fad 0 (.t 3)), 8⟩,
    ⟨(some 52), (some (47, false)), (.ld .one (.t 51)), 8⟩,
    ⟨(some 53), (some (47, false)), (.call (.c (.s (.fn 101 []))) [(.t 52)]), 8⟩,
    ⟨(some 54), (some (47, false)), (.bin .add (.t 53) (.c (.s (.int .i64 1)))), 16⟩,
    ⟨(some 55), (some (47, false)), (.bin .neq (.t 50) (.t 54)), 16⟩,
    ⟨(some 56), none, (.pick (.t 47) (.c (.s (.bool true))) (.t 55)), 16⟩] 16 [(43, 45)])
  (.cond (.t 56)
   (.seq (.reg [⟨(some 4), none, (.mv (.c (.s (.bool false)))), 0⟩] 0)
   .ret)
   .skip))
 (.seq (.seq (.reg [⟨(some 57), none, (.ld (.many 0 64) (.t 2)), 0⟩,
    ⟨(some 58), none, (.mv (.c (.s (.int .i64 0)))), 0⟩] 0)
  (.block 0 (.loop (.seq (.reg [⟨(some 59), none, (.bin .lss (.t 58) (.c (.s (.int .i64 64)))), 0⟩] 0)
    (.seq (.cond (.t 59)
      .skip
      (.exit 0))
    (.seq (.block 1 (.seq (.reg [⟨(some 60), none, (.mv (.t 58)), 0⟩,
        ⟨(some 61), none, (.idx 64 1 .one (.t 57) (.t 58)), 0⟩,
        ⟨(some 5), none, (.mv (.t 60)), 0⟩,
        ⟨(some 6), none, (.mv (.t 61)), 0⟩] 0)
      (.seq (.reg [⟨(some 62), none, (.mv (.t 6)), 0⟩,
        ⟨(some 63), none, (.mv (.t 62)), 0⟩,
        ⟨(some 64), (some (63, true)), (.mv (.t 5)), 0⟩,
        ⟨(some 65), (some (63, true)), (.fad 0 (.t 3)), 0⟩,
        ⟨(some 66), (some (63, true)), (.ld .one (.t 65)), 0⟩,
        ⟨(some 67), (some (63, true)), (.bin .neq (.t 64) (.t 66)), 0⟩,
        ⟨(some 68), none, (.pick (.t 63) (.t 67) (.c (.s (.bool false)))), 0⟩,
        ⟨(some 69), none, (.mv (.t 68)), 0⟩,
        ⟨(some 70), (some (69, true)), (.mv (.t 5)), 0⟩,
        ⟨(some 71), (some (69, true)), (.fad 1 (.t 3)), 0⟩,
        ⟨(some 72), (some (69, true)), (.ld .one (.t 71)), 0⟩,
        ⟨(some 73), (some (69, true)), (.bin .neq (.t 70) (.t 72)), 0⟩,
        ⟨(some 74), none, (.pick (.t 69) (.t 73) (.c (.s (.bool false)))), 0⟩,
        ⟨(some 75), none, (.mv (.t 74)), 0⟩,
        ⟨(some 76), (some (75, true)), (.fad 0 (.t 3)), 0⟩,
        ⟨(some 77), (some (75, true)), (.ld .one (.t 76)), 0⟩,
        ⟨(some 78), (some (75, true)), (.mv (.t 5)), 0⟩,
        ⟨(some 79), (some (75, true)), (.bin .andNot (.t 77) (.t 78)), 0⟩,
        ⟨(some 80), (some (75, true)), (.bin .eql (.t 79) (.c (.s (.int .i64 0)))), 0⟩,
        ⟨(some 81), none, (.pick (.t 75) (.t 80) (.c (.s (.bool false)))), 0⟩] 0)
      (.cond (.t 81)
       (.seq (.reg [⟨(some 4), none, (.mv (.c (.s (.bool false)))), 0⟩] 0)
       .ret)
       .skip))))
    (.reg [⟨(some 82), none, (.bin .add (.t 58) (.c (.s (.int .i64 1)))), 0⟩,
     ⟨(some 58), none, (.mv (.t 82)), 0⟩] 0)))))))
 (.seq (.reg [⟨(some 4), none, (.mv (.c (.s (.bool true)))), 0⟩] 0)
 .ret)))), [(.t 4)]⟩

/-- girouette/shells.rank[uint64] -/
def x104 : XFn := ⟨58, (.seq (.reg [⟨(some 2), none, (.mv (.c (.s (.int .i64 0)))), 0⟩] 0)
 (.seq (.reg [⟨(some 3), none, (.mv (.c (.s (.int .i64 0)))), 0⟩] 0)
 (.seq (.reg [⟨(some 7), none, (.mv (.t 0)), 0⟩,
   ⟨(some 8), none, (.call (.c (.s (.fn 116 []))) [(.t 7)]), 0⟩,
   ⟨(some 0), none, (.mv (.t 8)), 8⟩] 8)
 (.seq (.seq (.reg [⟨(some 9), none, (.mv (.t 0)), 0⟩,
    ⟨(some 10), none, (.len (.t 9)), 0⟩,
    ⟨(some 11), none, (.mv (.c (.s (.int .i64 0)))), 0⟩] 0)
  (.block 0 (.loop (.seq (.reg [⟨(some 12), none, (.bin .lss (.t 11) (.t 10)), 0⟩] 0)
    (.seq (.cond (.t 12)
      .skip
      (.exit 0))
    (.seq (.block 1 (.seq (.reg [⟨(some 13), none, (.mv (.t 11)), 0⟩,
        ⟨(some 4), none, (.mv (.t 13)), 0⟩] 0)
      (.seq (.seq (.reg [⟨(some 14), none, (.mv (.t 0)), 0⟩,
         ⟨(some 15), none, (.mv (.t 4)), 0⟩,
         ⟨(some 16), none, (.iadS 1 (.t 14) (.t 15)), 0⟩,
         ⟨(some 17), none, (.ld .one (.t 16)), 0⟩,
         ⟨(some 18), none, (.bin .eql (.t 17) (.c (.s (.int .u64 0)))), 0⟩] 0)
       (.cond (.t 18)
        (.exit 1)
        .skip))
      (.seq (.reg [⟨(some 19), none, (.mv (.t 3)), 0⟩,
        ⟨(some 20), none, (.bin .add (.t 19) (.c (.s (.int .i64 1)))), 0⟩,
        ⟨(some 3), none, (.mv (.t 20)), 0⟩] 0)
      (.seq (.regD [⟨(some 21), none, (.mv (.t 0)), 0⟩,
        ⟨(some 22), none, (.mv (.t 4)), 0⟩,
        ⟨(some 23), none, (.iadS 1 (.t 21) (.t 22)), 0⟩,
        ⟨(some 24), none, (.ld .one (.t 23)), 0⟩,
        ⟨(some 25), none, (.mv (.t 0)), 0⟩,
        ⟨(some 26), none, (.mv (.t 4)), 0⟩,
        ⟨(some 27), none, (.iadS 1 (.t 25) (.t 26)), 0⟩,
        ⟨(some 28), none, (.ld .one (.t 27)), 0⟩,
        ⟨(some 29), none, (.neg (.t 28)), 0⟩,
        ⟨(some 30), none, (.bin .and (.t 24) (.t 29)), 0⟩,
        ⟨(some 5), none, (.mv (.t 30)), 0⟩] 0 [])
      (.seq (.reg [⟨(some 31), none, (.mv (.t 4)), 0⟩,
        ⟨(some 32), none, (.bin .add (.t 31) (.c (.s (.int .i64 1)))), 0⟩,
        ⟨(some 6), none, (.mv (.t 32)), 0⟩] 0)
      (.block 2 (.loop (.seq (.seq (.reg [⟨(some 33), none, (.mv (.t 6)), 0⟩,
           ⟨(some 34), none, (.mv (.t 0)), 0⟩,
           ⟨(some 35), none, (.len (.t 34)), 0⟩,
           ⟨(some 36), none, (.bin .lss (.t 33) (.t 35)), 0⟩] 0)
         (.cond (.t 36)
          .skip
          (.exit 2)))
        (.seq (.block 3 (.seq (.reg [⟨(some 39), none, (.mv (.t 0)), 0⟩,
            ⟨(some 40), none, (.mv (.t 6)), 0⟩,
            ⟨(some 41), none, (.iadS 1 (.t 39) (.t 40)), 0⟩,
            ⟨(some 42), none, (.ld .one (.t 41)), 0⟩,
            ⟨(some 43), none, (.mv (.t 5)), 0⟩,
            ⟨(some 44), none, (.bin .and (.t 42) (.t 43)), 0⟩,
            ⟨(some 45), none, (.bin .neq (.t 44) (.c (.s (.int .u64 0)))), 0⟩] 0)
          (.cond (.t 45)
           (.regD [⟨(some 46), none, (.mv (.t 0)), 0⟩,
            ⟨(some 47), none, (.mv (.t 6)), 0⟩,
            ⟨(some 48), none, (.iadS 1 (.t 46) (.t 47)), 0⟩,
            ⟨(some 49), none, (.ld .one (.t 48)), 0⟩,
            ⟨(some 50), none, (.mv (.t 0)), 0⟩,
            ⟨(some 51), none, (.mv (.t 4)), 0⟩,
            ⟨(some 52), none, (.iadS 1 (.t 50) (.t 51)), 0⟩,
            ⟨(some 53), none, (.ld .one (.t 52)), 0⟩,
            ⟨(some 54), none, (.bin .xor (.t 49) (.t 53)), 0⟩,
            ⟨(some 55), none, (.iadS 1 (.t 46) (.t 47)), 0⟩,
            ⟨none, none, (.st .one (.t 55) (.t 54)), 0⟩] 0 [])
           .skip)))
        (.reg [⟨(some 37), none, (.mv (.t 6)), 0⟩,
         ⟨(some 38), none, (.bin .add (.t 37) (.c (.s (.int .i64 1)))), 0⟩,
         ⟨(some 6), none, (.mv (.t 38)), 0⟩] 0)))))))))))
    (.reg [⟨(some 56), none, (.bin .add (.t 11) (.c (.s (.int .i64 1)))), 0⟩,
     ⟨(some 11), none, (.mv (.t 56)), 0⟩] 0)))))))
 (.seq (.reg [⟨(some 57), none, (.mv (.t 3)), 0⟩,
   ⟨(some 2), none, (.mv (.t 57)), 0⟩] 0)
 .ret))))), [(.t 2)]⟩

/-- (*girouette/shells.complex).borders -/
def x105 : XFn := ⟨53, (.seq (.reg [⟨(some 4), none, (.mv (.c (.s .nils))), 0⟩] 0)
 (.seq (.reg [⟨(some 5), none, (.mv (.c (.s .nils))), 0⟩] 0)
 (.seq (.seq (.reg [⟨(some 10), none, (.mv (.t 0)), 0⟩,
    ⟨(some 11), none, (.nck (.t 10)), 0⟩,
    ⟨(some 12), none, (.fad 2 (.t 11)), 0⟩,
    ⟨(some 13), none, (.ld (.many 0 64) (.t 12)), 0⟩,
    ⟨(some 14), none, (.call (.c (.s (.fn 73 []))) [(.t 13)]), 0⟩,
    ⟨(some 15), none, (.len (.t 14)), 8⟩,
    ⟨(some 16), none, (.mv (.c (.s (.int .i64 0)))), 8⟩] 8)
  (.block 0 (.loop (.seq (.reg [⟨(some 17), none, (.bin .lss (.t 16) (.t 15)), 0⟩] 0)
    (.seq (.cond (.t 17)
      .skip
      (.exit 0))
    (.seq (.block 1 (.seq (.reg [⟨(some 18), none, (.iadS 1 (.t 14) (.t 16)), 0⟩,
        ⟨(some 19), none, (.ld .one (.t 18)), 0⟩,
        ⟨(some 7), none, (.mv (.t 19)), 0⟩] 0)
      (.seq (.seq (.reg [⟨(some 20), none, (.mv (.t 7)), 0⟩,
         ⟨(some 21), none, (.call (.c (.s (.fn 101 []))) [(.t 20)]), 0⟩,
         ⟨(some 22), none, (.mv (.t 1)), 8⟩,
         ⟨(some 23), none, (.bin .neq (.t 21) (.t 22)), 8⟩] 8)
       (.cond (.t 23)
        (.exit 1)
        .skip))
      (.seq (.reg [⟨(some 8), none, (.mv (.c (.s (.int .u64 0)))), 0⟩] 0)
      (.seq (.seq (.reg [⟨(some 24), none, (.mv (.t 0)), 0⟩,
         ⟨(some 25), none, (.nck (.t 24)), 0⟩,
         ⟨(some 26), none, (.fad 0 (.t 25)), 0⟩,
         ⟨(some 27), none, (.ld .one (.t 26)), 0⟩,
         ⟨(some 28), none, (.mv (.c (.s (.int .i64 0)))), 0⟩] 0)
       (.block 2 (.loop (.seq (.reg [⟨(some 29), none, (.bin .lss (.t 28) (.t 27)), 0⟩] 0)
         (.seq (.cond (.t 29)
           .skip
           (.exit 2))
         (.seq (.block 3 (.seq (.reg [⟨(some 30), none, (.mv (.t 28)), 0⟩,
             ⟨(some 9), none, (.mv (.t 30)), 0⟩] 0)
           (.seq (.reg [⟨(some 31), none, (.mv (.t 7)), 0⟩,
             ⟨(some 32), none, (.mv (.t 9)), 0⟩,
             ⟨(some 33), none, (.conv .u64 (.t 32)), 0⟩,
             ⟨(some 34), none, (.bin .shr (.t 31) (.t 33)), 0⟩,
             ⟨(some 35), none, (.bin .and (.t 34) (.c (.s (.int .i64 1)))), 0⟩,
             ⟨(some 36), none, (.bin .eql (.t 35) (.c (.s (.int .i64 1)))), 0⟩] 0)
           (.cond (.t 36)
            (.reg [⟨(some 37), none, (.mv (.t 8)), 0⟩,
             ⟨(some 38), none, (.mv (.t 7)), 0⟩,
             ⟨(some 39), none, (.mv (.t 9)), 0⟩,
             ⟨(some 40), none, (.conv .u64 (.t 39)), 0⟩,
             ⟨(some 41), none, (.bin .shl (.c (.s (.int .i64 1))) (.t 40)), 0⟩,
             ⟨(some 42), none, (.bin .andNot (.t 38) (.t 41)), 0⟩,
             ⟨(some 43), none, (.conv .u64 (.t 42)), 0⟩,
             ⟨(some 44), none, (.bin .shl (.c (.s (.int .u64 1))) (.t 43)), 0⟩,
             ⟨(some 45), none, (.bin .or (.t 37) (.t 44)), 0⟩,
             ⟨(some 8), none, (.mv (.t 45)), 0⟩] 0)
            .skip))))
         (.reg [⟨(some 46), none, (.bin .add (.t 28) (.c (.s (.int .i64 1)))), 0⟩,
          ⟨(some 28), none, (.mv (.t 46)), 0⟩] 0)))))))
      (.reg [⟨(some 47), none, (.mv (.t 5)), 0⟩,
       ⟨(some 48), none, (.mv (.t 8)), 0⟩,
       ⟨(some 49), none, (.bsl 140 .u64 1 1 [(0, (.t 48))]), 0⟩,
       ⟨(some 50), none, (.app 140 .u64 1 (.t 47) (.t 49)), 1⟩,
       ⟨(some 5), none, (.mv (.t 50)), 2⟩] 2))))))
    (.reg [⟨(some 51), none, (.bin .add (.t 16) (.c (.s (.int .i64 1)))), 0⟩,
     ⟨(some 16), none, (.mv (.t 51)), 0⟩] 0)))))))
 (.seq (.reg [⟨(some 52), none, (.mv (.t 5)), 0⟩,
   ⟨(some 4), none, (.mv (.t 52)), 0⟩] 0)
 .ret)))), [(.t 4)]⟩

/-- girouette/labels.open -/
def x106 : XFn := ⟨64, (.seq (.reg [⟨(some 4), none, (.mv (.c (.s .nilp))), 0⟩,
   ⟨(some 5), none, (.mv (.c (.s (.int .i64 0)))), 0⟩] 0)
 (.seq (.seq (.reg [⟨(some 8), none, (.mv (.t 0)), 0⟩,
    ⟨(some 9), none, (.bin .lss (.t 8) (.c (.s (.int .i64 2)))), 0⟩,
    ⟨(some 10), none, (.mv (.t 9)), 0⟩,
    ⟨(some 11), (some (10, false)), (.mv (.t 0)), 0⟩,
    ⟨(some 12), (some (10, false)), (.bin .gtr (.t 11) (.c (.s (.int .i64 7)))), 0⟩,
    ⟨(some 13), none, (.pick (.t 10) (.c (.s (.bool true))) (.t 12)), 0⟩] 0)
  (.cond (.t 13)
   (.seq (.reg [⟨(some 4), none, (.mv (.c (.s .nilp))), 0⟩,
     ⟨(some 5), none, (.mv (.c (.s (.int .i64 1)))), 0⟩] 0)
   .ret)
   .skip))
 (.seq (.seq (.reg [⟨(some 14), none, (.mv (.t 1)), 0⟩,
    ⟨(some 15), none, (.len (.t 14)), 0⟩,
    ⟨(some 16), none, (.bin .lss (.t 15) (.c (.s (.int .i64 1)))), 0⟩,
    ⟨(some 17), none, (.mv (.t 16)), 0⟩,
    ⟨(some 18), (some (17, false)), (.mv (.t 1)), 0⟩,
    ⟨(some 19), (some (17, false)), (.len (.t 18)), 0⟩,
    ⟨(some 20), (some (17, false)), (.bin .gtr (.t 19) (.c (.s (.int .i64 10)))), 0⟩,
    ⟨(some 21), none, (.pick (.t 17) (.c (.s (.bool true))) (.t 20)), 0⟩] 0)
  (.cond (.t 21)
   (.seq (.reg [⟨(some 4), none, (.mv (.c (.s .nilp))), 0⟩,
     ⟨(some 5), none, (.mv (.c (.s (.int .i64 20)))), 0⟩] 0)
   .ret)
   .skip))
 (.seq (.seq (.reg [⟨(some 22), none, (.mv (.t 1)), 0⟩,
    ⟨(some 23), none, (.len (.t 22)), 0⟩,
    ⟨(some 24), none, (.mv (.c (.s (.int .i64 0)))), 0⟩] 0)
  (.block 0 (.loop (.seq (.reg [⟨(some 25), none, (.bin .lss (.t 24) (.t 23)), 0⟩] 0)
    (.seq (.cond (.t 25)
      .skip
      (.exit 0))
    (.seq (.block 1 (.seq (.reg [⟨(some 26), none, (.mv (.t 24)), 0⟩,
        ⟨(some 27), none, (.iadS 2 (.t 22) (.t 24)), 0⟩,
        ⟨(some 28), none, (.ld (.many 2 0) (.t 27)), 0⟩,
        ⟨(some 7), none, (.alloc 38 (.pb [(.int .i64 0), (.int .i64 0)] 0 ff)), 0⟩,
        ⟨(some 6), none, (.mv (.t 26)), 1⟩,
        ⟨none, none, (.st (.many 2 0) (.t 7) (.t 28)), 1⟩] 1)
      (.seq (.regD [⟨(some 29), none, (.iad 2 1 (.t 7) (.c (.s (.int .i64 0)))), 0⟩,
        ⟨(some 30), none, (.ld .one (.t 29)), 0⟩,
        ⟨(some 31), none, (.bin .lss (.t 30) (.c (.s (.int .i64 0)))), 0⟩,
        ⟨(some 32), none, (.mv (.t 31)), 0⟩,
        ⟨(some 33), (some (32, false)), (.iad 2 1 (.t 7) (.c (.s (.int .i64 0)))), 0⟩,
        ⟨(some 34), (some (32, false)), (.ld .one (.t 33)), 0⟩,
        ⟨(some 35), (some (32, false)), (.iad 2 1 (.t 7) (.c (.s (.int .i64 1)))), 0⟩,
        ⟨(some 36), (some (32, false)), (.ld .one (.t 35)), 0⟩,
        ⟨(some 37), (some (32, false)), (.bin .geq (.t 34) (.t 36)), 0⟩,
        ⟨(some 38), none, (.pick (.t 32) (.c (.s (.bool true))) (.t 37)), 0⟩,
        ⟨(some 39), none, (.mv (.t 38)), 0⟩,
        ⟨(some 40), (some (39, false)), (.iad 2 1 (.t 7) (.c (.s (.int .i64 1)))), 0⟩,
        ⟨(some 41), (some (39, false)), (.ld .one (.t 40)), 0⟩,
        ⟨(some 42), (some (39, false)), (.mv (.t 0)), 0⟩,
        ⟨(some 43), (some (39, false)), (.bin .geq (.t 41) (.t 42)), 0⟩,
        ⟨(some 44), none, (.pick (.t 39) (.c (.s (.bool true))) (.t 43)), 0⟩,
        ⟨(some 45), none, (.mv (.t 44)), 0⟩,
        ⟨(some 46), (some (45, false)), (.mv (.t 6)), 0⟩,
        ⟨(some 47), (some (45, false)), (.bin .gtr (.t 46) (.c (.s (.int .i64 0)))), 0⟩,
        ⟨(some 48), (some (45, false)), (.mv (.t 47)), 0⟩,
        ⟨(some 49), (some (48, true)), (.mv (.t 1)), 0⟩,
        ⟨(some 50), (some (48, true)), (.mv (.t 6)), 0⟩,
        ⟨(some 51), (some (48, true)), (.bin .sub (.t 50) (.c (.s (.int .i64 1)))), 0⟩,
        ⟨(some 52), (some (48, true)), (.iadS 2 (.t 49) (.t 51)), 0⟩,
        ⟨(some 53), (some (48, true)), (.slcA 2 1 (.t 52) none none), 0⟩,
        ⟨(some 54), (some (48, true)), (.slcA 2 1 (.t 7) none none), 0⟩,
        ⟨(some 55), (some (48, true)), (.call (.c (.s (.fn 93 []))) [(.t 53), (.t 54)]), 0⟩,
        ⟨(some 56), (some (48, true)), (.bin .geq (.t 55) (.c (.s (.int .i64 0)))), 8⟩,
        ⟨(some 57), (some (45, false)), (.pick (.t 48) (.t 56) (.c (.s (.bool false)))), 8⟩,
        ⟨(some 58), none, (.pick (.t 45) (.c (.s (.bool true))) (.t 57)), 8⟩] 8 [])
      (.cond (.t 58)
       (.seq (.reg [⟨(some 4), none, (.mv (.c (.s .nilp))), 0⟩,
         ⟨(some 5), none, (.mv (.c (.s (.int .i64 20)))), 0⟩] 0)
       .ret)
       .skip))))
    (.reg [⟨(some 59), none, (.bin .add (.t 24) (.c (.s (.int .i64 1)))), 0⟩,
     ⟨(some 24), none, (.mv (.t 59)), 0⟩] 0)))))))
 (.seq (.reg [⟨(some 60), none, (.mv (.t 0)), 0⟩,
   ⟨(some 61), none, (.mv (.t 1)), 0⟩,
   ⟨(some 62), none, (.bld (.pb [(.int .i64 0), .nils] 0 ff) [((0, 1), (.t 60)), ((1, 1), (.t 61))]), 0⟩,
   ⟨(some 63), none, (.box 160 (.t 62)), 0⟩,
   ⟨(some 4), none, (.mv (.t 63)), 1⟩,
   ⟨(some 5), none, (.mv (.c (.s (.int .i64 0)))), 1⟩] 1)
 .ret))))), [(.t 4), (.t 5)]⟩

/-- (*girouette/labels.graph).labelled -/
def x107 : XFn := ⟨4, (.seq (.reg [⟨(some 1), none, (.box 143 (.t 0)), 0⟩,
   ⟨(some 2), none, (.mv (.c (.s .nilf))), 1⟩] 1)
 (.seq (.reg [⟨(some 3), none, (.mkf 117 [(.t 1)]), 0⟩,
   ⟨(some 2), none, (.mv (.t 3)), 0⟩] 0)
 .ret)), [(.t 2)]⟩

/-- girouette/girouetteref03.Forces -/
def x108 : XFn := ⟨36, (.seq (.reg [⟨(some 4), none, (.box 38 (.t 1)), 0⟩,
   ⟨(some 5), none, (.box 38 (.t 2)), 1⟩,
   ⟨(some 6), none, (.mv (.c (.s (.bool false)))), 2⟩] 2)
 (.seq (.seq (.reg [⟨(some 7), none, (.ld (.many 2 0) (.t 4)), 0⟩,
    ⟨(some 8), none, (.ld (.many 2 0) (.t 5)), 0⟩,
    ⟨(some 9), none, (.eqv (.agg 2 0) false (.t 7) (.t 8)), 0⟩] 0)
  (.cond (.t 9)
   (.seq (.reg [⟨(some 6), none, (.mv (.c (.s (.bool true)))), 0⟩] 0)
   .ret)
   .skip))
 (.seq (.seq (.reg [⟨(some 10), none, (.iad 2 1 (.t 4) (.c (.s (.int .i64 0)))), 0⟩,
    ⟨(some 11), none, (.ld .one (.t 10)), 0⟩,
    ⟨(some 12), none, (.iad 2 1 (.t 5) (.c (.s (.int .i64 0)))), 0⟩,
    ⟨(some 13), none, (.ld .one (.t 12)), 0⟩,
    ⟨(some 14), none, (.bin .eql (.t 11) (.t 13)), 0⟩] 0)
  (.cond (.t 14)
   (.seq (.reg [⟨(some 15), none, (.mv (.t 0)), 0⟩,
     ⟨(some 16), none, (.iad 2 1 (.t 4) (.c (.s (.int .i64 1)))), 0⟩,
     ⟨(some 17), none, (.ld .one (.t 16)), 0⟩,
     ⟨(some 18), none, (.iad 2 1 (.t 5) (.c (.s (.int .i64 1)))), 0⟩,
     ⟨(some 19), none, (.ld .one (.t 18)), 0⟩,
     ⟨(some 20), none, (.call (.c (.s (.fn 83 []))) [(.t 15), (.t 17), (.t 19)]), 0⟩,
     ⟨(some 21), none, (.not (.t 20)), 8⟩,
     ⟨(some 6), none, (.mv (.t 21)), 8⟩] 8)
   .ret)
   .skip))
 (.seq (.reg [⟨(some 22), none, (.iad 2 1 (.t 4) (.c (.s (.int .i64 1)))), 0⟩,
   ⟨(some 23), none, (.ld .one (.t 22)), 0⟩,
   ⟨(some 24), none, (.iad 2 1 (.t 5) (.c (.s (.int .i64 1)))), 0⟩,
   ⟨(some 25), none, (.ld .one (.t 24)), 0⟩,
   ⟨(some 26), none, (.bin .eql (.t 23) (.t 25)), 0⟩,
   ⟨(some 27), none, (.mv (.t 26)), 0⟩,
   ⟨(some 28), (some (27, true)), (.mv (.t 0)), 0⟩,
   ⟨(some 29), (some (27, true)), (.iad 2 1 (.t 4) (.c (.s (.int .i64 0)))), 0⟩,
   ⟨(some 30), (some (27, true)), (.ld .one (.t 29)), 0⟩,
   ⟨(some 31), (some (27, true)), (.iad 2 1 (.t 5) (.c (.s (.int .i64 0)))), 0⟩,
   ⟨(some 32), (some (27, true)), (.ld .one (.t 31)), 0⟩,
   ⟨(some 33), (some (27, true)), (.call (.c (.s (.fn 83 []))) [(.t 28), (.t 30), (.t 32)]), 0⟩,
   ⟨(some 34), (some (27, true)), (.not (.t 33)), 8⟩,
   ⟨(some 35), none, (.pick (.t 27) (.t 34) (.c (.s (.bool false)))), 8⟩,
   ⟨(some 6), none, (.mv (.t 35)), 8⟩] 8)
 .ret)))), [(.t 6)]⟩

/-- (*girouette/orders.graph).forced$1 -/
def x109 : XFn := ⟨89, (.seq (.seq (.reg [⟨(some 5), none, (.mv (.t 0)), 0⟩,
    ⟨(some 6), none, (.ld (.many 2 0) (.t 1)), 0⟩,
    ⟨(some 7), none, (.call (.t 5) [(.t 6)]), 0⟩,
    ⟨(some 8), none, (.not (.t 7)), 8⟩] 8)
  (.cond (.t 8)
   .ret
   .skip))
 (.seq (.reg [⟨(some 9), none, (.ld .one (.t 2)), 0⟩,
   ⟨(some 10), none, (.nck (.t 9)), 0⟩,
   ⟨(some 11), none, (.fad 0 (.t 10)), 0⟩,
   ⟨(some 12), none, (.ld .one (.t 11)), 0⟩,
   ⟨(some 13), none, (.mv (.c (.s (.int .i64 0)))), 0⟩] 0)
 (.block 0 (.loop (.seq (.reg [⟨(some 14), none, (.bin .lss (.t 13) (.t 12)), 0⟩] 0)
   (.seq (.cond (.t 14)
     .skip
     (.exit 0))
   (.seq (.block 1 (.seq (.reg [⟨(some 15), none, (.mv (.t 13)), 0⟩,
       ⟨(some 4), none, (.mv (.t 15)), 0⟩] 0)
     (.seq (.seq (.regD [⟨(some 16), none, (.mv (.t 4)), 0⟩,
        ⟨(some 17), none, (.fad 1 (.t 1)), 0⟩,
        ⟨(some 18), none, (.ld .one (.t 17)), 0⟩,
        ⟨(some 19), none, (.bin .neq (.t 16) (.t 18)), 0⟩,
        ⟨(some 20), none, (.mv (.t 19)), 0⟩,
        ⟨(some 21), (some (20, true)), (.ld .one (.t 2)), 0⟩,
        ⟨(some 22), (some (20, true)), (.fad 0 (.t 1)), 0⟩,
        ⟨(some 23), (some (20, true)), (.ld .one (.t 22)), 0⟩,
        ⟨(some 24), (some (20, true)), (.mv (.t 4)), 0⟩,
        ⟨(some 25), (some (20, true)), (.nck (.t 21)), 0⟩,
        ⟨(some 26), (some (20, true)), (.fad 1 (.t 25)), 0⟩,
        ⟨(some 27), (some (20, true)), (.iad 7 7 (.t 26) (.t 23)), 0⟩,
        ⟨(some 28), (some (20, true)), (.iad 7 1 (.t 27) (.t 24)), 0⟩,
        ⟨(some 29), (some (20, true)), (.ld .one (.t 28)), 0⟩,
        ⟨(some 30), none, (.pick (.t 20) (.t 29) (.c (.s (.bool false)))), 0⟩,
        ⟨(some 31), none, (.mv (.t 30)), 0⟩,
        ⟨(some 32), (some (31, true)), (.ld .one (.t 2)), 0⟩,
        ⟨(some 33), (some (31, true)), (.fad 1 (.t 1)), 0⟩,
        ⟨(some 34), (some (31, true)), (.ld .one (.t 33)), 0⟩,
        ⟨(some 35), (some (31, true)), (.mv (.t 4)), 0⟩,
        ⟨(some 36), (some (31, true)), (.nck (.t 32)), 0⟩,
        ⟨(some 37), (some (31, true)), (.fad 1 (.t 36)), 0⟩,
        ⟨(some 38), (some (31, true)), (.iad 7 7 (.t 37) (.t 34)), 0⟩,
        ⟨(some 39), (some (31, true)), (.iad 7 1 (.t 38) (.t 35)), 0⟩,
        ⟨(some 40), (some (31, true)), (.ld .one (.t 39)), 0⟩,
        ⟨(some 41), (some (31, true)), (.not (.t 40)), 0⟩,
        ⟨(some 42), none, (.pick (.t 31) (.t 41) (.c (.s (.bool false)))), 0⟩,
        ⟨(some 43), none, (.mv (.t 42)), 0⟩,
        ⟨(some 44), (some (43, true)), (.mv (.t 0)), 0⟩,
        ⟨(some 45), (some (43, true)), (.fad 0 (.t 1)), 0⟩,
        ⟨(some 46), (some (43, true)), (.ld .one (.t 45)), 0⟩,
        ⟨(some 47), (some (43, true)), (.mv (.t 4)), 0⟩,
        ⟨(some 48), (some (43, true)), (.bld (.pb [(.int .i64 0), (.int .i64 0)] 0 ff) [((0, 1), (.t 46)), ((1, 1), (.t 47))]), 0⟩,
        ⟨(some 49), (some (43, true)), (.call (.t 44) [(.t 48)]), 0⟩,
        ⟨(some 50), (some (43, true)), (.not (.t 49)), 8⟩,
        ⟨(some 51), none, (.pick (.t 43) (.t 50) (.c (.s (.bool false)))), 8⟩] 8 [])
      (.cond (.t 51)
       .ret
       .skip))
     (.seq (.regD [⟨(some 52), none, (.mv (.t 4)), 0⟩,
       ⟨(some 53), none, (.fad 0 (.t 1)), 0⟩,
       ⟨(some 54), none, (.ld .one (.t 53)), 0⟩,
       ⟨(some 55), none, (.bin .neq (.t 52) (.t 54)), 0⟩,
       ⟨(some 56), none, (.mv (.t 55)), 0⟩,
       ⟨(some 57), (some (56, true)), (.ld .one (.t 2)), 0⟩,
       ⟨(some 58), (some (56, true)), (.mv (.t 4)), 0⟩,
       ⟨(some 59), (some (56, true)), (.fad 1 (.t 1)), 0⟩,
       ⟨(some 60), (some (56, true)), (.ld .one (.t 59)), 0⟩,
       ⟨(some 61), (some (56, true)), (.nck (.t 57)), 0⟩,
       ⟨(some 62), (some (56, true)), (.fad 1 (.t 61)), 0⟩,
       ⟨(some 63), (some (56, true)), (.iad 7 7 (.t 62) (.t 58)), 0⟩,
       ⟨(some 64), (some (56, true)), (.iad 7 1 (.t 63) (.t 60)), 0⟩,
       ⟨(some 65), (some (56, true)), (.ld .one (.t 64)), 0⟩,
       ⟨(some 66), none, (.pick (.t 56) (.t 65) (.c (.s (.bool false)))), 0⟩,
       ⟨(some 67), none, (.mv (.t 66)), 0⟩,
       ⟨(some 68), (some (67, true)), (.ld .one (.t 2)), 0⟩,
       ⟨(some 69), (some (67, true)), (.fad 0 (.t 1)), 0⟩,
       ⟨(some 70), (some (67, true)), (.ld .one (.t 69)), 0⟩,
       ⟨(some 71), (some (67, true)), (.mv (.t 4)), 0⟩,
       ⟨(some 72), (some (67, true)), (.nck (.t 68)), 0⟩,
       ⟨(some 73), (some (67, true)), (.fad 1 (.t 72)), 0⟩,
       ⟨(some 74), (some (67, true)), (.iad 7 7 (.t 73) (.t 70)), 0⟩,
       ⟨(some 75), (some (67, true)), (.iad 7 1 (.t 74) (.t 71)), 0⟩,
       ⟨(some 76), (some (67, true)), (.ld .one (.t 75)), 0⟩,
       ⟨(some 77), (some (67, true)), (.not (.t 76)), 0⟩,
       ⟨(some 78), none, (.pick (.t 67) (.t 77) (.c (.s (.bool false)))), 0⟩,
       ⟨(some 79), none, (.mv (.t 78)), 0⟩,
       ⟨(some 80), (some (79, true)), (.mv (.t 0)), 0⟩,
       ⟨(some 81), (some (79, true)), (.mv (.t 4)), 0⟩,
       ⟨(some 82), (some (79, true)), (.fad 1 (.t 1)), 0⟩,
       ⟨(some 83), (some (79, true)), (.ld .one (.t 82)), 0⟩,
       ⟨(some 84), (some (79, true)), (.bld (.pb [(.int .i64 0), (.int .i64 0)] 0 ff) [((0, 1), (.t 81)), ((1, 1), (.t 83))]), 0⟩,
       ⟨(some 85), (some (79, true)), (.call (.t 80) [(.t 84)]), 0⟩,
       ⟨(some 86), (some (79, true)), (.not (.t 85)), 8⟩,
       ⟨(some 87), none, (.pick (.t 79) (.t 86) (.c (.s (.bool false)))), 8⟩] 8 [])
     (.cond (.t 87)
      .ret
      .skip)))))
   (.reg [⟨(some 88), none, (.bin .add (.t 13) (.c (.s (.int .i64 1)))), 0⟩,
    ⟨(some 13), none, (.mv (.t 88)), 0⟩] 0)))))))), []⟩

/-- cmp.Compare[int] -/
def x112 : XFn := ⟨20, (.seq (.reg [⟨(some 4), none, (.mv (.c (.s (.int .i64 0)))), 0⟩] 0)
 (.seq (.reg [⟨(some 7), none, (.mv (.t 0)), 0⟩,
   ⟨(some 8), none, (.call (.c (.s (.fn 122 []))) [(.t 7)]), 0⟩,
   ⟨(some 5), none, (.mv (.t 8)), 8⟩] 8)
 (.seq (.reg [⟨(some 9), none, (.mv (.t 1)), 0⟩,
   ⟨(some 10), none, (.call (.c (.s (.fn 122 []))) [(.t 9)]), 0⟩,
   ⟨(some 6), none, (.mv (.t 10)), 8⟩] 8)
 (.seq (.seq (.reg [⟨(some 11), none, (.mv (.t 5)), 0⟩] 0)
  (.cond (.t 11)
   (.seq (.seq (.reg [⟨(some 12), none, (.mv (.t 6)), 0⟩] 0)
    (.cond (.t 12)
     (.seq (.reg [⟨(some 4), none, (.mv (.c (.s (.int .i64 0)))), 0⟩] 0)
     .ret)
     .skip))
   (.seq (.reg [⟨(some 4), none, (.mv (.c (.s (.int .i64 (-1))))), 0⟩] 0)
   .ret))
   .skip))
 (.seq (.seq (.reg [⟨(some 13), none, (.mv (.t 6)), 0⟩] 0)
  (.cond (.t 13)
   (.seq (.reg [⟨(some 4), none, (.mv (.c (.s (.int .i64 1)))), 0⟩] 0)
   .ret)
   .skip))
 (.seq (.seq (.reg [⟨(some 14), none, (.mv (.t 0)), 0⟩,
    ⟨(some 15), none, (.mv (.t 1)), 0⟩,
    ⟨(some 16), none, (.bin .lss (.t 14) (.t 15)), 0⟩] 0)
  (.cond (.t 16)
   (.seq (.reg [⟨(some 4), none, (.mv (.c (.s (.int .i64 (-1))))), 0⟩] 0)
   .ret)
   .skip))
 (.seq (.seq (.reg [⟨(some 17), none, (.mv (.t 0)), 0⟩,
    ⟨(some 18), none, (.mv (.t 1)), 0⟩,
    ⟨(some 19), none, (.bin .gtr (.t 17) (.t 18)), 0⟩] 0)
  (.cond (.t 19)
   (.seq (.reg [⟨(some 4), none, (.mv (.c (.s (.int .i64 1)))), 0⟩] 0)
   .ret)
   .skip))
 (.seq (.reg [⟨(some 4), none, (.mv (.c (.s (.int .i64 0)))), 0⟩] 0)
 .ret)))))))), [(.t 4)]⟩

/-- girouette/orders.places -/
def x113 : XFn := ⟨47, (.seq (.reg [⟨(some 4), none, (.mv (.c (.s .nils))), 0⟩,
   ⟨(some 5), none, (.mv (.c (.s (.bool false)))), 0⟩] 0)
 (.seq (.seq (.reg [⟨(some 10), none, (.mv (.t 1)), 0⟩,
    ⟨(some 11), none, (.len (.t 10)), 0⟩,
    ⟨(some 12), none, (.mv (.t 0)), 0⟩,
    ⟨(some 13), none, (.bin .neq (.t 11) (.t 12)), 0⟩] 0)
  (.cond (.t 13)
   (.seq (.reg [⟨(some 4), none, (.mv (.c (.s .nils))), 0⟩,
     ⟨(some 5), none, (.mv (.c (.s (.bool false)))), 0⟩] 0)
   .ret)
   .skip))
 (.seq (.reg [⟨(some 14), none, (.mv (.t 0)), 0⟩,
   ⟨(some 15), none, (.mkS 3 .i64 (.t 14)), 0⟩,
   ⟨(some 6), none, (.mv (.t 15)), 1⟩] 1)
 (.seq (.reg [⟨(some 16), none, (.mv (.t 0)), 0⟩,
   ⟨(some 17), none, (.mkSB 4 (.t 16)), 0⟩,
   ⟨(some 7), none, (.mv (.t 17)), 1⟩] 1)
 (.seq (.seq (.reg [⟨(some 18), none, (.mv (.t 1)), 0⟩,
    ⟨(some 19), none, (.len (.t 18)), 0⟩,
    ⟨(some 20), none, (.mv (.c (.s (.int .i64 0)))), 0⟩] 0)
  (.block 0 (.loop (.seq (.reg [⟨(some 21), none, (.bin .lss (.t 20) (.t 19)), 0⟩] 0)
    (.seq (.cond (.t 21)
      .skip
      (.exit 0))
    (.seq (.block 1 (.seq (.reg [⟨(some 22), none, (.mv (.t 20)), 0⟩,
        ⟨(some 23), none, (.iadS 1 (.t 18) (.t 20)), 0⟩,
        ⟨(some 24), none, (.ld .one (.t 23)), 0⟩,
        ⟨(some 8), none, (.mv (.t 22)), 0⟩,
        ⟨(some 9), none, (.mv (.t 24)), 0⟩] 0)
      (.seq (.seq (.reg [⟨(some 25), none, (.mv (.t 9)), 0⟩,
         ⟨(some 26), none, (.bin .lss (.t 25) (.c (.s (.int .i64 0)))), 0⟩,
         ⟨(some 27), none, (.mv (.t 26)), 0⟩,
         ⟨(some 28), (some (27, false)), (.mv (.t 9)), 0⟩,
         ⟨(some 29), (some (27, false)), (.mv (.t 0)), 0⟩,
         ⟨(some 30), (some (27, false)), (.bin .geq (.t 28) (.t 29)), 0⟩,
         ⟨(some 31), none, (.pick (.t 27) (.c (.s (.bool true))) (.t 30)), 0⟩,
         ⟨(some 32), none, (.mv (.t 31)), 0⟩,
         ⟨(some 33), (some (32, false)), (.mv (.t 7)), 0⟩,
         ⟨(some 34), (some (32, false)), (.mv (.t 9)), 0⟩,
         ⟨(some 35), (some (32, false)), (.iadS 1 (.t 33) (.t 34)), 0⟩,
         ⟨(some 36), (some (32, false)), (.ld .one (.t 35)), 0⟩,
         ⟨(some 37), none, (.pick (.t 32) (.c (.s (.bool true))) (.t 36)), 0⟩] 0)
       (.cond (.t 37)
        (.seq (.reg [⟨(some 4), none, (.mv (.c (.s .nils))), 0⟩,
          ⟨(some 5), none, (.mv (.c (.s (.bool false)))), 0⟩] 0)
        .ret)
        .skip))
      (.reg [⟨(some 38), none, (.mv (.t 7)), 0⟩,
       ⟨(some 39), none, (.mv (.t 9)), 0⟩,
       ⟨(some 40), none, (.mv (.t 6)), 0⟩,
       ⟨(some 41), none, (.mv (.t 9)), 0⟩,
       ⟨(some 42), none, (.mv (.t 8)), 0⟩,
       ⟨(some 43), none, (.iadS 1 (.t 38) (.t 39)), 0⟩,
       ⟨none, none, (.st .one (.t 43) (.c (.s (.bool true)))), 0⟩,
       ⟨(some 44), none, (.iadS 1 (.t 40) (.t 41)), 0⟩,
       ⟨none, none, (.st .one (.t 44) (.t 42)), 0⟩] 0))))
    (.reg [⟨(some 45), none, (.bin .add (.t 20) (.c (.s (.int .i64 1)))), 0⟩,
     ⟨(some 20), none, (.mv (.t 45)), 0⟩] 0)))))))
 (.seq (.reg [⟨(some 46), none, (.mv (.t 6)), 0⟩,
   ⟨(some 4), none, (.mv (.t 46)), 0⟩,
   ⟨(some 5), none, (.mv (.c (.s (.bool true)))), 0⟩] 0)
 .ret)))))), [(.t 4), (.t 5)]⟩

/-- girouette/shells.parts$1 -/
def x114 : XFn := ⟨18, (.seq (.reg [⟨(some 3), none, (.mv (.c (.s (.int .i64 0)))), 0⟩] 0)
 (.block 0 (.loop (.seq (.block 1 (.seq (.reg [⟨(some 9), none, (.mv (.t 0)), 0⟩,
       ⟨(some 10), none, (.mv (.t 3)), 0⟩,
       ⟨(some 11), none, (.call (.t 9) [(.t 10)]), 0⟩,
       ⟨(some 12), none, (.not (.t 11)), 8⟩,
       ⟨(some 13), none, (.mv (.t 12)), 8⟩,
       ⟨(some 14), (some (13, false)), (.mv (.t 3)), 8⟩,
       ⟨(some 15), (some (13, false)), (.ld .one (.t 1)), 8⟩,
       ⟨(some 16), (some (13, false)), (.bin .eql (.t 14) (.t 15)), 8⟩,
       ⟨(some 17), none, (.pick (.t 13) (.c (.s (.bool true))) (.t 16)), 8⟩] 8)
     (.cond (.t 17)
      .ret
      .skip)))
   (.reg [⟨(some 4), none, (.mv (.t 3)), 0⟩,
    ⟨(some 5), none, (.ld .one (.t 1)), 0⟩,
    ⟨(some 6), none, (.bin .sub (.t 4) (.t 5)), 0⟩,
    ⟨(some 7), none, (.ld .one (.t 1)), 0⟩,
    ⟨(some 8), none, (.bin .and (.t 6) (.t 7)), 0⟩,
    ⟨(some 3), none, (.mv (.t 8)), 0⟩] 0))))), []⟩

/-- math/bits.OnesCount -/
def x115 : XFn := ⟨8, (.seq (.reg [⟨(some 2), none, (.mv (.c (.s (.int .i64 0)))), 0⟩] 0)
 (.seq (.cond (.c (.s (.bool false)))
   (.seq (.reg [⟨(some 3), none, (.mv (.t 0)), 0⟩,
     ⟨(some 4), none, (.conv .u32 (.t 3)), 0⟩,
     ⟨(some 5), none, (.call (.c (.s (.fn 123 []))) [(.t 4)]), 0⟩,
     ⟨(some 2), none, (.mv (.t 5)), 8⟩] 8)
   .ret)
   .skip)
 (.seq (.reg [⟨(some 6), none, (.mv (.t 0)), 0⟩,
   ⟨(some 7), none, (.call (.c (.s (.fn 124 []))) [(.t 6)]), 0⟩,
   ⟨(some 2), none, (.mv (.t 7)), 8⟩] 8)
 .ret))), [(.t 2)]⟩

/-- slices.Clone[[]uint64,uint64] -/
def x116 : XFn := ⟨8, (.seq (.reg [⟨(some 2), none, (.mv (.c (.s .nils))), 0⟩] 0)
 (.seq (.seq (.reg [⟨(some 3), none, (.mv (.t 0)), 0⟩,
    ⟨(some 4), none, (.eqv .nil false (.t 3) (.c (.s .nils))), 0⟩] 0)
  (.cond (.t 4)
   (.seq (.reg [⟨(some 2), none, (.mv (.c (.s .nils))), 0⟩] 0)
   .ret)
   .skip))
 (.seq (.reg [⟨(some 5), none, (.bsl 140 .u64 1 0 []), 0⟩,
   ⟨(some 6), none, (.mv (.t 0)), 1⟩,
   ⟨(some 7), none, (.app 140 .u64 1 (.t 5) (.t 6)), 1⟩,
   ⟨(some 2), none, (.mv (.t 7)), 2⟩] 2)
 .ret))), [(.t 2)]⟩

/-- (*girouette/labels.graph).labelled$1 -/
def x117 : XFn := ⟨21, (.seq (.reg [⟨(some 2), none, (.box 161 (.t 0)), 0⟩] 1)
 (.seq (.reg [⟨(some 8), none, (.ld .one (.t 1)), 0⟩,
   ⟨(some 9), none, (.nck (.t 8)), 0⟩,
   ⟨(some 10), none, (.fad 1 (.t 9)), 0⟩,
   ⟨(some 11), none, (.ld .one (.t 10)), 0⟩,
   ⟨(some 12), none, (.len (.t 11)), 0⟩,
   ⟨(some 3), none, (.alloc 3 (.s (.int .i64 0))), 0⟩,
   ⟨none, none, (.st .one (.t 3) (.t 12)), 1⟩] 1)
 (.seq (.reg [⟨(some 13), none, (.ld .one (.t 1)), 0⟩,
   ⟨(some 14), none, (.nck (.t 13)), 0⟩,
   ⟨(some 15), none, (.fad 0 (.t 14)), 0⟩,
   ⟨(some 16), none, (.ld .one (.t 15)), 0⟩,
   ⟨(some 17), none, (.mkS 3 .i64 (.t 16)), 0⟩,
   ⟨(some 4), none, (.alloc 41 (.s .nils)), 1⟩,
   ⟨none, none, (.st .one (.t 4) (.t 17)), 2⟩] 2)
 (.seq (.reg [⟨(some 5), none, (.alloc 163 (.pb [] 26 ff)), 0⟩,
   ⟨(some 6), none, (.alloc 163 (.pb [] 26 ff)), 1⟩] 2)
 (.seq (.reg [⟨(some 7), none, (.alloc 92 (.s .nilf)), 0⟩] 1)
 (.seq (.reg [⟨(some 18), none, (.mkf 118 [(.t 1), (.t 2), (.t 4), (.t 3), (.t 5), (.t 6), (.t 7)]), 0⟩,
   ⟨none, none, (.st .one (.t 7) (.t 18)), 0⟩] 0)
 (.reg [⟨(some 19), none, (.ld .one (.t 7)), 0⟩,
  ⟨(some 20), none, (.call (.t 19) [(.c (.s (.int .i64 0)))]), 0⟩] 8))))))), []⟩

/-- (*girouette/labels.graph).labelled$1$1 -/
def x118 : XFn := ⟨78, (.seq (.reg [⟨(some 9), none, (.mv (.c (.s (.bool false)))), 0⟩] 0)
 (.scope (.seq (.seq (.reg [⟨(some 16), none, (.mv (.t 0)), 0⟩,
     ⟨(some 17), none, (.ld .one (.t 1)), 0⟩,
     ⟨(some 18), none, (.nck (.t 17)), 0⟩,
     ⟨(some 19), none, (.fad 0 (.t 18)), 0⟩,
     ⟨(some 20), none, (.ld .one (.t 19)), 0⟩,
     ⟨(some 21), none, (.bin .eql (.t 16) (.t 20)), 0⟩] 0)
   (.cond (.t 21)
    (.seq (.reg [⟨(some 22), none, (.ld .one (.t 2)), 0⟩,
      ⟨(some 23), none, (.ld .one (.t 3)), 0⟩,
      ⟨(some 24), none, (.call (.t 22) [(.t 23)]), 0⟩,
      ⟨(some 9), none, (.mv (.t 24)), 8⟩] 8)
    .ret)
    .skip))
  (.seq (.label 0)
  (.seq (.seq (.reg [⟨(some 25), none, (.ld .one (.t 4)), 0⟩,
     ⟨(some 26), none, (.bin .add (.t 25) (.c (.s (.int .i64 1)))), 0⟩,
     ⟨(some 27), none, (.mv (.c (.s (.int .i64 0)))), 0⟩] 0)
   (.block 0 (.loop (.seq (.reg [⟨(some 28), none, (.bin .lss (.t 27) (.t 26)), 0⟩] 0)
     (.seq (.cond (.t 28)
       .skip
       (.exit 0))
     (.seq (.block 1 (.seq (.reg [⟨(some 29), none, (.mv (.t 27)), 0⟩,
         ⟨(some 10), none, (.mv (.t 29)), 0⟩] 0)
       (.seq (.seq (.reg [⟨(some 30), none, (.mv (.t 10)), 0⟩,
          ⟨(some 31), none, (.iad 26 1 (.t 5) (.t 30)), 0⟩,
          ⟨(some 32), none, (.ld .one (.t 31)), 0⟩] 0)
        (.cond (.t 32)
         (.exit 1)
         .skip))
       (.seq (.reg [⟨(some 33), none, (.ld (.many 0 26) (.t 6)), 0⟩,
         ⟨(some 11), none, (.alloc 163 (.pb [] 26 ff)), 0⟩,
         ⟨none, none, (.st (.many 0 26) (.t 11) (.t 33)), 1⟩] 1)
       (.seq (.seq (.reg [⟨(some 34), none, (.ld .one (.t 1)), 0⟩,
          ⟨(some 35), none, (.nck (.t 34)), 0⟩,
          ⟨(some 36), none, (.fad 1 (.t 35)), 0⟩,
          ⟨(some 37), none, (.ld .one (.t 36)), 0⟩,
          ⟨(some 38), none, (.len (.t 37)), 0⟩,
          ⟨(some 39), none, (.mv (.c (.s (.int .i64 0)))), 0⟩] 0)
        (.block 2 (.loop (.seq (.reg [⟨(some 40), none, (.bin .lss (.t 39) (.t 38)), 0⟩] 0)
          (.seq (.cond (.t 40)
            .skip
            (.exit 2))
          (.seq (.block 3 (.seq (.reg [⟨(some 41), none, (.iadS 2 (.t 37) (.t 39)), 0⟩,
              ⟨(some 42), none, (.ld (.many 2 0) (.t 41)), 0⟩,
              ⟨(some 13), none, (.alloc 38 (.pb [(.int .i64 0), (.int .i64 0)] 0 ff)), 0⟩,
              ⟨none, none, (.st (.many 2 0) (.t 13) (.t 42)), 1⟩] 1)
            (.seq (.seq (.reg [⟨(some 43), none, (.iad 2 1 (.t 13) (.c (.s (.int .i64 1)))), 0⟩,
               ⟨(some 44), none, (.ld .one (.t 43)), 0⟩,
               ⟨(some 45), none, (.mv (.t 0)), 0⟩,
               ⟨(some 46), none, (.bin .neq (.t 44) (.t 45)), 0⟩] 0)
             (.cond (.t 46)
              (.exit 3)
              .skip))
            (.seq (.reg [⟨(some 47), none, (.ld .one (.t 3)), 0⟩,
              ⟨(some 48), none, (.iad 2 1 (.t 13) (.c (.s (.int .i64 0)))), 0⟩,
              ⟨(some 49), none, (.ld .one (.t 48)), 0⟩,
              ⟨(some 50), none, (.iadS 1 (.t 47) (.t 49)), 0⟩,
              ⟨(some 51), none, (.ld .one (.t 50)), 0⟩,
              ⟨(some 52), none, (.mv (.t 10)), 0⟩,
              ⟨(some 53), none, (.bsl 3 .i64 1 2 [(0, (.t 51)), (1, (.t 52))]), 0⟩,
              ⟨(some 54), none, (.call (.c (.s (.fn 119 []))) [(.t 53)]), 1⟩,
              ⟨(some 14), none, (.mv (.t 54)), 9⟩] 9)
            (.seq (.seq (.reg [⟨(some 55), none, (.mv (.t 14)), 0⟩,
               ⟨(some 56), none, (.iad 26 1 (.t 6) (.t 55)), 0⟩,
               ⟨(some 57), none, (.ld .one (.t 56)), 0⟩] 0)
             (.cond (.t 57)
              (.seq (.reg [⟨(some 58), none, (.ld (.many 0 26) (.t 11)), 0⟩,
                ⟨none, none, (.st (.many 0 26) (.t 6) (.t 58)), 0⟩] 0)
              (.exit 1))
              .skip))
            (.reg [⟨(some 59), none, (.mv (.t 14)), 0⟩,
             ⟨(some 60), none, (.iad 26 1 (.t 6) (.t 59)), 0⟩,
             ⟨none, none, (.st .one (.t 60) (.c (.s (.bool true)))), 0⟩] 0))))))
          (.reg [⟨(some 61), none, (.bin .add (.t 39) (.c (.s (.int .i64 1)))), 0⟩,
           ⟨(some 39), none, (.mv (.t 61)), 0⟩] 0)))))))
       (.seq (.reg [⟨(some 62), none, (.ld .one (.t 3)), 0⟩,
         ⟨(some 63), none, (.mv (.t 0)), 0⟩,
         ⟨(some 64), none, (.mv (.t 10)), 0⟩,
         ⟨(some 65), none, (.mv (.t 10)), 0⟩,
         ⟨(some 66), none, (.iadS 1 (.t 62) (.t 63)), 0⟩,
         ⟨none, none, (.st .one (.t 66) (.t 65)), 0⟩,
         ⟨(some 67), none, (.iad 26 1 (.t 5) (.t 64)), 0⟩,
         ⟨none, none, (.st .one (.t 67) (.c (.s (.bool true)))), 0⟩] 0)
       (.seq (.reg [⟨(some 68), none, (.ld .one (.t 7)), 0⟩,
         ⟨(some 69), none, (.mv (.t 0)), 0⟩,
         ⟨(some 70), none, (.bin .add (.t 69) (.c (.s (.int .i64 1)))), 0⟩,
         ⟨(some 71), none, (.call (.t 68) [(.t 70)]), 0⟩,
         ⟨(some 15), none, (.mv (.t 71)), 8⟩] 8)
       (.seq (.regD [⟨(some 72), none, (.mv (.t 10)), 0⟩,
         ⟨(some 73), none, (.ld (.many 0 26) (.t 11)), 0⟩,
         ⟨(some 74), none, (.iad 26 1 (.t 5) (.t 72)), 0⟩,
         ⟨none, none, (.st .one (.t 74) (.c (.s (.bool false)))), 0⟩,
         ⟨none, none, (.st (.many 0 26) (.t 6) (.t 73)), 0⟩] 0 [(1, 3)])
       (.seq (.reg [⟨(some 75), none, (.mv (.t 15)), 0⟩,
         ⟨(some 76), none, (.not (.t 75)), 0⟩] 0)
       (.cond (.t 76)
        (.seq (.reg [⟨(some 9), none, (.mv (.c (.s (.bool false)))), 0⟩] 0)
        .ret)
        .skip))))))))))
     (.reg [⟨(some 77), none, (.bin .add (.t 27) (.c (.s (.int .i64 1)))), 0⟩,
      ⟨(some 27), none, (.mv (.t 77)), 0⟩] 0)))))))
  (.seq (.reg [⟨(some 9), none, (.mv (.c (.s (.bool true)))), 0⟩] 0)
  .ret)))))), [(.t 9)]⟩

/-- girouette/labels.span[int] -/
def x119 : XFn := ⟨8, (.seq (.reg [⟨(some 2), none, (.mv (.c (.s (.int .i64 0)))), 0⟩] 0)
 (.seq (.reg [⟨(some 3), none, (.mv (.t 0)), 0⟩,
   ⟨(some 4), none, (.call (.c (.s (.fn 64 []))) [(.t 3)]), 0⟩,
   ⟨(some 5), none, (.mv (.t 0)), 8⟩,
   ⟨(some 6), none, (.call (.c (.s (.fn 125 []))) [(.t 5)]), 8⟩,
   ⟨(some 7), none, (.bin .sub (.t 4) (.t 6)), 16⟩,
   ⟨(some 2), none, (.mv (.t 7)), 16⟩] 16)
 .ret)), [(.t 2)]⟩

/-- cmp.isNaN[int] -/
def x122 : XFn := ⟨6, (.seq (.reg [⟨(some 2), none, (.mv (.c (.s (.bool false)))), 0⟩] 0)
 (.seq (.reg [⟨(some 3), none, (.mv (.t 0)), 0⟩,
   ⟨(some 4), none, (.mv (.t 0)), 0⟩,
   ⟨(some 5), none, (.bin .neq (.t 3) (.t 4)), 0⟩,
   ⟨(some 2), none, (.mv (.t 5)), 0⟩] 0)
 .ret)), [(.t 2)]⟩

/-- math/bits.OnesCount64 -/
def x124 : XFn := ⟨35, (.seq (.reg [⟨(some 2), none, (.mv (.c (.s (.int .i64 0)))), 0⟩] 0)
 (.seq (.reg [⟨(some 3), none, (.mv (.t 0)), 0⟩,
   ⟨(some 4), none, (.bin .shr (.t 3) (.c (.s (.int .u64 1)))), 0⟩,
   ⟨(some 5), none, (.bin .and (.t 4) (.c (.s (.int .u64 6148914691236517205)))), 0⟩,
   ⟨(some 6), none, (.mv (.t 0)), 0⟩,
   ⟨(some 7), none, (.bin .and (.t 6) (.c (.s (.int .u64 6148914691236517205)))), 0⟩,
   ⟨(some 8), none, (.bin .add (.t 5) (.t 7)), 0⟩,
   ⟨(some 0), none, (.mv (.t 8)), 0⟩] 0)
 (.seq (.reg [⟨(some 9), none, (.mv (.t 0)), 0⟩,
   ⟨(some 10), none, (.bin .shr (.t 9) (.c (.s (.int .u64 2)))), 0⟩,
   ⟨(some 11), none, (.bin .and (.t 10) (.c (.s (.int .u64 3689348814741910323)))), 0⟩,
   ⟨(some 12), none, (.mv (.t 0)), 0⟩,
   ⟨(some 13), none, (.bin .and (.t 12) (.c (.s (.int .u64 3689348814741910323)))), 0⟩,
   ⟨(some 14), none, (.bin .add (.t 11) (.t 13)), 0⟩,
   ⟨(some 0), none, (.mv (.t 14)), 0⟩] 0)
 (.seq (.reg [⟨(some 15), none, (.mv (.t 0)), 0⟩,
   ⟨(some 16), none, (.bin .shr (.t 15) (.c (.s (.int .u64 4)))), 0⟩,
   ⟨(some 17), none, (.mv (.t 0)), 0⟩,
   ⟨(some 18), none, (.bin .add (.t 16) (.t 17)), 0⟩,
   ⟨(some 19), none, (.bin .and (.t 18) (.c (.s (.int .u64 1085102592571150095)))), 0⟩,
   ⟨(some 0), none, (.mv (.t 19)), 0⟩] 0)
 (.seq (.reg [⟨(some 20), none, (.mv (.t 0)), 0⟩,
   ⟨(some 21), none, (.mv (.t 0)), 0⟩,
   ⟨(some 22), none, (.bin .shr (.t 21) (.c (.s (.int .u64 8)))), 0⟩,
   ⟨(some 23), none, (.bin .add (.t 20) (.t 22)), 0⟩,
   ⟨(some 0), none, (.mv (.t 23)), 0⟩] 0)
 (.seq (.reg [⟨(some 24), none, (.mv (.t 0)), 0⟩,
   ⟨(some 25), none, (.mv (.t 0)), 0⟩,
   ⟨(some 26), none, (.bin .shr (.t 25) (.c (.s (.int .u64 16)))), 0⟩,
   ⟨(some 27), none, (.bin .add (.t 24) (.t 26)), 0⟩,
   ⟨(some 0), none, (.mv (.t 27)), 0⟩] 0)
 (.seq (.reg [⟨(some 28), none, (.mv (.t 0)), 0⟩,
   ⟨(some 29), none, (.mv (.t 0)), 0⟩,
   ⟨(some 30), none, (.bin .shr (.t 29) (.c (.s (.int .u64 32)))), 0⟩,
   ⟨(some 31), none, (.bin .add (.t 28) (.t 30)), 0⟩,
   ⟨(some 0), none, (.mv (.t 31)), 0⟩] 0)
 (.seq (.reg [⟨(some 32), none, (.mv (.t 0)), 0⟩,
   ⟨(some 33), none, (.conv .i64 (.t 32)), 0⟩,
   ⟨(some 34), none, (.bin .and (.t 33) (.c (.s (.int .i64 127)))), 0⟩,
   ⟨(some 2), none, (.mv (.t 34)), 0⟩] 0)
 .ret)))))))), [(.t 2)]⟩

/-- slices.Min[[]int,int] -/
def x125 : XFn := ⟨25, (.seq (.reg [⟨(some 2), none, (.mv (.c (.s (.int .i64 0)))), 0⟩] 0)
 (.seq (.seq (.reg [⟨(some 5), none, (.mv (.t 0)), 0⟩,
    ⟨(some 6), none, (.len (.t 5)), 0⟩,
    ⟨(some 7), none, (.bin .lss (.t 6) (.c (.s (.int .i64 1)))), 0⟩] 0)
  (.cond (.t 7)
   (.reg [⟨(some 8), none, .bad, 0⟩,
    ⟨none, none, .bad, 0⟩] 0)
   .skip))
 (.seq (.reg [⟨(some 9), none, (.mv (.t 0)), 0⟩,
   ⟨(some 10), none, (.iadS 1 (.t 9) (.c (.s (.int .i64 0)))), 0⟩,
   ⟨(some 11), none, (.ld .one (.t 10)), 0⟩,
   ⟨(some 3), none, (.mv (.t 11)), 0⟩] 0)
 (.seq (.seq (.reg [⟨(some 4), none, (.mv (.c (.s (.int .i64 1)))), 0⟩] 0)
  (.block 0 (.loop (.seq (.seq (.reg [⟨(some 12), none, (.mv (.t 4)), 0⟩,
       ⟨(some 13), none, (.mv (.t 0)), 0⟩,
       ⟨(some 14), none, (.len (.t 13)), 0⟩,
       ⟨(some 15), none, (.bin .lss (.t 12) (.t 14)), 0⟩] 0)
     (.cond (.t 15)
      .skip
      (.exit 0)))
    (.seq (.block 1 (.reg [⟨(some 18), none, (.mv (.t 3)), 0⟩,
       ⟨(some 19), none, (.mv (.t 0)), 0⟩,
       ⟨(some 20), none, (.mv (.t 4)), 0⟩,
       ⟨(some 21), none, (.iadS 1 (.t 19) (.t 20)), 0⟩,
       ⟨(some 22), none, (.ld .one (.t 21)), 0⟩,
       ⟨(some 23), none, (.mn [(.t 18), (.t 22)]), 0⟩,
       ⟨(some 3), none, (.mv (.t 23)), 0⟩] 0))
    (.reg [⟨(some 16), none, (.mv (.t 4)), 0⟩,
     ⟨(some 17), none, (.bin .add (.t 16) (.c (.s (.int .i64 1)))), 0⟩,
     ⟨(some 4), none, (.mv (.t 17)), 0⟩] 0))))))
 (.seq (.reg [⟨(some 24), none, (.mv (.t 3)), 0⟩,
   ⟨(some 2), none, (.mv (.t 24)), 0⟩] 0)
 .ret))))), [(.t 2)]⟩


end Go.Proofs.Yteekkjfjpoaihaa.Eng
