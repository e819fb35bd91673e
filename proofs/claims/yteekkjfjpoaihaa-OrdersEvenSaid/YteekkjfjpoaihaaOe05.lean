/- A part of the proof of ordersEven_holds. -/
import Derived.Test.YteekkjfjpoaihaaOe04
set_option linter.all false
namespace Go.Proofs.Yteekkjfjpoaihaa.Eng
open Go
/-- girouette/girouettelaw03.OrdersEven -/
def x3 : XFn := ⟨125, (.seq (.reg [⟨(some 4), none, (.mv (.c (.s (.bool false)))), 0⟩] 0)
 (.seq (.reg [⟨(some 19), none, (.mv (.t 0)), 0⟩,
   ⟨(some 20), none, (.mv (.t 1)), 0⟩,
   ⟨(some 21), none, (.call (.c (.s (.fn 7 []))) [(.t 19), (.t 20), (.c (.s (.int .i64 6)))]), 0⟩,
   ⟨(some 18), none, (.mv (.t 21)), 8⟩,
   ⟨(some 22), none, (.extr (.t 18) 0), 8⟩,
   ⟨(some 23), none, (.extr (.t 18) 1), 8⟩,
   ⟨(some 5), none, (.mv (.t 22)), 8⟩,
   ⟨(some 6), none, (.mv (.t 23)), 8⟩] 8)
 (.seq (.reg [⟨(some 25), none, (.mv (.t 5)), 0⟩,
   ⟨(some 26), none, (.mv (.t 6)), 0⟩,
   ⟨(some 27), none, (.call (.c (.s (.fn 8 []))) [(.t 25), (.t 26)]), 0⟩,
   ⟨(some 24), none, (.mv (.t 27)), 8⟩,
   ⟨(some 28), none, (.extr (.t 24) 0), 8⟩,
   ⟨(some 29), none, (.extr (.t 24) 1), 8⟩,
   ⟨(some 7), none, (.mv (.t 28)), 8⟩,
   ⟨(some 8), none, (.mv (.t 29)), 8⟩] 8)
 (.seq (.reg [⟨(some 31), none, (.mv (.t 5)), 0⟩,
   ⟨(some 32), none, (.mv (.t 6)), 0⟩,
   ⟨(some 33), none, (.call (.c (.s (.fn 9 []))) [(.t 31), (.t 32)]), 0⟩,
   ⟨(some 30), none, (.mv (.t 33)), 8⟩,
   ⟨(some 34), none, (.extr (.t 30) 0), 8⟩,
   ⟨(some 35), none, (.extr (.t 30) 1), 8⟩,
   ⟨(some 9), none, (.mv (.t 34)), 8⟩,
   ⟨(some 10), none, (.mv (.t 35)), 8⟩] 8)
 (.seq (.reg [⟨(some 37), none, (.mv (.t 5)), 0⟩,
   ⟨(some 38), none, (.mv (.t 6)), 0⟩,
   ⟨(some 39), none, (.call (.c (.s (.fn 10 []))) [(.t 37), (.t 38)]), 0⟩,
   ⟨(some 36), none, (.mv (.t 39)), 8⟩,
   ⟨(some 40), none, (.extr (.t 36) 0), 8⟩,
   ⟨(some 41), none, (.extr (.t 36) 1), 8⟩,
   ⟨(some 42), none, (.extr (.t 36) 2), 8⟩,
   ⟨(some 11), none, (.mv (.t 40)), 8⟩,
   ⟨(some 12), none, (.mv (.t 41)), 8⟩,
   ⟨(some 13), none, (.mv (.t 42)), 8⟩] 8)
 (.seq (.seq (.reg [⟨(some 43), none, (.mv (.t 8)), 0⟩,
    ⟨(some 44), none, (.bin .neq (.t 43) (.c (.s (.int .i64 0)))), 0⟩,
    ⟨(some 45), none, (.mv (.t 44)), 0⟩,
    ⟨(some 46), (some (45, false)), (.mv (.t 10)), 0⟩,
    ⟨(some 47), (some (45, false)), (.bin .neq (.t 46) (.c (.s (.int .i64 0)))), 0⟩,
    ⟨(some 48), none, (.pick (.t 45) (.c (.s (.bool true))) (.t 47)), 0⟩,
    ⟨(some 49), none, (.mv (.t 48)), 0⟩,
    ⟨(some 50), (some (49, false)), (.mv (.t 13)), 0⟩,
    ⟨(some 51), (some (49, false)), (.bin .neq (.t 50) (.c (.s (.int .i64 0)))), 0⟩,
    ⟨(some 52), none, (.pick (.t 49) (.c (.s (.bool true))) (.t 51)), 0⟩,
    ⟨(some 53), none, (.mv (.t 52)), 0⟩,
    ⟨(some 54), (some (53, false)), (.mv (.t 12)), 0⟩,
    ⟨(some 55), (some (53, false)), (.mv (.t 7)), 0⟩,
    ⟨(some 56), (some (53, false)), (.bin .gtr (.t 55) (.c (.s (.int .i64 0)))), 0⟩,
    ⟨(some 57), (some (53, false)), (.eqv .b true (.t 54) (.t 56)), 0⟩,
    ⟨(some 58), none, (.pick (.t 53) (.c (.s (.bool true))) (.t 57)), 0⟩,
    ⟨(some 59), none, (.mv (.t 58)), 0⟩,
    ⟨(some 60), (some (59, false)), (.mv (.t 6)), 0⟩,
    ⟨(some 61), (some (59, false)), (.len (.t 60)), 0⟩,
    ⟨(some 62), (some (59, false)), (.bin .gtr (.t 61) (.c (.s (.int .i64 0)))), 0⟩,
    ⟨(some 63), (some (59, false)), (.mv (.t 62)), 0⟩,
    ⟨(some 64), (some (63, true)), (.mv (.t 7)), 0⟩,
    ⟨(some 65), (some (63, true)), (.bin .rem (.t 64) (.c (.s (.int .i64 2)))), 0⟩,
    ⟨(some 66), (some (63, true)), (.bin .neq (.t 65) (.c (.s (.int .i64 0)))), 0⟩,
    ⟨(some 67), (some (59, false)), (.pick (.t 63) (.t 66) (.c (.s (.bool false)))), 0⟩,
    ⟨(some 68), none, (.pick (.t 59) (.c (.s (.bool true))) (.t 67)), 0⟩,
    ⟨(some 69), none, (.mv (.t 68)), 0⟩,
    ⟨(some 70), (some (69, false)), (.mv (.t 6)), 0⟩,
    ⟨(some 71), (some (69, false)), (.len (.t 70)), 0⟩,
    ⟨(some 72), (some (69, false)), (.bin .eql (.t 71) (.c (.s (.int .i64 0)))), 0⟩,
    ⟨(some 73), (some (69, false)), (.mv (.t 72)), 0⟩,
    ⟨(some 74), (some (73, true)), (.mv (.t 7)), 0⟩,
    ⟨(some 75), (some (73, true)), (.bin .neq (.t 74) (.c (.s (.int .i64 1)))), 0⟩,
    ⟨(some 76), (some (73, true)), (.mv (.t 75)), 0⟩,
    ⟨(some 77), (some (76, false)), (.mv (.t 9)), 0⟩,
    ⟨(some 78), (some (76, false)), (.bin .neq (.t 77) (.c (.s (.int .i64 0)))), 0⟩,
    ⟨(some 79), (some (73, true)), (.pick (.t 76) (.c (.s (.bool true))) (.t 78)), 0⟩,
    ⟨(some 80), (some (69, false)), (.pick (.t 73) (.t 79) (.c (.s (.bool false)))), 0⟩,
    ⟨(some 81), none, (.pick (.t 69) (.c (.s (.bool true))) (.t 80)), 0⟩,
    ⟨(some 82), none, (.mv (.t 81)), 0⟩,
    ⟨(some 83), (some (82, false)), (.mv (.t 9)), 0⟩,
    ⟨(some 84), (some (82, false)), (.bin .leq (.t 83) (.c (.s (.int .i64 2)))), 0⟩,
    ⟨(some 85), (some (82, false)), (.mv (.t 84)), 0⟩,
    ⟨(some 86), (some (85, true)), (.mv (.t 7)), 0⟩,
    ⟨(some 87), (some (85, true)), (.bin .gtr (.t 86) (.c (.s (.int .i64 2)))), 0⟩,
    ⟨(some 88), (some (82, false)), (.pick (.t 85) (.t 87) (.c (.s (.bool false)))), 0⟩,
    ⟨(some 89), none, (.pick (.t 82) (.c (.s (.bool true))) (.t 88)), 0⟩] 0)
  (.cond (.t 89)
   (.seq (.reg [⟨(some 4), none, (.mv (.c (.s (.bool false)))), 0⟩] 0)
   .ret)
   .skip))
 (.seq (.seq (.reg [⟨(some 90), none, (.mv (.t 12)), 0⟩,
    ⟨(some 91), none, (.not (.t 90)), 0⟩] 0)
  (.cond (.t 91)
   (.seq (.reg [⟨(some 92), none, (.call (.c (.s (.fn 11 []))) []), 0⟩,
     ⟨(some 4), none, (.mv (.t 92)), 8⟩] 8)
   .ret)
   .skip))
 (.seq (.reg [⟨(some 94), none, (.mv (.t 5)), 0⟩,
   ⟨(some 95), none, (.mv (.t 11)), 0⟩,
   ⟨(some 96), none, (.call (.c (.s (.fn 12 []))) [(.t 94), (.t 95)]), 0⟩,
   ⟨(some 93), none, (.mv (.t 96)), 8⟩,
   ⟨(some 97), none, (.extr (.t 93) 0), 8⟩,
   ⟨(some 98), none, (.extr (.t 93) 1), 8⟩,
   ⟨(some 14), none, (.mv (.t 97)), 8⟩,
   ⟨(some 15), none, (.mv (.t 98)), 8⟩] 8)
 (.seq (.reg [⟨(some 100), none, (.mv (.t 5)), 0⟩,
   ⟨(some 101), none, (.mv (.t 14)), 0⟩,
   ⟨(some 102), none, (.call (.c (.s (.fn 12 []))) [(.t 100), (.t 101)]), 0⟩,
   ⟨(some 99), none, (.mv (.t 102)), 8⟩,
   ⟨(some 103), none, (.extr (.t 99) 0), 8⟩,
   ⟨(some 104), none, (.extr (.t 99) 1), 8⟩,
   ⟨(some 16), none, (.mv (.t 103)), 8⟩,
   ⟨(some 17), none, (.mv (.t 104)), 8⟩] 8)
 (.seq (.reg [⟨(some 105), none, (.mv (.t 15)), 0⟩,
   ⟨(some 106), none, (.bin .eql (.t 105) (.c (.s (.int .i64 0)))), 0⟩,
   ⟨(some 107), none, (.mv (.t 106)), 0⟩,
   ⟨(some 108), (some (107, true)), (.mv (.t 17)), 0⟩,
   ⟨(some 109), (some (107, true)), (.bin .eql (.t 108) (.c (.s (.int .i64 0)))), 0⟩,
   ⟨(some 110), none, (.pick (.t 107) (.t 109) (.c (.s (.bool false)))), 0⟩,
   ⟨(some 111), none, (.mv (.t 110)), 0⟩,
   ⟨(some 112), (some (111, true)), (.mv (.t 5)), 0⟩,
   ⟨(some 113), (some (111, true)), (.mv (.t 14)), 0⟩,
   ⟨(some 114), (some (111, true)), (.call (.c (.s (.fn 13 []))) [(.t 112), (.t 113)]), 0⟩,
   ⟨(some 115), (some (111, true)), (.bin .eql (.t 114) (.c (.s (.int .i64 0)))), 8⟩,
   ⟨(some 116), none, (.pick (.t 111) (.t 115) (.c (.s (.bool false)))), 8⟩,
   ⟨(some 117), none, (.mv (.t 116)), 8⟩,
   ⟨(some 118), (some (117, true)), (.mv (.t 16)), 8⟩,
   ⟨(some 119), (some (117, true)), (.mv (.t 11)), 8⟩,
   ⟨(some 120), (some (117, true)), (.call (.c (.s (.fn 14 []))) [(.t 118), (.t 119)]), 8⟩,
   ⟨(some 121), none, (.pick (.t 117) (.t 120) (.c (.s (.bool false)))), 16⟩,
   ⟨(some 122), none, (.mv (.t 121)), 16⟩,
   ⟨(some 123), (some (122, true)), (.call (.c (.s (.fn 11 []))) []), 16⟩,
   ⟨(some 124), none, (.pick (.t 122) (.t 123) (.c (.s (.bool false)))), 24⟩,
   ⟨(some 4), none, (.mv (.t 124)), 24⟩] 24)
 .ret)))))))))), [(.t 4)]⟩
/-- girouette/girouettelaw03.tame -/
def x7 : XFn := ⟨83, (.seq (.reg [⟨(some 6), none, (.mv (.c (.s (.int .i64 0)))), 0⟩,
   ⟨(some 7), none, (.mv (.c (.s .nils))), 0⟩] 0)
 (.seq (.reg [⟨(some 14), none, (.mv (.t 0)), 0⟩,
   ⟨(some 15), none, (.conv .u64 (.t 14)), 0⟩,
   ⟨(some 16), none, (.mv (.t 2)), 0⟩,
   ⟨(some 17), none, (.conv .u64 (.t 16)), 0⟩,
   ⟨(some 18), none, (.bin .rem (.t 15) (.t 17)), 0⟩,
   ⟨(some 19), none, (.conv .i64 (.t 18)), 0⟩,
   ⟨(some 20), none, (.bin .add (.c (.s (.int .i64 1))) (.t 19)), 0⟩,
   ⟨(some 0), none, (.mv (.t 20)), 0⟩] 0)
 (.seq (.reg [⟨(some 8), none, (.mv (.c (.s .nils))), 0⟩] 0)
 (.seq (.seq (.reg [⟨(some 9), none, (.mv (.c (.s (.int .i64 0)))), 0⟩] 0)
  (.block 0 (.loop (.seq (.seq (.reg [⟨(some 21), none, (.mv (.t 9)), 0⟩,
       ⟨(some 22), none, (.mv (.t 0)), 0⟩,
       ⟨(some 23), none, (.bin .lss (.t 21) (.t 22)), 0⟩] 0)
     (.cond (.t 23)
      .skip
      (.exit 0)))
    (.seq (.block 1 (.seq (.reg [⟨(some 26), none, (.mv (.t 9)), 0⟩,
        ⟨(some 27), none, (.bin .add (.t 26) (.c (.s (.int .i64 1)))), 0⟩,
        ⟨(some 10), none, (.mv (.t 27)), 0⟩] 0)
      (.block 2 (.loop (.seq (.seq (.reg [⟨(some 28), none, (.mv (.t 10)), 0⟩,
           ⟨(some 29), none, (.mv (.t 0)), 0⟩,
           ⟨(some 30), none, (.bin .lss (.t 28) (.t 29)), 0⟩] 0)
         (.cond (.t 30)
          .skip
          (.exit 2)))
        (.seq (.block 3 (.seq (.reg [⟨(some 11), none, (.mv (.c (.s (.int .i64 0)))), 0⟩] 0)
          (.block 4 (.loop (.seq (.seq (.reg [⟨(some 33), none, (.mv (.t 11)), 0⟩,
               ⟨(some 34), none, (.mv (.t 1)), 0⟩,
               ⟨(some 35), none, (.len (.t 34)), 0⟩,
               ⟨(some 36), none, (.bin .lss (.t 33) (.t 35)), 0⟩,
               ⟨(some 37), none, (.mv (.t 36)), 0⟩,
               ⟨(some 38), (some (37, true)), (.mv (.t 11)), 0⟩,
               ⟨(some 39), (some (37, true)), (.bin .lss (.t 38) (.c (.s (.int .i64 25)))), 0⟩,
               ⟨(some 40), none, (.pick (.t 37) (.t 39) (.c (.s (.bool false)))), 0⟩] 0)
             (.cond (.t 40)
              .skip
              (.exit 4)))
            (.seq (.block 5 (.seq (.regD [⟨(some 43), none, (.mv (.t 1)), 0⟩,
                ⟨(some 44), none, (.mv (.t 11)), 0⟩,
                ⟨(some 45), none, (.iadS 2 (.t 43) (.t 44)), 0⟩,
                ⟨(some 46), none, (.iad 2 1 (.t 45) (.c (.s (.int .i64 0)))), 0⟩,
                ⟨(some 47), none, (.ld .one (.t 46)), 0⟩,
                ⟨(some 48), none, (.conv .u64 (.t 47)), 0⟩,
                ⟨(some 49), none, (.mv (.t 0)), 0⟩,
                ⟨(some 50), none, (.conv .u64 (.t 49)), 0⟩,
                ⟨(some 51), none, (.bin .rem (.t 48) (.t 50)), 0⟩,
                ⟨(some 52), none, (.conv .i64 (.t 51)), 0⟩,
                ⟨(some 53), none, (.mv (.t 1)), 0⟩,
                ⟨(some 54), none, (.mv (.t 11)), 0⟩,
                ⟨(some 55), none, (.iadS 2 (.t 53) (.t 54)), 0⟩,
                ⟨(some 56), none, (.iad 2 1 (.t 55) (.c (.s (.int .i64 1)))), 0⟩,
                ⟨(some 57), none, (.ld .one (.t 56)), 0⟩,
                ⟨(some 58), none, (.conv .u64 (.t 57)), 0⟩,
                ⟨(some 59), none, (.mv (.t 0)), 0⟩,
                ⟨(some 60), none, (.conv .u64 (.t 59)), 0⟩,
                ⟨(some 61), none, (.bin .rem (.t 58) (.t 60)), 0⟩,
                ⟨(some 62), none, (.conv .i64 (.t 61)), 0⟩,
                ⟨(some 12), none, (.mv (.t 52)), 0⟩,
                ⟨(some 13), none, (.mv (.t 62)), 0⟩] 0 [])
              (.seq (.reg [⟨(some 63), none, (.mv (.t 12)), 0⟩,
                ⟨(some 64), none, (.mv (.t 13)), 0⟩,
                ⟨(some 65), none, (.mn [(.t 63), (.t 64)]), 0⟩,
                ⟨(some 66), none, (.mv (.t 9)), 0⟩,
                ⟨(some 67), none, (.bin .eql (.t 65) (.t 66)), 0⟩,
                ⟨(some 68), none, (.mv (.t 67)), 0⟩,
                ⟨(some 69), (some (68, true)), (.mv (.t 12)), 0⟩,
                ⟨(some 70), (some (68, true)), (.mv (.t 13)), 0⟩,
                ⟨(some 71), (some (68, true)), (.mx [(.t 69), (.t 70)]), 0⟩,
                ⟨(some 72), (some (68, true)), (.mv (.t 10)), 0⟩,
                ⟨(some 73), (some (68, true)), (.bin .eql (.t 71) (.t 72)), 0⟩,
                ⟨(some 74), none, (.pick (.t 68) (.t 73) (.c (.s (.bool false)))), 0⟩] 0)
              (.cond (.t 74)
               (.seq (.reg [⟨(some 75), none, (.mv (.t 8)), 0⟩,
                 ⟨(some 76), none, (.mv (.t 9)), 0⟩,
                 ⟨(some 77), none, (.mv (.t 10)), 0⟩,
                 ⟨(some 78), none, (.bld (.pb [(.int .i64 0), (.int .i64 0)] 0 ff) [((0, 1), (.t 76)), ((1, 1), (.t 77))]), 0⟩,
                 ⟨(some 79), none, (.bsl 38 .i64 2 1 [(0, (.t 78))]), 0⟩,
                 ⟨(some 80), none, (.app 38 .i64 2 (.t 75) (.t 79)), 1⟩,
                 ⟨(some 8), none, (.mv (.t 80)), 2⟩] 2)
               (.exit 4))
               .skip))))
            (.reg [⟨(some 41), none, (.mv (.t 11)), 0⟩,
             ⟨(some 42), none, (.bin .add (.t 41) (.c (.s (.int .i64 1)))), 0⟩,
             ⟨(some 11), none, (.mv (.t 42)), 0⟩] 0)))))))
        (.reg [⟨(some 31), none, (.mv (.t 10)), 0⟩,
         ⟨(some 32), none, (.bin .add (.t 31) (.c (.s (.int .i64 1)))), 0⟩,
         ⟨(some 10), none, (.mv (.t 32)), 0⟩] 0)))))))
    (.reg [⟨(some 24), none, (.mv (.t 9)), 0⟩,
     ⟨(some 25), none, (.bin .add (.t 24) (.c (.s (.int .i64 1)))), 0⟩,
     ⟨(some 9), none, (.mv (.t 25)), 0⟩] 0))))))
 (.seq (.reg [⟨(some 81), none, (.mv (.t 0)), 0⟩,
   ⟨(some 82), none, (.mv (.t 8)), 0⟩,
   ⟨(some 6), none, (.mv (.t 81)), 0⟩,
   ⟨(some 7), none, (.mv (.t 82)), 0⟩] 0)
 .ret))))), [(.t 6), (.t 7)]⟩
/-- girouette/orders.Count -/
def x8 : XFn := ⟨29, (.seq (.reg [⟨(some 4), none, (.mv (.c (.s (.int .i64 0)))), 0⟩,
   ⟨(some 5), none, (.mv (.c (.s (.int .i64 0)))), 0⟩] 0)
 (.seq (.reg [⟨(some 13), none, (.mv (.t 0)), 0⟩,
   ⟨(some 14), none, (.mv (.t 1)), 0⟩,
   ⟨(some 15), none, (.call (.c (.s (.fn 48 []))) [(.t 13), (.t 14)]), 0⟩,
   ⟨(some 12), none, (.mv (.t 15)), 8⟩,
   ⟨(some 16), none, (.extr (.t 12) 0), 8⟩,
   ⟨(some 17), none, (.extr (.t 12) 1), 8⟩,
   ⟨(some 6), none, (.alloc 64 (.s .nilp)), 8⟩,
   ⟨none, none, (.st .one (.t 6) (.t 16)), 9⟩,
   ⟨(some 7), none, (.mv (.t 17)), 9⟩] 9)
 (.seq (.seq (.reg [⟨(some 18), none, (.mv (.t 7)), 0⟩,
    ⟨(some 19), none, (.bin .neq (.t 18) (.c (.s (.int .i64 0)))), 0⟩] 0)
  (.cond (.t 19)
   (.seq (.reg [⟨(some 20), none, (.mv (.t 7)), 0⟩,
     ⟨(some 4), none, (.mv (.c (.s (.int .i64 0)))), 0⟩,
     ⟨(some 5), none, (.mv (.t 20)), 0⟩] 0)
   .ret)
   .skip))
 (.seq (.seq (.reg [⟨(some 21), none, (.mv (.t 0)), 0⟩,
    ⟨(some 22), none, (.bin .gtr (.t 21) (.c (.s (.int .i64 6)))), 0⟩] 0)
  (.cond (.t 22)
   (.seq (.reg [⟨(some 4), none, (.mv (.c (.s (.int .i64 0)))), 0⟩,
     ⟨(some 5), none, (.mv (.c (.s (.int .i64 1)))), 0⟩] 0)
   .ret)
   .skip))
 (.seq (.reg [⟨(some 23), none, (.ld .one (.t 6)), 0⟩,
   ⟨(some 24), none, (.call (.c (.s (.fn 49 []))) [(.t 23)]), 0⟩,
   ⟨(some 8), none, (.alloc 22 (.s .nils)), 8⟩,
   ⟨none, none, (.st .one (.t 8) (.t 24)), 9⟩] 9)
 (.seq (.reg [⟨(some 9), none, (.alloc 3 (.s (.int .i64 0))), 0⟩,
   ⟨none, none, (.st .one (.t 9) (.c (.s (.int .i64 0)))), 1⟩] 1)
 (.seq (.reg [⟨(some 10), none, (.alloc 70 (.pb [] 49 ff)), 0⟩] 1)
 (.seq (.reg [⟨(some 11), none, (.alloc 71 (.s .nilf)), 0⟩] 1)
 (.seq (.reg [⟨(some 25), none, (.mkf 50 [(.t 8), (.t 10), (.t 9), (.t 6), (.t 11)]), 0⟩,
   ⟨none, none, (.st .one (.t 11) (.t 25)), 0⟩] 0)
 (.seq (.reg [⟨(some 26), none, (.ld .one (.t 11)), 0⟩,
   ⟨(some 27), none, (.call (.t 26) [(.c (.s (.int .i64 0)))]), 0⟩] 8)
 (.seq (.reg [⟨(some 28), none, (.ld .one (.t 9)), 0⟩,
   ⟨(some 4), none, (.mv (.t 28)), 0⟩,
   ⟨(some 5), none, (.mv (.c (.s (.int .i64 0)))), 0⟩] 0)
 .ret))))))))))), [(.t 4), (.t 5)]⟩
/-- girouette/orders.Classes -/
def x9 : XFn := ⟨55, (.seq (.reg [⟨(some 4), none, (.mv (.c (.s (.int .i64 0)))), 0⟩,
   ⟨(some 5), none, (.mv (.c (.s (.int .i64 0)))), 0⟩] 0)
 (.seq (.reg [⟨(some 17), none, (.mv (.t 0)), 0⟩,
   ⟨(some 18), none, (.mv (.t 1)), 0⟩,
   ⟨(some 19), none, (.call (.c (.s (.fn 48 []))) [(.t 17), (.t 18)]), 0⟩,
   ⟨(some 16), none, (.mv (.t 19)), 8⟩,
   ⟨(some 20), none, (.extr (.t 16) 0), 8⟩,
   ⟨(some 21), none, (.extr (.t 16) 1), 8⟩,
   ⟨(some 6), none, (.mv (.t 20)), 8⟩,
   ⟨(some 7), none, (.mv (.t 21)), 8⟩] 8)
 (.seq (.seq (.reg [⟨(some 22), none, (.mv (.t 7)), 0⟩,
    ⟨(some 23), none, (.bin .neq (.t 22) (.c (.s (.int .i64 0)))), 0⟩] 0)
  (.cond (.t 23)
   (.seq (.reg [⟨(some 24), none, (.mv (.t 7)), 0⟩,
     ⟨(some 4), none, (.mv (.c (.s (.int .i64 0)))), 0⟩,
     ⟨(some 5), none, (.mv (.t 24)), 0⟩] 0)
   .ret)
   .skip))
 (.seq (.reg [⟨(some 25), none, (.mmk (.ints 2) .bool1), 0⟩,
   ⟨(some 8), none, (.mv (.t 25)), 1⟩] 1)
 (.seq (.reg [⟨(some 9), none, (.mv (.c (.s (.int .i64 0)))), 0⟩] 0)
 (.seq (.seq (.reg [⟨(some 26), none, (.mv (.t 6)), 0⟩,
    ⟨(some 27), none, (.call (.c (.s (.fn 53 []))) [(.t 26)]), 0⟩,
    ⟨(some 28), none, (.len (.t 27)), 8⟩,
    ⟨(some 29), none, (.mv (.c (.s (.int .i64 0)))), 8⟩] 8)
  (.block 0 (.loop (.seq (.reg [⟨(some 30), none, (.bin .lss (.t 29) (.t 28)), 0⟩] 0)
    (.seq (.cond (.t 30)
      .skip
      (.exit 0))
    (.seq (.block 1 (.seq (.reg [⟨(some 31), none, (.iadS 2 (.t 27) (.t 29)), 0⟩,
        ⟨(some 32), none, (.ld (.many 2 0) (.t 31)), 0⟩,
        ⟨(some 11), none, (.alloc 77 (.pb [(.int .i64 0), (.int .i64 0)] 0 ff)), 0⟩,
        ⟨none, none, (.st (.many 2 0) (.t 11) (.t 32)), 1⟩] 1)
      (.seq (.seq (.reg [⟨(some 33), none, (.mv (.t 8)), 0⟩,
         ⟨(some 34), none, (.ld (.many 2 0) (.t 11)), 0⟩,
         ⟨(some 35), none, (.lkup (.ints 2) .bool1 false (.t 33) (.t 34)), 0⟩] 0)
       (.cond (.t 35)
        (.exit 1)
        .skip))
      (.seq (.reg [⟨(some 36), none, (.mv (.t 9)), 0⟩,
        ⟨(some 37), none, (.bin .add (.t 36) (.c (.s (.int .i64 1)))), 0⟩,
        ⟨(some 9), none, (.mv (.t 37)), 0⟩] 0)
      (.seq (.reg [⟨(some 39), none, (.mv (.t 6)), 0⟩,
        ⟨(some 40), none, (.ld (.many 2 0) (.t 11)), 0⟩,
        ⟨(some 41), none, (.call (.c (.s (.fn 54 []))) [(.t 39), (.t 40)]), 0⟩,
        ⟨(some 38), none, (.mv (.t 41)), 8⟩,
        ⟨(some 42), none, (.extr (.t 38) 0), 8⟩,
        ⟨(some 43), none, (.extr (.t 38) 1), 8⟩,
        ⟨(some 12), none, (.mv (.t 42)), 8⟩,
        ⟨(some 13), none, (.mv (.t 43)), 8⟩] 8)
      (.seq (.reg [⟨(some 44), none, (.mv (.t 12)), 0⟩,
        ⟨(some 45), none, (.len (.t 44)), 0⟩,
        ⟨(some 46), none, (.mv (.c (.s (.int .i64 0)))), 0⟩] 0)
      (.block 2 (.loop (.seq (.reg [⟨(some 47), none, (.bin .lss (.t 46) (.t 45)), 0⟩] 0)
        (.seq (.cond (.t 47)
          .skip
          (.exit 2))
        (.seq (.block 3 (.seq (.reg [⟨(some 48), none, (.iadS 2 (.t 44) (.t 46)), 0⟩,
            ⟨(some 49), none, (.ld (.many 2 0) (.t 48)), 0⟩,
            ⟨(some 15), none, (.alloc 77 (.pb [(.int .i64 0), (.int .i64 0)] 0 ff)), 0⟩,
            ⟨none, none, (.st (.many 2 0) (.t 15) (.t 49)), 1⟩] 1)
          (.reg [⟨(some 50), none, (.mv (.t 8)), 0⟩,
           ⟨(some 51), none, (.ld (.many 2 0) (.t 15)), 0⟩,
           ⟨none, none, (.mupd (.ints 2) .bool1 (.t 50) (.t 51) (.c (.s (.bool true)))), 0⟩] 0)))
        (.reg [⟨(some 52), none, (.bin .add (.t 46) (.c (.s (.int .i64 1)))), 0⟩,
         ⟨(some 46), none, (.mv (.t 52)), 0⟩] 0))))))))))))
    (.reg [⟨(some 53), none, (.bin .add (.t 29) (.c (.s (.int .i64 1)))), 0⟩,
     ⟨(some 29), none, (.mv (.t 53)), 0⟩] 0)))))))
 (.seq (.reg [⟨(some 54), none, (.mv (.t 9)), 0⟩,
   ⟨(some 4), none, (.mv (.t 54)), 0⟩,
   ⟨(some 5), none, (.mv (.c (.s (.int .i64 0)))), 0⟩] 0)
 .ret))))))), [(.t 4), (.t 5)]⟩
/-- girouette/orders.Orient -/
def x10 : XFn := ⟨29, (.seq (.reg [⟨(some 4), none, (.mv (.c (.s .nils))), 0⟩,
   ⟨(some 5), none, (.mv (.c (.s (.bool false)))), 0⟩,
   ⟨(some 6), none, (.mv (.c (.s (.int .i64 0)))), 0⟩] 0)
 (.seq (.reg [⟨(some 12), none, (.mv (.t 0)), 0⟩,
   ⟨(some 13), none, (.mv (.t 1)), 0⟩,
   ⟨(some 14), none, (.call (.c (.s (.fn 48 []))) [(.t 12), (.t 13)]), 0⟩,
   ⟨(some 11), none, (.mv (.t 14)), 8⟩,
   ⟨(some 15), none, (.extr (.t 11) 0), 8⟩,
   ⟨(some 16), none, (.extr (.t 11) 1), 8⟩,
   ⟨(some 7), none, (.mv (.t 15)), 8⟩,
   ⟨(some 8), none, (.mv (.t 16)), 8⟩] 8)
 (.seq (.seq (.reg [⟨(some 17), none, (.mv (.t 8)), 0⟩,
    ⟨(some 18), none, (.bin .neq (.t 17) (.c (.s (.int .i64 0)))), 0⟩] 0)
  (.cond (.t 18)
   (.seq (.reg [⟨(some 19), none, (.mv (.t 8)), 0⟩,
     ⟨(some 4), none, (.mv (.c (.s .nils))), 0⟩,
     ⟨(some 5), none, (.mv (.c (.s (.bool false)))), 0⟩,
     ⟨(some 6), none, (.mv (.t 19)), 0⟩] 0)
   .ret)
   .skip))
 (.seq (.reg [⟨(some 21), none, (.mv (.t 7)), 0⟩,
   ⟨(some 22), none, (.call (.c (.s (.fn 55 []))) [(.t 21)]), 0⟩,
   ⟨(some 20), none, (.mv (.t 22)), 8⟩,
   ⟨(some 23), none, (.extr (.t 20) 0), 8⟩,
   ⟨(some 24), none, (.extr (.t 20) 1), 8⟩,
   ⟨(some 9), none, (.alloc 70 (.pb [] 49 ff)), 8⟩,
   ⟨none, none, (.st (.many 0 49) (.t 9) (.t 23)), 9⟩,
   ⟨(some 10), none, (.mv (.t 24)), 9⟩] 9)
 (.seq (.seq (.reg [⟨(some 25), none, (.mv (.t 10)), 0⟩,
    ⟨(some 26), none, (.not (.t 25)), 0⟩] 0)
  (.cond (.t 26)
   (.seq (.reg [⟨(some 4), none, (.mv (.c (.s .nils))), 0⟩,
     ⟨(some 5), none, (.mv (.c (.s (.bool false)))), 0⟩,
     ⟨(some 6), none, (.mv (.c (.s (.int .i64 0)))), 0⟩] 0)
   .ret)
   .skip))
 (.seq (.reg [⟨(some 27), none, (.ld (.many 0 49) (.t 9)), 0⟩,
   ⟨(some 28), none, (.call (.c (.s (.fn 56 []))) [(.t 27)]), 0⟩,
   ⟨(some 4), none, (.mv (.t 28)), 8⟩,
   ⟨(some 5), none, (.mv (.c (.s (.bool true)))), 8⟩,
   ⟨(some 6), none, (.mv (.c (.s (.int .i64 0)))), 8⟩] 8)
 .ret)))))), [(.t 4), (.t 5), (.t 6)]⟩
/-- girouette/girouettelaw03.awake -/
def x11 : XFn := ⟨121, (.seq (.reg [⟨(some 0), none, (.mv (.c (.s (.bool false)))), 0⟩] 0)
 (.seq (.reg [⟨(some 16), none, (.bld (.pb [(.int .i64 0), (.int .i64 0)] 0 ff) [((0, 1), (.c (.s (.int .i64 0)))), ((1, 1), (.c (.s (.int .i64 1))))]), 0⟩,
   ⟨(some 17), none, (.bld (.pb [(.int .i64 0), (.int .i64 0)] 0 ff) [((0, 1), (.c (.s (.int .i64 0)))), ((1, 1), (.c (.s (.int .i64 4))))]), 0⟩,
   ⟨(some 18), none, (.bld (.pb [(.int .i64 0), (.int .i64 0)] 0 ff) [((0, 1), (.c (.s (.int .i64 1)))), ((1, 1), (.c (.s (.int .i64 2))))]), 0⟩,
   ⟨(some 19), none, (.bld (.pb [(.int .i64 0), (.int .i64 0)] 0 ff) [((0, 1), (.c (.s (.int .i64 2)))), ((1, 1), (.c (.s (.int .i64 3))))]), 0⟩,
   ⟨(some 20), none, (.bld (.pb [(.int .i64 0), (.int .i64 0)] 0 ff) [((0, 1), (.c (.s (.int .i64 3)))), ((1, 1), (.c (.s (.int .i64 4))))]), 0⟩,
   ⟨(some 21), none, (.bsl 38 .i64 2 5 [(0, (.t 16)), (1, (.t 17)), (2, (.t 18)), (3, (.t 19)), (4, (.t 20))]), 0⟩,
   ⟨(some 1), none, (.mv (.t 21)), 1⟩] 1)
 (.seq (.reg [⟨(some 23), none, (.mv (.t 1)), 0⟩,
   ⟨(some 24), none, (.call (.c (.s (.fn 45 []))) [(.c (.s (.int .i64 5))), (.t 23)]), 0⟩,
   ⟨(some 22), none, (.mv (.t 24)), 8⟩,
   ⟨(some 25), none, (.extr (.t 22) 0), 8⟩,
   ⟨(some 26), none, (.extr (.t 22) 1), 8⟩,
   ⟨(some 27), none, (.extr (.t 22) 2), 8⟩,
   ⟨(some 2), none, (.mv (.t 25)), 8⟩,
   ⟨(some 3), none, (.mv (.t 26)), 8⟩,
   ⟨(some 4), none, (.mv (.t 27)), 8⟩] 8)
 (.seq (.reg [⟨(some 29), none, (.mv (.t 1)), 0⟩,
   ⟨(some 30), none, (.call (.c (.s (.fn 10 []))) [(.c (.s (.int .i64 5))), (.t 29)]), 0⟩,
   ⟨(some 28), none, (.mv (.t 30)), 8⟩,
   ⟨(some 31), none, (.extr (.t 28) 0), 8⟩,
   ⟨(some 32), none, (.extr (.t 28) 1), 8⟩,
   ⟨(some 33), none, (.extr (.t 28) 2), 8⟩,
   ⟨(some 5), none, (.mv (.t 31)), 8⟩,
   ⟨(some 6), none, (.mv (.t 32)), 8⟩,
   ⟨(some 7), none, (.mv (.t 33)), 8⟩] 8)
 (.seq (.reg [⟨(some 35), none, (.bld (.pb [(.int .i64 0), (.int .i64 0)] 0 ff) [((0, 1), (.c (.s (.int .i64 0)))), ((1, 1), (.c (.s (.int .i64 1))))]), 0⟩,
   ⟨(some 36), none, (.bld (.pb [(.int .i64 0), (.int .i64 0)] 0 ff) [((0, 1), (.c (.s (.int .i64 0)))), ((1, 1), (.c (.s (.int .i64 3))))]), 0⟩,
   ⟨(some 37), none, (.bld (.pb [(.int .i64 0), (.int .i64 0)] 0 ff) [((0, 1), (.c (.s (.int .i64 1)))), ((1, 1), (.c (.s (.int .i64 2))))]), 0⟩,
   ⟨(some 38), none, (.bld (.pb [(.int .i64 0), (.int .i64 0)] 0 ff) [((0, 1), (.c (.s (.int .i64 2)))), ((1, 1), (.c (.s (.int .i64 3))))]), 0⟩,
   ⟨(some 39), none, (.bsl 38 .i64 2 4 [(0, (.t 35)), (1, (.t 36)), (2, (.t 37)), (3, (.t 38))]), 0⟩,
   ⟨(some 40), none, (.call (.c (.s (.fn 8 []))) [(.c (.s (.int .i64 4))), (.t 39)]), 1⟩,
   ⟨(some 34), none, (.mv (.t 40)), 9⟩,
   ⟨(some 41), none, (.extr (.t 34) 0), 9⟩,
   ⟨(some 42), none, (.extr (.t 34) 1), 9⟩,
   ⟨(some 8), none, (.mv (.t 41)), 9⟩,
   ⟨(some 9), none, (.mv (.t 42)), 9⟩] 9)
 (.seq (.reg [⟨(some 44), none, (.bld (.pb [(.int .i64 0), (.int .i64 0)] 0 ff) [((0, 1), (.c (.s (.int .i64 0)))), ((1, 1), (.c (.s (.int .i64 1))))]), 0⟩,
   ⟨(some 45), none, (.bld (.pb [(.int .i64 0), (.int .i64 0)] 0 ff) [((0, 1), (.c (.s (.int .i64 0)))), ((1, 1), (.c (.s (.int .i64 2))))]), 0⟩,
   ⟨(some 46), none, (.bld (.pb [(.int .i64 0), (.int .i64 0)] 0 ff) [((0, 1), (.c (.s (.int .i64 0)))), ((1, 1), (.c (.s (.int .i64 3))))]), 0⟩,
   ⟨(some 47), none, (.bsl 38 .i64 2 3 [(0, (.t 44)), (1, (.t 45)), (2, (.t 46))]), 0⟩,
   ⟨(some 48), none, (.call (.c (.s (.fn 20 []))) [(.c (.s (.int .i64 4))), (.t 47)]), 1⟩,
   ⟨(some 43), none, (.mv (.t 48)), 9⟩,
   ⟨(some 49), none, (.extr (.t 43) 0), 9⟩,
   ⟨(some 50), none, (.extr (.t 43) 1), 9⟩,
   ⟨(some 10), none, (.mv (.t 49)), 9⟩,
   ⟨(some 11), none, (.mv (.t 50)), 9⟩] 9)
 (.seq (.reg [⟨(some 52), none, (.bsl 3 .i64 1 3 [(0, (.c (.s (.int .i64 0)))), (1, (.c (.s (.int .i64 1)))), (2, (.c (.s (.int .i64 2))))]), 0⟩,
   ⟨(some 53), none, (.bsl 3 .i64 1 3 [(0, (.c (.s (.int .i64 2)))), (1, (.c (.s (.int .i64 0)))), (2, (.c (.s (.int .i64 1))))]), 1⟩,
   ⟨(some 54), none, (.bld (.pb [.nils, .nils] 0 ff) [((0, 1), (.t 52)), ((1, 1), (.t 53))]), 2⟩,
   ⟨(some 55), none, (.call (.c (.s (.fn 57 []))) [(.c (.s (.int .i64 3))), (.t 54)]), 2⟩,
   ⟨(some 51), none, (.mv (.t 55)), 10⟩,
   ⟨(some 56), none, (.extr (.t 51) 0), 10⟩,
   ⟨(some 57), none, (.extr (.t 51) 1), 10⟩,
   ⟨(some 12), none, (.mv (.t 56)), 10⟩,
   ⟨(some 13), none, (.mv (.t 57)), 10⟩] 10)
 (.seq (.reg [⟨(some 59), none, (.bsl 3 .i64 1 3 [(0, (.c (.s (.int .i64 0)))), (1, (.c (.s (.int .i64 1)))), (2, (.c (.s (.int .i64 2))))]), 0⟩,
   ⟨(some 60), none, (.bsl 3 .i64 1 3 [(0, (.c (.s (.int .i64 2)))), (1, (.c (.s (.int .i64 0)))), (2, (.c (.s (.int .i64 1))))]), 1⟩,
   ⟨(some 61), none, (.bld (.pb [.nils, .nils] 0 ff) [((0, 1), (.t 59)), ((1, 1), (.t 60))]), 2⟩,
   ⟨(some 62), none, (.call (.c (.s (.fn 58 []))) [(.c (.s (.int .i64 3))), (.t 61)]), 2⟩,
   ⟨(some 58), none, (.mv (.t 62)), 10⟩,
   ⟨(some 63), none, (.extr (.t 58) 0), 10⟩,
   ⟨(some 64), none, (.extr (.t 58) 1), 10⟩,
   ⟨(some 14), none, (.mv (.t 63)), 10⟩,
   ⟨(some 15), none, (.mv (.t 64)), 10⟩] 10)
 (.seq (.reg [⟨(some 65), none, (.mv (.t 4)), 0⟩,
   ⟨(some 66), none, (.bin .eql (.t 65) (.c (.s (.int .i64 0)))), 0⟩,
   ⟨(some 67), none, (.mv (.t 66)), 0⟩,
   ⟨(some 68), (some (67, true)), (.mv (.t 3)), 0⟩,
   ⟨(some 69), none, (.pick (.t 67) (.t 68) (.c (.s (.bool false)))), 0⟩,
   ⟨(some 70), none, (.mv (.t 69)), 0⟩,
   ⟨(some 71), (some (70, true)), (.mv (.t 2)), 0⟩,
   ⟨(some 72), (some (70, true)), (.len (.t 71)), 0⟩,
   ⟨(some 73), (some (70, true)), (.bin .eql (.t 72) (.c (.s (.int .i64 6)))), 0⟩,
   ⟨(some 74), none, (.pick (.t 70) (.t 73) (.c (.s (.bool false)))), 0⟩,
   ⟨(some 75), none, (.mv (.t 74)), 0⟩,
   ⟨(some 76), (some (75, true)), (.mv (.t 7)), 0⟩,
   ⟨(some 77), (some (75, true)), (.bin .eql (.t 76) (.c (.s (.int .i64 0)))), 0⟩,
   ⟨(some 78), none, (.pick (.t 75) (.t 77) (.c (.s (.bool false)))), 0⟩,
   ⟨(some 79), none, (.mv (.t 78)), 0⟩,
   ⟨(some 80), (some (79, true)), (.mv (.t 6)), 0⟩,
   ⟨(some 81), (some (79, true)), (.not (.t 80)), 0⟩,
   ⟨(some 82), none, (.pick (.t 79) (.t 81) (.c (.s (.bool false)))), 0⟩,
   ⟨(some 83), none, (.mv (.t 82)), 0⟩,
   ⟨(some 84), (some (83, true)), (.mv (.t 9)), 0⟩,
   ⟨(some 85), (some (83, true)), (.bin .eql (.t 84) (.c (.s (.int .i64 0)))), 0⟩,
   ⟨(some 86), none, (.pick (.t 83) (.t 85) (.c (.s (.bool false)))), 0⟩,
   ⟨(some 87), none, (.mv (.t 86)), 0⟩,
   ⟨(some 88), (some (87, true)), (.mv (.t 8)), 0⟩,
   ⟨(some 89), (some (87, true)), (.bin .eql (.t 88) (.c (.s (.int .i64 2)))), 0⟩,
   ⟨(some 90), none, (.pick (.t 87) (.t 89) (.c (.s (.bool false)))), 0⟩,
   ⟨(some 91), none, (.mv (.t 90)), 0⟩,
   ⟨(some 92), (some (91, true)), (.mv (.t 11)), 0⟩,
   ⟨(some 93), (some (91, true)), (.bin .eql (.t 92) (.c (.s (.int .i64 0)))), 0⟩,
   ⟨(some 94), none, (.pick (.t 91) (.t 93) (.c (.s (.bool false)))), 0⟩,
   ⟨(some 95), none, (.mv (.t 94)), 0⟩,
   ⟨(some 96), (some (95, true)), (.mv (.t 10)), 0⟩,
   ⟨(some 97), (some (95, true)), (.bsl 3 .i64 1 4 [(0, (.c (.s (.int .i64 0)))), (1, (.c (.s (.int .i64 1)))), (2, (.c (.s (.int .i64 1)))), (3, (.c (.s (.int .i64 1))))]), 0⟩,
   ⟨(some 98), (some (95, true)), (.call (.c (.s (.fn 33 []))) [(.t 96), (.t 97)]), 1⟩,
   ⟨(some 99), none, (.pick (.t 95) (.t 98) (.c (.s (.bool false)))), 9⟩,
   ⟨(some 100), none, (.mv (.t 99)), 9⟩,
   ⟨(some 101), (some (100, true)), (.mv (.t 13)), 9⟩,
   ⟨(some 102), (some (100, true)), (.bin .eql (.t 101) (.c (.s (.int .i64 0)))), 9⟩,
   ⟨(some 103), none, (.pick (.t 100) (.t 102) (.c (.s (.bool false)))), 9⟩,
   ⟨(some 104), none, (.mv (.t 103)), 9⟩,
   ⟨(some 105), (some (104, true)), (.mv (.t 12)), 9⟩,
   ⟨(some 106), (some (104, true)), (.bld (.pb [(.int .i64 0), (.int .i64 0)] 0 ff) [((0, 1), (.c (.s (.int .i64 0)))), ((1, 1), (.c (.s (.int .i64 2))))]), 9⟩,
   ⟨(some 107), (some (104, true)), (.bld (.pb [(.int .i64 0), (.int .i64 0)] 0 ff) [((0, 1), (.c (.s (.int .i64 1)))), ((1, 1), (.c (.s (.int .i64 2))))]), 9⟩,
   ⟨(some 108), (some (104, true)), (.bsl 38 .i64 2 2 [(0, (.t 106)), (1, (.t 107))]), 9⟩,
   ⟨(some 109), (some (104, true)), (.call (.c (.s (.fn 14 []))) [(.t 105), (.t 108)]), 10⟩,
   ⟨(some 110), none, (.pick (.t 104) (.t 109) (.c (.s (.bool false)))), 18⟩,
   ⟨(some 111), none, (.mv (.t 110)), 18⟩,
   ⟨(some 112), (some (111, true)), (.mv (.t 15)), 18⟩,
   ⟨(some 113), (some (111, true)), (.bin .eql (.t 112) (.c (.s (.int .i64 0)))), 18⟩,
   ⟨(some 114), none, (.pick (.t 111) (.t 113) (.c (.s (.bool false)))), 18⟩,
   ⟨(some 115), none, (.mv (.t 114)), 18⟩,
   ⟨(some 116), (some (115, true)), (.mv (.t 14)), 18⟩,
   ⟨(some 117), (some (115, true)), (.bld (.pb [(.int .i64 0), (.int .i64 0)] 0 ff) [((0, 1), (.c (.s (.int .i64 0)))), ((1, 1), (.c (.s (.int .i64 1))))]), 18⟩,
   ⟨(some 118), (some (115, true)), (.bsl 38 .i64 2 1 [(0, (.t 117))]), 18⟩,
   ⟨(some 119), (some (115, true)), (.call (.c (.s (.fn 14 []))) [(.t 116), (.t 118)]), 19⟩,
   ⟨(some 120), none, (.pick (.t 115) (.t 119) (.c (.s (.bool false)))), 27⟩,
   ⟨(some 0), none, (.mv (.t 120)), 27⟩] 27)
 .ret))))))))), [(.t 0)]⟩
/-- girouette/orders.Turned -/
def x12 : XFn := ⟨25, (.seq (.reg [⟨(some 4), none, (.mv (.c (.s .nils))), 0⟩,
   ⟨(some 5), none, (.mv (.c (.s (.int .i64 0)))), 0⟩] 0)
 (.seq (.reg [⟨(some 9), none, (.mv (.t 0)), 0⟩,
   ⟨(some 10), none, (.mv (.t 1)), 0⟩,
   ⟨(some 11), none, (.call (.c (.s (.fn 59 []))) [(.t 9), (.t 10)]), 0⟩,
   ⟨(some 8), none, (.mv (.t 11)), 8⟩,
   ⟨(some 12), none, (.extr (.t 8) 0), 8⟩,
   ⟨(some 13), none, (.extr (.t 8) 1), 8⟩,
   ⟨(some 6), none, (.alloc 70 (.pb [] 49 ff)), 8⟩,
   ⟨none, none, (.st (.many 0 49) (.t 6) (.t 12)), 9⟩,
   ⟨(some 7), none, (.mv (.t 13)), 9⟩] 9)
 (.seq (.seq (.regD [⟨(some 14), none, (.mv (.t 7)), 0⟩,
    ⟨(some 15), none, (.bin .neq (.t 14) (.c (.s (.int .i64 0)))), 0⟩,
    ⟨(some 16), none, (.mv (.t 15)), 0⟩,
    ⟨(some 17), (some (16, false)), (.ld (.many 0 49) (.t 6)), 0⟩,
    ⟨(some 18), (some (16, false)), (.call (.c (.s (.fn 60 []))) []), 0⟩,
    ⟨(some 19), (some (16, false)), (.eqv (.agg 0 49) false (.t 17) (.t 18)), 8⟩,
    ⟨(some 20), none, (.pick (.t 16) (.c (.s (.bool true))) (.t 19)), 8⟩] 8 [(3, 4)])
  (.cond (.t 20)
   (.seq (.reg [⟨(some 21), none, (.mv (.t 7)), 0⟩,
     ⟨(some 4), none, (.mv (.c (.s .nils))), 0⟩,
     ⟨(some 5), none, (.mv (.t 21)), 0⟩] 0)
   .ret)
   .skip))
 (.seq (.reg [⟨(some 22), none, (.ld (.many 0 49) (.t 6)), 0⟩,
   ⟨(some 23), none, (.call (.c (.s (.fn 61 []))) [(.t 22)]), 0⟩,
   ⟨(some 24), none, (.call (.c (.s (.fn 56 []))) [(.t 23)]), 8⟩,
   ⟨(some 4), none, (.mv (.t 24)), 16⟩,
   ⟨(some 5), none, (.mv (.c (.s (.int .i64 0)))), 16⟩] 16)
 .ret)))), [(.t 4), (.t 5)]⟩
/-- girouette/orders.CheckOrder -/
def x13 : XFn := ⟨14, (.seq (.reg [⟨(some 4), none, (.mv (.c (.s (.int .i64 0)))), 0⟩] 0)
 (.seq (.reg [⟨(some 8), none, (.mv (.t 0)), 0⟩,
   ⟨(some 9), none, (.mv (.t 1)), 0⟩,
   ⟨(some 10), none, (.call (.c (.s (.fn 59 []))) [(.t 8), (.t 9)]), 0⟩,
   ⟨(some 7), none, (.mv (.t 10)), 8⟩,
   ⟨(some 11), none, (.extr (.t 7) 0), 8⟩,
   ⟨(some 12), none, (.extr (.t 7) 1), 8⟩,
   ⟨(some 5), none, (.alloc 70 (.pb [] 49 ff)), 8⟩,
   ⟨none, none, (.st (.many 0 49) (.t 5) (.t 11)), 9⟩,
   ⟨(some 6), none, (.mv (.t 12)), 9⟩] 9)
 (.seq (.reg [⟨(some 13), none, (.mv (.t 6)), 0⟩,
   ⟨(some 4), none, (.mv (.t 13)), 0⟩] 0)
 .ret))), [(.t 4)]⟩
/-- girouette/girouetteref03.Same -/
def x14 : XFn := ⟨26, (.seq (.reg [⟨(some 4), none, (.mv (.c (.s (.bool false)))), 0⟩] 0)
 (.seq (.seq (.reg [⟨(some 6), none, (.mv (.t 0)), 0⟩,
    ⟨(some 7), none, (.len (.t 6)), 0⟩,
    ⟨(some 8), none, (.mv (.t 1)), 0⟩,
    ⟨(some 9), none, (.len (.t 8)), 0⟩,
    ⟨(some 10), none, (.bin .neq (.t 7) (.t 9)), 0⟩] 0)
  (.cond (.t 10)
   (.seq (.reg [⟨(some 4), none, (.mv (.c (.s (.bool false)))), 0⟩] 0)
   .ret)
   .skip))
 (.seq (.seq (.reg [⟨(some 5), none, (.mv (.c (.s (.int .i64 0)))), 0⟩] 0)
  (.block 0 (.loop (.seq (.seq (.reg [⟨(some 11), none, (.mv (.t 5)), 0⟩,
       ⟨(some 12), none, (.mv (.t 0)), 0⟩,
       ⟨(some 13), none, (.len (.t 12)), 0⟩,
       ⟨(some 14), none, (.bin .lss (.t 11) (.t 13)), 0⟩] 0)
     (.cond (.t 14)
      .skip
      (.exit 0)))
    (.seq (.block 1 (.seq (.regD [⟨(some 17), none, (.mv (.t 0)), 0⟩,
        ⟨(some 18), none, (.mv (.t 5)), 0⟩,
        ⟨(some 19), none, (.iadS 2 (.t 17) (.t 18)), 0⟩,
        ⟨(some 20), none, (.ld (.many 2 0) (.t 19)), 0⟩,
        ⟨(some 21), none, (.mv (.t 1)), 0⟩,
        ⟨(some 22), none, (.mv (.t 5)), 0⟩,
        ⟨(some 23), none, (.iadS 2 (.t 21) (.t 22)), 0⟩,
        ⟨(some 24), none, (.ld (.many 2 0) (.t 23)), 0⟩,
        ⟨(some 25), none, (.eqv (.agg 2 0) true (.t 20) (.t 24)), 0⟩] 0 [])
      (.cond (.t 25)
       (.seq (.reg [⟨(some 4), none, (.mv (.c (.s (.bool false)))), 0⟩] 0)
       .ret)
       .skip)))
    (.reg [⟨(some 15), none, (.mv (.t 5)), 0⟩,
     ⟨(some 16), none, (.bin .add (.t 15) (.c (.s (.int .i64 1)))), 0⟩,
     ⟨(some 5), none, (.mv (.t 16)), 0⟩] 0))))))
 (.seq (.reg [⟨(some 4), none, (.mv (.c (.s (.bool true)))), 0⟩] 0)
 .ret)))), [(.t 4)]⟩
/-- girouette/orders.Layers -/
def x20 : XFn := ⟨20, (.seq (.reg [⟨(some 4), none, (.mv (.c (.s .nils))), 0⟩,
   ⟨(some 5), none, (.mv (.c (.s (.int .i64 0)))), 0⟩] 0)
 (.seq (.reg [⟨(some 9), none, (.mv (.t 0)), 0⟩,
   ⟨(some 10), none, (.mv (.t 1)), 0⟩,
   ⟨(some 11), none, (.call (.c (.s (.fn 59 []))) [(.t 9), (.t 10)]), 0⟩,
   ⟨(some 8), none, (.mv (.t 11)), 8⟩,
   ⟨(some 12), none, (.extr (.t 8) 0), 8⟩,
   ⟨(some 13), none, (.extr (.t 8) 1), 8⟩,
   ⟨(some 6), none, (.alloc 70 (.pb [] 49 ff)), 8⟩,
   ⟨none, none, (.st (.many 0 49) (.t 6) (.t 12)), 9⟩,
   ⟨(some 7), none, (.mv (.t 13)), 9⟩] 9)
 (.seq (.seq (.reg [⟨(some 14), none, (.mv (.t 7)), 0⟩,
    ⟨(some 15), none, (.bin .neq (.t 14) (.c (.s (.int .i64 0)))), 0⟩] 0)
  (.cond (.t 15)
   (.seq (.reg [⟨(some 16), none, (.mv (.t 7)), 0⟩,
     ⟨(some 4), none, (.mv (.c (.s .nils))), 0⟩,
     ⟨(some 5), none, (.mv (.t 16)), 0⟩] 0)
   .ret)
   .skip))
 (.seq (.reg [⟨(some 17), none, (.ld (.many 0 49) (.t 6)), 0⟩,
   ⟨(some 18), none, (.mv (.t 0)), 0⟩,
   ⟨(some 19), none, (.call (.c (.s (.fn 62 []))) [(.t 17), (.t 18)]), 0⟩,
   ⟨(some 4), none, (.mv (.t 19)), 8⟩,
   ⟨(some 5), none, (.mv (.c (.s (.int .i64 0)))), 8⟩] 8)
 .ret)))), [(.t 4), (.t 5)]⟩
/-- girouette/girouettelaw03.ints -/
def x33 : XFn := ⟨26, (.seq (.reg [⟨(some 4), none, (.mv (.c (.s (.bool false)))), 0⟩] 0)
 (.seq (.seq (.reg [⟨(some 6), none, (.mv (.t 0)), 0⟩,
    ⟨(some 7), none, (.len (.t 6)), 0⟩,
    ⟨(some 8), none, (.mv (.t 1)), 0⟩,
    ⟨(some 9), none, (.len (.t 8)), 0⟩,
    ⟨(some 10), none, (.bin .neq (.t 7) (.t 9)), 0⟩] 0)
  (.cond (.t 10)
   (.seq (.reg [⟨(some 4), none, (.mv (.c (.s (.bool false)))), 0⟩] 0)
   .ret)
   .skip))
 (.seq (.seq (.reg [⟨(some 5), none, (.mv (.c (.s (.int .i64 0)))), 0⟩] 0)
  (.block 0 (.loop (.seq (.seq (.reg [⟨(some 11), none, (.mv (.t 5)), 0⟩,
       ⟨(some 12), none, (.mv (.t 0)), 0⟩,
       ⟨(some 13), none, (.len (.t 12)), 0⟩,
       ⟨(some 14), none, (.bin .lss (.t 11) (.t 13)), 0⟩] 0)
     (.cond (.t 14)
      .skip
      (.exit 0)))
    (.seq (.block 1 (.seq (.regD [⟨(some 17), none, (.mv (.t 0)), 0⟩,
        ⟨(some 18), none, (.mv (.t 5)), 0⟩,
        ⟨(some 19), none, (.iadS 1 (.t 17) (.t 18)), 0⟩,
        ⟨(some 20), none, (.ld .one (.t 19)), 0⟩,
        ⟨(some 21), none, (.mv (.t 1)), 0⟩,
        ⟨(some 22), none, (.mv (.t 5)), 0⟩,
        ⟨(some 23), none, (.iadS 1 (.t 21) (.t 22)), 0⟩,
        ⟨(some 24), none, (.ld .one (.t 23)), 0⟩,
        ⟨(some 25), none, (.bin .neq (.t 20) (.t 24)), 0⟩] 0 [])
      (.cond (.t 25)
       (.seq (.reg [⟨(some 4), none, (.mv (.c (.s (.bool false)))), 0⟩] 0)
       .ret)
       .skip)))
    (.reg [⟨(some 15), none, (.mv (.t 5)), 0⟩,
     ⟨(some 16), none, (.bin .add (.t 15) (.c (.s (.int .i64 1)))), 0⟩,
     ⟨(some 5), none, (.mv (.t 16)), 0⟩] 0))))))
 (.seq (.reg [⟨(some 4), none, (.mv (.c (.s (.bool true)))), 0⟩] 0)
 .ret)))), [(.t 4)]⟩
/-- girouette/orders.Clash -/
def x45 : XFn := ⟨101, (.seq (.reg [⟨(some 4), none, (.mv (.c (.s .nils))), 0⟩,
   ⟨(some 5), none, (.mv (.c (.s (.bool false)))), 0⟩,
   ⟨(some 6), none, (.mv (.c (.s (.int .i64 0)))), 0⟩] 0)
 (.seq (.reg [⟨(some 21), none, (.mv (.t 0)), 0⟩,
   ⟨(some 22), none, (.mv (.t 1)), 0⟩,
   ⟨(some 23), none, (.call (.c (.s (.fn 48 []))) [(.t 21), (.t 22)]), 0⟩,
   ⟨(some 20), none, (.mv (.t 23)), 8⟩,
   ⟨(some 24), none, (.extr (.t 20) 0), 8⟩,
   ⟨(some 25), none, (.extr (.t 20) 1), 8⟩,
   ⟨(some 7), none, (.mv (.t 24)), 8⟩,
   ⟨(some 8), none, (.mv (.t 25)), 8⟩] 8)
 (.seq (.seq (.reg [⟨(some 26), none, (.mv (.t 8)), 0⟩,
    ⟨(some 27), none, (.bin .neq (.t 26) (.c (.s (.int .i64 0)))), 0⟩] 0)
  (.cond (.t 27)
   (.seq (.reg [⟨(some 28), none, (.mv (.t 8)), 0⟩,
     ⟨(some 4), none, (.mv (.c (.s .nils))), 0⟩,
     ⟨(some 5), none, (.mv (.c (.s (.bool false)))), 0⟩,
     ⟨(some 6), none, (.mv (.t 28)), 0⟩] 0)
   .ret)
   .skip))
 (.seq (.reg [⟨(some 9), none, (.mv (.c (.s .nils))), 0⟩] 0)
 (.seq (.seq (.reg [⟨(some 29), none, (.mv (.t 7)), 0⟩,
    ⟨(some 30), none, (.call (.c (.s (.fn 53 []))) [(.t 29)]), 0⟩,
    ⟨(some 31), none, (.len (.t 30)), 8⟩,
    ⟨(some 32), none, (.mv (.c (.s (.int .i64 0)))), 8⟩] 8)
  (.block 0 (.loop (.seq (.reg [⟨(some 33), none, (.bin .lss (.t 32) (.t 31)), 0⟩] 0)
    (.seq (.cond (.t 33)
      .skip
      (.exit 0))
    (.seq (.block 1 (.seq (.reg [⟨(some 34), none, (.iadS 2 (.t 30) (.t 32)), 0⟩,
        ⟨(some 35), none, (.ld (.many 2 0) (.t 34)), 0⟩,
        ⟨(some 11), none, (.alloc 77 (.pb [(.int .i64 0), (.int .i64 0)] 0 ff)), 0⟩,
        ⟨none, none, (.st (.many 2 0) (.t 11) (.t 35)), 1⟩] 1)
      (.seq (.reg [⟨(some 37), none, (.mv (.t 7)), 0⟩,
        ⟨(some 38), none, (.ld (.many 2 0) (.t 11)), 0⟩,
        ⟨(some 39), none, (.call (.c (.s (.fn 54 []))) [(.t 37), (.t 38)]), 0⟩,
        ⟨(some 36), none, (.mv (.t 39)), 8⟩,
        ⟨(some 40), none, (.extr (.t 36) 0), 8⟩,
        ⟨(some 41), none, (.extr (.t 36) 1), 8⟩,
        ⟨(some 12), none, (.mv (.t 40)), 8⟩,
        ⟨(some 13), none, (.mv (.t 41)), 8⟩] 8)
      (.seq (.seq (.reg [⟨(some 43), none, (.mv (.t 13)), 0⟩,
         ⟨(some 44), none, (.ld (.many 2 0) (.t 11)), 0⟩,
         ⟨(some 45), none, (.call (.c (.s (.fn 90 []))) [(.t 44)]), 0⟩,
         ⟨(some 46), none, (.lkup (.ints 2) (.ints 2) true (.t 43) (.t 45)), 8⟩,
         ⟨(some 42), none, (.mv (.t 46)), 8⟩,
         ⟨(some 47), none, (.extr (.t 42) 0), 8⟩,
         ⟨(some 48), none, (.extr (.t 42) 1), 8⟩,
         ⟨(some 14), none, (.alloc 77 (.pb [(.int .i64 0), (.int .i64 0)] 0 ff)), 8⟩,
         ⟨none, none, (.st (.many 2 0) (.t 14) (.t 47)), 9⟩,
         ⟨(some 15), none, (.mv (.t 48)), 9⟩] 9)
       (.seq (.reg [⟨(some 49), none, (.mv (.t 15)), 0⟩,
         ⟨(some 50), none, (.not (.t 49)), 0⟩] 0)
       (.cond (.t 50)
        (.exit 1)
        .skip)))
      (.seq (.reg [⟨(some 51), none, (.ld (.many 2 0) (.t 11)), 0⟩,
        ⟨(some 52), none, (.call (.c (.s (.fn 90 []))) [(.t 51)]), 0⟩,
        ⟨(some 53), none, (.bsl 77 .i64 2 1 [(0, (.t 52))]), 8⟩,
        ⟨(some 16), none, (.mv (.t 53)), 9⟩] 9)
      (.seq (.block 2 (.loop (.seq (.seq (.regD [⟨(some 54), none, (.mv (.t 16)), 0⟩,
            ⟨(some 55), none, (.mv (.t 16)), 0⟩,
            ⟨(some 56), none, (.len (.t 55)), 0⟩,
            ⟨(some 57), none, (.bin .sub (.t 56) (.c (.s (.int .i64 1)))), 0⟩,
            ⟨(some 58), none, (.iadS 2 (.t 54) (.t 57)), 0⟩,
            ⟨(some 59), none, (.ld (.many 2 0) (.t 58)), 0⟩,
            ⟨(some 60), none, (.ld (.many 2 0) (.t 11)), 0⟩,
            ⟨(some 61), none, (.eqv (.agg 2 0) true (.t 59) (.t 60)), 0⟩] 0 [])
          (.cond (.t 61)
           .skip
           (.exit 2)))
         (.block 3 (.reg [⟨(some 62), none, (.mv (.t 16)), 0⟩,
           ⟨(some 63), none, (.mv (.t 13)), 0⟩,
           ⟨(some 64), none, (.mv (.t 16)), 0⟩,
           ⟨(some 65), none, (.mv (.t 16)), 0⟩,
           ⟨(some 66), none, (.len (.t 65)), 0⟩,
           ⟨(some 67), none, (.bin .sub (.t 66) (.c (.s (.int .i64 1)))), 0⟩,
           ⟨(some 68), none, (.iadS 2 (.t 64) (.t 67)), 0⟩,
           ⟨(some 69), none, (.ld (.many 2 0) (.t 68)), 0⟩,
           ⟨(some 70), none, (.lkup (.ints 2) (.ints 2) false (.t 63) (.t 69)), 0⟩,
           ⟨(some 71), none, (.bsl 77 .i64 2 1 [(0, (.t 70))]), 0⟩,
           ⟨(some 72), none, (.app 77 .i64 2 (.t 62) (.t 71)), 1⟩,
           ⟨(some 16), none, (.mv (.t 72)), 2⟩] 2)))))
      (.seq (.reg [⟨(some 73), none, (.mv (.t 16)), 0⟩,
        ⟨(some 74), none, (.call (.c (.s (.fn 91 []))) [(.t 73)]), 0⟩] 8)
      (.seq (.reg [⟨(some 75), none, (.mv (.t 9)), 0⟩,
        ⟨(some 76), none, (.eqv .nil false (.t 75) (.c (.s .nils))), 0⟩,
        ⟨(some 77), none, (.mv (.t 76)), 0⟩,
        ⟨(some 78), (some (77, false)), (.mv (.t 16)), 0⟩,
        ⟨(some 79), (some (77, false)), (.len (.t 78)), 0⟩,
        ⟨(some 80), (some (77, false)), (.mv (.t 9)), 0⟩,
        ⟨(some 81), (some (77, false)), (.len (.t 80)), 0⟩,
        ⟨(some 82), (some (77, false)), (.bin .lss (.t 79) (.t 81)), 0⟩,
        ⟨(some 83), none, (.pick (.t 77) (.c (.s (.bool true))) (.t 82)), 0⟩] 0)
      (.cond (.t 83)
       (.reg [⟨(some 84), none, (.mv (.t 16)), 0⟩,
        ⟨(some 9), none, (.mv (.t 84)), 0⟩] 0)
       .skip)))))))))
    (.reg [⟨(some 85), none, (.bin .add (.t 32) (.c (.s (.int .i64 1)))), 0⟩,
     ⟨(some 32), none, (.mv (.t 85)), 0⟩] 0)))))))
 (.seq (.reg [⟨(some 17), none, (.mv (.c (.s .nils))), 0⟩] 0)
 (.seq (.seq (.reg [⟨(some 86), none, (.mv (.t 9)), 0⟩,
    ⟨(some 87), none, (.len (.t 86)), 0⟩,
    ⟨(some 88), none, (.mv (.c (.s (.int .i64 0)))), 0⟩] 0)
  (.block 4 (.loop (.seq (.reg [⟨(some 89), none, (.bin .lss (.t 88) (.t 87)), 0⟩] 0)
    (.seq (.cond (.t 89)
      .skip
      (.exit 4))
    (.seq (.block 5 (.seq (.reg [⟨(some 90), none, (.iadS 2 (.t 86) (.t 88)), 0⟩,
        ⟨(some 91), none, (.ld (.many 2 0) (.t 90)), 0⟩,
        ⟨(some 19), none, (.alloc 77 (.pb [(.int .i64 0), (.int .i64 0)] 0 ff)), 0⟩,
        ⟨none, none, (.st (.many 2 0) (.t 19) (.t 91)), 1⟩] 1)
      (.reg [⟨(some 92), none, (.mv (.t 17)), 0⟩,
       ⟨(some 93), none, (.ld (.many 2 0) (.t 19)), 0⟩,
       ⟨(some 94), none, (.call (.c (.s (.fn 92 []))) [(.t 93)]), 0⟩,
       ⟨(some 95), none, (.bsl 38 .i64 2 1 [(0, (.t 94))]), 8⟩,
       ⟨(some 96), none, (.app 38 .i64 2 (.t 92) (.t 95)), 9⟩,
       ⟨(some 17), none, (.mv (.t 96)), 10⟩] 10)))
    (.reg [⟨(some 97), none, (.bin .add (.t 88) (.c (.s (.int .i64 1)))), 0⟩,
     ⟨(some 88), none, (.mv (.t 97)), 0⟩] 0)))))))
 (.seq (.reg [⟨(some 98), none, (.mv (.t 17)), 0⟩,
   ⟨(some 99), none, (.mv (.t 17)), 0⟩,
   ⟨(some 100), none, (.eqv .nil true (.t 99) (.c (.s .nils))), 0⟩,
   ⟨(some 4), none, (.mv (.t 98)), 0⟩,
   ⟨(some 5), none, (.mv (.t 100)), 0⟩,
   ⟨(some 6), none, (.mv (.c (.s (.int .i64 0)))), 0⟩] 0)
 .ret)))))))), [(.t 4), (.t 5), (.t 6)]⟩
/-- girouette/orders.open -/
def x48 : XFn := ⟨75, (.seq (.reg [⟨(some 4), none, (.mv (.c (.s .nilp))), 0⟩,
   ⟨(some 5), none, (.mv (.c (.s (.int .i64 0)))), 0⟩] 0)
 (.seq (.seq (.reg [⟨(some 9), none, (.mv (.t 0)), 0⟩,
    ⟨(some 10), none, (.bin .lss (.t 9) (.c (.s (.int .i64 1)))), 0⟩,
    ⟨(some 11), none, (.mv (.t 10)), 0⟩,
    ⟨(some 12), (some (11, false)), (.mv (.t 0)), 0⟩,
    ⟨(some 13), (some (11, false)), (.bin .gtr (.t 12) (.c (.s (.int .i64 7)))), 0⟩,
    ⟨(some 14), none, (.pick (.t 11) (.c (.s (.bool true))) (.t 13)), 0⟩] 0)
  (.cond (.t 14)
   (.seq (.reg [⟨(some 4), none, (.mv (.c (.s .nilp))), 0⟩,
     ⟨(some 5), none, (.mv (.c (.s (.int .i64 1)))), 0⟩] 0)
   .ret)
   .skip))
 (.seq (.reg [⟨(some 15), none, (.mv (.t 0)), 0⟩,
   ⟨(some 16), none, (.bld (.pb [(.int .i64 0)] 49 ff) [((0, 1), (.t 15))]), 0⟩,
   ⟨(some 17), none, (.box 115 (.t 16)), 0⟩,
   ⟨(some 6), none, (.mv (.t 17)), 1⟩] 1)
 (.seq (.seq (.reg [⟨(some 18), none, (.mv (.t 1)), 0⟩,
    ⟨(some 19), none, (.len (.t 18)), 0⟩,
    ⟨(some 20), none, (.mv (.c (.s (.int .i64 0)))), 0⟩] 0)
  (.block 0 (.loop (.seq (.reg [⟨(some 21), none, (.bin .lss (.t 20) (.t 19)), 0⟩] 0)
    (.seq (.cond (.t 21)
      .skip
      (.exit 0))
    (.seq (.block 1 (.seq (.reg [⟨(some 22), none, (.mv (.t 20)), 0⟩,
        ⟨(some 23), none, (.iadS 2 (.t 18) (.t 20)), 0⟩,
        ⟨(some 24), none, (.ld (.many 2 0) (.t 23)), 0⟩,
        ⟨(some 8), none, (.alloc 38 (.pb [(.int .i64 0), (.int .i64 0)] 0 ff)), 0⟩,
        ⟨(some 7), none, (.mv (.t 22)), 1⟩,
        ⟨none, none, (.st (.many 2 0) (.t 8) (.t 24)), 1⟩] 1)
      (.seq (.seq (.regD [⟨(some 25), none, (.iad 2 1 (.t 8) (.c (.s (.int .i64 0)))), 0⟩,
         ⟨(some 26), none, (.ld .one (.t 25)), 0⟩,
         ⟨(some 27), none, (.bin .lss (.t 26) (.c (.s (.int .i64 0)))), 0⟩,
         ⟨(some 28), none, (.mv (.t 27)), 0⟩,
         ⟨(some 29), (some (28, false)), (.iad 2 1 (.t 8) (.c (.s (.int .i64 0)))), 0⟩,
         ⟨(some 30), (some (28, false)), (.ld .one (.t 29)), 0⟩,
         ⟨(some 31), (some (28, false)), (.iad 2 1 (.t 8) (.c (.s (.int .i64 1)))), 0⟩,
         ⟨(some 32), (some (28, false)), (.ld .one (.t 31)), 0⟩,
         ⟨(some 33), (some (28, false)), (.bin .geq (.t 30) (.t 32)), 0⟩,
         ⟨(some 34), none, (.pick (.t 28) (.c (.s (.bool true))) (.t 33)), 0⟩,
         ⟨(some 35), none, (.mv (.t 34)), 0⟩,
         ⟨(some 36), (some (35, false)), (.iad 2 1 (.t 8) (.c (.s (.int .i64 1)))), 0⟩,
         ⟨(some 37), (some (35, false)), (.ld .one (.t 36)), 0⟩,
         ⟨(some 38), (some (35, false)), (.mv (.t 0)), 0⟩,
         ⟨(some 39), (some (35, false)), (.bin .geq (.t 37) (.t 38)), 0⟩,
         ⟨(some 40), none, (.pick (.t 35) (.c (.s (.bool true))) (.t 39)), 0⟩,
         ⟨(some 41), none, (.mv (.t 40)), 0⟩,
         ⟨(some 42), (some (41, false)), (.mv (.t 7)), 0⟩,
         ⟨(some 43), (some (41, false)), (.bin .gtr (.t 42) (.c (.s (.int .i64 0)))), 0⟩,
         ⟨(some 44), (some (41, false)), (.mv (.t 43)), 0⟩,
         ⟨(some 45), (some (44, true)), (.mv (.t 1)), 0⟩,
         ⟨(some 46), (some (44, true)), (.mv (.t 7)), 0⟩,
         ⟨(some 47), (some (44, true)), (.bin .sub (.t 46) (.c (.s (.int .i64 1)))), 0⟩,
         ⟨(some 48), (some (44, true)), (.iadS 2 (.t 45) (.t 47)), 0⟩,
         ⟨(some 49), (some (44, true)), (.slcA 2 1 (.t 48) none none), 0⟩,
         ⟨(some 50), (some (44, true)), (.slcA 2 1 (.t 8) none none), 0⟩,
         ⟨(some 51), (some (44, true)), (.call (.c (.s (.fn 93 []))) [(.t 49), (.t 50)]), 0⟩,
         ⟨(some 52), (some (44, true)), (.bin .geq (.t 51) (.c (.s (.int .i64 0)))), 8⟩,
         ⟨(some 53), (some (41, false)), (.pick (.t 44) (.t 52) (.c (.s (.bool false)))), 8⟩,
         ⟨(some 54), none, (.pick (.t 41) (.c (.s (.bool true))) (.t 53)), 8⟩] 8 [])
       (.cond (.t 54)
        (.seq (.reg [⟨(some 4), none, (.mv (.c (.s .nilp))), 0⟩,
          ⟨(some 5), none, (.mv (.c (.s (.int .i64 20)))), 0⟩] 0)
        .ret)
        .skip))
      (.regD [⟨(some 55), none, (.mv (.t 6)), 0⟩,
       ⟨(some 56), none, (.iad 2 1 (.t 8) (.c (.s (.int .i64 0)))), 0⟩,
       ⟨(some 57), none, (.ld .one (.t 56)), 0⟩,
       ⟨(some 58), none, (.iad 2 1 (.t 8) (.c (.s (.int .i64 1)))), 0⟩,
       ⟨(some 59), none, (.ld .one (.t 58)), 0⟩,
       ⟨(some 60), none, (.mv (.t 6)), 0⟩,
       ⟨(some 61), none, (.iad 2 1 (.t 8) (.c (.s (.int .i64 1)))), 0⟩,
       ⟨(some 62), none, (.ld .one (.t 61)), 0⟩,
       ⟨(some 63), none, (.iad 2 1 (.t 8) (.c (.s (.int .i64 0)))), 0⟩,
       ⟨(some 64), none, (.ld .one (.t 63)), 0⟩,
       ⟨(some 65), none, (.nck (.t 55)), 0⟩,
       ⟨(some 66), none, (.fad 1 (.t 65)), 0⟩,
       ⟨(some 67), none, (.iad 7 7 (.t 66) (.t 57)), 0⟩,
       ⟨(some 68), none, (.iad 7 1 (.t 67) (.t 59)), 0⟩,
       ⟨none, none, (.st .one (.t 68) (.c (.s (.bool true)))), 0⟩,
       ⟨(some 69), none, (.nck (.t 60)), 0⟩,
       ⟨(some 70), none, (.fad 1 (.t 69)), 0⟩,
       ⟨(some 71), none, (.iad 7 7 (.t 70) (.t 62)), 0⟩,
       ⟨(some 72), none, (.iad 7 1 (.t 71) (.t 64)), 0⟩,
       ⟨none, none, (.st .one (.t 72) (.c (.s (.bool true)))), 0⟩] 0 []))))
    (.reg [⟨(some 73), none, (.bin .add (.t 20) (.c (.s (.int .i64 1)))), 0⟩,
     ⟨(some 20), none, (.mv (.t 73)), 0⟩] 0)))))))
 (.seq (.reg [⟨(some 74), none, (.mv (.t 6)), 0⟩,
   ⟨(some 4), none, (.mv (.t 74)), 0⟩,
   ⟨(some 5), none, (.mv (.c (.s (.int .i64 0)))), 0⟩] 0)
 .ret))))), [(.t 4), (.t 5)]⟩
/-- (*girouette/orders.graph).edges -/
def x49 : XFn := ⟨39, (.seq (.reg [⟨(some 2), none, (.mv (.c (.s .nils))), 0⟩] 0)
 (.seq (.reg [⟨(some 3), none, (.mv (.c (.s .nils))), 0⟩] 0)
 (.seq (.seq (.reg [⟨(some 6), none, (.mv (.t 0)), 0⟩,
    ⟨(some 7), none, (.nck (.t 6)), 0⟩,
    ⟨(some 8), none, (.fad 0 (.t 7)), 0⟩,
    ⟨(some 9), none, (.ld .one (.t 8)), 0⟩,
    ⟨(some 10), none, (.mv (.c (.s (.int .i64 0)))), 0⟩] 0)
  (.block 0 (.loop (.seq (.reg [⟨(some 11), none, (.bin .lss (.t 10) (.t 9)), 0⟩] 0)
    (.seq (.cond (.t 11)
      .skip
      (.exit 0))
    (.seq (.block 1 (.seq (.reg [⟨(some 12), none, (.mv (.t 10)), 0⟩,
        ⟨(some 4), none, (.mv (.t 12)), 0⟩] 0)
      (.seq (.reg [⟨(some 13), none, (.mv (.t 4)), 0⟩,
        ⟨(some 14), none, (.bin .add (.t 13) (.c (.s (.int .i64 1)))), 0⟩,
        ⟨(some 5), none, (.mv (.t 14)), 0⟩] 0)
      (.block 2 (.loop (.seq (.seq (.reg [⟨(some 15), none, (.mv (.t 5)), 0⟩,
           ⟨(some 16), none, (.mv (.t 0)), 0⟩,
           ⟨(some 17), none, (.nck (.t 16)), 0⟩,
           ⟨(some 18), none, (.fad 0 (.t 17)), 0⟩,
           ⟨(some 19), none, (.ld .one (.t 18)), 0⟩,
           ⟨(some 20), none, (.bin .lss (.t 15) (.t 19)), 0⟩] 0)
         (.cond (.t 20)
          .skip
          (.exit 2)))
        (.seq (.block 3 (.seq (.reg [⟨(some 23), none, (.mv (.t 0)), 0⟩,
            ⟨(some 24), none, (.mv (.t 4)), 0⟩,
            ⟨(some 25), none, (.mv (.t 5)), 0⟩,
            ⟨(some 26), none, (.nck (.t 23)), 0⟩,
            ⟨(some 27), none, (.fad 1 (.t 26)), 0⟩,
            ⟨(some 28), none, (.iad 7 7 (.t 27) (.t 24)), 0⟩,
            ⟨(some 29), none, (.iad 7 1 (.t 28) (.t 25)), 0⟩,
            ⟨(some 30), none, (.ld .one (.t 29)), 0⟩] 0)
          (.cond (.t 30)
           (.reg [⟨(some 31), none, (.mv (.t 3)), 0⟩,
            ⟨(some 32), none, (.mv (.t 4)), 0⟩,
            ⟨(some 33), none, (.mv (.t 5)), 0⟩,
            ⟨(some 34), none, (.bld (.pb [(.int .i64 0), (.int .i64 0)] 0 ff) [((0, 1), (.t 32)), ((1, 1), (.t 33))]), 0⟩,
            ⟨(some 35), none, (.bsl 38 .i64 2 1 [(0, (.t 34))]), 0⟩,
            ⟨(some 36), none, (.app 38 .i64 2 (.t 31) (.t 35)), 1⟩,
            ⟨(some 3), none, (.mv (.t 36)), 2⟩] 2)
           .skip)))
        (.reg [⟨(some 21), none, (.mv (.t 5)), 0⟩,
         ⟨(some 22), none, (.bin .add (.t 21) (.c (.s (.int .i64 1)))), 0⟩,
         ⟨(some 5), none, (.mv (.t 22)), 0⟩] 0))))))))
    (.reg [⟨(some 37), none, (.bin .add (.t 10) (.c (.s (.int .i64 1)))), 0⟩,
     ⟨(some 10), none, (.mv (.t 37)), 0⟩] 0)))))))
 (.seq (.reg [⟨(some 38), none, (.mv (.t 3)), 0⟩,
   ⟨(some 2), none, (.mv (.t 38)), 0⟩] 0)
 .ret)))), [(.t 2)]⟩
/-- girouette/orders.Count$1 -/
def x50 : XFn := ⟨50, (.seq (.seq (.reg [⟨(some 9), none, (.mv (.t 0)), 0⟩,
    ⟨(some 10), none, (.ld .one (.t 1)), 0⟩,
    ⟨(some 11), none, (.len (.t 10)), 0⟩,
    ⟨(some 12), none, (.bin .eql (.t 9) (.t 11)), 0⟩] 0)
  (.cond (.t 12)
   (.seq (.seq (.reg [⟨(some 13), none, (.ld (.many 0 49) (.t 2)), 0⟩,
      ⟨(some 14), none, (.call (.c (.s (.fn 51 []))) [(.t 13)]), 0⟩] 8)
    (.cond (.t 14)
     (.reg [⟨(some 15), none, (.ld .one (.t 3)), 0⟩,
      ⟨(some 16), none, (.bin .add (.t 15) (.c (.s (.int .i64 1)))), 0⟩,
      ⟨none, none, (.st .one (.t 3) (.t 16)), 0⟩] 0)
     .skip))
   .ret)
   .skip))
 (.seq (.regD [⟨(some 17), none, (.ld .one (.t 1)), 0⟩,
   ⟨(some 18), none, (.mv (.t 0)), 0⟩,
   ⟨(some 19), none, (.iadS 2 (.t 17) (.t 18)), 0⟩,
   ⟨(some 20), none, (.iad 2 1 (.t 19) (.c (.s (.int .i64 0)))), 0⟩,
   ⟨(some 21), none, (.ld .one (.t 20)), 0⟩,
   ⟨(some 22), none, (.ld .one (.t 1)), 0⟩,
   ⟨(some 23), none, (.mv (.t 0)), 0⟩,
   ⟨(some 24), none, (.iadS 2 (.t 22) (.t 23)), 0⟩,
   ⟨(some 25), none, (.iad 2 1 (.t 24) (.c (.s (.int .i64 1)))), 0⟩,
   ⟨(some 26), none, (.ld .one (.t 25)), 0⟩,
   ⟨(some 7), none, (.mv (.t 21)), 0⟩,
   ⟨(some 8), none, (.mv (.t 26)), 0⟩] 0 [])
 (.seq (.reg [⟨(some 27), none, (.mv (.c (.s (.int .i64 0)))), 0⟩] 0)
 (.block 0 (.loop (.seq (.reg [⟨(some 28), none, (.bin .lss (.t 27) (.c (.s (.int .i64 2)))), 0⟩] 0)
   (.seq (.cond (.t 28)
     .skip
     (.exit 0))
   (.seq (.block 1 (.seq (.reg [⟨(some 29), none, (.mv (.t 7)), 0⟩,
       ⟨(some 30), none, (.mv (.t 8)), 0⟩,
       ⟨(some 31), none, (.iad 7 7 (.t 2) (.t 29)), 0⟩,
       ⟨(some 32), none, (.iad 7 1 (.t 31) (.t 30)), 0⟩,
       ⟨none, none, (.st .one (.t 32) (.c (.s (.bool true)))), 0⟩] 0)
     (.seq (.seq (.reg [⟨(some 33), none, (.ld .one (.t 4)), 0⟩,
        ⟨(some 34), none, (.ld (.many 0 49) (.t 2)), 0⟩,
        ⟨(some 35), none, (.mv (.t 7)), 0⟩,
        ⟨(some 36), none, (.mv (.t 8)), 0⟩,
        ⟨(some 37), none, (.call (.c (.s (.fn 52 []))) [(.t 33), (.t 34), (.t 35), (.t 36)]), 0⟩,
        ⟨(some 38), none, (.not (.t 37)), 8⟩] 8)
      (.cond (.t 38)
       (.reg [⟨(some 39), none, (.ld .one (.t 5)), 0⟩,
        ⟨(some 40), none, (.mv (.t 0)), 0⟩,
        ⟨(some 41), none, (.bin .add (.t 40) (.c (.s (.int .i64 1)))), 0⟩,
        ⟨(some 42), none, (.call (.t 39) [(.t 41)]), 0⟩] 8)
       .skip))
     (.seq (.reg [⟨(some 43), none, (.mv (.t 7)), 0⟩,
       ⟨(some 44), none, (.mv (.t 8)), 0⟩,
       ⟨(some 45), none, (.iad 7 7 (.t 2) (.t 43)), 0⟩,
       ⟨(some 46), none, (.iad 7 1 (.t 45) (.t 44)), 0⟩,
       ⟨none, none, (.st .one (.t 46) (.c (.s (.bool false)))), 0⟩] 0)
     (.reg [⟨(some 47), none, (.mv (.t 8)), 0⟩,
      ⟨(some 48), none, (.mv (.t 7)), 0⟩,
      ⟨(some 7), none, (.mv (.t 47)), 0⟩,
      ⟨(some 8), none, (.mv (.t 48)), 0⟩] 0)))))
   (.reg [⟨(some 49), none, (.bin .add (.t 27) (.c (.s (.int .i64 1)))), 0⟩,
    ⟨(some 27), none, (.mv (.t 49)), 0⟩] 0))))))))), []⟩
/-- (girouette/orders.relation).transitive -/
def x51 : XFn := ⟨42, (.seq (.reg [⟨(some 1), none, (.box 70 (.t 0)), 0⟩,
   ⟨(some 2), none, (.mv (.c (.s (.bool false)))), 1⟩] 1)
 (.seq (.seq (.reg [⟨(some 6), none, (.mv (.c (.s (.int .i64 0)))), 0⟩] 0)
  (.block 0 (.loop (.seq (.reg [⟨(some 7), none, (.bin .lss (.t 6) (.c (.s (.int .i64 7)))), 0⟩] 0)
    (.seq (.cond (.t 7)
      .skip
      (.exit 0))
    (.seq (.block 1 (.seq (.reg [⟨(some 8), none, (.mv (.t 6)), 0⟩,
        ⟨(some 3), none, (.mv (.t 8)), 0⟩] 0)
      (.seq (.reg [⟨(some 9), none, (.mv (.c (.s (.int .i64 0)))), 0⟩] 0)
      (.block 2 (.loop (.seq (.reg [⟨(some 10), none, (.bin .lss (.t 9) (.c (.s (.int .i64 7)))), 0⟩] 0)
        (.seq (.cond (.t 10)
          .skip
          (.exit 2))
        (.seq (.block 3 (.seq (.reg [⟨(some 11), none, (.mv (.t 9)), 0⟩,
            ⟨(some 4), none, (.mv (.t 11)), 0⟩] 0)
          (.seq (.seq (.reg [⟨(some 12), none, (.mv (.t 3)), 0⟩,
             ⟨(some 13), none, (.mv (.t 4)), 0⟩,
             ⟨(some 14), none, (.iad 7 7 (.t 1) (.t 12)), 0⟩,
             ⟨(some 15), none, (.iad 7 1 (.t 14) (.t 13)), 0⟩,
             ⟨(some 16), none, (.ld .one (.t 15)), 0⟩,
             ⟨(some 17), none, (.not (.t 16)), 0⟩] 0)
           (.cond (.t 17)
            (.exit 3)
            .skip))
          (.seq (.seq (.reg [⟨(some 18), none, (.mv (.t 4)), 0⟩,
             ⟨(some 19), none, (.mv (.t 3)), 0⟩,
             ⟨(some 20), none, (.iad 7 7 (.t 1) (.t 18)), 0⟩,
             ⟨(some 21), none, (.iad 7 1 (.t 20) (.t 19)), 0⟩,
             ⟨(some 22), none, (.ld .one (.t 21)), 0⟩] 0)
           (.cond (.t 22)
            (.seq (.reg [⟨(some 2), none, (.mv (.c (.s (.bool false)))), 0⟩] 0)
            .ret)
            .skip))
          (.seq (.reg [⟨(some 23), none, (.mv (.c (.s (.int .i64 0)))), 0⟩] 0)
          (.block 4 (.loop (.seq (.reg [⟨(some 24), none, (.bin .lss (.t 23) (.c (.s (.int .i64 7)))), 0⟩] 0)
            (.seq (.cond (.t 24)
              .skip
              (.exit 4))
            (.seq (.block 5 (.seq (.reg [⟨(some 25), none, (.mv (.t 23)), 0⟩,
                ⟨(some 5), none, (.mv (.t 25)), 0⟩] 0)
              (.seq (.reg [⟨(some 26), none, (.mv (.t 4)), 0⟩,
                ⟨(some 27), none, (.mv (.t 5)), 0⟩,
                ⟨(some 28), none, (.iad 7 7 (.t 1) (.t 26)), 0⟩,
                ⟨(some 29), none, (.iad 7 1 (.t 28) (.t 27)), 0⟩,
                ⟨(some 30), none, (.ld .one (.t 29)), 0⟩,
                ⟨(some 31), none, (.mv (.t 30)), 0⟩,
                ⟨(some 32), (some (31, true)), (.mv (.t 3)), 0⟩,
                ⟨(some 33), (some (31, true)), (.mv (.t 5)), 0⟩,
                ⟨(some 34), (some (31, true)), (.iad 7 7 (.t 1) (.t 32)), 0⟩,
                ⟨(some 35), (some (31, true)), (.iad 7 1 (.t 34) (.t 33)), 0⟩,
                ⟨(some 36), (some (31, true)), (.ld .one (.t 35)), 0⟩,
                ⟨(some 37), (some (31, true)), (.not (.t 36)), 0⟩,
                ⟨(some 38), none, (.pick (.t 31) (.t 37) (.c (.s (.bool false)))), 0⟩] 0)
              (.cond (.t 38)
               (.seq (.reg [⟨(some 2), none, (.mv (.c (.s (.bool false)))), 0⟩] 0)
               .ret)
               .skip))))
            (.reg [⟨(some 39), none, (.bin .add (.t 23) (.c (.s (.int .i64 1)))), 0⟩,
             ⟨(some 23), none, (.mv (.t 39)), 0⟩] 0)))))))))))
        (.reg [⟨(some 40), none, (.bin .add (.t 9) (.c (.s (.int .i64 1)))), 0⟩,
         ⟨(some 9), none, (.mv (.t 40)), 0⟩] 0)))))))))
    (.reg [⟨(some 41), none, (.bin .add (.t 6) (.c (.s (.int .i64 1)))), 0⟩,
     ⟨(some 6), none, (.mv (.t 41)), 0⟩] 0)))))))
 (.seq (.reg [⟨(some 2), none, (.mv (.c (.s (.bool true)))), 0⟩] 0)
 .ret))), [(.t 2)]⟩
/-- (*girouette/orders.graph).spoilt -/
def x52 : XFn := ⟨66, (.seq (.reg [⟨(some 5), none, (.box 70 (.t 1)), 0⟩,
   ⟨(some 8), none, (.mv (.c (.s (.bool false)))), 1⟩] 1)
 (.seq (.seq (.reg [⟨(some 10), none, (.mv (.t 0)), 0⟩,
    ⟨(some 11), none, (.nck (.t 10)), 0⟩,
    ⟨(some 12), none, (.fad 0 (.t 11)), 0⟩,
    ⟨(some 13), none, (.ld .one (.t 12)), 0⟩,
    ⟨(some 14), none, (.mv (.c (.s (.int .i64 0)))), 0⟩] 0)
  (.block 0 (.loop (.seq (.reg [⟨(some 15), none, (.bin .lss (.t 14) (.t 13)), 0⟩] 0)
    (.seq (.cond (.t 15)
      .skip
      (.exit 0))
    (.seq (.block 1 (.seq (.reg [⟨(some 16), none, (.mv (.t 14)), 0⟩,
        ⟨(some 9), none, (.mv (.t 16)), 0⟩] 0)
      (.seq (.reg [⟨(some 17), none, (.mv (.t 3)), 0⟩,
        ⟨(some 18), none, (.mv (.t 9)), 0⟩,
        ⟨(some 19), none, (.iad 7 7 (.t 5) (.t 17)), 0⟩,
        ⟨(some 20), none, (.iad 7 1 (.t 19) (.t 18)), 0⟩,
        ⟨(some 21), none, (.ld .one (.t 20)), 0⟩,
        ⟨(some 22), none, (.mv (.t 21)), 0⟩,
        ⟨(some 23), (some (22, true)), (.mv (.t 0)), 0⟩,
        ⟨(some 24), (some (22, true)), (.mv (.t 2)), 0⟩,
        ⟨(some 25), (some (22, true)), (.mv (.t 9)), 0⟩,
        ⟨(some 26), (some (22, true)), (.nck (.t 23)), 0⟩,
        ⟨(some 27), (some (22, true)), (.fad 1 (.t 26)), 0⟩,
        ⟨(some 28), (some (22, true)), (.iad 7 7 (.t 27) (.t 24)), 0⟩,
        ⟨(some 29), (some (22, true)), (.iad 7 1 (.t 28) (.t 25)), 0⟩,
        ⟨(some 30), (some (22, true)), (.ld .one (.t 29)), 0⟩,
        ⟨(some 31), (some (22, true)), (.not (.t 30)), 0⟩,
        ⟨(some 32), (some (22, true)), (.mv (.t 31)), 0⟩,
        ⟨(some 33), (some (32, false)), (.mv (.t 9)), 0⟩,
        ⟨(some 34), (some (32, false)), (.mv (.t 2)), 0⟩,
        ⟨(some 35), (some (32, false)), (.iad 7 7 (.t 5) (.t 33)), 0⟩,
        ⟨(some 36), (some (32, false)), (.iad 7 1 (.t 35) (.t 34)), 0⟩,
        ⟨(some 37), (some (32, false)), (.ld .one (.t 36)), 0⟩,
        ⟨(some 38), (some (22, true)), (.pick (.t 32) (.c (.s (.bool true))) (.t 37)), 0⟩,
        ⟨(some 39), none, (.pick (.t 22) (.t 38) (.c (.s (.bool false)))), 0⟩,
        ⟨(some 40), none, (.mv (.t 39)), 0⟩,
        ⟨(some 41), (some (40, false)), (.mv (.t 9)), 0⟩,
        ⟨(some 42), (some (40, false)), (.mv (.t 2)), 0⟩,
        ⟨(some 43), (some (40, false)), (.iad 7 7 (.t 5) (.t 41)), 0⟩,
        ⟨(some 44), (some (40, false)), (.iad 7 1 (.t 43) (.t 42)), 0⟩,
        ⟨(some 45), (some (40, false)), (.ld .one (.t 44)), 0⟩,
        ⟨(some 46), (some (40, false)), (.mv (.t 45)), 0⟩,
        ⟨(some 47), (some (46, true)), (.mv (.t 0)), 0⟩,
        ⟨(some 48), (some (46, true)), (.mv (.t 9)), 0⟩,
        ⟨(some 49), (some (46, true)), (.mv (.t 3)), 0⟩,
        ⟨(some 50), (some (46, true)), (.nck (.t 47)), 0⟩,
        ⟨(some 51), (some (46, true)), (.fad 1 (.t 50)), 0⟩,
        ⟨(some 52), (some (46, true)), (.iad 7 7 (.t 51) (.t 48)), 0⟩,
        ⟨(some 53), (some (46, true)), (.iad 7 1 (.t 52) (.t 49)), 0⟩,
        ⟨(some 54), (some (46, true)), (.ld .one (.t 53)), 0⟩,
        ⟨(some 55), (some (46, true)), (.not (.t 54)), 0⟩,
        ⟨(some 56), (some (46, true)), (.mv (.t 55)), 0⟩,
        ⟨(some 57), (some (56, false)), (.mv (.t 3)), 0⟩,
        ⟨(some 58), (some (56, false)), (.mv (.t 9)), 0⟩,
        ⟨(some 59), (some (56, false)), (.iad 7 7 (.t 5) (.t 57)), 0⟩,
        ⟨(some 60), (some (56, false)), (.iad 7 1 (.t 59) (.t 58)), 0⟩,
        ⟨(some 61), (some (56, false)), (.ld .one (.t 60)), 0⟩,
        ⟨(some 62), (some (46, true)), (.pick (.t 56) (.c (.s (.bool true))) (.t 61)), 0⟩,
        ⟨(some 63), (some (40, false)), (.pick (.t 46) (.t 62) (.c (.s (.bool false)))), 0⟩,
        ⟨(some 64), none, (.pick (.t 40) (.c (.s (.bool true))) (.t 63)), 0⟩] 0)
      (.cond (.t 64)
       (.seq (.reg [⟨(some 8), none, (.mv (.c (.s (.bool true)))), 0⟩] 0)
       .ret)
       .skip))))
    (.reg [⟨(some 65), none, (.bin .add (.t 14) (.c (.s (.int .i64 1)))), 0⟩,
     ⟨(some 14), none, (.mv (.t 65)), 0⟩] 0)))))))
 (.seq (.reg [⟨(some 8), none, (.mv (.c (.s (.bool false)))), 0⟩] 0)
 .ret))), [(.t 8)]⟩
/-- (*girouette/orders.graph).arrows -/
def x53 : XFn := ⟨37, (.seq (.reg [⟨(some 2), none, (.mv (.c (.s .nils))), 0⟩] 0)
 (.seq (.reg [⟨(some 3), none, (.mv (.c (.s .nils))), 0⟩] 0)
 (.seq (.seq (.reg [⟨(some 6), none, (.mv (.t 0)), 0⟩,
    ⟨(some 7), none, (.nck (.t 6)), 0⟩,
    ⟨(some 8), none, (.fad 0 (.t 7)), 0⟩,
    ⟨(some 9), none, (.ld .one (.t 8)), 0⟩,
    ⟨(some 10), none, (.mv (.c (.s (.int .i64 0)))), 0⟩] 0)
  (.block 0 (.loop (.seq (.reg [⟨(some 11), none, (.bin .lss (.t 10) (.t 9)), 0⟩] 0)
    (.seq (.cond (.t 11)
      .skip
      (.exit 0))
    (.seq (.block 1 (.seq (.reg [⟨(some 12), none, (.mv (.t 10)), 0⟩,
        ⟨(some 4), none, (.mv (.t 12)), 0⟩] 0)
      (.seq (.reg [⟨(some 13), none, (.mv (.t 0)), 0⟩,
        ⟨(some 14), none, (.nck (.t 13)), 0⟩,
        ⟨(some 15), none, (.fad 0 (.t 14)), 0⟩,
        ⟨(some 16), none, (.ld .one (.t 15)), 0⟩,
        ⟨(some 17), none, (.mv (.c (.s (.int .i64 0)))), 0⟩] 0)
      (.block 2 (.loop (.seq (.reg [⟨(some 18), none, (.bin .lss (.t 17) (.t 16)), 0⟩] 0)
        (.seq (.cond (.t 18)
          .skip
          (.exit 2))
        (.seq (.block 3 (.seq (.reg [⟨(some 19), none, (.mv (.t 17)), 0⟩,
            ⟨(some 5), none, (.mv (.t 19)), 0⟩] 0)
          (.seq (.reg [⟨(some 20), none, (.mv (.t 0)), 0⟩,
            ⟨(some 21), none, (.mv (.t 4)), 0⟩,
            ⟨(some 22), none, (.mv (.t 5)), 0⟩,
            ⟨(some 23), none, (.nck (.t 20)), 0⟩,
            ⟨(some 24), none, (.fad 1 (.t 23)), 0⟩,
            ⟨(some 25), none, (.iad 7 7 (.t 24) (.t 21)), 0⟩,
            ⟨(some 26), none, (.iad 7 1 (.t 25) (.t 22)), 0⟩,
            ⟨(some 27), none, (.ld .one (.t 26)), 0⟩] 0)
          (.cond (.t 27)
           (.reg [⟨(some 28), none, (.mv (.t 3)), 0⟩,
            ⟨(some 29), none, (.mv (.t 4)), 0⟩,
            ⟨(some 30), none, (.mv (.t 5)), 0⟩,
            ⟨(some 31), none, (.bld (.pb [(.int .i64 0), (.int .i64 0)] 0 ff) [((0, 1), (.t 29)), ((1, 1), (.t 30))]), 0⟩,
            ⟨(some 32), none, (.bsl 77 .i64 2 1 [(0, (.t 31))]), 0⟩,
            ⟨(some 33), none, (.app 77 .i64 2 (.t 28) (.t 32)), 1⟩,
            ⟨(some 3), none, (.mv (.t 33)), 2⟩] 2)
           .skip))))
        (.reg [⟨(some 34), none, (.bin .add (.t 17) (.c (.s (.int .i64 1)))), 0⟩,
         ⟨(some 17), none, (.mv (.t 34)), 0⟩] 0)))))))))
    (.reg [⟨(some 35), none, (.bin .add (.t 10) (.c (.s (.int .i64 1)))), 0⟩,
     ⟨(some 10), none, (.mv (.t 35)), 0⟩] 0)))))))
 (.seq (.reg [⟨(some 36), none, (.mv (.t 3)), 0⟩,
   ⟨(some 2), none, (.mv (.t 36)), 0⟩] 0)
 .ret)))), [(.t 2)]⟩
/-- (*girouette/orders.graph).reach -/
def x54 : XFn := ⟨52, (.seq (.reg [⟨(some 3), none, (.box 77 (.t 1)), 0⟩,
   ⟨(some 4), none, (.mv (.c (.s .nils))), 1⟩,
   ⟨(some 5), none, (.mv (.c (.s .nilm))), 1⟩] 1)
 (.seq (.reg [⟨(some 12), none, (.mmk (.ints 2) (.ints 2)), 0⟩,
   ⟨(some 13), none, (.ld (.many 2 0) (.t 3)), 1⟩,
   ⟨(some 14), none, (.ld (.many 2 0) (.t 3)), 1⟩,
   ⟨none, none, (.mupd (.ints 2) (.ints 2) (.t 12) (.t 13) (.t 14)), 1⟩,
   ⟨(some 15), none, (.mv (.t 12)), 1⟩,
   ⟨(some 6), none, (.alloc 78 (.s .nilm)), 1⟩,
   ⟨none, none, (.st .one (.t 6) (.t 15)), 2⟩] 2)
 (.seq (.reg [⟨(some 16), none, (.ld (.many 2 0) (.t 3)), 0⟩,
   ⟨(some 17), none, (.bsl 77 .i64 2 1 [(0, (.t 16))]), 0⟩,
   ⟨(some 7), none, (.alloc 74 (.s .nils)), 1⟩,
   ⟨none, none, (.st .one (.t 7) (.t 17)), 2⟩] 2)
 (.seq (.seq (.reg [⟨(some 8), none, (.alloc 3 (.s (.int .i64 0))), 0⟩,
    ⟨none, none, (.st .one (.t 8) (.c (.s (.int .i64 0)))), 1⟩] 1)
  (.block 0 (.loop (.seq (.seq (.reg [⟨(some 18), none, (.ld .one (.t 8)), 0⟩,
       ⟨(some 19), none, (.ld .one (.t 7)), 0⟩,
       ⟨(some 20), none, (.len (.t 19)), 0⟩,
       ⟨(some 21), none, (.bin .lss (.t 18) (.t 20)), 0⟩] 0)
     (.cond (.t 21)
      .skip
      (.exit 0)))
    (.seq (.block 1 (.seq (.reg [⟨(some 24), none, (.mv (.t 0)), 0⟩,
        ⟨(some 25), none, (.ld .one (.t 7)), 0⟩,
        ⟨(some 26), none, (.ld .one (.t 8)), 0⟩,
        ⟨(some 27), none, (.iadS 2 (.t 25) (.t 26)), 0⟩,
        ⟨(some 28), none, (.ld (.many 2 0) (.t 27)), 0⟩,
        ⟨(some 29), none, (.call (.c (.s (.fn 88 []))) [(.t 24), (.t 28)]), 0⟩] 8)
      (.block 2 (.rf (.t 29) [30] (.reg [⟨(some 9), none, (.alloc 77 (.pb [(.int .i64 0), (.int .i64 0)] 0 ff)), 0⟩,
         ⟨none, none, (.st (.many 2 0) (.t 9) (.t 30)), 1⟩] 1) (.block 3 (.seq (.reg [⟨(some 32), none, (.ld .one (.t 6)), 0⟩,
           ⟨(some 33), none, (.ld (.many 2 0) (.t 9)), 0⟩,
           ⟨(some 34), none, (.lkup (.ints 2) (.ints 2) true (.t 32) (.t 33)), 0⟩,
           ⟨(some 31), none, (.mv (.t 34)), 0⟩,
           ⟨(some 35), none, (.extr (.t 31) 0), 0⟩,
           ⟨(some 36), none, (.extr (.t 31) 1), 0⟩,
           ⟨(some 10), none, (.alloc 77 (.pb [(.int .i64 0), (.int .i64 0)] 0 ff)), 0⟩,
           ⟨none, none, (.st (.many 2 0) (.t 10) (.t 35)), 1⟩,
           ⟨(some 11), none, (.mv (.t 36)), 1⟩] 1)
         (.seq (.reg [⟨(some 37), none, (.mv (.t 11)), 0⟩,
           ⟨(some 38), none, (.not (.t 37)), 0⟩] 0)
         (.cond (.t 38)
          (.seq (.regD [⟨(some 39), none, (.ld .one (.t 6)), 0⟩,
            ⟨(some 40), none, (.ld (.many 2 0) (.t 9)), 0⟩,
            ⟨(some 41), none, (.ld .one (.t 7)), 0⟩,
            ⟨(some 42), none, (.ld .one (.t 8)), 0⟩,
            ⟨(some 43), none, (.iadS 2 (.t 41) (.t 42)), 0⟩,
            ⟨(some 44), none, (.ld (.many 2 0) (.t 43)), 0⟩,
            ⟨none, none, (.mupd (.ints 2) (.ints 2) (.t 39) (.t 40) (.t 44)), 0⟩] 0 [])
          (.reg [⟨(some 45), none, (.ld .one (.t 7)), 0⟩,
           ⟨(some 46), none, (.ld (.many 2 0) (.t 9)), 0⟩,
           ⟨(some 47), none, (.bsl 77 .i64 2 1 [(0, (.t 46))]), 0⟩,
           ⟨(some 48), none, (.app 77 .i64 2 (.t 45) (.t 47)), 1⟩,
           ⟨none, none, (.st .one (.t 7) (.t 48)), 2⟩] 2))
          .skip))))))))
    (.seq (.seq (.reg [⟨(some 49), none, (.ld .one (.t 8)), 0⟩] 0)
     (.reg [⟨(some 8), none, (.alloc 3 (.s (.int .i64 0))), 0⟩,
      ⟨none, none, (.st .one (.t 8) (.t 49)), 1⟩] 1))
    (.reg [⟨(some 22), none, (.ld .one (.t 8)), 0⟩,
     ⟨(some 23), none, (.bin .add (.t 22) (.c (.s (.int .i64 1)))), 0⟩,
     ⟨none, none, (.st .one (.t 8) (.t 23)), 0⟩] 0)))))))
 (.seq (.regD [⟨(some 50), none, (.ld .one (.t 7)), 0⟩,
   ⟨(some 51), none, (.ld .one (.t 6)), 0⟩,
   ⟨(some 4), none, (.mv (.t 50)), 0⟩,
   ⟨(some 5), none, (.mv (.t 51)), 0⟩] 0 [])
 .ret))))), [(.t 4), (.t 5)]⟩
/-- (*girouette/orders.graph).orient -/
def x55 : XFn := ⟨72, (.seq (.reg [⟨(some 2), none, (.alloc 70 (.pb [] 49 ff)), 0⟩,
   ⟨(some 3), none, (.mv (.c (.s (.bool false)))), 1⟩] 1)
 (.seq (.reg [⟨(some 4), none, (.alloc 70 (.pb [] 49 ff)), 0⟩] 1)
 (.seq (.reg [⟨(some 13), none, (.mv (.t 0)), 0⟩,
   ⟨(some 14), none, (.nck (.t 13)), 0⟩,
   ⟨(some 15), none, (.ld (.many 1 49) (.t 14)), 0⟩,
   ⟨(some 5), none, (.alloc 115 (.pb [(.int .i64 0)] 49 ff)), 0⟩,
   ⟨none, none, (.st (.many 1 49) (.t 5) (.t 15)), 1⟩] 1)
 (.seq (.block 0 (.loop (.block 1 (.seq (.reg [⟨(some 16), none, (.call (.c (.s (.fn 53 []))) [(.t 5)]), 0⟩,
       ⟨(some 6), none, (.mv (.t 16)), 8⟩] 8)
     (.seq (.seq (.reg [⟨(some 17), none, (.mv (.t 6)), 0⟩,
        ⟨(some 18), none, (.len (.t 17)), 0⟩,
        ⟨(some 19), none, (.bin .eql (.t 18) (.c (.s (.int .i64 0)))), 0⟩] 0)
      (.cond (.t 19)
       (.exit 0)
       .skip))
     (.seq (.reg [⟨(some 21), none, (.mv (.t 6)), 0⟩,
       ⟨(some 22), none, (.iadS 2 (.t 21) (.c (.s (.int .i64 0)))), 0⟩,
       ⟨(some 23), none, (.ld (.many 2 0) (.t 22)), 0⟩,
       ⟨(some 24), none, (.call (.c (.s (.fn 54 []))) [(.t 5), (.t 23)]), 0⟩,
       ⟨(some 20), none, (.mv (.t 24)), 8⟩,
       ⟨(some 25), none, (.extr (.t 20) 0), 8⟩,
       ⟨(some 26), none, (.extr (.t 20) 1), 8⟩,
       ⟨(some 7), none, (.mv (.t 25)), 8⟩,
       ⟨(some 8), none, (.mv (.t 26)), 8⟩] 8)
     (.seq (.seq (.reg [⟨(some 27), none, (.mv (.t 7)), 0⟩,
        ⟨(some 28), none, (.len (.t 27)), 0⟩,
        ⟨(some 29), none, (.mv (.c (.s (.int .i64 0)))), 0⟩] 0)
      (.block 2 (.loop (.seq (.reg [⟨(some 30), none, (.bin .lss (.t 29) (.t 28)), 0⟩] 0)
        (.seq (.cond (.t 30)
          .skip
          (.exit 2))
        (.seq (.block 3 (.seq (.reg [⟨(some 31), none, (.iadS 2 (.t 27) (.t 29)), 0⟩,
            ⟨(some 32), none, (.ld (.many 2 0) (.t 31)), 0⟩,
            ⟨(some 10), none, (.alloc 77 (.pb [(.int .i64 0), (.int .i64 0)] 0 ff)), 0⟩,
            ⟨none, none, (.st (.many 2 0) (.t 10) (.t 32)), 1⟩] 1)
          (.regD [⟨(some 33), none, (.fad 0 (.t 10)), 0⟩,
           ⟨(some 34), none, (.ld .one (.t 33)), 0⟩,
           ⟨(some 35), none, (.fad 1 (.t 10)), 0⟩,
           ⟨(some 36), none, (.ld .one (.t 35)), 0⟩,
           ⟨(some 37), none, (.iad 7 7 (.t 4) (.t 34)), 0⟩,
           ⟨(some 38), none, (.iad 7 1 (.t 37) (.t 36)), 0⟩,
           ⟨none, none, (.st .one (.t 38) (.c (.s (.bool true)))), 0⟩] 0 [])))
        (.reg [⟨(some 39), none, (.bin .add (.t 29) (.c (.s (.int .i64 1)))), 0⟩,
         ⟨(some 29), none, (.mv (.t 39)), 0⟩] 0)))))))
     (.seq (.reg [⟨(some 40), none, (.mv (.t 7)), 0⟩,
       ⟨(some 41), none, (.len (.t 40)), 0⟩,
       ⟨(some 42), none, (.mv (.c (.s (.int .i64 0)))), 0⟩] 0)
     (.block 4 (.loop (.seq (.reg [⟨(some 43), none, (.bin .lss (.t 42) (.t 41)), 0⟩] 0)
       (.seq (.cond (.t 43)
         .skip
         (.exit 4))
       (.seq (.block 5 (.seq (.reg [⟨(some 44), none, (.iadS 2 (.t 40) (.t 42)), 0⟩,
           ⟨(some 45), none, (.ld (.many 2 0) (.t 44)), 0⟩,
           ⟨(some 12), none, (.alloc 77 (.pb [(.int .i64 0), (.int .i64 0)] 0 ff)), 0⟩,
           ⟨none, none, (.st (.many 2 0) (.t 12) (.t 45)), 1⟩] 1)
         (.seq (.seq (.regD [⟨(some 46), none, (.fad 1 (.t 12)), 0⟩,
            ⟨(some 47), none, (.ld .one (.t 46)), 0⟩,
            ⟨(some 48), none, (.fad 0 (.t 12)), 0⟩,
            ⟨(some 49), none, (.ld .one (.t 48)), 0⟩,
            ⟨(some 50), none, (.iad 7 7 (.t 4) (.t 47)), 0⟩,
            ⟨(some 51), none, (.iad 7 1 (.t 50) (.t 49)), 0⟩,
            ⟨(some 52), none, (.ld .one (.t 51)), 0⟩] 0 [])
          (.cond (.t 52)
           (.seq (.reg [⟨(some 53), none, (.bld (.pb [] 49 ff) []), 0⟩,
             ⟨none, none, (.st (.many 0 49) (.t 2) (.t 53)), 0⟩,
             ⟨(some 3), none, (.mv (.c (.s (.bool false)))), 0⟩] 0)
           .ret)
           .skip))
         (.regD [⟨(some 54), none, (.fad 0 (.t 12)), 0⟩,
          ⟨(some 55), none, (.ld .one (.t 54)), 0⟩,
          ⟨(some 56), none, (.fad 1 (.t 12)), 0⟩,
          ⟨(some 57), none, (.ld .one (.t 56)), 0⟩,
          ⟨(some 58), none, (.fad 1 (.t 12)), 0⟩,
          ⟨(some 59), none, (.ld .one (.t 58)), 0⟩,
          ⟨(some 60), none, (.fad 0 (.t 12)), 0⟩,
          ⟨(some 61), none, (.ld .one (.t 60)), 0⟩,
          ⟨(some 62), none, (.fad 1 (.t 5)), 0⟩,
          ⟨(some 63), none, (.iad 7 7 (.t 62) (.t 55)), 0⟩,
          ⟨(some 64), none, (.iad 7 1 (.t 63) (.t 57)), 0⟩,
          ⟨none, none, (.st .one (.t 64) (.c (.s (.bool false)))), 0⟩,
          ⟨(some 65), none, (.fad 1 (.t 5)), 0⟩,
          ⟨(some 66), none, (.iad 7 7 (.t 65) (.t 59)), 0⟩,
          ⟨(some 67), none, (.iad 7 1 (.t 66) (.t 61)), 0⟩,
          ⟨none, none, (.st .one (.t 67) (.c (.s (.bool false)))), 0⟩] 0 [(5, 11), (7, 11)]))))
       (.reg [⟨(some 68), none, (.bin .add (.t 42) (.c (.s (.int .i64 1)))), 0⟩,
        ⟨(some 42), none, (.mv (.t 68)), 0⟩] 0))))))))))))))
 (.seq (.regD [⟨(some 69), none, (.ld (.many 0 49) (.t 4)), 0⟩,
   ⟨(some 70), none, (.ld (.many 0 49) (.t 4)), 0⟩,
   ⟨(some 71), none, (.call (.c (.s (.fn 51 []))) [(.t 70)]), 0⟩,
   ⟨none, none, (.st (.many 0 49) (.t 2) (.t 69)), 8⟩,
   ⟨(some 3), none, (.mv (.t 71)), 8⟩] 8 [(0, 2)])
 .ret))))), [(.cell 2 (.many 0 49)), (.t 3)]⟩
/-- (girouette/orders.relation).told -/
def x56 : XFn := ⟨26, (.seq (.reg [⟨(some 1), none, (.box 70 (.t 0)), 0⟩,
   ⟨(some 2), none, (.mv (.c (.s .nils))), 1⟩] 1)
 (.seq (.reg [⟨(some 3), none, (.mv (.c (.s .nils))), 0⟩] 0)
 (.seq (.seq (.reg [⟨(some 6), none, (.mv (.c (.s (.int .i64 0)))), 0⟩] 0)
  (.block 0 (.loop (.seq (.reg [⟨(some 7), none, (.bin .lss (.t 6) (.c (.s (.int .i64 7)))), 0⟩] 0)
    (.seq (.cond (.t 7)
      .skip
      (.exit 0))
    (.seq (.block 1 (.seq (.reg [⟨(some 8), none, (.mv (.t 6)), 0⟩,
        ⟨(some 4), none, (.mv (.t 8)), 0⟩] 0)
      (.seq (.reg [⟨(some 9), none, (.mv (.c (.s (.int .i64 0)))), 0⟩] 0)
      (.block 2 (.loop (.seq (.reg [⟨(some 10), none, (.bin .lss (.t 9) (.c (.s (.int .i64 7)))), 0⟩] 0)
        (.seq (.cond (.t 10)
          .skip
          (.exit 2))
        (.seq (.block 3 (.seq (.reg [⟨(some 11), none, (.mv (.t 9)), 0⟩,
            ⟨(some 5), none, (.mv (.t 11)), 0⟩] 0)
          (.seq (.reg [⟨(some 12), none, (.mv (.t 4)), 0⟩,
            ⟨(some 13), none, (.mv (.t 5)), 0⟩,
            ⟨(some 14), none, (.iad 7 7 (.t 1) (.t 12)), 0⟩,
            ⟨(some 15), none, (.iad 7 1 (.t 14) (.t 13)), 0⟩,
            ⟨(some 16), none, (.ld .one (.t 15)), 0⟩] 0)
          (.cond (.t 16)
           (.reg [⟨(some 17), none, (.mv (.t 3)), 0⟩,
            ⟨(some 18), none, (.mv (.t 4)), 0⟩,
            ⟨(some 19), none, (.mv (.t 5)), 0⟩,
            ⟨(some 20), none, (.bld (.pb [(.int .i64 0), (.int .i64 0)] 0 ff) [((0, 1), (.t 18)), ((1, 1), (.t 19))]), 0⟩,
            ⟨(some 21), none, (.bsl 38 .i64 2 1 [(0, (.t 20))]), 0⟩,
            ⟨(some 22), none, (.app 38 .i64 2 (.t 17) (.t 21)), 1⟩,
            ⟨(some 3), none, (.mv (.t 22)), 2⟩] 2)
           .skip))))
        (.reg [⟨(some 23), none, (.bin .add (.t 9) (.c (.s (.int .i64 1)))), 0⟩,
         ⟨(some 9), none, (.mv (.t 23)), 0⟩] 0)))))))))
    (.reg [⟨(some 24), none, (.bin .add (.t 6) (.c (.s (.int .i64 1)))), 0⟩,
     ⟨(some 6), none, (.mv (.t 24)), 0⟩] 0)))))))
 (.seq (.reg [⟨(some 25), none, (.mv (.t 3)), 0⟩,
   ⟨(some 2), none, (.mv (.t 25)), 0⟩] 0)
 .ret)))), [(.t 2)]⟩
/-- girouette/orders.Drawn -/
def x57 : XFn := ⟨29, (.seq (.reg [⟨(some 3), none, (.box 48 (.t 1)), 0⟩,
   ⟨(some 4), none, (.mv (.c (.s .nils))), 1⟩,
   ⟨(some 5), none, (.mv (.c (.s (.int .i64 0)))), 1⟩] 1)
 (.seq (.reg [⟨(some 10), none, (.mv (.t 0)), 0⟩,
   ⟨(some 11), none, (.ld (.many 2 0) (.t 3)), 0⟩,
   ⟨(some 12), none, (.call (.c (.s (.fn 94 []))) [(.t 10), (.t 11)]), 0⟩,
   ⟨(some 9), none, (.mv (.t 12)), 8⟩,
   ⟨(some 13), none, (.extr (.t 9) 0), 8⟩,
   ⟨(some 14), none, (.extr (.t 9) 1), 8⟩,
   ⟨(some 6), none, (.alloc 70 (.pb [] 49 ff)), 8⟩,
   ⟨none, none, (.st (.many 0 49) (.t 6) (.t 13)), 9⟩,
   ⟨(some 7), none, (.mv (.t 14)), 9⟩] 9)
 (.seq (.seq (.reg [⟨(some 15), none, (.mv (.t 7)), 0⟩,
    ⟨(some 16), none, (.bin .neq (.t 15) (.c (.s (.int .i64 0)))), 0⟩] 0)
  (.cond (.t 16)
   (.seq (.reg [⟨(some 17), none, (.mv (.t 7)), 0⟩,
     ⟨(some 4), none, (.mv (.c (.s .nils))), 0⟩,
     ⟨(some 5), none, (.mv (.t 17)), 0⟩] 0)
   .ret)
   .skip))
 (.seq (.regD [⟨(some 18), none, (.mv (.t 0)), 0⟩,
   ⟨(some 19), none, (.ld (.many 0 49) (.t 6)), 0⟩,
   ⟨(some 20), none, (.ld (.many 0 49) (.t 6)), 0⟩,
   ⟨(some 21), none, (.call (.c (.s (.fn 61 []))) [(.t 20)]), 0⟩,
   ⟨(some 22), none, (.bslB 70 49 2 [(0, (.t 19)), (1, (.t 21))]), 8⟩,
   ⟨(some 23), none, (.call (.c (.s (.fn 80 []))) [(.t 22)]), 9⟩,
   ⟨(some 24), none, (.bld (.pb [(.int .i64 0)] 49 ff) [((0, 1), (.t 18)), ((1, 49), (.t 23))]), 17⟩,
   ⟨(some 25), none, (.box 115 (.t 24)), 17⟩,
   ⟨(some 8), none, (.mv (.t 25)), 18⟩] 18 [(1, 3)])
 (.seq (.reg [⟨(some 26), none, (.mv (.t 8)), 0⟩,
   ⟨(some 27), none, (.call (.c (.s (.fn 81 []))) [(.t 26)]), 0⟩,
   ⟨(some 28), none, (.call (.c (.s (.fn 49 []))) [(.t 27)]), 8⟩,
   ⟨(some 4), none, (.mv (.t 28)), 16⟩,
   ⟨(some 5), none, (.mv (.c (.s (.int .i64 0)))), 16⟩] 16)
 .ret))))), [(.t 4), (.t 5)]⟩
/-- girouette/orders.Common -/
def x58 : XFn := ⟨19, (.seq (.reg [⟨(some 3), none, (.box 48 (.t 1)), 0⟩,
   ⟨(some 4), none, (.mv (.c (.s .nils))), 1⟩,
   ⟨(some 5), none, (.mv (.c (.s (.int .i64 0)))), 1⟩] 1)
 (.seq (.reg [⟨(some 9), none, (.mv (.t 0)), 0⟩,
   ⟨(some 10), none, (.ld (.many 2 0) (.t 3)), 0⟩,
   ⟨(some 11), none, (.call (.c (.s (.fn 94 []))) [(.t 9), (.t 10)]), 0⟩,
   ⟨(some 8), none, (.mv (.t 11)), 8⟩,
   ⟨(some 12), none, (.extr (.t 8) 0), 8⟩,
   ⟨(some 13), none, (.extr (.t 8) 1), 8⟩,
   ⟨(some 6), none, (.alloc 70 (.pb [] 49 ff)), 8⟩,
   ⟨none, none, (.st (.many 0 49) (.t 6) (.t 12)), 9⟩,
   ⟨(some 7), none, (.mv (.t 13)), 9⟩] 9)
 (.seq (.seq (.reg [⟨(some 14), none, (.mv (.t 7)), 0⟩,
    ⟨(some 15), none, (.bin .neq (.t 14) (.c (.s (.int .i64 0)))), 0⟩] 0)
  (.cond (.t 15)
   (.seq (.reg [⟨(some 16), none, (.mv (.t 7)), 0⟩,
     ⟨(some 4), none, (.mv (.c (.s .nils))), 0⟩,
     ⟨(some 5), none, (.mv (.t 16)), 0⟩] 0)
   .ret)
   .skip))
 (.seq (.reg [⟨(some 17), none, (.ld (.many 0 49) (.t 6)), 0⟩,
   ⟨(some 18), none, (.call (.c (.s (.fn 56 []))) [(.t 17)]), 0⟩,
   ⟨(some 4), none, (.mv (.t 18)), 8⟩,
   ⟨(some 5), none, (.mv (.c (.s (.int .i64 0)))), 8⟩] 8)
 .ret)))), [(.t 4), (.t 5)]⟩
/-- girouette/orders.order -/
def x59 : XFn := ⟨72, (.seq (.reg [⟨(some 4), none, (.alloc 70 (.pb [] 49 ff)), 0⟩,
   ⟨(some 5), none, (.mv (.c (.s (.int .i64 0)))), 1⟩] 1)
 (.seq (.reg [⟨(some 6), none, (.alloc 70 (.pb [] 49 ff)), 0⟩] 1)
 (.seq (.seq (.reg [⟨(some 9), none, (.mv (.t 0)), 0⟩,
    ⟨(some 10), none, (.bin .lss (.t 9) (.c (.s (.int .i64 1)))), 0⟩,
    ⟨(some 11), none, (.mv (.t 10)), 0⟩,
    ⟨(some 12), (some (11, false)), (.mv (.t 0)), 0⟩,
    ⟨(some 13), (some (11, false)), (.bin .gtr (.t 12) (.c (.s (.int .i64 7)))), 0⟩,
    ⟨(some 14), none, (.pick (.t 11) (.c (.s (.bool true))) (.t 13)), 0⟩] 0)
  (.cond (.t 14)
   (.seq (.reg [⟨(some 15), none, (.ld (.many 0 49) (.t 6)), 0⟩,
     ⟨none, none, (.st (.many 0 49) (.t 4) (.t 15)), 0⟩,
     ⟨(some 5), none, (.mv (.c (.s (.int .i64 1)))), 0⟩] 0)
   .ret)
   .skip))
 (.seq (.seq (.reg [⟨(some 16), none, (.mv (.t 1)), 0⟩,
    ⟨(some 17), none, (.len (.t 16)), 0⟩,
    ⟨(some 18), none, (.mv (.c (.s (.int .i64 0)))), 0⟩] 0)
  (.block 0 (.loop (.seq (.reg [⟨(some 19), none, (.bin .lss (.t 18) (.t 17)), 0⟩] 0)
    (.seq (.cond (.t 19)
      .skip
      (.exit 0))
    (.seq (.block 1 (.seq (.reg [⟨(some 20), none, (.mv (.t 18)), 0⟩,
        ⟨(some 21), none, (.iadS 2 (.t 16) (.t 18)), 0⟩,
        ⟨(some 22), none, (.ld (.many 2 0) (.t 21)), 0⟩,
        ⟨(some 8), none, (.alloc 38 (.pb [(.int .i64 0), (.int .i64 0)] 0 ff)), 0⟩,
        ⟨(some 7), none, (.mv (.t 20)), 1⟩,
        ⟨none, none, (.st (.many 2 0) (.t 8) (.t 22)), 1⟩] 1)
      (.seq (.seq (.regD [⟨(some 23), none, (.iad 2 1 (.t 8) (.c (.s (.int .i64 0)))), 0⟩,
         ⟨(some 24), none, (.ld .one (.t 23)), 0⟩,
         ⟨(some 25), none, (.iad 2 1 (.t 8) (.c (.s (.int .i64 1)))), 0⟩,
         ⟨(some 26), none, (.ld .one (.t 25)), 0⟩,
         ⟨(some 27), none, (.mn [(.t 24), (.t 26)]), 0⟩,
         ⟨(some 28), none, (.bin .lss (.t 27) (.c (.s (.int .i64 0)))), 0⟩,
         ⟨(some 29), none, (.mv (.t 28)), 0⟩,
         ⟨(some 30), (some (29, false)), (.iad 2 1 (.t 8) (.c (.s (.int .i64 0)))), 0⟩,
         ⟨(some 31), (some (29, false)), (.ld .one (.t 30)), 0⟩,
         ⟨(some 32), (some (29, false)), (.iad 2 1 (.t 8) (.c (.s (.int .i64 1)))), 0⟩,
         ⟨(some 33), (some (29, false)), (.ld .one (.t 32)), 0⟩,
         ⟨(some 34), (some (29, false)), (.mx [(.t 31), (.t 33)]), 0⟩,
         ⟨(some 35), (some (29, false)), (.mv (.t 0)), 0⟩,
         ⟨(some 36), (some (29, false)), (.bin .geq (.t 34) (.t 35)), 0⟩,
         ⟨(some 37), none, (.pick (.t 29) (.c (.s (.bool true))) (.t 36)), 0⟩,
         ⟨(some 38), none, (.mv (.t 37)), 0⟩,
         ⟨(some 39), (some (38, false)), (.iad 2 1 (.t 8) (.c (.s (.int .i64 0)))), 0⟩,
         ⟨(some 40), (some (38, false)), (.ld .one (.t 39)), 0⟩,
         ⟨(some 41), (some (38, false)), (.iad 2 1 (.t 8) (.c (.s (.int .i64 1)))), 0⟩,
         ⟨(some 42), (some (38, false)), (.ld .one (.t 41)), 0⟩,
         ⟨(some 43), (some (38, false)), (.bin .eql (.t 40) (.t 42)), 0⟩,
         ⟨(some 44), none, (.pick (.t 38) (.c (.s (.bool true))) (.t 43)), 0⟩,
         ⟨(some 45), none, (.mv (.t 44)), 0⟩,
         ⟨(some 46), (some (45, false)), (.mv (.t 7)), 0⟩,
         ⟨(some 47), (some (45, false)), (.bin .gtr (.t 46) (.c (.s (.int .i64 0)))), 0⟩,
         ⟨(some 48), (some (45, false)), (.mv (.t 47)), 0⟩,
         ⟨(some 49), (some (48, true)), (.mv (.t 1)), 0⟩,
         ⟨(some 50), (some (48, true)), (.mv (.t 7)), 0⟩,
         ⟨(some 51), (some (48, true)), (.bin .sub (.t 50) (.c (.s (.int .i64 1)))), 0⟩,
         ⟨(some 52), (some (48, true)), (.iadS 2 (.t 49) (.t 51)), 0⟩,
         ⟨(some 53), (some (48, true)), (.slcA 2 1 (.t 52) none none), 0⟩,
         ⟨(some 54), (some (48, true)), (.slcA 2 1 (.t 8) none none), 0⟩,
         ⟨(some 55), (some (48, true)), (.call (.c (.s (.fn 93 []))) [(.t 53), (.t 54)]), 0⟩,
         ⟨(some 56), (some (48, true)), (.bin .geq (.t 55) (.c (.s (.int .i64 0)))), 8⟩,
         ⟨(some 57), (some (45, false)), (.pick (.t 48) (.t 56) (.c (.s (.bool false)))), 8⟩,
         ⟨(some 58), none, (.pick (.t 45) (.c (.s (.bool true))) (.t 57)), 8⟩] 8 [])
       (.cond (.t 58)
        (.seq (.reg [⟨(some 59), none, (.ld (.many 0 49) (.t 6)), 0⟩,
          ⟨none, none, (.st (.many 0 49) (.t 4) (.t 59)), 0⟩,
          ⟨(some 5), none, (.mv (.c (.s (.int .i64 30)))), 0⟩] 0)
        .ret)
        .skip))
      (.regD [⟨(some 60), none, (.iad 2 1 (.t 8) (.c (.s (.int .i64 0)))), 0⟩,
       ⟨(some 61), none, (.ld .one (.t 60)), 0⟩,
       ⟨(some 62), none, (.iad 2 1 (.t 8) (.c (.s (.int .i64 1)))), 0⟩,
       ⟨(some 63), none, (.ld .one (.t 62)), 0⟩,
       ⟨(some 64), none, (.iad 7 7 (.t 6) (.t 61)), 0⟩,
       ⟨(some 65), none, (.iad 7 1 (.t 64) (.t 63)), 0⟩,
       ⟨none, none, (.st .one (.t 65) (.c (.s (.bool true)))), 0⟩] 0 []))))
    (.reg [⟨(some 66), none, (.bin .add (.t 18) (.c (.s (.int .i64 1)))), 0⟩,
     ⟨(some 18), none, (.mv (.t 66)), 0⟩] 0)))))))
 (.seq (.seq (.reg [⟨(some 67), none, (.ld (.many 0 49) (.t 6)), 0⟩,
    ⟨(some 68), none, (.call (.c (.s (.fn 51 []))) [(.t 67)]), 0⟩,
    ⟨(some 69), none, (.not (.t 68)), 8⟩] 8)
  (.cond (.t 69)
   (.seq (.reg [⟨(some 70), none, (.ld (.many 0 49) (.t 6)), 0⟩,
     ⟨none, none, (.st (.many 0 49) (.t 4) (.t 70)), 0⟩,
     ⟨(some 5), none, (.mv (.c (.s (.int .i64 30)))), 0⟩] 0)
   .ret)
   .skip))
 (.seq (.reg [⟨(some 71), none, (.ld (.many 0 49) (.t 6)), 0⟩,
   ⟨none, none, (.st (.many 0 49) (.t 4) (.t 71)), 0⟩,
   ⟨(some 5), none, (.mv (.c (.s (.int .i64 0)))), 0⟩] 0)
 .ret)))))), [(.cell 4 (.many 0 49)), (.t 5)]⟩
/-- girouette/orders.none -/
def x60 : XFn := ⟨3, (.seq (.reg [⟨(some 0), none, (.alloc 70 (.pb [] 49 ff)), 0⟩] 1)
 (.seq (.reg [⟨(some 1), none, (.alloc 70 (.pb [] 49 ff)), 0⟩] 1)
 (.seq (.reg [⟨(some 2), none, (.ld (.many 0 49) (.t 1)), 0⟩,
   ⟨none, none, (.st (.many 0 49) (.t 0) (.t 2)), 0⟩] 0)
 .ret))), [(.cell 0 (.many 0 49))]⟩
/-- (girouette/orders.relation).turned -/
def x61 : XFn := ⟨24, (.seq (.reg [⟨(some 1), none, (.box 70 (.t 0)), 0⟩,
   ⟨(some 2), none, (.alloc 70 (.pb [] 49 ff)), 1⟩] 2)
 (.seq (.reg [⟨(some 3), none, (.alloc 70 (.pb [] 49 ff)), 0⟩] 1)
 (.seq (.seq (.reg [⟨(some 6), none, (.mv (.c (.s (.int .i64 0)))), 0⟩] 0)
  (.block 0 (.loop (.seq (.reg [⟨(some 7), none, (.bin .lss (.t 6) (.c (.s (.int .i64 7)))), 0⟩] 0)
    (.seq (.cond (.t 7)
      .skip
      (.exit 0))
    (.seq (.block 1 (.seq (.reg [⟨(some 8), none, (.mv (.t 6)), 0⟩,
        ⟨(some 4), none, (.mv (.t 8)), 0⟩] 0)
      (.seq (.reg [⟨(some 9), none, (.mv (.c (.s (.int .i64 0)))), 0⟩] 0)
      (.block 2 (.loop (.seq (.reg [⟨(some 10), none, (.bin .lss (.t 9) (.c (.s (.int .i64 7)))), 0⟩] 0)
        (.seq (.cond (.t 10)
          .skip
          (.exit 2))
        (.seq (.block 3 (.seq (.reg [⟨(some 11), none, (.mv (.t 9)), 0⟩,
            ⟨(some 5), none, (.mv (.t 11)), 0⟩] 0)
          (.regD [⟨(some 12), none, (.mv (.t 5)), 0⟩,
           ⟨(some 13), none, (.mv (.t 4)), 0⟩,
           ⟨(some 14), none, (.mv (.t 4)), 0⟩,
           ⟨(some 15), none, (.mv (.t 5)), 0⟩,
           ⟨(some 16), none, (.iad 7 7 (.t 1) (.t 14)), 0⟩,
           ⟨(some 17), none, (.iad 7 1 (.t 16) (.t 15)), 0⟩,
           ⟨(some 18), none, (.ld .one (.t 17)), 0⟩,
           ⟨(some 19), none, (.iad 7 7 (.t 3) (.t 12)), 0⟩,
           ⟨(some 20), none, (.iad 7 1 (.t 19) (.t 13)), 0⟩,
           ⟨none, none, (.st .one (.t 20) (.t 18)), 0⟩] 0 [])))
        (.reg [⟨(some 21), none, (.bin .add (.t 9) (.c (.s (.int .i64 1)))), 0⟩,
         ⟨(some 9), none, (.mv (.t 21)), 0⟩] 0)))))))))
    (.reg [⟨(some 22), none, (.bin .add (.t 6) (.c (.s (.int .i64 1)))), 0⟩,
     ⟨(some 6), none, (.mv (.t 22)), 0⟩] 0)))))))
 (.seq (.reg [⟨(some 23), none, (.ld (.many 0 49) (.t 3)), 0⟩,
   ⟨none, none, (.st (.many 0 49) (.t 2) (.t 23)), 0⟩] 0)
 .ret)))), [(.cell 2 (.many 0 49))]⟩
/-- (girouette/orders.relation).layers -/
def x62 : XFn := ⟨23, (.seq (.reg [⟨(some 2), none, (.box 70 (.t 0)), 0⟩,
   ⟨(some 3), none, (.box 3 (.t 1)), 1⟩,
   ⟨(some 4), none, (.mv (.c (.s .nils))), 2⟩] 2)
 (.seq (.reg [⟨(some 8), none, (.ld .one (.t 3)), 0⟩,
   ⟨(some 9), none, (.mkS 3 .i64 (.t 8)), 0⟩,
   ⟨(some 5), none, (.mv (.t 9)), 1⟩] 1)
 (.seq (.reg [⟨(some 6), none, (.alloc 131 (.s .nilf)), 0⟩] 1)
 (.seq (.reg [⟨(some 10), none, (.mkf 95 [(.t 3), (.t 2), (.t 6)]), 0⟩,
   ⟨none, none, (.st .one (.t 6) (.t 10)), 0⟩] 0)
 (.seq (.seq (.reg [⟨(some 11), none, (.ld .one (.t 3)), 0⟩,
    ⟨(some 12), none, (.mv (.c (.s (.int .i64 0)))), 0⟩] 0)
  (.block 0 (.loop (.seq (.reg [⟨(some 13), none, (.bin .lss (.t 12) (.t 11)), 0⟩] 0)
    (.seq (.cond (.t 13)
      .skip
      (.exit 0))
    (.seq (.block 1 (.seq (.reg [⟨(some 14), none, (.mv (.t 12)), 0⟩,
        ⟨(some 7), none, (.mv (.t 14)), 0⟩] 0)
      (.reg [⟨(some 15), none, (.mv (.t 5)), 0⟩,
       ⟨(some 16), none, (.mv (.t 7)), 0⟩,
       ⟨(some 17), none, (.ld .one (.t 6)), 0⟩,
       ⟨(some 18), none, (.mv (.t 7)), 0⟩,
       ⟨(some 19), none, (.call (.t 17) [(.t 18)]), 0⟩,
       ⟨(some 20), none, (.iadS 1 (.t 15) (.t 16)), 8⟩,
       ⟨none, none, (.st .one (.t 20) (.t 19)), 8⟩] 8)))
    (.reg [⟨(some 21), none, (.bin .add (.t 12) (.c (.s (.int .i64 1)))), 0⟩,
     ⟨(some 12), none, (.mv (.t 21)), 0⟩] 0)))))))
 (.seq (.reg [⟨(some 22), none, (.mv (.t 5)), 0⟩,
   ⟨(some 4), none, (.mv (.t 22)), 0⟩] 0)
 .ret)))))), [(.t 4)]⟩
end Go.Proofs.Yteekkjfjpoaihaa.Eng
