/- The program's functions as the small code (printed by Gen.lean), first part. -/
import Derived.Test.YteekkjfjpoaihaaEv
set_option linter.all false
namespace Go.Proofs.Yteekkjfjpoaihaa.Eng
open Go

/-- girouette/girouettelaw03.OrdersEven -/
def x3 : XFn := ⟨125, (.seq (.reg [⟨(some 4), none, (.mv (.c (.s (.bool false)))), 0⟩] 0)
 (.seq (.reg [⟨(some 19), none, (.mv (.t 0)), 0⟩,
   ⟨(some 20), none, (.mv (.t 1)), 0⟩,
   ⟨(some 21), none, (.call (.c (.s (.fn 7 []))) [(.t 19), (.t 20), (.c (.s (.int .i64 6)))]), 0⟩,
   ⟨(some 18), none, (.mv (.t 21)), 8⟩,
   ⟨(some 22), none, (.extr (.t 18) 0), 8⟩,
   ⟨(some 23), none, (.extr (.t 18) 1), 8⟩,
   ⟨(some 5), none, (.mv (.t 22)), 8⟩,
   ⟨(some 6), none, (.mv (.t 23)), 8⟩] 8)
 (.seq (.reg [⟨(some 25), none, (.mv (.t 5)), 0⟩,
   ⟨(some 26), none, (.mv (.t 6)), 0⟩,
   ⟨(some 27), none, (.call (.c (.s (.fn 8 []))) [(.t 25), (.t 26)]), 0⟩,
   ⟨(some 24), none, (.mv (.t 27)), 8⟩,
   ⟨(some 28), none, (.extr (.t 24) 0), 8⟩,
   ⟨(some 29), none, (.extr (.t 24) 1), 8⟩,
   ⟨(some 7), none, (.mv (.t 28)), 8⟩,
   ⟨(some 8), none, (.mv (.t 29)), 8⟩] 8)
 (.seq (.reg [⟨(some 31), none, (.mv (.t 5)), 0⟩,
   ⟨(some 32), none, (.mv (.t 6)), 0⟩,
   ⟨(some 33), none, (.call (.c (.s (.fn 9 []))) [(.t 31), (.t 32)]), 0⟩,
   ⟨(some 30), none, (.mv (.t 33)), 8⟩,
   ⟨(some 34), none, (.extr (.t 30) 0), 8⟩,
   ⟨(some 35), none, (.extr (.t 30) 1), 8⟩,
   ⟨(some 9), none, (.mv (.t 34)), 8⟩,
   ⟨(some 10), none, (.mv (.t 35)), 8⟩] 8)
 (.seq (.reg [⟨(some 37), none, (.mv (.t 5)), 0⟩,
   ⟨(some 38), none, (.mv (.t 6)), 0⟩,
   ⟨(some 39), none, (.call (.c (.s (.fn 10 []))) [(.t 37), (.t 38)]), 0⟩,
   ⟨(some 36), none, (.mv (.t 39)), 8⟩,
   ⟨(some 40), none, (.extr (.t 36) 0), 8⟩,
   ⟨(some 41), none, (.extr (.t 36) 1), 8⟩,
   ⟨(some 42), none, (.extr (.t 36) 2), 8⟩,
   ⟨(some 11), none, (.mv (.t 40)), 8⟩,
   ⟨(some 12), none, (.mv (.t 41)), 8⟩,
   ⟨(some 13), none, (.mv (.t 42)), 8⟩] 8)
 (.seq (.seq (.reg [⟨(some 43), none, (.mv (.t 8)), 0⟩,
    ⟨(some 44), none, (.bin .neq (.t 43) (.c (.s (.int .i64 0)))), 0⟩,
    ⟨(some 45), none, (.mv (.t 44)), 0⟩,
    ⟨(some 46), (some (45, false)), (.mv (.t 10)), 0⟩,
    ⟨(some 47), (some (45, false)), (.bin .neq (.t 46) (.c (.s (.int .i64 0)))), 0⟩,
    ⟨(some 48), none, (.pick (.t 45) (.c (.s (.bool true))) (.t 47)), 0⟩,
    ⟨(some 49), none, (.mv (.t 48)), 0⟩,
    ⟨(some 50), (some (49, false)), (.mv (.t 13)), 0⟩,
    ⟨(some 51), (some (49, false)), (.bin .neq (.t 50) (.c (.s (.int .i64 0)))), 0⟩,
    ⟨(some 52), none, (.pick (.t 49) (.c (.s (.bool true))) (.t 51)), 0⟩,
    ⟨(some 53), none, (.mv (.t 52)), 0⟩,
    ⟨(some 54), (some (53, false)), (.mv (.t 12)), 0⟩,
    ⟨(some 55), (some (53, false)), (.mv (.t 7)), 0⟩,
    ⟨(some 56), (some (53, false)), (.bin .gtr (.t 55) (.c (.s (.int .i64 0)))), 0⟩,
    ⟨(some 57), (some (53, false)), (.eqv .b true (.t 54) (.t 56)), 0⟩,
    ⟨(some 58), none, (.pick (.t 53) (.c (.s (.bool true))) (.t 57)), 0⟩,
    ⟨(some 59), none, (.mv (.t 58)), 0⟩,
    ⟨(some 60), (some (59, false)), (.mv (.t 6)), 0⟩,
    ⟨(some 61), (some (59, false)), (.len (.t 60)), 0⟩,
    ⟨(some 62), (some (59, false)), (.bin .gtr (.t 61) (.c (.s (.int .i64 0)))), 0⟩,
    ⟨(some 63), (some (59, false)), (.mv (.t 62)), 0⟩,
    ⟨(some 64), (some (63, true)), (.mv (.t 7)), 0⟩,
    ⟨(some 65), (some (63, true)), (.bin .rem (.t 64) (.c (.s (.int .i64 2)))), 0⟩,
    ⟨(some 66), (some (63, true)), (.bin .neq (.t 65) (.c (.s (.int .i64 0)))), 0⟩,
    ⟨(some 67), (some (59, false)), (.pick (.t 63) (.t 66) (.c (.s (.bool false)))), 0⟩,
    ⟨(some 68), none, (.pick (.t 59) (.c (.s (.bool true))) (.t 67)), 0⟩,
    ⟨(some 69), none, (.mv (.t 68)), 0⟩,
    ⟨(some 70), (some (69, false)), (.mv (.t 6)), 0⟩,
    ⟨(some 71), (some (69, false)), (.len (.t 70)), 0⟩,
    ⟨(some 72), (some (69, false)), (.bin .eql (.t 71) (.c (.s (.int .i64 0)))), 0⟩,
    ⟨(some 73), (some (69, false)), (.mv (.t 72)), 0⟩,
    ⟨(some 74), (some (73, true)), (.mv (.t 7)), 0⟩,
    ⟨(some 75), (some (73, true)), (.bin .neq (.t 74) (.c (.s (.int .i64 1)))), 0⟩,
    ⟨(some 76), (some (73, true)), (.mv (.t 75)), 0⟩,
    ⟨(some 77), (some (76, false)), (.mv (.t 9)), 0⟩,
    ⟨(some 78), (some (76, false)), (.bin .neq (.t 77) (.c (.s (.int .i64 0)))), 0⟩,
    ⟨(some 79), (some (73, true)), (.pick (.t 76) (.c (.s (.bool true))) (.t 78)), 0⟩,
    ⟨(some 80), (some (69, false)), (.pick (.t 73) (.t 79) (.c (.s (.bool false)))), 0⟩,
    ⟨(some 81), none, (.pick (.t 69) (.c (.s (.bool true))) (.t 80)), 0⟩,
    ⟨(some 82), none, (.mv (.t 81)), 0⟩,
    ⟨(some 83), (some (82, false)), (.mv (.t 9)), 0⟩,
    ⟨(some 84), (some (82, false)), (.bin .leq (.t 83) (.c (.s (.int .i64 2)))), 0⟩,
    ⟨(some 85), (some (82, false)), (.mv (.t 84)), 0⟩,
    ⟨(some 86), (some (85, true)), (.mv (.t 7)), 0⟩,
    ⟨(some 87), (some (85, true)), (.bin .gtr (.t 86) (.c (.s (.int .i64 2)))), 0⟩,
    ⟨(some 88), (some (82, false)), (.pick (.t 85) (.t 87) (.c (.s (.bool false)))), 0⟩,
    ⟨(some 89), none, (.pick (.t 82) (.c (.s (.bool true))) (.t 88)), 0⟩] 0)
  (.cond (.t 89)
   (.seq (.reg [⟨(some 4), none, (.mv (.c (.s (.bool false)))), 0⟩] 0)
   .ret)
   .skip))
 (.seq (.seq (.reg [⟨(some 90), none, (.mv (.t 12)), 0⟩,
    ⟨(some 91), none, (.not (.t 90)), 0⟩] 0)
  (.cond (.t 91)
   (.seq (.reg [⟨(some 92), none, (.call (.c (.s (.fn 11 []))) []), 0⟩,
     ⟨(some 4), none, (.mv (.t 92)), 8⟩] 8)
   .ret)
   .skip))
 (.seq (.reg [⟨(some 94), none, (.mv (.t 5)), 0⟩,
   ⟨(some 95), none, (.mv (.t 11)), 0⟩,
   ⟨(some 96), none, (.call (.c (.s (.fn 12 []))) [(.t 94), (.t 95)]), 0⟩,
   ⟨(some 93), none, (.mv (.t 96)), 8⟩,
   ⟨(some 97), none, (.extr (.t 93) 0), 8⟩,
   ⟨(some 98), none, (.extr (.t 93) 1), 8⟩,
   ⟨(some 14), none, (.mv (.t 97)), 8⟩,
   ⟨(some 15), none, (.mv (.t 98)), 8⟩] 8)
 (.seq (.reg [⟨(some 100), none, (.mv (.t 5)), 0⟩,
   ⟨(some 101), none, (.mv (.t 14)), 0⟩,
   ⟨(some 102), none, (.call (.c (.s (.fn 12 []))) [(.t 100), (.t 101)]), 0⟩,
   ⟨(some 99), none, (.mv (.t 102)), 8⟩,
   ⟨(some 103), none, (.extr (.t 99) 0), 8⟩,
   ⟨(some 104), none, (.extr (.t 99) 1), 8⟩,
   ⟨(some 16), none, (.mv (.t 103)), 8⟩,
   ⟨(some 17), none, (.mv (.t 104)), 8⟩] 8)
 (.seq (.reg [⟨(some 105), none, (.mv (.t 15)), 0⟩,
   ⟨(some 106), none, (.bin .eql (.t 105) (.c (.s (.int .i64 0)))), 0⟩,
   ⟨(some 107), none, (.mv (.t 106)), 0⟩,
   ⟨(some 108), (some (107, true)), (.mv (.t 17)), 0⟩,
   ⟨(some 109), (some (107, true)), (.bin .eql (.t 108) (.c (.s (.int .i64 0)))), 0⟩,
   ⟨(some 110), none, (.pick (.t 107) (.t 109) (.c (.s (.bool false)))), 0⟩,
   ⟨(some 111), none, (.mv (.t 110)), 0⟩,
   ⟨(some 112), (some (111, true)), (.mv (.t 5)), 0⟩,
   ⟨(some 113), (some (111, true)), (.mv (.t 14)), 0⟩,
   ⟨(some 114), (some (111, true)), (.call (.c (.s (.fn 13 []))) [(.t 112), (.t 113)]), 0⟩,
   ⟨(some 115), (some (111, true)), (.bin .eql (.t 114) (.c (.s (.int .i64 0)))), 8⟩,
   ⟨(some 116), none, (.pick (.t 111) (.t 115) (.c (.s (.bool false)))), 8⟩,
   ⟨(some 117), none, (.mv (.t 116)), 8⟩,
   ⟨(some 118), (some (117, true)), (.mv (.t 16)), 8⟩,
   ⟨(some 119), (some (117, true)), (.mv (.t 11)), 8⟩,
   ⟨(some 120), (some (117, true)), (.call (.c (.s (.fn 14 []))) [(.t 118), (.t 119)]), 8⟩,
   ⟨(some 121), none, (.pick (.t 117) (.t 120) (.c (.s (.bool false)))), 16⟩,
   ⟨(some 122), none, (.mv (.t 121)), 16⟩,
   ⟨(some 123), (some (122, true)), (.call (.c (.s (.fn 11 []))) []), 16⟩,
   ⟨(some 124), none, (.pick (.t 122) (.t 123) (.c (.s (.bool false)))), 24⟩,
   ⟨(some 4), none, (.mv (.t 124)), 24⟩] 24)
 .ret)))))))))), [(.t 4)]⟩

/-- girouette/girouettetop.TopChains -/
def x4 : XFn := ⟨263, (.seq (.reg [⟨(some 4), none, (.mv (.c (.s (.bool false)))), 0⟩] 0)
 (.seq (.reg [⟨(some 34), none, (.mv (.t 0)), 0⟩,
   ⟨(some 35), none, (.call (.c (.s (.fn 15 []))) [(.t 34), (.c (.s (.int .i64 4)))]), 0⟩,
   ⟨(some 36), none, (.bin .add (.c (.s (.int .i64 1))) (.t 35)), 8⟩,
   ⟨(some 0), none, (.mv (.t 36)), 8⟩] 8)
 (.seq (.reg [⟨(some 37), none, (.mv (.t 0)), 0⟩,
   ⟨(some 38), none, (.mv (.t 1)), 0⟩,
   ⟨(some 39), none, (.call (.c (.s (.fn 16 []))) [(.t 37), (.t 38), (.c (.s (.int .i64 10)))]), 0⟩,
   ⟨(some 5), none, (.mv (.t 39)), 8⟩] 8)
 (.seq (.seq (.reg [⟨(some 6), none, (.mv (.c (.s (.bool true)))), 0⟩] 0)
  (.block 0 (.loop (.seq (.seq (.reg [⟨(some 40), none, (.mv (.t 6)), 0⟩] 0)
     (.cond (.t 40)
      .skip
      (.exit 0)))
    (.block 1 (.seq (.reg [⟨(some 6), none, (.mv (.c (.s (.bool false)))), 0⟩] 0)
     (.seq (.reg [⟨(some 7), none, (.mv (.c (.s (.int .i64 0)))), 0⟩] 0)
     (.block 2 (.loop (.seq (.seq (.reg [⟨(some 41), none, (.mv (.t 7)), 0⟩,
          ⟨(some 42), none, (.mv (.t 5)), 0⟩,
          ⟨(some 43), none, (.len (.t 42)), 0⟩,
          ⟨(some 44), none, (.bin .lss (.t 41) (.t 43)), 0⟩] 0)
        (.cond (.t 44)
         .skip
         (.exit 2)))
       (.seq (.block 3 (.seq (.reg [⟨(some 8), none, (.mv (.c (.s (.int .i64 0)))), 0⟩] 0)
         (.block 4 (.loop (.seq (.seq (.reg [⟨(some 47), none, (.mv (.t 8)), 0⟩,
              ⟨(some 48), none, (.mv (.t 5)), 0⟩,
              ⟨(some 49), none, (.len (.t 48)), 0⟩,
              ⟨(some 50), none, (.bin .lss (.t 47) (.t 49)), 0⟩] 0)
            (.cond (.t 50)
             .skip
             (.exit 4)))
           (.seq (.block 5 (.seq (.regD [⟨(some 53), none, (.mv (.t 5)), 0⟩,
               ⟨(some 54), none, (.mv (.t 7)), 0⟩,
               ⟨(some 55), none, (.iadS 2 (.t 53) (.t 54)), 0⟩,
               ⟨(some 56), none, (.iad 2 1 (.t 55) (.c (.s (.int .i64 0)))), 0⟩,
               ⟨(some 57), none, (.ld .one (.t 56)), 0⟩,
               ⟨(some 58), none, (.mv (.t 5)), 0⟩,
               ⟨(some 59), none, (.mv (.t 8)), 0⟩,
               ⟨(some 60), none, (.iadS 2 (.t 58) (.t 59)), 0⟩,
               ⟨(some 61), none, (.iad 2 1 (.t 60) (.c (.s (.int .i64 1)))), 0⟩,
               ⟨(some 62), none, (.ld .one (.t 61)), 0⟩,
               ⟨(some 63), none, (.bld (.pb [(.int .i64 0), (.int .i64 0)] 0 ff) [((0, 1), (.t 57)), ((1, 1), (.t 62))]), 0⟩,
               ⟨(some 9), none, (.alloc 38 (.pb [(.int .i64 0), (.int .i64 0)] 0 ff)), 0⟩,
               ⟨none, none, (.st (.many 2 0) (.t 9) (.t 63)), 1⟩] 1 [(4, 11), (9, 11)])
             (.seq (.regD [⟨(some 64), none, (.mv (.t 5)), 0⟩,
               ⟨(some 65), none, (.mv (.t 7)), 0⟩,
               ⟨(some 66), none, (.iadS 2 (.t 64) (.t 65)), 0⟩,
               ⟨(some 67), none, (.iad 2 1 (.t 66) (.c (.s (.int .i64 1)))), 0⟩,
               ⟨(some 68), none, (.ld .one (.t 67)), 0⟩,
               ⟨(some 69), none, (.mv (.t 5)), 0⟩,
               ⟨(some 70), none, (.mv (.t 8)), 0⟩,
               ⟨(some 71), none, (.iadS 2 (.t 69) (.t 70)), 0⟩,
               ⟨(some 72), none, (.iad 2 1 (.t 71) (.c (.s (.int .i64 0)))), 0⟩,
               ⟨(some 73), none, (.ld .one (.t 72)), 0⟩,
               ⟨(some 74), none, (.bin .eql (.t 68) (.t 73)), 0⟩,
               ⟨(some 75), none, (.mv (.t 74)), 0⟩,
               ⟨(some 76), (some (75, true)), (.mv (.t 5)), 0⟩,
               ⟨(some 77), (some (75, true)), (.iad 2 1 (.t 9) (.c (.s (.int .i64 0)))), 0⟩,
               ⟨(some 78), (some (75, true)), (.ld .one (.t 77)), 0⟩,
               ⟨(some 79), (some (75, true)), (.iad 2 1 (.t 9) (.c (.s (.int .i64 1)))), 0⟩,
               ⟨(some 80), (some (75, true)), (.ld .one (.t 79)), 0⟩,
               ⟨(some 81), (some (75, true)), (.call (.c (.s (.fn 17 []))) [(.t 76), (.t 78), (.t 80)]), 0⟩,
               ⟨(some 82), (some (75, true)), (.not (.t 81)), 8⟩,
               ⟨(some 83), none, (.pick (.t 75) (.t 82) (.c (.s (.bool false)))), 8⟩] 8 [])
             (.cond (.t 83)
              (.seq (.reg [⟨(some 10), none, (.mv (.c (.s .nils))), 0⟩] 0)
              (.seq (.reg [⟨(some 84), none, (.mv (.t 10)), 0⟩,
                ⟨(some 85), none, (.mv (.t 5)), 0⟩,
                ⟨(some 86), none, (.app 38 .i64 2 (.t 84) (.t 85)), 0⟩,
                ⟨(some 10), none, (.mv (.t 86)), 1⟩] 1)
              (.seq (.reg [⟨(some 87), none, (.mv (.t 10)), 0⟩,
                ⟨(some 88), none, (.ld (.many 2 0) (.t 9)), 0⟩,
                ⟨(some 89), none, (.bsl 38 .i64 2 1 [(0, (.t 88))]), 0⟩,
                ⟨(some 90), none, (.app 38 .i64 2 (.t 87) (.t 89)), 1⟩,
                ⟨(some 5), none, (.mv (.t 90)), 2⟩] 2)
              (.reg [⟨(some 6), none, (.mv (.c (.s (.bool true)))), 0⟩] 0))))
              .skip))))
           (.reg [⟨(some 51), none, (.mv (.t 8)), 0⟩,
            ⟨(some 52), none, (.bin .add (.t 51) (.c (.s (.int .i64 1)))), 0⟩,
            ⟨(some 8), none, (.mv (.t 52)), 0⟩] 0)))))))
       (.reg [⟨(some 45), none, (.mv (.t 7)), 0⟩,
        ⟨(some 46), none, (.bin .add (.t 45) (.c (.s (.int .i64 1)))), 0⟩,
        ⟨(some 7), none, (.mv (.t 46)), 0⟩] 0))))))))))))
 (.seq (.reg [⟨(some 91), none, (.mv (.t 5)), 0⟩,
   ⟨(some 92), none, (.call (.c (.s (.fn 18 []))) [(.t 91)]), 0⟩,
   ⟨(some 5), none, (.mv (.t 92)), 8⟩] 8)
 (.seq (.reg [⟨(some 94), none, (.mv (.t 0)), 0⟩,
   ⟨(some 95), none, (.mv (.t 5)), 0⟩,
   ⟨(some 96), none, (.call (.c (.s (.fn 19 []))) [(.t 94), (.t 95)]), 0⟩,
   ⟨(some 93), none, (.mv (.t 96)), 8⟩,
   ⟨(some 97), none, (.extr (.t 93) 0), 8⟩,
   ⟨(some 98), none, (.extr (.t 93) 1), 8⟩,
   ⟨(some 11), none, (.mv (.t 97)), 8⟩,
   ⟨(some 12), none, (.mv (.t 98)), 8⟩] 8)
 (.seq (.reg [⟨(some 100), none, (.mv (.t 0)), 0⟩,
   ⟨(some 101), none, (.mv (.t 5)), 0⟩,
   ⟨(some 102), none, (.call (.c (.s (.fn 20 []))) [(.t 100), (.t 101)]), 0⟩,
   ⟨(some 99), none, (.mv (.t 102)), 8⟩,
   ⟨(some 103), none, (.extr (.t 99) 0), 8⟩,
   ⟨(some 104), none, (.extr (.t 99) 1), 8⟩,
   ⟨(some 13), none, (.mv (.t 103)), 8⟩,
   ⟨(some 14), none, (.mv (.t 104)), 8⟩] 8)
 (.seq (.reg [⟨(some 106), none, (.mv (.t 0)), 0⟩,
   ⟨(some 107), none, (.mv (.t 5)), 0⟩,
   ⟨(some 108), none, (.call (.c (.s (.fn 12 []))) [(.t 106), (.t 107)]), 0⟩,
   ⟨(some 105), none, (.mv (.t 108)), 8⟩,
   ⟨(some 109), none, (.extr (.t 105) 0), 8⟩,
   ⟨(some 110), none, (.extr (.t 105) 1), 8⟩,
   ⟨(some 15), none, (.mv (.t 109)), 8⟩,
   ⟨(some 16), none, (.mv (.t 110)), 8⟩] 8)
 (.seq (.reg [⟨(some 112), none, (.mv (.t 0)), 0⟩,
   ⟨(some 113), none, (.mv (.t 0)), 0⟩,
   ⟨(some 114), none, (.mv (.t 5)), 0⟩,
   ⟨(some 115), none, (.call (.c (.s (.fn 22 []))) [(.t 113), (.t 114)]), 0⟩,
   ⟨(some 116), none, (.call (.c (.s (.fn 21 []))) [(.t 112), (.t 115)]), 8⟩,
   ⟨(some 111), none, (.mv (.t 116)), 16⟩,
   ⟨(some 117), none, (.extr (.t 111) 0), 16⟩,
   ⟨(some 118), none, (.extr (.t 111) 1), 16⟩,
   ⟨(some 17), none, (.mv (.t 117)), 16⟩,
   ⟨(some 18), none, (.mv (.t 118)), 16⟩] 16)
 (.seq (.reg [⟨(some 120), none, (.mv (.t 0)), 0⟩,
   ⟨(some 121), none, (.mv (.t 0)), 0⟩,
   ⟨(some 122), none, (.mv (.t 15)), 0⟩,
   ⟨(some 123), none, (.call (.c (.s (.fn 22 []))) [(.t 121), (.t 122)]), 0⟩,
   ⟨(some 124), none, (.call (.c (.s (.fn 21 []))) [(.t 120), (.t 123)]), 8⟩,
   ⟨(some 119), none, (.mv (.t 124)), 16⟩,
   ⟨(some 125), none, (.extr (.t 119) 0), 16⟩,
   ⟨(some 126), none, (.extr (.t 119) 1), 16⟩,
   ⟨(some 19), none, (.mv (.t 125)), 16⟩,
   ⟨(some 20), none, (.mv (.t 126)), 16⟩] 16)
 (.seq (.seq (.reg [⟨(some 127), none, (.mv (.t 0)), 0⟩,
    ⟨(some 128), none, (.mv (.t 5)), 0⟩,
    ⟨(some 129), none, (.call (.c (.s (.fn 13 []))) [(.t 127), (.t 128)]), 0⟩,
    ⟨(some 130), none, (.bin .neq (.t 129) (.c (.s (.int .i64 0)))), 8⟩,
    ⟨(some 131), none, (.mv (.t 130)), 8⟩,
    ⟨(some 132), (some (131, false)), (.mv (.t 12)), 8⟩,
    ⟨(some 133), (some (131, false)), (.bin .neq (.t 132) (.c (.s (.int .i64 0)))), 8⟩,
    ⟨(some 134), none, (.pick (.t 131) (.c (.s (.bool true))) (.t 133)), 8⟩,
    ⟨(some 135), none, (.mv (.t 134)), 8⟩,
    ⟨(some 136), (some (135, false)), (.mv (.t 14)), 8⟩,
    ⟨(some 137), (some (135, false)), (.bin .neq (.t 136) (.c (.s (.int .i64 0)))), 8⟩,
    ⟨(some 138), none, (.pick (.t 135) (.c (.s (.bool true))) (.t 137)), 8⟩,
    ⟨(some 139), none, (.mv (.t 138)), 8⟩,
    ⟨(some 140), (some (139, false)), (.mv (.t 16)), 8⟩,
    ⟨(some 141), (some (139, false)), (.bin .neq (.t 140) (.c (.s (.int .i64 0)))), 8⟩,
    ⟨(some 142), none, (.pick (.t 139) (.c (.s (.bool true))) (.t 141)), 8⟩,
    ⟨(some 143), none, (.mv (.t 142)), 8⟩,
    ⟨(some 144), (some (143, false)), (.mv (.t 18)), 8⟩,
    ⟨(some 145), (some (143, false)), (.bin .neq (.t 144) (.c (.s (.int .i64 0)))), 8⟩,
    ⟨(some 146), none, (.pick (.t 143) (.c (.s (.bool true))) (.t 145)), 8⟩,
    ⟨(some 147), none, (.mv (.t 146)), 8⟩,
    ⟨(some 148), (some (147, false)), (.mv (.t 20)), 8⟩,
    ⟨(some 149), (some (147, false)), (.bin .neq (.t 148) (.c (.s (.int .i64 0)))), 8⟩,
    ⟨(some 150), none, (.pick (.t 147) (.c (.s (.bool true))) (.t 149)), 8⟩,
    ⟨(some 151), none, (.mv (.t 150)), 8⟩,
    ⟨(some 152), (some (151, false)), (.mv (.t 13)), 8⟩,
    ⟨(some 153), (some (151, false)), (.len (.t 152)), 8⟩,
    ⟨(some 154), (some (151, false)), (.mv (.t 0)), 8⟩,
    ⟨(some 155), (some (151, false)), (.bin .neq (.t 153) (.t 154)), 8⟩,
    ⟨(some 156), none, (.pick (.t 151) (.c (.s (.bool true))) (.t 155)), 8⟩] 8)
  (.cond (.t 156)
   (.seq (.reg [⟨(some 4), none, (.mv (.c (.s (.bool false)))), 0⟩] 0)
   .ret)
   .skip))
 (.seq (.reg [⟨(some 158), none, (.mv (.t 0)), 0⟩,
   ⟨(some 159), none, (.mv (.t 17)), 0⟩,
   ⟨(some 160), none, (.call (.c (.s (.fn 23 []))) [(.t 158), (.t 159)]), 0⟩,
   ⟨(some 157), none, (.mv (.t 160)), 8⟩,
   ⟨(some 161), none, (.extr (.t 157) 0), 8⟩,
   ⟨(some 162), none, (.extr (.t 157) 1), 8⟩,
   ⟨(some 21), none, (.mv (.t 161)), 8⟩,
   ⟨(some 22), none, (.mv (.t 162)), 8⟩] 8)
 (.seq (.reg [⟨(some 23), none, (.mv (.c (.s (.int .i64 0)))), 0⟩] 0)
 (.seq (.seq (.reg [⟨(some 24), none, (.mv (.c (.s (.int .i64 0)))), 0⟩] 0)
  (.block 6 (.loop (.seq (.seq (.reg [⟨(some 163), none, (.mv (.t 24)), 0⟩,
       ⟨(some 164), none, (.mv (.t 0)), 0⟩,
       ⟨(some 165), none, (.bin .lss (.t 163) (.t 164)), 0⟩] 0)
     (.cond (.t 165)
      .skip
      (.exit 6)))
    (.seq (.block 7 (.reg [⟨(some 168), none, (.mv (.t 23)), 0⟩,
       ⟨(some 169), none, (.mv (.t 13)), 0⟩,
       ⟨(some 170), none, (.mv (.t 24)), 0⟩,
       ⟨(some 171), none, (.iadS 1 (.t 169) (.t 170)), 0⟩,
       ⟨(some 172), none, (.ld .one (.t 171)), 0⟩,
       ⟨(some 173), none, (.mx [(.t 168), (.t 172)]), 0⟩,
       ⟨(some 23), none, (.mv (.t 173)), 0⟩] 0))
    (.reg [⟨(some 166), none, (.mv (.t 24)), 0⟩,
     ⟨(some 167), none, (.bin .add (.t 166) (.c (.s (.int .i64 1)))), 0⟩,
     ⟨(some 24), none, (.mv (.t 167)), 0⟩] 0))))))
 (.seq (.seq (.reg [⟨(some 174), none, (.mv (.t 22)), 0⟩,
    ⟨(some 175), none, (.bin .neq (.t 174) (.c (.s (.int .i64 0)))), 0⟩,
    ⟨(some 176), none, (.mv (.t 175)), 0⟩,
    ⟨(some 177), (some (176, false)), (.mv (.t 21)), 0⟩,
    ⟨(some 178), (some (176, false)), (.len (.t 177)), 0⟩,
    ⟨(some 179), (some (176, false)), (.mv (.t 11)), 0⟩,
    ⟨(some 180), (some (176, false)), (.len (.t 179)), 0⟩,
    ⟨(some 181), (some (176, false)), (.bin .add (.t 180) (.c (.s (.int .i64 1)))), 0⟩,
    ⟨(some 182), (some (176, false)), (.bin .neq (.t 178) (.t 181)), 0⟩,
    ⟨(some 183), none, (.pick (.t 176) (.c (.s (.bool true))) (.t 182)), 0⟩,
    ⟨(some 184), none, (.mv (.t 183)), 0⟩,
    ⟨(some 185), (some (184, false)), (.mv (.t 23)), 0⟩,
    ⟨(some 186), (some (184, false)), (.mv (.t 11)), 0⟩,
    ⟨(some 187), (some (184, false)), (.len (.t 186)), 0⟩,
    ⟨(some 188), (some (184, false)), (.bin .sub (.t 187) (.c (.s (.int .i64 1)))), 0⟩,
    ⟨(some 189), (some (184, false)), (.bin .neq (.t 185) (.t 188)), 0⟩,
    ⟨(some 190), none, (.pick (.t 184) (.c (.s (.bool true))) (.t 189)), 0⟩,
    ⟨(some 191), none, (.mv (.t 190)), 0⟩,
    ⟨(some 192), (some (191, false)), (.mv (.t 17)), 0⟩,
    ⟨(some 193), (some (191, false)), (.mv (.t 19)), 0⟩,
    ⟨(some 194), (some (191, false)), (.call (.c (.s (.fn 24 []))) [(.t 192), (.t 193)]), 0⟩,
    ⟨(some 195), (some (191, false)), (.not (.t 194)), 8⟩,
    ⟨(some 196), none, (.pick (.t 191) (.c (.s (.bool true))) (.t 195)), 8⟩] 8)
  (.cond (.t 196)
   (.seq (.reg [⟨(some 4), none, (.mv (.c (.s (.bool false)))), 0⟩] 0)
   .ret)
   .skip))
 (.seq (.seq (.reg [⟨(some 25), none, (.mv (.c (.s (.int .i64 0)))), 0⟩] 0)
  (.block 8 (.loop (.seq (.seq (.reg [⟨(some 197), none, (.mv (.t 25)), 0⟩,
       ⟨(some 198), none, (.mv (.t 0)), 0⟩,
       ⟨(some 199), none, (.bin .lss (.t 197) (.t 198)), 0⟩] 0)
     (.cond (.t 199)
      .skip
      (.exit 8)))
    (.seq (.block 9 (.seq (.reg [⟨(some 26), none, (.mv (.c (.s (.bool true)))), 0⟩] 0)
      (.seq (.seq (.reg [⟨(some 27), none, (.mv (.c (.s (.int .i64 0)))), 0⟩] 0)
       (.block 10 (.loop (.seq (.seq (.reg [⟨(some 202), none, (.mv (.t 27)), 0⟩,
            ⟨(some 203), none, (.mv (.t 0)), 0⟩,
            ⟨(some 204), none, (.bin .lss (.t 202) (.t 203)), 0⟩] 0)
          (.cond (.t 204)
           .skip
           (.exit 10)))
         (.seq (.block 11 (.reg [⟨(some 207), none, (.mv (.t 26)), 0⟩,
            ⟨(some 208), none, (.mv (.t 207)), 0⟩,
            ⟨(some 209), (some (208, true)), (.mv (.t 25)), 0⟩,
            ⟨(some 210), (some (208, true)), (.mv (.t 27)), 0⟩,
            ⟨(some 211), (some (208, true)), (.bin .eql (.t 209) (.t 210)), 0⟩,
            ⟨(some 212), (some (208, true)), (.mv (.t 211)), 0⟩,
            ⟨(some 213), (some (212, false)), (.mv (.t 5)), 0⟩,
            ⟨(some 214), (some (212, false)), (.mv (.t 25)), 0⟩,
            ⟨(some 215), (some (212, false)), (.mv (.t 27)), 0⟩,
            ⟨(some 216), (some (212, false)), (.call (.c (.s (.fn 17 []))) [(.t 213), (.t 214), (.t 215)]), 0⟩,
            ⟨(some 217), (some (208, true)), (.pick (.t 212) (.c (.s (.bool true))) (.t 216)), 8⟩,
            ⟨(some 218), none, (.pick (.t 208) (.t 217) (.c (.s (.bool false)))), 8⟩,
            ⟨(some 26), none, (.mv (.t 218)), 8⟩] 8))
         (.reg [⟨(some 205), none, (.mv (.t 27)), 0⟩,
          ⟨(some 206), none, (.bin .add (.t 205) (.c (.s (.int .i64 1)))), 0⟩,
          ⟨(some 27), none, (.mv (.t 206)), 0⟩] 0))))))
      (.seq (.seq (.reg [⟨(some 219), none, (.mv (.t 26)), 0⟩,
         ⟨(some 220), none, (.not (.t 219)), 0⟩] 0)
       (.cond (.t 220)
        (.exit 9)
        .skip))
      (.seq (.reg [⟨(some 222), none, (.mv (.t 0)), 0⟩,
        ⟨(some 223), none, (.mv (.t 17)), 0⟩,
        ⟨(some 224), none, (.call (.c (.s (.fn 25 []))) [(.t 222), (.t 223)]), 0⟩,
        ⟨(some 221), none, (.mv (.t 224)), 8⟩,
        ⟨(some 225), none, (.extr (.t 221) 0), 8⟩,
        ⟨(some 226), none, (.extr (.t 221) 1), 8⟩,
        ⟨(some 227), none, (.extr (.t 221) 2), 8⟩,
        ⟨(some 28), none, (.mv (.t 225)), 8⟩,
        ⟨(some 29), none, (.mv (.t 226)), 8⟩,
        ⟨(some 30), none, (.mv (.t 227)), 8⟩] 8)
      (.seq (.reg [⟨(some 229), none, (.mv (.t 0)), 0⟩,
        ⟨(some 230), none, (.mv (.t 17)), 0⟩,
        ⟨(some 231), none, (.call (.c (.s (.fn 26 []))) [(.t 229), (.t 230)]), 0⟩,
        ⟨(some 228), none, (.mv (.t 231)), 8⟩,
        ⟨(some 232), none, (.extr (.t 228) 0), 8⟩,
        ⟨(some 233), none, (.extr (.t 228) 1), 8⟩,
        ⟨(some 31), none, (.mv (.t 232)), 8⟩,
        ⟨(some 32), none, (.mv (.t 233)), 8⟩] 8)
      (.seq (.seq (.reg [⟨(some 234), none, (.mv (.t 30)), 0⟩,
         ⟨(some 235), none, (.bin .neq (.t 234) (.c (.s (.int .i64 0)))), 0⟩,
         ⟨(some 236), none, (.mv (.t 235)), 0⟩,
         ⟨(some 237), (some (236, false)), (.mv (.t 32)), 0⟩,
         ⟨(some 238), (some (236, false)), (.bin .neq (.t 237) (.c (.s (.int .i64 0)))), 0⟩,
         ⟨(some 239), none, (.pick (.t 236) (.c (.s (.bool true))) (.t 238)), 0⟩,
         ⟨(some 240), none, (.mv (.t 239)), 0⟩,
         ⟨(some 241), (some (240, false)), (.mv (.t 29)), 0⟩,
         ⟨(some 242), (some (240, false)), (.not (.t 241)), 0⟩,
         ⟨(some 243), none, (.pick (.t 240) (.c (.s (.bool true))) (.t 242)), 0⟩,
         ⟨(some 244), none, (.mv (.t 243)), 0⟩,
         ⟨(some 245), (some (244, false)), (.mv (.t 31)), 0⟩,
         ⟨(some 246), (some (244, false)), (.len (.t 245)), 0⟩,
         ⟨(some 247), (some (244, false)), (.mv (.t 11)), 0⟩,
         ⟨(some 248), (some (244, false)), (.len (.t 247)), 0⟩,
         ⟨(some 249), (some (244, false)), (.bin .neq (.t 246) (.t 248)), 0⟩,
         ⟨(some 250), none, (.pick (.t 244) (.c (.s (.bool true))) (.t 249)), 0⟩] 0)
       (.cond (.t 250)
        (.seq (.reg [⟨(some 4), none, (.mv (.c (.s (.bool false)))), 0⟩] 0)
        .ret)
        .skip))
      (.seq (.reg [⟨(some 33), none, (.mv (.c (.s (.int .i64 0)))), 0⟩] 0)
      (.block 12 (.loop (.seq (.seq (.reg [⟨(some 251), none, (.mv (.t 33)), 0⟩,
           ⟨(some 252), none, (.mv (.t 31)), 0⟩,
           ⟨(some 253), none, (.len (.t 252)), 0⟩,
           ⟨(some 254), none, (.bin .lss (.t 251) (.t 253)), 0⟩] 0)
         (.cond (.t 254)
          .skip
          (.exit 12)))
        (.seq (.block 13 (.seq (.reg [⟨(some 257), none, (.mv (.t 31)), 0⟩,
            ⟨(some 258), none, (.mv (.t 33)), 0⟩,
            ⟨(some 259), none, (.iadS 1 (.t 257) (.t 258)), 0⟩,
            ⟨(some 260), none, (.ld .one (.t 259)), 0⟩,
            ⟨(some 261), none, (.bin .neq (.t 260) (.c (.s (.int .i64 0)))), 0⟩] 0)
          (.cond (.t 261)
           (.seq (.reg [⟨(some 4), none, (.mv (.c (.s (.bool false)))), 0⟩] 0)
           .ret)
           .skip)))
        (.reg [⟨(some 255), none, (.mv (.t 33)), 0⟩,
         ⟨(some 256), none, (.bin .add (.t 255) (.c (.s (.int .i64 1)))), 0⟩,
         ⟨(some 33), none, (.mv (.t 256)), 0⟩] 0)))))))))))))
    (.reg [⟨(some 200), none, (.mv (.t 25)), 0⟩,
     ⟨(some 201), none, (.bin .add (.t 200) (.c (.s (.int .i64 1)))), 0⟩,
     ⟨(some 25), none, (.mv (.t 201)), 0⟩] 0))))))
 (.seq (.reg [⟨(some 262), none, (.call (.c (.s (.fn 27 []))) []), 0⟩,
   ⟨(some 4), none, (.mv (.t 262)), 8⟩] 8)
 .ret))))))))))))))))), [(.t 4)]⟩

/-- girouette/girouettelaw03.OrdersOrders -/
def x5 : XFn := ⟨191, (.seq (.reg [⟨(some 6), none, (.mv (.c (.s (.bool false)))), 0⟩] 0)
 (.seq (.reg [⟨(some 28), none, (.mv (.t 0)), 0⟩,
   ⟨(some 29), none, (.mv (.t 1)), 0⟩,
   ⟨(some 30), none, (.call (.c (.s (.fn 7 []))) [(.t 28), (.t 29), (.c (.s (.int .i64 7)))]), 0⟩,
   ⟨(some 27), none, (.mv (.t 30)), 8⟩,
   ⟨(some 31), none, (.extr (.t 27) 0), 8⟩,
   ⟨(some 32), none, (.extr (.t 27) 1), 8⟩,
   ⟨(some 7), none, (.mv (.t 31)), 8⟩,
   ⟨(some 8), none, (.mv (.t 32)), 8⟩] 8)
 (.seq (.reg [⟨(some 34), none, (.mv (.t 7)), 0⟩,
   ⟨(some 35), none, (.mv (.t 8)), 0⟩,
   ⟨(some 36), none, (.call (.c (.s (.fn 10 []))) [(.t 34), (.t 35)]), 0⟩,
   ⟨(some 33), none, (.mv (.t 36)), 8⟩,
   ⟨(some 37), none, (.extr (.t 33) 0), 8⟩,
   ⟨(some 38), none, (.extr (.t 33) 1), 8⟩,
   ⟨(some 39), none, (.extr (.t 33) 2), 8⟩,
   ⟨(some 9), none, (.mv (.t 37)), 8⟩,
   ⟨(some 10), none, (.mv (.t 38)), 8⟩,
   ⟨(some 11), none, (.mv (.t 39)), 8⟩] 8)
 (.seq (.seq (.reg [⟨(some 40), none, (.mv (.t 11)), 0⟩,
    ⟨(some 41), none, (.bin .neq (.t 40) (.c (.s (.int .i64 0)))), 0⟩] 0)
  (.cond (.t 41)
   (.seq (.reg [⟨(some 6), none, (.mv (.c (.s (.bool false)))), 0⟩] 0)
   .ret)
   .skip))
 (.seq (.seq (.reg [⟨(some 42), none, (.mv (.t 10)), 0⟩,
    ⟨(some 43), none, (.not (.t 42)), 0⟩] 0)
  (.cond (.t 43)
   (.seq (.reg [⟨(some 44), none, (.mv (.t 7)), 0⟩,
     ⟨(some 45), none, (.bin .rem (.t 44) (.c (.s (.int .i64 5)))), 0⟩,
     ⟨(some 46), none, (.bin .add (.c (.s (.int .i64 1))) (.t 45)), 0⟩,
     ⟨(some 7), none, (.mv (.t 46)), 0⟩,
     ⟨(some 9), none, (.mv (.c (.s .nils))), 0⟩] 0)
   (.seq (.reg [⟨(some 12), none, (.mv (.c (.s (.int .i64 0)))), 0⟩] 0)
   (.block 0 (.loop (.seq (.seq (.reg [⟨(some 47), none, (.mv (.t 12)), 0⟩,
        ⟨(some 48), none, (.mv (.t 7)), 0⟩,
        ⟨(some 49), none, (.bin .lss (.t 47) (.t 48)), 0⟩] 0)
      (.cond (.t 49)
       .skip
       (.exit 0)))
     (.seq (.block 1 (.seq (.reg [⟨(some 52), none, (.mv (.t 12)), 0⟩,
         ⟨(some 53), none, (.bin .add (.t 52) (.c (.s (.int .i64 1)))), 0⟩,
         ⟨(some 13), none, (.mv (.t 53)), 0⟩] 0)
       (.block 2 (.loop (.seq (.seq (.reg [⟨(some 54), none, (.mv (.t 13)), 0⟩,
            ⟨(some 55), none, (.mv (.t 7)), 0⟩,
            ⟨(some 56), none, (.bin .lss (.t 54) (.t 55)), 0⟩] 0)
          (.cond (.t 56)
           .skip
           (.exit 2)))
         (.seq (.block 3 (.reg [⟨(some 59), none, (.mv (.t 9)), 0⟩,
            ⟨(some 60), none, (.mv (.t 12)), 0⟩,
            ⟨(some 61), none, (.mv (.t 13)), 0⟩,
            ⟨(some 62), none, (.bld (.pb [(.int .i64 0), (.int .i64 0)] 0 ff) [((0, 1), (.t 60)), ((1, 1), (.t 61))]), 0⟩,
            ⟨(some 63), none, (.bsl 38 .i64 2 1 [(0, (.t 62))]), 0⟩,
            ⟨(some 64), none, (.app 38 .i64 2 (.t 59) (.t 63)), 1⟩,
            ⟨(some 9), none, (.mv (.t 64)), 2⟩] 2))
         (.reg [⟨(some 57), none, (.mv (.t 13)), 0⟩,
          ⟨(some 58), none, (.bin .add (.t 57) (.c (.s (.int .i64 1)))), 0⟩,
          ⟨(some 13), none, (.mv (.t 58)), 0⟩] 0)))))))
     (.reg [⟨(some 50), none, (.mv (.t 12)), 0⟩,
      ⟨(some 51), none, (.bin .add (.t 50) (.c (.s (.int .i64 1)))), 0⟩,
      ⟨(some 12), none, (.mv (.t 51)), 0⟩] 0)))))))
   .skip))
 (.seq (.seq (.reg [⟨(some 65), none, (.mv (.t 7)), 0⟩,
    ⟨(some 66), none, (.mv (.t 9)), 0⟩,
    ⟨(some 67), none, (.call (.c (.s (.fn 28 []))) [(.t 65), (.t 66)]), 0⟩,
    ⟨(some 68), none, (.not (.t 67)), 8⟩] 8)
  (.cond (.t 68)
   (.seq (.reg [⟨(some 6), none, (.mv (.c (.s (.bool false)))), 0⟩] 0)
   .ret)
   .skip))
 (.seq (.reg [⟨(some 70), none, (.mv (.t 7)), 0⟩,
   ⟨(some 71), none, (.mv (.t 9)), 0⟩,
   ⟨(some 72), none, (.call (.c (.s (.fn 12 []))) [(.t 70), (.t 71)]), 0⟩,
   ⟨(some 69), none, (.mv (.t 72)), 8⟩,
   ⟨(some 73), none, (.extr (.t 69) 0), 8⟩,
   ⟨(some 74), none, (.extr (.t 69) 1), 8⟩,
   ⟨(some 14), none, (.mv (.t 73)), 8⟩,
   ⟨(some 15), none, (.mv (.t 74)), 8⟩] 8)
 (.seq (.reg [⟨(some 76), none, (.mv (.t 7)), 0⟩,
   ⟨(some 77), none, (.mv (.t 9)), 0⟩,
   ⟨(some 78), none, (.call (.c (.s (.fn 19 []))) [(.t 76), (.t 77)]), 0⟩,
   ⟨(some 75), none, (.mv (.t 78)), 8⟩,
   ⟨(some 79), none, (.extr (.t 75) 0), 8⟩,
   ⟨(some 80), none, (.extr (.t 75) 1), 8⟩,
   ⟨(some 16), none, (.mv (.t 79)), 8⟩,
   ⟨(some 17), none, (.mv (.t 80)), 8⟩] 8)
 (.seq (.reg [⟨(some 82), none, (.mv (.t 7)), 0⟩,
   ⟨(some 83), none, (.mv (.t 9)), 0⟩,
   ⟨(some 84), none, (.call (.c (.s (.fn 20 []))) [(.t 82), (.t 83)]), 0⟩,
   ⟨(some 81), none, (.mv (.t 84)), 8⟩,
   ⟨(some 85), none, (.extr (.t 81) 0), 8⟩,
   ⟨(some 86), none, (.extr (.t 81) 1), 8⟩,
   ⟨(some 18), none, (.mv (.t 85)), 8⟩,
   ⟨(some 19), none, (.mv (.t 86)), 8⟩] 8)
 (.seq (.reg [⟨(some 88), none, (.mv (.t 7)), 0⟩,
   ⟨(some 89), none, (.mv (.t 9)), 0⟩,
   ⟨(some 90), none, (.call (.c (.s (.fn 29 []))) [(.t 88), (.t 89)]), 0⟩,
   ⟨(some 87), none, (.mv (.t 90)), 8⟩,
   ⟨(some 91), none, (.extr (.t 87) 0), 8⟩,
   ⟨(some 92), none, (.extr (.t 87) 1), 8⟩,
   ⟨(some 93), none, (.extr (.t 87) 2), 8⟩,
   ⟨(some 20), none, (.alloc 48 (.pb [.nils, .nils] 0 ff)), 8⟩,
   ⟨none, none, (.st (.many 2 0) (.t 20) (.t 91)), 9⟩,
   ⟨(some 21), none, (.mv (.t 92)), 9⟩,
   ⟨(some 22), none, (.mv (.t 93)), 9⟩] 9)
 (.seq (.reg [⟨(some 94), none, (.mv (.t 7)), 0⟩,
   ⟨(some 95), none, (.mv (.t 9)), 0⟩,
   ⟨(some 96), none, (.call (.c (.s (.fn 30 []))) [(.t 94), (.t 95)]), 0⟩,
   ⟨(some 23), none, (.mv (.t 96)), 8⟩] 8)
 (.seq (.reg [⟨(some 24), none, (.mv (.c (.s (.int .i64 0)))), 0⟩] 0)
 (.seq (.seq (.reg [⟨(some 25), none, (.mv (.c (.s (.int .i64 0)))), 0⟩] 0)
  (.block 4 (.loop (.seq (.seq (.reg [⟨(some 97), none, (.mv (.t 25)), 0⟩,
       ⟨(some 98), none, (.mv (.t 7)), 0⟩,
       ⟨(some 99), none, (.bin .lss (.t 97) (.t 98)), 0⟩] 0)
     (.cond (.t 99)
      .skip
      (.exit 4)))
    (.seq (.block 5 (.reg [⟨(some 102), none, (.mv (.t 24)), 0⟩,
       ⟨(some 103), none, (.mv (.t 23)), 0⟩,
       ⟨(some 104), none, (.mv (.t 25)), 0⟩,
       ⟨(some 105), none, (.iadS 1 (.t 103) (.t 104)), 0⟩,
       ⟨(some 106), none, (.ld .one (.t 105)), 0⟩,
       ⟨(some 107), none, (.bin .add (.t 106) (.c (.s (.int .i64 1)))), 0⟩,
       ⟨(some 108), none, (.mx [(.t 102), (.t 107)]), 0⟩,
       ⟨(some 24), none, (.mv (.t 108)), 0⟩] 0))
    (.reg [⟨(some 100), none, (.mv (.t 25)), 0⟩,
     ⟨(some 101), none, (.bin .add (.t 100) (.c (.s (.int .i64 1)))), 0⟩,
     ⟨(some 25), none, (.mv (.t 101)), 0⟩] 0))))))
 (.seq (.seq (.reg [⟨(some 109), none, (.mv (.t 15)), 0⟩,
    ⟨(some 110), none, (.bin .neq (.t 109) (.c (.s (.int .i64 0)))), 0⟩,
    ⟨(some 111), none, (.mv (.t 110)), 0⟩,
    ⟨(some 112), (some (111, false)), (.mv (.t 14)), 0⟩,
    ⟨(some 113), (some (111, false)), (.mv (.t 7)), 0⟩,
    ⟨(some 114), (some (111, false)), (.mv (.t 9)), 0⟩,
    ⟨(some 115), (some (111, false)), (.call (.c (.s (.fn 31 []))) [(.t 113), (.t 114)]), 0⟩,
    ⟨(some 116), (some (111, false)), (.call (.c (.s (.fn 14 []))) [(.t 112), (.t 115)]), 8⟩,
    ⟨(some 117), (some (111, false)), (.not (.t 116)), 16⟩,
    ⟨(some 118), none, (.pick (.t 111) (.c (.s (.bool true))) (.t 117)), 16⟩,
    ⟨(some 119), none, (.mv (.t 118)), 16⟩,
    ⟨(some 120), (some (119, false)), (.mv (.t 17)), 16⟩,
    ⟨(some 121), (some (119, false)), (.bin .neq (.t 120) (.c (.s (.int .i64 0)))), 16⟩,
    ⟨(some 122), none, (.pick (.t 119) (.c (.s (.bool true))) (.t 121)), 16⟩,
    ⟨(some 123), none, (.mv (.t 122)), 16⟩,
    ⟨(some 124), (some (123, false)), (.mv (.t 16)), 16⟩,
    ⟨(some 125), (some (123, false)), (.len (.t 124)), 16⟩,
    ⟨(some 126), (some (123, false)), (.mv (.t 24)), 16⟩,
    ⟨(some 127), (some (123, false)), (.bin .neq (.t 125) (.t 126)), 16⟩,
    ⟨(some 128), none, (.pick (.t 123) (.c (.s (.bool true))) (.t 127)), 16⟩,
    ⟨(some 129), none, (.mv (.t 128)), 16⟩,
    ⟨(some 130), (some (129, false)), (.mv (.t 7)), 16⟩,
    ⟨(some 131), (some (129, false)), (.mv (.t 9)), 16⟩,
    ⟨(some 132), (some (129, false)), (.mv (.t 16)), 16⟩,
    ⟨(some 133), (some (129, false)), (.call (.c (.s (.fn 32 []))) [(.t 130), (.t 131), (.t 132)]), 16⟩,
    ⟨(some 134), (some (129, false)), (.not (.t 133)), 24⟩,
    ⟨(some 135), none, (.pick (.t 129) (.c (.s (.bool true))) (.t 134)), 24⟩,
    ⟨(some 136), none, (.mv (.t 135)), 24⟩,
    ⟨(some 137), (some (136, false)), (.mv (.t 19)), 24⟩,
    ⟨(some 138), (some (136, false)), (.bin .neq (.t 137) (.c (.s (.int .i64 0)))), 24⟩,
    ⟨(some 139), none, (.pick (.t 136) (.c (.s (.bool true))) (.t 138)), 24⟩,
    ⟨(some 140), none, (.mv (.t 139)), 24⟩,
    ⟨(some 141), (some (140, false)), (.mv (.t 18)), 24⟩,
    ⟨(some 142), (some (140, false)), (.mv (.t 23)), 24⟩,
    ⟨(some 143), (some (140, false)), (.call (.c (.s (.fn 33 []))) [(.t 141), (.t 142)]), 24⟩,
    ⟨(some 144), (some (140, false)), (.not (.t 143)), 32⟩,
    ⟨(some 145), none, (.pick (.t 140) (.c (.s (.bool true))) (.t 144)), 32⟩,
    ⟨(some 146), none, (.mv (.t 145)), 32⟩,
    ⟨(some 147), (some (146, false)), (.mv (.t 22)), 32⟩,
    ⟨(some 148), (some (146, false)), (.bin .neq (.t 147) (.c (.s (.int .i64 0)))), 32⟩,
    ⟨(some 149), none, (.pick (.t 146) (.c (.s (.bool true))) (.t 148)), 32⟩] 32)
  (.cond (.t 149)
   (.seq (.reg [⟨(some 6), none, (.mv (.c (.s (.bool false)))), 0⟩] 0)
   .ret)
   .skip))
 (.seq (.reg [⟨(some 150), none, (.mv (.t 7)), 0⟩,
   ⟨(some 151), none, (.mv (.t 7)), 0⟩,
   ⟨(some 152), none, (.mv (.t 9)), 0⟩,
   ⟨(some 153), none, (.call (.c (.s (.fn 35 []))) [(.t 151), (.t 152)]), 0⟩,
   ⟨(some 154), none, (.call (.c (.s (.fn 34 []))) [(.t 150), (.t 153)]), 8⟩,
   ⟨(some 26), none, (.mv (.t 154)), 16⟩] 16)
 (.seq (.seq (.reg [⟨(some 155), none, (.mv (.t 21)), 0⟩,
    ⟨(some 156), none, (.mv (.t 7)), 0⟩,
    ⟨(some 157), none, (.mv (.t 26)), 0⟩,
    ⟨(some 158), none, (.call (.c (.s (.fn 36 []))) [(.t 156), (.t 157)]), 0⟩,
    ⟨(some 159), none, (.bin .eql (.t 158) (.c (.s (.int .i64 0)))), 8⟩,
    ⟨(some 160), none, (.eqv .b true (.t 155) (.t 159)), 8⟩] 8)
  (.cond (.t 160)
   (.seq (.reg [⟨(some 6), none, (.mv (.c (.s (.bool false)))), 0⟩] 0)
   .ret)
   .skip))
 (.seq (.reg [⟨(some 161), none, (.mv (.t 21)), 0⟩,
   ⟨(some 162), none, (.mv (.t 161)), 0⟩,
   ⟨(some 163), (some (162, true)), (.mv (.t 7)), 0⟩,
   ⟨(some 164), (some (162, true)), (.ld (.many 2 0) (.t 20)), 0⟩,
   ⟨(some 165), (some (162, true)), (.call (.c (.s (.fn 37 []))) [(.t 163), (.t 164)]), 0⟩,
   ⟨(some 166), none, (.pick (.t 162) (.t 165) (.c (.s (.bool false)))), 8⟩,
   ⟨(some 167), none, (.mv (.t 166)), 8⟩,
   ⟨(some 168), (some (167, true)), (.mv (.t 7)), 8⟩,
   ⟨(some 169), (some (167, true)), (.ld (.many 2 0) (.t 20)), 8⟩,
   ⟨(some 170), (some (167, true)), (.call (.c (.s (.fn 38 []))) [(.t 168), (.t 169)]), 8⟩,
   ⟨(some 171), (some (167, true)), (.mv (.t 9)), 16⟩,
   ⟨(some 172), (some (167, true)), (.call (.c (.s (.fn 14 []))) [(.t 170), (.t 171)]), 16⟩,
   ⟨(some 173), none, (.pick (.t 167) (.t 172) (.c (.s (.bool false)))), 24⟩,
   ⟨(some 174), none, (.mv (.t 173)), 24⟩,
   ⟨(some 175), (some (174, false)), (.mv (.t 21)), 24⟩,
   ⟨(some 176), (some (174, false)), (.not (.t 175)), 24⟩,
   ⟨(some 177), (some (174, false)), (.mv (.t 176)), 24⟩,
   ⟨(some 178), (some (177, true)), (.iad 2 1 (.t 20) (.c (.s (.int .i64 0)))), 24⟩,
   ⟨(some 179), (some (177, true)), (.ld .one (.t 178)), 24⟩,
   ⟨(some 180), (some (177, true)), (.len (.t 179)), 24⟩,
   ⟨(some 181), (some (177, true)), (.iad 2 1 (.t 20) (.c (.s (.int .i64 1)))), 24⟩,
   ⟨(some 182), (some (177, true)), (.ld .one (.t 181)), 24⟩,
   ⟨(some 183), (some (177, true)), (.len (.t 182)), 24⟩,
   ⟨(some 184), (some (177, true)), (.bin .add (.t 180) (.t 183)), 24⟩,
   ⟨(some 185), (some (177, true)), (.bin .eql (.t 184) (.c (.s (.int .i64 0)))), 24⟩,
   ⟨(some 186), (some (174, false)), (.pick (.t 177) (.t 185) (.c (.s (.bool false)))), 24⟩,
   ⟨(some 187), none, (.pick (.t 174) (.c (.s (.bool true))) (.t 186)), 24⟩,
   ⟨(some 188), none, (.mv (.t 187)), 24⟩,
   ⟨(some 189), (some (188, true)), (.call (.c (.s (.fn 11 []))) []), 24⟩,
   ⟨(some 190), none, (.pick (.t 188) (.t 189) (.c (.s (.bool false)))), 32⟩,
   ⟨(some 6), none, (.mv (.t 190)), 32⟩] 32)
 .ret))))))))))))))))), [(.t 6)]⟩

/-- girouette/girouettelaw03.OrdersChecks -/
def x6 : XFn := ⟨284, (.seq (.reg [⟨(some 5), none, (.box 38 (.t 2)), 0⟩,
   ⟨(some 6), none, (.mv (.c (.s (.bool false)))), 1⟩] 1)
 (.seq (.reg [⟨(some 40), none, (.mv (.t 1)), 0⟩,
   ⟨(some 41), none, (.call (.c (.s (.fn 39 []))) [(.t 40), (.c (.s (.int .i64 25)))]), 0⟩,
   ⟨(some 7), none, (.mv (.t 41)), 8⟩] 8)
 (.seq (.reg [⟨(some 42), none, (.mv (.t 0)), 0⟩,
   ⟨(some 43), none, (.mv (.t 7)), 0⟩,
   ⟨(some 44), none, (.call (.c (.s (.fn 40 []))) [(.t 42), (.t 43)]), 0⟩,
   ⟨(some 8), none, (.mv (.t 44)), 8⟩,
   ⟨(some 9), none, (.mv (.c (.s (.int .i64 0)))), 8⟩] 8)
 (.seq (.block 0 (.seq (.reg [⟨(some 46), none, (.mv (.t 0)), 0⟩,
     ⟨(some 47), none, (.bin .lss (.t 46) (.c (.s (.int .i64 1)))), 0⟩,
     ⟨(some 48), none, (.mv (.t 47)), 0⟩,
     ⟨(some 49), (some (48, false)), (.mv (.t 0)), 0⟩,
     ⟨(some 50), (some (48, false)), (.bin .gtr (.t 49) (.c (.s (.int .i64 7)))), 0⟩,
     ⟨(some 51), none, (.pick (.t 48) (.c (.s (.bool true))) (.t 50)), 0⟩,
     ⟨(some 45), none, (.mv (.t 51)), 0⟩] 0)
   (.cond (.t 45)
    (.reg [⟨(some 9), none, (.mv (.c (.s (.int .i64 1)))), 0⟩] 0)
    (.seq (.reg [⟨(some 53), none, (.mv (.t 0)), 0⟩,
      ⟨(some 54), none, (.mv (.t 7)), 0⟩,
      ⟨(some 55), none, (.call (.c (.s (.fn 28 []))) [(.t 53), (.t 54)]), 0⟩,
      ⟨(some 56), none, (.not (.t 55)), 8⟩,
      ⟨(some 52), none, (.mv (.t 56)), 8⟩] 8)
    (.cond (.t 52)
     (.reg [⟨(some 9), none, (.mv (.c (.s (.int .i64 30)))), 0⟩] 0)
     .skip)))))
 (.seq (.seq (.reg [⟨(some 57), none, (.mv (.t 0)), 0⟩,
    ⟨(some 58), none, (.mv (.t 7)), 0⟩,
    ⟨(some 59), none, (.call (.c (.s (.fn 41 []))) [(.t 57), (.t 58)]), 0⟩,
    ⟨(some 60), none, (.mv (.t 8)), 8⟩,
    ⟨(some 61), none, (.bin .neq (.t 59) (.t 60)), 8⟩,
    ⟨(some 62), none, (.mv (.t 61)), 8⟩,
    ⟨(some 63), (some (62, false)), (.mv (.t 0)), 8⟩,
    ⟨(some 64), (some (62, false)), (.mv (.t 7)), 8⟩,
    ⟨(some 65), (some (62, false)), (.call (.c (.s (.fn 13 []))) [(.t 63), (.t 64)]), 8⟩,
    ⟨(some 66), (some (62, false)), (.mv (.t 9)), 16⟩,
    ⟨(some 67), (some (62, false)), (.bin .neq (.t 65) (.t 66)), 16⟩,
    ⟨(some 68), none, (.pick (.t 62) (.c (.s (.bool true))) (.t 67)), 16⟩] 16)
  (.cond (.t 68)
   (.seq (.reg [⟨(some 6), none, (.mv (.c (.s (.bool false)))), 0⟩] 0)
   .ret)
   .skip))
 (.seq (.seq (.reg [⟨(some 69), none, (.mv (.t 8)), 0⟩,
    ⟨(some 70), none, (.bin .neq (.t 69) (.c (.s (.int .i64 0)))), 0⟩] 0)
  (.cond (.t 70)
   (.seq (.reg [⟨(some 72), none, (.mv (.t 0)), 0⟩,
     ⟨(some 73), none, (.mv (.t 7)), 0⟩,
     ⟨(some 74), none, (.call (.c (.s (.fn 42 []))) [(.t 72), (.t 73)]), 0⟩,
     ⟨(some 71), none, (.mv (.t 74)), 8⟩,
     ⟨(some 75), none, (.extr (.t 71) 0), 8⟩,
     ⟨(some 76), none, (.extr (.t 71) 1), 8⟩,
     ⟨(some 10), none, (.mv (.t 75)), 8⟩,
     ⟨(some 11), none, (.mv (.t 76)), 8⟩] 8)
   (.seq (.reg [⟨(some 78), none, (.mv (.t 0)), 0⟩,
     ⟨(some 79), none, (.mv (.t 7)), 0⟩,
     ⟨(some 80), none, (.ld (.many 2 0) (.t 5)), 0⟩,
     ⟨(some 81), none, (.ld (.many 2 0) (.t 5)), 0⟩,
     ⟨(some 82), none, (.call (.c (.s (.fn 43 []))) [(.t 78), (.t 79), (.t 80), (.t 81)]), 0⟩,
     ⟨(some 77), none, (.mv (.t 82)), 8⟩,
     ⟨(some 83), none, (.extr (.t 77) 0), 8⟩,
     ⟨(some 84), none, (.extr (.t 77) 1), 8⟩,
     ⟨(some 12), none, (.mv (.t 83)), 8⟩,
     ⟨(some 13), none, (.mv (.t 84)), 8⟩] 8)
   (.seq (.reg [⟨(some 86), none, (.mv (.t 0)), 0⟩,
     ⟨(some 87), none, (.mv (.t 7)), 0⟩,
     ⟨(some 88), none, (.ld (.many 2 0) (.t 5)), 0⟩,
     ⟨(some 89), none, (.call (.c (.s (.fn 44 []))) [(.t 86), (.t 87), (.t 88)]), 0⟩,
     ⟨(some 85), none, (.mv (.t 89)), 8⟩,
     ⟨(some 90), none, (.extr (.t 85) 0), 8⟩,
     ⟨(some 91), none, (.extr (.t 85) 1), 8⟩,
     ⟨(some 14), none, (.mv (.t 90)), 8⟩,
     ⟨(some 15), none, (.mv (.t 91)), 8⟩] 8)
   (.seq (.reg [⟨(some 93), none, (.mv (.t 0)), 0⟩,
     ⟨(some 94), none, (.mv (.t 7)), 0⟩,
     ⟨(some 95), none, (.call (.c (.s (.fn 9 []))) [(.t 93), (.t 94)]), 0⟩,
     ⟨(some 92), none, (.mv (.t 95)), 8⟩,
     ⟨(some 96), none, (.extr (.t 92) 0), 8⟩,
     ⟨(some 97), none, (.extr (.t 92) 1), 8⟩,
     ⟨(some 16), none, (.mv (.t 96)), 8⟩,
     ⟨(some 17), none, (.mv (.t 97)), 8⟩] 8)
   (.seq (.reg [⟨(some 99), none, (.mv (.t 0)), 0⟩,
     ⟨(some 100), none, (.mv (.t 7)), 0⟩,
     ⟨(some 101), none, (.call (.c (.s (.fn 10 []))) [(.t 99), (.t 100)]), 0⟩,
     ⟨(some 98), none, (.mv (.t 101)), 8⟩,
     ⟨(some 102), none, (.extr (.t 98) 0), 8⟩,
     ⟨(some 103), none, (.extr (.t 98) 1), 8⟩,
     ⟨(some 104), none, (.extr (.t 98) 2), 8⟩,
     ⟨(some 18), none, (.mv (.t 102)), 8⟩,
     ⟨(some 19), none, (.mv (.t 103)), 8⟩,
     ⟨(some 20), none, (.mv (.t 104)), 8⟩] 8)
   (.seq (.reg [⟨(some 106), none, (.mv (.t 0)), 0⟩,
     ⟨(some 107), none, (.mv (.t 7)), 0⟩,
     ⟨(some 108), none, (.call (.c (.s (.fn 45 []))) [(.t 106), (.t 107)]), 0⟩,
     ⟨(some 105), none, (.mv (.t 108)), 8⟩,
     ⟨(some 109), none, (.extr (.t 105) 0), 8⟩,
     ⟨(some 110), none, (.extr (.t 105) 1), 8⟩,
     ⟨(some 111), none, (.extr (.t 105) 2), 8⟩,
     ⟨(some 21), none, (.mv (.t 109)), 8⟩,
     ⟨(some 22), none, (.mv (.t 110)), 8⟩,
     ⟨(some 23), none, (.mv (.t 111)), 8⟩] 8)
   (.seq (.reg [⟨(some 113), none, (.mv (.t 0)), 0⟩,
     ⟨(some 114), none, (.mv (.t 7)), 0⟩,
     ⟨(some 115), none, (.mv (.t 7)), 0⟩,
     ⟨(some 116), none, (.call (.c (.s (.fn 46 []))) [(.t 113), (.t 114), (.t 115)]), 0⟩,
     ⟨(some 112), none, (.mv (.t 116)), 8⟩,
     ⟨(some 117), none, (.extr (.t 112) 0), 8⟩,
     ⟨(some 118), none, (.extr (.t 112) 1), 8⟩,
     ⟨(some 24), none, (.mv (.t 117)), 8⟩,
     ⟨(some 25), none, (.mv (.t 118)), 8⟩] 8)
   (.seq (.reg [⟨(some 120), none, (.mv (.t 0)), 0⟩,
     ⟨(some 121), none, (.mv (.t 7)), 0⟩,
     ⟨(some 122), none, (.call (.c (.s (.fn 8 []))) [(.t 120), (.t 121)]), 0⟩,
     ⟨(some 119), none, (.mv (.t 122)), 8⟩,
     ⟨(some 123), none, (.extr (.t 119) 0), 8⟩,
     ⟨(some 124), none, (.extr (.t 119) 1), 8⟩,
     ⟨(some 26), none, (.mv (.t 123)), 8⟩,
     ⟨(some 27), none, (.mv (.t 124)), 8⟩] 8)
   (.seq (.reg [⟨(some 126), none, (.mv (.t 0)), 0⟩,
     ⟨(some 127), none, (.mv (.t 7)), 0⟩,
     ⟨(some 128), none, (.call (.c (.s (.fn 47 []))) [(.t 126), (.t 127)]), 0⟩,
     ⟨(some 125), none, (.mv (.t 128)), 8⟩,
     ⟨(some 129), none, (.extr (.t 125) 0), 8⟩,
     ⟨(some 130), none, (.extr (.t 125) 1), 8⟩,
     ⟨(some 131), none, (.extr (.t 125) 2), 8⟩,
     ⟨(some 28), none, (.alloc 48 (.pb [.nils, .nils] 0 ff)), 8⟩,
     ⟨none, none, (.st (.many 2 0) (.t 28) (.t 129)), 9⟩,
     ⟨(some 29), none, (.mv (.t 130)), 9⟩,
     ⟨(some 30), none, (.mv (.t 131)), 9⟩] 9)
   (.seq (.reg [⟨(some 132), none, (.mv (.t 11)), 0⟩,
     ⟨(some 133), none, (.mv (.t 8)), 0⟩,
     ⟨(some 134), none, (.bin .neq (.t 132) (.t 133)), 0⟩,
     ⟨(some 135), none, (.mv (.t 134)), 0⟩,
     ⟨(some 136), (some (135, false)), (.mv (.t 13)), 0⟩,
     ⟨(some 137), (some (135, false)), (.mv (.t 8)), 0⟩,
     ⟨(some 138), (some (135, false)), (.bin .neq (.t 136) (.t 137)), 0⟩,
     ⟨(some 139), none, (.pick (.t 135) (.c (.s (.bool true))) (.t 138)), 0⟩,
     ⟨(some 140), none, (.mv (.t 139)), 0⟩,
     ⟨(some 141), (some (140, false)), (.mv (.t 15)), 0⟩,
     ⟨(some 142), (some (140, false)), (.mv (.t 8)), 0⟩,
     ⟨(some 143), (some (140, false)), (.bin .neq (.t 141) (.t 142)), 0⟩,
     ⟨(some 144), none, (.pick (.t 140) (.c (.s (.bool true))) (.t 143)), 0⟩,
     ⟨(some 145), none, (.mv (.t 144)), 0⟩,
     ⟨(some 146), (some (145, false)), (.mv (.t 17)), 0⟩,
     ⟨(some 147), (some (145, false)), (.mv (.t 8)), 0⟩,
     ⟨(some 148), (some (145, false)), (.bin .neq (.t 146) (.t 147)), 0⟩,
     ⟨(some 149), none, (.pick (.t 145) (.c (.s (.bool true))) (.t 148)), 0⟩,
     ⟨(some 150), none, (.mv (.t 149)), 0⟩,
     ⟨(some 151), (some (150, false)), (.mv (.t 20)), 0⟩,
     ⟨(some 152), (some (150, false)), (.mv (.t 8)), 0⟩,
     ⟨(some 153), (some (150, false)), (.bin .neq (.t 151) (.t 152)), 0⟩,
     ⟨(some 154), none, (.pick (.t 150) (.c (.s (.bool true))) (.t 153)), 0⟩,
     ⟨(some 155), none, (.mv (.t 154)), 0⟩,
     ⟨(some 156), (some (155, false)), (.mv (.t 23)), 0⟩,
     ⟨(some 157), (some (155, false)), (.mv (.t 8)), 0⟩,
     ⟨(some 158), (some (155, false)), (.bin .neq (.t 156) (.t 157)), 0⟩,
     ⟨(some 159), none, (.pick (.t 155) (.c (.s (.bool true))) (.t 158)), 0⟩,
     ⟨(some 160), none, (.mv (.t 159)), 0⟩,
     ⟨(some 161), (some (160, false)), (.mv (.t 25)), 0⟩,
     ⟨(some 162), (some (160, false)), (.mv (.t 8)), 0⟩,
     ⟨(some 163), (some (160, false)), (.bin .neq (.t 161) (.t 162)), 0⟩,
     ⟨(some 164), none, (.pick (.t 160) (.c (.s (.bool true))) (.t 163)), 0⟩,
     ⟨(some 165), none, (.mv (.t 164)), 0⟩,
     ⟨(some 166), (some (165, false)), (.mv (.t 27)), 0⟩,
     ⟨(some 167), (some (165, false)), (.mv (.t 8)), 0⟩,
     ⟨(some 168), (some (165, false)), (.bin .neq (.t 166) (.t 167)), 0⟩,
     ⟨(some 169), none, (.pick (.t 165) (.c (.s (.bool true))) (.t 168)), 0⟩,
     ⟨(some 170), none, (.mv (.t 169)), 0⟩,
     ⟨(some 171), (some (170, false)), (.mv (.t 30)), 0⟩,
     ⟨(some 172), (some (170, false)), (.mv (.t 8)), 0⟩,
     ⟨(some 173), (some (170, false)), (.bin .neq (.t 171) (.t 172)), 0⟩,
     ⟨(some 174), none, (.pick (.t 170) (.c (.s (.bool true))) (.t 173)), 0⟩,
     ⟨(some 175), none, (.mv (.t 174)), 0⟩,
     ⟨(some 176), (some (175, false)), (.mv (.t 12)), 0⟩,
     ⟨(some 177), none, (.pick (.t 175) (.c (.s (.bool true))) (.t 176)), 0⟩,
     ⟨(some 178), none, (.mv (.t 177)), 0⟩,
     ⟨(some 179), (some (178, false)), (.mv (.t 19)), 0⟩,
     ⟨(some 180), none, (.pick (.t 178) (.c (.s (.bool true))) (.t 179)), 0⟩,
     ⟨(some 181), none, (.mv (.t 180)), 0⟩,
     ⟨(some 182), (some (181, false)), (.mv (.t 22)), 0⟩,
     ⟨(some 183), none, (.pick (.t 181) (.c (.s (.bool true))) (.t 182)), 0⟩,
     ⟨(some 184), none, (.mv (.t 183)), 0⟩,
     ⟨(some 185), (some (184, false)), (.mv (.t 24)), 0⟩,
     ⟨(some 186), none, (.pick (.t 184) (.c (.s (.bool true))) (.t 185)), 0⟩,
     ⟨(some 187), none, (.mv (.t 186)), 0⟩,
     ⟨(some 188), (some (187, false)), (.mv (.t 29)), 0⟩,
     ⟨(some 189), none, (.pick (.t 187) (.c (.s (.bool true))) (.t 188)), 0⟩,
     ⟨(some 190), none, (.mv (.t 189)), 0⟩,
     ⟨(some 191), (some (190, false)), (.mv (.t 10)), 0⟩,
     ⟨(some 192), (some (190, false)), (.len (.t 191)), 0⟩,
     ⟨(some 193), (some (190, false)), (.mv (.t 14)), 0⟩,
     ⟨(some 194), (some (190, false)), (.len (.t 193)), 0⟩,
     ⟨(some 195), (some (190, false)), (.bin .add (.t 192) (.t 194)), 0⟩,
     ⟨(some 196), (some (190, false)), (.mv (.t 16)), 0⟩,
     ⟨(some 197), (some (190, false)), (.bin .add (.t 195) (.t 196)), 0⟩,
     ⟨(some 198), (some (190, false)), (.mv (.t 18)), 0⟩,
     ⟨(some 199), (some (190, false)), (.len (.t 198)), 0⟩,
     ⟨(some 200), (some (190, false)), (.bin .add (.t 197) (.t 199)), 0⟩,
     ⟨(some 201), (some (190, false)), (.mv (.t 21)), 0⟩,
     ⟨(some 202), (some (190, false)), (.len (.t 201)), 0⟩,
     ⟨(some 203), (some (190, false)), (.bin .add (.t 200) (.t 202)), 0⟩,
     ⟨(some 204), (some (190, false)), (.mv (.t 26)), 0⟩,
     ⟨(some 205), (some (190, false)), (.bin .add (.t 203) (.t 204)), 0⟩,
     ⟨(some 206), (some (190, false)), (.iad 2 1 (.t 28) (.c (.s (.int .i64 0)))), 0⟩,
     ⟨(some 207), (some (190, false)), (.ld .one (.t 206)), 0⟩,
     ⟨(some 208), (some (190, false)), (.len (.t 207)), 0⟩,
     ⟨(some 209), (some (190, false)), (.bin .add (.t 205) (.t 208)), 0⟩,
     ⟨(some 210), (some (190, false)), (.iad 2 1 (.t 28) (.c (.s (.int .i64 1)))), 0⟩,
     ⟨(some 211), (some (190, false)), (.ld .one (.t 210)), 0⟩,
     ⟨(some 212), (some (190, false)), (.len (.t 211)), 0⟩,
     ⟨(some 213), (some (190, false)), (.bin .add (.t 209) (.t 212)), 0⟩,
     ⟨(some 214), (some (190, false)), (.bin .neq (.t 213) (.c (.s (.int .i64 0)))), 0⟩,
     ⟨(some 215), none, (.pick (.t 190) (.c (.s (.bool true))) (.t 214)), 0⟩] 0)
   (.cond (.t 215)
    (.seq (.reg [⟨(some 6), none, (.mv (.c (.s (.bool false)))), 0⟩] 0)
    .ret)
    .skip)))))))))))
   .skip))
 (.seq (.seq (.reg [⟨(some 216), none, (.mv (.t 9)), 0⟩,
    ⟨(some 217), none, (.bin .neq (.t 216) (.c (.s (.int .i64 0)))), 0⟩] 0)
  (.cond (.t 217)
   (.seq (.reg [⟨(some 219), none, (.mv (.t 0)), 0⟩,
     ⟨(some 220), none, (.mv (.t 7)), 0⟩,
     ⟨(some 221), none, (.call (.c (.s (.fn 12 []))) [(.t 219), (.t 220)]), 0⟩,
     ⟨(some 218), none, (.mv (.t 221)), 8⟩,
     ⟨(some 222), none, (.extr (.t 218) 0), 8⟩,
     ⟨(some 223), none, (.extr (.t 218) 1), 8⟩,
     ⟨(some 31), none, (.mv (.t 222)), 8⟩,
     ⟨(some 32), none, (.mv (.t 223)), 8⟩] 8)
   (.seq (.reg [⟨(some 225), none, (.mv (.t 0)), 0⟩,
     ⟨(some 226), none, (.mv (.t 7)), 0⟩,
     ⟨(some 227), none, (.call (.c (.s (.fn 19 []))) [(.t 225), (.t 226)]), 0⟩,
     ⟨(some 224), none, (.mv (.t 227)), 8⟩,
     ⟨(some 228), none, (.extr (.t 224) 0), 8⟩,
     ⟨(some 229), none, (.extr (.t 224) 1), 8⟩,
     ⟨(some 33), none, (.mv (.t 228)), 8⟩,
     ⟨(some 34), none, (.mv (.t 229)), 8⟩] 8)
   (.seq (.reg [⟨(some 231), none, (.mv (.t 0)), 0⟩,
     ⟨(some 232), none, (.mv (.t 7)), 0⟩,
     ⟨(some 233), none, (.call (.c (.s (.fn 20 []))) [(.t 231), (.t 232)]), 0⟩,
     ⟨(some 230), none, (.mv (.t 233)), 8⟩,
     ⟨(some 234), none, (.extr (.t 230) 0), 8⟩,
     ⟨(some 235), none, (.extr (.t 230) 1), 8⟩,
     ⟨(some 35), none, (.mv (.t 234)), 8⟩,
     ⟨(some 36), none, (.mv (.t 235)), 8⟩] 8)
   (.seq (.reg [⟨(some 237), none, (.mv (.t 0)), 0⟩,
     ⟨(some 238), none, (.mv (.t 7)), 0⟩,
     ⟨(some 239), none, (.call (.c (.s (.fn 29 []))) [(.t 237), (.t 238)]), 0⟩,
     ⟨(some 236), none, (.mv (.t 239)), 8⟩,
     ⟨(some 240), none, (.extr (.t 236) 0), 8⟩,
     ⟨(some 241), none, (.extr (.t 236) 1), 8⟩,
     ⟨(some 242), none, (.extr (.t 236) 2), 8⟩,
     ⟨(some 37), none, (.alloc 48 (.pb [.nils, .nils] 0 ff)), 8⟩,
     ⟨none, none, (.st (.many 2 0) (.t 37) (.t 240)), 9⟩,
     ⟨(some 38), none, (.mv (.t 241)), 9⟩,
     ⟨(some 39), none, (.mv (.t 242)), 9⟩] 9)
   (.seq (.reg [⟨(some 243), none, (.mv (.t 32)), 0⟩,
     ⟨(some 244), none, (.mv (.t 9)), 0⟩,
     ⟨(some 245), none, (.bin .neq (.t 243) (.t 244)), 0⟩,
     ⟨(some 246), none, (.mv (.t 245)), 0⟩,
     ⟨(some 247), (some (246, false)), (.mv (.t 34)), 0⟩,
     ⟨(some 248), (some (246, false)), (.mv (.t 9)), 0⟩,
     ⟨(some 249), (some (246, false)), (.bin .neq (.t 247) (.t 248)), 0⟩,
     ⟨(some 250), none, (.pick (.t 246) (.c (.s (.bool true))) (.t 249)), 0⟩,
     ⟨(some 251), none, (.mv (.t 250)), 0⟩,
     ⟨(some 252), (some (251, false)), (.mv (.t 36)), 0⟩,
     ⟨(some 253), (some (251, false)), (.mv (.t 9)), 0⟩,
     ⟨(some 254), (some (251, false)), (.bin .neq (.t 252) (.t 253)), 0⟩,
     ⟨(some 255), none, (.pick (.t 251) (.c (.s (.bool true))) (.t 254)), 0⟩,
     ⟨(some 256), none, (.mv (.t 255)), 0⟩,
     ⟨(some 257), (some (256, false)), (.mv (.t 39)), 0⟩,
     ⟨(some 258), (some (256, false)), (.mv (.t 9)), 0⟩,
     ⟨(some 259), (some (256, false)), (.bin .neq (.t 257) (.t 258)), 0⟩,
     ⟨(some 260), none, (.pick (.t 256) (.c (.s (.bool true))) (.t 259)), 0⟩,
     ⟨(some 261), none, (.mv (.t 260)), 0⟩,
     ⟨(some 262), (some (261, false)), (.mv (.t 38)), 0⟩,
     ⟨(some 263), none, (.pick (.t 261) (.c (.s (.bool true))) (.t 262)), 0⟩,
     ⟨(some 264), none, (.mv (.t 263)), 0⟩,
     ⟨(some 265), (some (264, false)), (.mv (.t 31)), 0⟩,
     ⟨(some 266), (some (264, false)), (.len (.t 265)), 0⟩,
     ⟨(some 267), (some (264, false)), (.mv (.t 33)), 0⟩,
     ⟨(some 268), (some (264, false)), (.len (.t 267)), 0⟩,
     ⟨(some 269), (some (264, false)), (.bin .add (.t 266) (.t 268)), 0⟩,
     ⟨(some 270), (some (264, false)), (.mv (.t 35)), 0⟩,
     ⟨(some 271), (some (264, false)), (.len (.t 270)), 0⟩,
     ⟨(some 272), (some (264, false)), (.bin .add (.t 269) (.t 271)), 0⟩,
     ⟨(some 273), (some (264, false)), (.iad 2 1 (.t 37) (.c (.s (.int .i64 0)))), 0⟩,
     ⟨(some 274), (some (264, false)), (.ld .one (.t 273)), 0⟩,
     ⟨(some 275), (some (264, false)), (.len (.t 274)), 0⟩,
     ⟨(some 276), (some (264, false)), (.bin .add (.t 272) (.t 275)), 0⟩,
     ⟨(some 277), (some (264, false)), (.iad 2 1 (.t 37) (.c (.s (.int .i64 1)))), 0⟩,
     ⟨(some 278), (some (264, false)), (.ld .one (.t 277)), 0⟩,
     ⟨(some 279), (some (264, false)), (.len (.t 278)), 0⟩,
     ⟨(some 280), (some (264, false)), (.bin .add (.t 276) (.t 279)), 0⟩,
     ⟨(some 281), (some (264, false)), (.bin .neq (.t 280) (.c (.s (.int .i64 0)))), 0⟩,
     ⟨(some 282), none, (.pick (.t 264) (.c (.s (.bool true))) (.t 281)), 0⟩] 0)
   (.cond (.t 282)
    (.seq (.reg [⟨(some 6), none, (.mv (.c (.s (.bool false)))), 0⟩] 0)
    .ret)
    .skip))))))
   .skip))
 (.seq (.reg [⟨(some 283), none, (.call (.c (.s (.fn 11 []))) []), 0⟩,
   ⟨(some 6), none, (.mv (.t 283)), 8⟩] 8)
 .ret)))))))), [(.t 6)]⟩

/-- girouette/girouettelaw03.tame -/
def x7 : XFn := ⟨83, (.seq (.reg [⟨(some 6), none, (.mv (.c (.s (.int .i64 0)))), 0⟩,
   ⟨(some 7), none, (.mv (.c (.s .nils))), 0⟩] 0)
 (.seq (.reg [⟨(some 14), none, (.mv (.t 0)), 0⟩,
   ⟨(some 15), none, (.conv .u64 (.t 14)), 0⟩,
   ⟨(some 16), none, (.mv (.t 2)), 0⟩,
   ⟨(some 17), none, (.conv .u64 (.t 16)), 0⟩,
   ⟨(some 18), none, (.bin .rem (.t 15) (.t 17)), 0⟩,
   ⟨(some 19), none, (.conv .i64 (.t 18)), 0⟩,
   ⟨(some 20), none, (.bin .add (.c (.s (.int .i64 1))) (.t 19)), 0⟩,
   ⟨(some 0), none, (.mv (.t 20)), 0⟩] 0)
 (.seq (.reg [⟨(some 8), none, (.mv (.c (.s .nils))), 0⟩] 0)
 (.seq (.seq (.reg [⟨(some 9), none, (.mv (.c (.s (.int .i64 0)))), 0⟩] 0)
  (.block 0 (.loop (.seq (.seq (.reg [⟨(some 21), none, (.mv (.t 9)), 0⟩,
       ⟨(some 22), none, (.mv (.t 0)), 0⟩,
       ⟨(some 23), none, (.bin .lss (.t 21) (.t 22)), 0⟩] 0)
     (.cond (.t 23)
      .skip
      (.exit 0)))
    (.seq (.block 1 (.seq (.reg [⟨(some 26), none, (.mv (.t 9)), 0⟩,
        ⟨(some 27), none, (.bin .add (.t 26) (.c (.s (.int .i64 1)))), 0⟩,
        ⟨(some 10), none, (.mv (.t 27)), 0⟩] 0)
      (.block 2 (.loop (.seq (.seq (.reg [⟨(some 28), none, (.mv (.t 10)), 0⟩,
           ⟨(some 29), none, (.mv (.t 0)), 0⟩,
           ⟨(some 30), none, (.bin .lss (.t 28) (.t 29)), 0⟩] 0)
         (.cond (.t 30)
          .skip
          (.exit 2)))
        (.seq (.block 3 (.seq (.reg [⟨(some 11), none, (.mv (.c (.s (.int .i64 0)))), 0⟩] 0)
          (.block 4 (.loop (.seq (.seq (.reg [⟨(some 33), none, (.mv (.t 11)), 0⟩,
               ⟨(some 34), none, (.mv (.t 1)), 0⟩,
               ⟨(some 35), none, (.len (.t 34)), 0⟩,
               ⟨(some 36), none, (.bin .lss (.t 33) (.t 35)), 0⟩,
               ⟨(some 37), none, (.mv (.t 36)), 0⟩,
               ⟨(some 38), (some (37, true)), (.mv (.t 11)), 0⟩,
               ⟨(some 39), (some (37, true)), (.bin .lss (.t 38) (.c (.s (.int .i64 25)))), 0⟩,
               ⟨(some 40), none, (.pick (.t 37) (.t 39) (.c (.s (.bool false)))), 0⟩] 0)
             (.cond (.t 40)
              .skip
              (.exit 4)))
            (.seq (.block 5 (.seq (.regD [⟨(some 43), none, (.mv (.t 1)), 0⟩,
                ⟨(some 44), none, (.mv (.t 11)), 0⟩,
                ⟨(some 45), none, (.iadS 2 (.t 43) (.t 44)), 0⟩,
                ⟨(some 46), none, (.iad 2 1 (.t 45) (.c (.s (.int .i64 0)))), 0⟩,
                ⟨(some 47), none, (.ld .one (.t 46)), 0⟩,
                ⟨(some 48), none, (.conv .u64 (.t 47)), 0⟩,
                ⟨(some 49), none, (.mv (.t 0)), 0⟩,
                ⟨(some 50), none, (.conv .u64 (.t 49)), 0⟩,
                ⟨(some 51), none, (.bin .rem (.t 48) (.t 50)), 0⟩,
                ⟨(some 52), none, (.conv .i64 (.t 51)), 0⟩,
                ⟨(some 53), none, (.mv (.t 1)), 0⟩,
                ⟨(some 54), none, (.mv (.t 11)), 0⟩,
                ⟨(some 55), none, (.iadS 2 (.t 53) (.t 54)), 0⟩,
                ⟨(some 56), none, (.iad 2 1 (.t 55) (.c (.s (.int .i64 1)))), 0⟩,
                ⟨(some 57), none, (.ld .one (.t 56)), 0⟩,
                ⟨(some 58), none, (.conv .u64 (.t 57)), 0⟩,
                ⟨(some 59), none, (.mv (.t 0)), 0⟩,
                ⟨(some 60), none, (.conv .u64 (.t 59)), 0⟩,
                ⟨(some 61), none, (.bin .rem (.t 58) (.t 60)), 0⟩,
                ⟨(some 62), none, (.conv .i64 (.t 61)), 0⟩,
                ⟨(some 12), none, (.mv (.t 52)), 0⟩,
                ⟨(some 13), none, (.mv (.t 62)), 0⟩] 0 [])
              (.seq (.reg [⟨(some 63), none, (.mv (.t 12)), 0⟩,
                ⟨(some 64), none, (.mv (.t 13)), 0⟩,
                ⟨(some 65), none, (.mn [(.t 63), (.t 64)]), 0⟩,
                ⟨(some 66), none, (.mv (.t 9)), 0⟩,
                ⟨(some 67), none, (.bin .eql (.t 65) (.t 66)), 0⟩,
                ⟨(some 68), none, (.mv (.t 67)), 0⟩,
                ⟨(some 69), (some (68, true)), (.mv (.t 12)), 0⟩,
                ⟨(some 70), (some (68, true)), (.mv (.t 13)), 0⟩,
                ⟨(some 71), (some (68, true)), (.mx [(.t 69), (.t 70)]), 0⟩,
                ⟨(some 72), (some (68, true)), (.mv (.t 10)), 0⟩,
                ⟨(some 73), (some (68, true)), (.bin .eql (.t 71) (.t 72)), 0⟩,
                ⟨(some 74), none, (.pick (.t 68) (.t 73) (.c (.s (.bool false)))), 0⟩] 0)
              (.cond (.t 74)
               (.seq (.reg [⟨(some 75), none, (.mv (.t 8)), 0⟩,
                 ⟨(some 76), none, (.mv (.t 9)), 0⟩,
                 ⟨(some 77), none, (.mv (.t 10)), 0⟩,
                 ⟨(some 78), none, (.bld (.pb [(.int .i64 0), (.int .i64 0)] 0 ff) [((0, 1), (.t 76)), ((1, 1), (.t 77))]), 0⟩,
                 ⟨(some 79), none, (.bsl 38 .i64 2 1 [(0, (.t 78))]), 0⟩,
                 ⟨(some 80), none, (.app 38 .i64 2 (.t 75) (.t 79)), 1⟩,
                 ⟨(some 8), none, (.mv (.t 80)), 2⟩] 2)
               (.exit 4))
               .skip))))
            (.reg [⟨(some 41), none, (.mv (.t 11)), 0⟩,
             ⟨(some 42), none, (.bin .add (.t 41) (.c (.s (.int .i64 1)))), 0⟩,
             ⟨(some 11), none, (.mv (.t 42)), 0⟩] 0)))))))
        (.reg [⟨(some 31), none, (.mv (.t 10)), 0⟩,
         ⟨(some 32), none, (.bin .add (.t 31) (.c (.s (.int .i64 1)))), 0⟩,
         ⟨(some 10), none, (.mv (.t 32)), 0⟩] 0)))))))
    (.reg [⟨(some 24), none, (.mv (.t 9)), 0⟩,
     ⟨(some 25), none, (.bin .add (.t 24) (.c (.s (.int .i64 1)))), 0⟩,
     ⟨(some 9), none, (.mv (.t 25)), 0⟩] 0))))))
 (.seq (.reg [⟨(some 81), none, (.mv (.t 0)), 0⟩,
   ⟨(some 82), none, (.mv (.t 8)), 0⟩,
   ⟨(some 6), none, (.mv (.t 81)), 0⟩,
   ⟨(some 7), none, (.mv (.t 82)), 0⟩] 0)
 .ret))))), [(.t 6), (.t 7)]⟩

/-- girouette/orders.Count -/
def x8 : XFn := ⟨29, (.seq (.reg [⟨(some 4), none, (.mv (.c (.s (.int .i64 0)))), 0⟩,
   ⟨(some 5), none, (.mv (.c (.s (.int .i64 0)))), 0⟩] 0)
 (.seq (.reg [⟨(some 13), none, (.mv (.t 0)), 0⟩,
   ⟨(some 14), none, (.mv (.t 1)), 0⟩,
   ⟨(some 15), none, (.call (.c (.s (.fn 48 []))) [(.t 13), (.t 14)]), 0⟩,
   ⟨(some 12), none, (.mv (.t 15)), 8⟩,
   ⟨(some 16), none, (.extr (.t 12) 0), 8⟩,
   ⟨(some 17), none, (.extr (.t 12) 1), 8⟩,
   ⟨(some 6), none, (.alloc 64 (.s .nilp)), 8⟩,
   ⟨none, none, (.st .one (.t 6) (.t 16)), 9⟩,
   ⟨(some 7), none, (.mv (.t 17)), 9⟩] 9)
 (.seq (.seq (.reg [⟨(some 18), none, (.mv (.t 7)), 0⟩,
    ⟨(some 19), none, (.bin .neq (.t 18) (.c (.s (.int .i64 0)))), 0⟩] 0)
  (.cond (.t 19)
   (.seq (.reg [⟨(some 20), none, (.mv (.t 7)), 0⟩,
     ⟨(some 4), none, (.mv (.c (.s (.int .i64 0)))), 0⟩,
     ⟨(some 5), none, (.mv (.t 20)), 0⟩] 0)
   .ret)
   .skip))
 (.seq (.seq (.reg [⟨(some 21), none, (.mv (.t 0)), 0⟩,
    ⟨(some 22), none, (.bin .gtr (.t 21) (.c (.s (.int .i64 6)))), 0⟩] 0)
  (.cond (.t 22)
   (.seq (.reg [⟨(some 4), none, (.mv (.c (.s (.int .i64 0)))), 0⟩,
     ⟨(some 5), none, (.mv (.c (.s (.int .i64 1)))), 0⟩] 0)
   .ret)
   .skip))
 (.seq (.reg [⟨(some 23), none, (.ld .one (.t 6)), 0⟩,
   ⟨(some 24), none, (.call (.c (.s (.fn 49 []))) [(.t 23)]), 0⟩,
   ⟨(some 8), none, (.alloc 22 (.s .nils)), 8⟩,
   ⟨none, none, (.st .one (.t 8) (.t 24)), 9⟩] 9)
 (.seq (.reg [⟨(some 9), none, (.alloc 3 (.s (.int .i64 0))), 0⟩,
   ⟨none, none, (.st .one (.t 9) (.c (.s (.int .i64 0)))), 1⟩] 1)
 (.seq (.reg [⟨(some 10), none, (.alloc 70 (.pb [] 49 ff)), 0⟩] 1)
 (.seq (.reg [⟨(some 11), none, (.alloc 71 (.s .nilf)), 0⟩] 1)
 (.seq (.reg [⟨(some 25), none, (.mkf 50 [(.t 8), (.t 10), (.t 9), (.t 6), (.t 11)]), 0⟩,
   ⟨none, none, (.st .one (.t 11) (.t 25)), 0⟩] 0)
 (.seq (.reg [⟨(some 26), none, (.ld .one (.t 11)), 0⟩,
   ⟨(some 27), none, (.call (.t 26) [(.c (.s (.int .i64 0)))]), 0⟩] 8)
 (.seq (.reg [⟨(some 28), none, (.ld .one (.t 9)), 0⟩,
   ⟨(some 4), none, (.mv (.t 28)), 0⟩,
   ⟨(some 5), none, (.mv (.c (.s (.int .i64 0)))), 0⟩] 0)
 .ret))))))))))), [(.t 4), (.t 5)]⟩

/-- girouette/orders.Classes -/
def x9 : XFn := ⟨55, (.seq (.reg [⟨(some 4), none, (.mv (.c (.s (.int .i64 0)))), 0⟩,
   ⟨(some 5), none, (.mv (.c (.s (.int .i64 0)))), 0⟩] 0)
 (.seq (.reg [⟨(some 17), none, (.mv (.t 0)), 0⟩,
   ⟨(some 18), none, (.mv (.t 1)), 0⟩,
   ⟨(some 19), none, (.call (.c (.s (.fn 48 []))) [(.t 17), (.t 18)]), 0⟩,
   ⟨(some 16), none, (.mv (.t 19)), 8⟩,
   ⟨(some 20), none, (.extr (.t 16) 0), 8⟩,
   ⟨(some 21), none, (.extr (.t 16) 1), 8⟩,
   ⟨(some 6), none, (.mv (.t 20)), 8⟩,
   ⟨(some 7), none, (.mv (.t 21)), 8⟩] 8)
 (.seq (.seq (.reg [⟨(some 22), none, (.mv (.t 7)), 0⟩,
    ⟨(some 23), none, (.bin .neq (.t 22) (.c (.s (.int .i64 0)))), 0⟩] 0)
  (.cond (.t 23)
   (.seq (.reg [⟨(some 24), none, (.mv (.t 7)), 0⟩,
     ⟨(some 4), none, (.mv (.c (.s (.int .i64 0)))), 0⟩,
     ⟨(some 5), none, (.mv (.t 24)), 0⟩] 0)
   .ret)
   .skip))
 (.seq (.reg [⟨(some 25), none, (.mmk (.ints 2) .bool1), 0⟩,
   ⟨(some 8), none, (.mv (.t 25)), 1⟩] 1)
 (.seq (.reg [⟨(some 9), none, (.mv (.c (.s (.int .i64 0)))), 0⟩] 0)
 (.seq (.seq (.reg [⟨(some 26), none, (.mv (.t 6)), 0⟩,
    ⟨(some 27), none, (.call (.c (.s (.fn 53 []))) [(.t 26)]), 0⟩,
    ⟨(some 28), none, (.len (.t 27)), 8⟩,
    ⟨(some 29), none, (.mv (.c (.s (.int .i64 0)))), 8⟩] 8)
  (.block 0 (.loop (.seq (.reg [⟨(some 30), none, (.bin .lss (.t 29) (.t 28)), 0⟩] 0)
    (.seq (.cond (.t 30)
      .skip
      (.exit 0))
    (.seq (.block 1 (.seq (.reg [⟨(some 31), none, (.iadS 2 (.t 27) (.t 29)), 0⟩,
        ⟨(some 32), none, (.ld (.many 2 0) (.t 31)), 0⟩,
        ⟨(some 11), none, (.alloc 77 (.pb [(.int .i64 0), (.int .i64 0)] 0 ff)), 0⟩,
        ⟨none, none, (.st (.many 2 0) (.t 11) (.t 32)), 1⟩] 1)
      (.seq (.seq (.reg [⟨(some 33), none, (.mv (.t 8)), 0⟩,
         ⟨(some 34), none, (.ld (.many 2 0) (.t 11)), 0⟩,
         ⟨(some 35), none, (.lkup (.ints 2) .bool1 false (.t 33) (.t 34)), 0⟩] 0)
       (.cond (.t 35)
        (.exit 1)
        .skip))
      (.seq (.reg [⟨(some 36), none, (.mv (.t 9)), 0⟩,
        ⟨(some 37), none, (.bin .add (.t 36) (.c (.s (.int .i64 1)))), 0⟩,
        ⟨(some 9), none, (.mv (.t 37)), 0⟩] 0)
      (.seq (.reg [⟨(some 39), none, (.mv (.t 6)), 0⟩,
        ⟨(some 40), none, (.ld (.many 2 0) (.t 11)), 0⟩,
        ⟨(some 41), none, (.call (.c (.s (.fn 54 []))) [(.t 39), (.t 40)]), 0⟩,
        ⟨(some 38), none, (.mv (.t 41)), 8⟩,
        ⟨(some 42), none, (.extr (.t 38) 0), 8⟩,
        ⟨(some 43), none, (.extr (.t 38) 1), 8⟩,
        ⟨(some 12), none, (.mv (.t 42)), 8⟩,
        ⟨(some 13), none, (.mv (.t 43)), 8⟩] 8)
      (.seq (.reg [⟨(some 44), none, (.mv (.t 12)), 0⟩,
        ⟨(some 45), none, (.len (.t 44)), 0⟩,
        ⟨(some 46), none, (.mv (.c (.s (.int .i64 0)))), 0⟩] 0)
      (.block 2 (.loop (.seq (.reg [⟨(some 47), none, (.bin .lss (.t 46) (.t 45)), 0⟩] 0)
        (.seq (.cond (.t 47)
          .skip
          (.exit 2))
        (.seq (.block 3 (.seq (.reg [⟨(some 48), none, (.iadS 2 (.t 44) (.t 46)), 0⟩,
            ⟨(some 49), none, (.ld (.many 2 0) (.t 48)), 0⟩,
            ⟨(some 15), none, (.alloc 77 (.pb [(.int .i64 0), (.int .i64 0)] 0 ff)), 0⟩,
            ⟨none, none, (.st (.many 2 0) (.t 15) (.t 49)), 1⟩] 1)
          (.reg [⟨(some 50), none, (.mv (.t 8)), 0⟩,
           ⟨(some 51), none, (.ld (.many 2 0) (.t 15)), 0⟩,
           ⟨none, none, (.mupd (.ints 2) .bool1 (.t 50) (.t 51) (.c (.s (.bool true)))), 0⟩] 0)))
        (.reg [⟨(some 52), none, (.bin .add (.t 46) (.c (.s (.int .i64 1)))), 0⟩,
         ⟨(some 46), none, (.mv (.t 52)), 0⟩] 0))))))))))))
    (.reg [⟨(some 53), none, (.bin .add (.t 29) (.c (.s (.int .i64 1)))), 0⟩,
     ⟨(some 29), none, (.mv (.t 53)), 0⟩] 0)))))))
 (.seq (.reg [⟨(some 54), none, (.mv (.t 9)), 0⟩,
   ⟨(some 4), none, (.mv (.t 54)), 0⟩,
   ⟨(some 5), none, (.mv (.c (.s (.int .i64 0)))), 0⟩] 0)
 .ret))))))), [(.t 4), (.t 5)]⟩

/-- girouette/orders.Orient -/
def x10 : XFn := ⟨29, (.seq (.reg [⟨(some 4), none, (.mv (.c (.s .nils))), 0⟩,
   ⟨(some 5), none, (.mv (.c (.s (.bool false)))), 0⟩,
   ⟨(some 6), none, (.mv (.c (.s (.int .i64 0)))), 0⟩] 0)
 (.seq (.reg [⟨(some 12), none, (.mv (.t 0)), 0⟩,
   ⟨(some 13), none, (.mv (.t 1)), 0⟩,
   ⟨(some 14), none, (.call (.c (.s (.fn 48 []))) [(.t 12), (.t 13)]), 0⟩,
   ⟨(some 11), none, (.mv (.t 14)), 8⟩,
   ⟨(some 15), none, (.extr (.t 11) 0), 8⟩,
   ⟨(some 16), none, (.extr (.t 11) 1), 8⟩,
   ⟨(some 7), none, (.mv (.t 15)), 8⟩,
   ⟨(some 8), none, (.mv (.t 16)), 8⟩] 8)
 (.seq (.seq (.reg [⟨(some 17), none, (.mv (.t 8)), 0⟩,
    ⟨(some 18), none, (.bin .neq (.t 17) (.c (.s (.int .i64 0)))), 0⟩] 0)
  (.cond (.t 18)
   (.seq (.reg [⟨(some 19), none, (.mv (.t 8)), 0⟩,
     ⟨(some 4), none, (.mv (.c (.s .nils))), 0⟩,
     ⟨(some 5), none, (.mv (.c (.s (.bool false)))), 0⟩,
     ⟨(some 6), none, (.mv (.t 19)), 0⟩] 0)
   .ret)
   .skip))
 (.seq (.reg [⟨(some 21), none, (.mv (.t 7)), 0⟩,
   ⟨(some 22), none, (.call (.c (.s (.fn 55 []))) [(.t 21)]), 0⟩,
   ⟨(some 20), none, (.mv (.t 22)), 8⟩,
   ⟨(some 23), none, (.extr (.t 20) 0), 8⟩,
   ⟨(some 24), none, (.extr (.t 20) 1), 8⟩,
   ⟨(some 9), none, (.alloc 70 (.pb [] 49 ff)), 8⟩,
   ⟨none, none, (.st (.many 0 49) (.t 9) (.t 23)), 9⟩,
   ⟨(some 10), none, (.mv (.t 24)), 9⟩] 9)
 (.seq (.seq (.reg [⟨(some 25), none, (.mv (.t 10)), 0⟩,
    ⟨(some 26), none, (.not (.t 25)), 0⟩] 0)
  (.cond (.t 26)
   (.seq (.reg [⟨(some 4), none, (.mv (.c (.s .nils))), 0⟩,
     ⟨(some 5), none, (.mv (.c (.s (.bool false)))), 0⟩,
     ⟨(some 6), none, (.mv (.c (.s (.int .i64 0)))), 0⟩] 0)
   .ret)
   .skip))
 (.seq (.reg [⟨(some 27), none, (.ld (.many 0 49) (.t 9)), 0⟩,
   ⟨(some 28), none, (.call (.c (.s (.fn 56 []))) [(.t 27)]), 0⟩,
   ⟨(some 4), none, (.mv (.t 28)), 8⟩,
   ⟨(some 5), none, (.mv (.c (.s (.bool true)))), 8⟩,
   ⟨(some 6), none, (.mv (.c (.s (.int .i64 0)))), 8⟩] 8)
 .ret)))))), [(.t 4), (.t 5), (.t 6)]⟩

/-- girouette/girouettelaw03.awake -/
def x11 : XFn := ⟨121, (.seq (.reg [⟨(some 0), none, (.mv (.c (.s (.bool false)))), 0⟩] 0)
 (.seq (.reg [⟨(some 16), none, (.bld (.pb [(.int .i64 0), (.int .i64 0)] 0 ff) [((0, 1), (.c (.s (.int .i64 0)))), ((1, 1), (.c (.s (.int .i64 1))))]), 0⟩,
   ⟨(some 17), none, (.bld (.pb [(.int .i64 0), (.int .i64 0)] 0 ff) [((0, 1), (.c (.s (.int .i64 0)))), ((1, 1), (.c (.s (.int .i64 4))))]), 0⟩,
   ⟨(some 18), none, (.bld (.pb [(.int .i64 0), (.int .i64 0)] 0 ff) [((0, 1), (.c (.s (.int .i64 1)))), ((1, 1), (.c (.s (.int .i64 2))))]), 0⟩,
   ⟨(some 19), none, (.bld (.pb [(.int .i64 0), (.int .i64 0)] 0 ff) [((0, 1), (.c (.s (.int .i64 2)))), ((1, 1), (.c (.s (.int .i64 3))))]), 0⟩,
   ⟨(some 20), none, (.bld (.pb [(.int .i64 0), (.int .i64 0)] 0 ff) [((0, 1), (.c (.s (.int .i64 3)))), ((1, 1), (.c (.s (.int .i64 4))))]), 0⟩,
   ⟨(some 21), none, (.bsl 38 .i64 2 5 [(0, (.t 16)), (1, (.t 17)), (2, (.t 18)), (3, (.t 19)), (4, (.t 20))]), 0⟩,
   ⟨(some 1), none, (.mv (.t 21)), 1⟩] 1)
 (.seq (.reg [⟨(some 23), none, (.mv (.t 1)), 0⟩,
   ⟨(some 24), none, (.call (.c (.s (.fn 45 []))) [(.c (.s (.int .i64 5))), (.t 23)]), 0⟩,
   ⟨(some 22), none, (.mv (.t 24)), 8⟩,
   ⟨(some 25), none, (.extr (.t 22) 0), 8⟩,
   ⟨(some 26), none, (.extr (.t 22) 1), 8⟩,
   ⟨(some 27), none, (.extr (.t 22) 2), 8⟩,
   ⟨(some 2), none, (.mv (.t 25)), 8⟩,
   ⟨(some 3), none, (.mv (.t 26)), 8⟩,
   ⟨(some 4), none, (.mv (.t 27)), 8⟩] 8)
 (.seq (.reg [⟨(some 29), none, (.mv (.t 1)), 0⟩,
   ⟨(some 30), none, (.call (.c (.s (.fn 10 []))) [(.c (.s (.int .i64 5))), (.t 29)]), 0⟩,
   ⟨(some 28), none, (.mv (.t 30)), 8⟩,
   ⟨(some 31), none, (.extr (.t 28) 0), 8⟩,
   ⟨(some 32), none, (.extr (.t 28) 1), 8⟩,
   ⟨(some 33), none, (.extr (.t 28) 2), 8⟩,
   ⟨(some 5), none, (.mv (.t 31)), 8⟩,
   ⟨(some 6), none, (.mv (.t 32)), 8⟩,
   ⟨(some 7), none, (.mv (.t 33)), 8⟩] 8)
 (.seq (.reg [⟨(some 35), none, (.bld (.pb [(.int .i64 0), (.int .i64 0)] 0 ff) [((0, 1), (.c (.s (.int .i64 0)))), ((1, 1), (.c (.s (.int .i64 1))))]), 0⟩,
   ⟨(some 36), none, (.bld (.pb [(.int .i64 0), (.int .i64 0)] 0 ff) [((0, 1), (.c (.s (.int .i64 0)))), ((1, 1), (.c (.s (.int .i64 3))))]), 0⟩,
   ⟨(some 37), none, (.bld (.pb [(.int .i64 0), (.int .i64 0)] 0 ff) [((0, 1), (.c (.s (.int .i64 1)))), ((1, 1), (.c (.s (.int .i64 2))))]), 0⟩,
   ⟨(some 38), none, (.bld (.pb [(.int .i64 0), (.int .i64 0)] 0 ff) [((0, 1), (.c (.s (.int .i64 2)))), ((1, 1), (.c (.s (.int .i64 3))))]), 0⟩,
   ⟨(some 39), none, (.bsl 38 .i64 2 4 [(0, (.t 35)), (1, (.t 36)), (2, (.t 37)), (3, (.t 38))]), 0⟩,
   ⟨(some 40), none, (.call (.c (.s (.fn 8 []))) [(.c (.s (.int .i64 4))), (.t 39)]), 1⟩,
   ⟨(some 34), none, (.mv (.t 40)), 9⟩,
   ⟨(some 41), none, (.extr (.t 34) 0), 9⟩,
   ⟨(some 42), none, (.extr (.t 34) 1), 9⟩,
   ⟨(some 8), none, (.mv (.t 41)), 9⟩,
   ⟨(some 9), none, (.mv (.t 42)), 9⟩] 9)
 (.seq (.reg [⟨(some 44), none, (.bld (.pb [(.int .i64 0), (.int .i64 0)] 0 ff) [((0, 1), (.c (.s (.int .i64 0)))), ((1, 1), (.c (.s (.int .i64 1))))]), 0⟩,
   ⟨(some 45), none, (.bld (.pb [(.int .i64 0), (.int .i64 0)] 0 ff) [((0, 1), (.c (.s (.int .i64 0)))), ((1, 1), (.c (.s (.int .i64 2))))]), 0⟩,
   ⟨(some 46), none, (.bld (.pb [(.int .i64 0), (.int .i64 0)] 0 ff) [((0, 1), (.c (.s (.int .i64 0)))), ((1, 1), (.c (.s (.int .i64 3))))]), 0⟩,
   ⟨(some 47), none, (.bsl 38 .i64 2 3 [(0, (.t 44)), (1, (.t 45)), (2, (.t 46))]), 0⟩,
   ⟨(some 48), none, (.call (.c (.s (.fn 20 []))) [(.c (.s (.int .i64 4))), (.t 47)]), 1⟩,
   ⟨(some 43), none, (.mv (.t 48)), 9⟩,
   ⟨(some 49), none, (.extr (.t 43) 0), 9⟩,
   ⟨(some 50), none, (.extr (.t 43) 1), 9⟩,
   ⟨(some 10), none, (.mv (.t 49)), 9⟩,
   ⟨(some 11), none, (.mv (.t 50)), 9⟩] 9)
 (.seq (.reg [⟨(some 52), none, (.bsl 3 .i64 1 3 [(0, (.c (.s (.int .i64 0)))), (1, (.c (.s (.int .i64 1)))), (2, (.c (.s (.int .i64 2))))]), 0⟩,
   ⟨(some 53), none, (.bsl 3 .i64 1 3 [(0, (.c (.s (.int .i64 2)))), (1, (.c (.s (.int .i64 0)))), (2, (.c (.s (.int .i64 1))))]), 1⟩,
   ⟨(some 54), none, (.bld (.pb [.nils, .nils] 0 ff) [((0, 1), (.t 52)), ((1, 1), (.t 53))]), 2⟩,
   ⟨(some 55), none, (.call (.c (.s (.fn 57 []))) [(.c (.s (.int .i64 3))), (.t 54)]), 2⟩,
   ⟨(some 51), none, (.mv (.t 55)), 10⟩,
   ⟨(some 56), none, (.extr (.t 51) 0), 10⟩,
   ⟨(some 57), none, (.extr (.t 51) 1), 10⟩,
   ⟨(some 12), none, (.mv (.t 56)), 10⟩,
   ⟨(some 13), none, (.mv (.t 57)), 10⟩] 10)
 (.seq (.reg [⟨(some 59), none, (.bsl 3 .i64 1 3 [(0, (.c (.s (.int .i64 0)))), (1, (.c (.s (.int .i64 1)))), (2, (.c (.s (.int .i64 2))))]), 0⟩,
   ⟨(some 60), none, (.bsl 3 .i64 1 3 [(0, (.c (.s (.int .i64 2)))), (1, (.c (.s (.int .i64 0)))), (2, (.c (.s (.int .i64 1))))]), 1⟩,
   ⟨(some 61), none, (.bld (.pb [.nils, .nils] 0 ff) [((0, 1), (.t 59)), ((1, 1), (.t 60))]), 2⟩,
   ⟨(some 62), none, (.call (.c (.s (.fn 58 []))) [(.c (.s (.int .i64 3))), (.t 61)]), 2⟩,
   ⟨(some 58), none, (.mv (.t 62)), 10⟩,
   ⟨(some 63), none, (.extr (.t 58) 0), 10⟩,
   ⟨(some 64), none, (.extr (.t 58) 1), 10⟩,
   ⟨(some 14), none, (.mv (.t 63)), 10⟩,
   ⟨(some 15), none, (.mv (.t 64)), 10⟩] 10)
 (.seq (.reg [⟨(some 65), none, (.mv (.t 4)), 0⟩,
   ⟨(some 66), none, (.bin .eql (.t 65) (.c (.s (.int .i64 0)))), 0⟩,
   ⟨(some 67), none, (.mv (.t 66)), 0⟩,
   ⟨(some 68), (some (67, true)), (.mv (.t 3)), 0⟩,
   ⟨(some 69), none, (.pick (.t 67) (.t 68) (.c (.s (.bool false)))), 0⟩,
   ⟨(some 70), none, (.mv (.t 69)), 0⟩,
   ⟨(some 71), (some (70, true)), (.mv (.t 2)), 0⟩,
   ⟨(some 72), (some (70, true)), (.len (.t 71)), 0⟩,
   ⟨(some 73), (some (70, true)), (.bin .eql (.t 72) (.c (.s (.int .i64 6)))), 0⟩,
   ⟨(some 74), none, (.pick (.t 70) (.t 73) (.c (.s (.bool false)))), 0⟩,
   ⟨(some 75), none, (.mv (.t 74)), 0⟩,
   ⟨(some 76), (some (75, true)), (.mv (.t 7)), 0⟩,
   ⟨(some 77), (some (75, true)), (.bin .eql (.t 76) (.c (.s (.int .i64 0)))), 0⟩,
   ⟨(some 78), none, (.pick (.t 75) (.t 77) (.c (.s (.bool false)))), 0⟩,
   ⟨(some 79), none, (.mv (.t 78)), 0⟩,
   ⟨(some 80), (some (79, true)), (.mv (.t 6)), 0⟩,
   ⟨(some 81), (some (79, true)), (.not (.t 80)), 0⟩,
   ⟨(some 82), none, (.pick (.t 79) (.t 81) (.c (.s (.bool false)))), 0⟩,
   ⟨(some 83), none, (.mv (.t 82)), 0⟩,
   ⟨(some 84), (some (83, true)), (.mv (.t 9)), 0⟩,
   ⟨(some 85), (some (83, true)), (.bin .eql (.t 84) (.c (.s (.int .i64 0)))), 0⟩,
   ⟨(some 86), none, (.pick (.t 83) (.t 85) (.c (.s (.bool false)))), 0⟩,
   ⟨(some 87), none, (.mv (.t 86)), 0⟩,
   ⟨(some 88), (some (87, true)), (.mv (.t 8)), 0⟩,
   ⟨(some 89), (some (87, true)), (.bin .eql (.t 88) (.c (.s (.int .i64 2)))), 0⟩,
   ⟨(some 90), none, (.pick (.t 87) (.t 89) (.c (.s (.bool false)))), 0⟩,
   ⟨(some 91), none, (.mv (.t 90)), 0⟩,
   ⟨(some 92), (some (91, true)), (.mv (.t 11)), 0⟩,
   ⟨(some 93), (some (91, true)), (.bin .eql (.t 92) (.c (.s (.int .i64 0)))), 0⟩,
   ⟨(some 94), none, (.pick (.t 91) (.t 93) (.c (.s (.bool false)))), 0⟩,
   ⟨(some 95), none, (.mv (.t 94)), 0⟩,
   ⟨(some 96), (some (95, true)), (.mv (.t 10)), 0⟩,
   ⟨(some 97), (some (95, true)), (.bsl 3 .i64 1 4 [(0, (.c (.s (.int .i64 0)))), (1, (.c (.s (.int .i64 1)))), (2, (.c (.s (.int .i64 1)))), (3, (.c (.s (.int .i64 1))))]), 0⟩,
   ⟨(some 98), (some (95, true)), (.call (.c (.s (.fn 33 []))) [(.t 96), (.t 97)]), 1⟩,
   ⟨(some 99), none, (.pick (.t 95) (.t 98) (.c (.s (.bool false)))), 9⟩,
   ⟨(some 100), none, (.mv (.t 99)), 9⟩,
   ⟨(some 101), (some (100, true)), (.mv (.t 13)), 9⟩,
   ⟨(some 102), (some (100, true)), (.bin .eql (.t 101) (.c (.s (.int .i64 0)))), 9⟩,
   ⟨(some 103), none, (.pick (.t 100) (.t 102) (.c (.s (.bool false)))), 9⟩,
   ⟨(some 104), none, (.mv (.t 103)), 9⟩,
   ⟨(some 105), (some (104, true)), (.mv (.t 12)), 9⟩,
   ⟨(some 106), (some (104, true)), (.bld (.pb [(.int .i64 0), (.int .i64 0)] 0 ff) [((0, 1), (.c (.s (.int .i64 0)))), ((1, 1), (.c (.s (.int .i64 2))))]), 9⟩,
   ⟨(some 107), (some (104, true)), (.bld (.pb [(.int .i64 0), (.int .i64 0)] 0 ff) [((0, 1), (.c (.s (.int .i64 1)))), ((1, 1), (.c (.s (.int .i64 2))))]), 9⟩,
   ⟨(some 108), (some (104, true)), (.bsl 38 .i64 2 2 [(0, (.t 106)), (1, (.t 107))]), 9⟩,
   ⟨(some 109), (some (104, true)), (.call (.c (.s (.fn 14 []))) [(.t 105), (.t 108)]), 10⟩,
   ⟨(some 110), none, (.pick (.t 104) (.t 109) (.c (.s (.bool false)))), 18⟩,
   ⟨(some 111), none, (.mv (.t 110)), 18⟩,
   ⟨(some 112), (some (111, true)), (.mv (.t 15)), 18⟩,
   ⟨(some 113), (some (111, true)), (.bin .eql (.t 112) (.c (.s (.int .i64 0)))), 18⟩,
   ⟨(some 114), none, (.pick (.t 111) (.t 113) (.c (.s (.bool false)))), 18⟩,
   ⟨(some 115), none, (.mv (.t 114)), 18⟩,
   ⟨(some 116), (some (115, true)), (.mv (.t 14)), 18⟩,
   ⟨(some 117), (some (115, true)), (.bld (.pb [(.int .i64 0), (.int .i64 0)] 0 ff) [((0, 1), (.c (.s (.int .i64 0)))), ((1, 1), (.c (.s (.int .i64 1))))]), 18⟩,
   ⟨(some 118), (some (115, true)), (.bsl 38 .i64 2 1 [(0, (.t 117))]), 18⟩,
   ⟨(some 119), (some (115, true)), (.call (.c (.s (.fn 14 []))) [(.t 116), (.t 118)]), 19⟩,
   ⟨(some 120), none, (.pick (.t 115) (.t 119) (.c (.s (.bool false)))), 27⟩,
   ⟨(some 0), none, (.mv (.t 120)), 27⟩] 27)
 .ret))))))))), [(.t 0)]⟩

/-- girouette/orders.Turned -/
def x12 : XFn := ⟨25, (.seq (.reg [⟨(some 4), none, (.mv (.c (.s .nils))), 0⟩,
   ⟨(some 5), none, (.mv (.c (.s (.int .i64 0)))), 0⟩] 0)
 (.seq (.reg [⟨(some 9), none, (.mv (.t 0)), 0⟩,
   ⟨(some 10), none, (.mv (.t 1)), 0⟩,
   ⟨(some 11), none, (.call (.c (.s (.fn 59 []))) [(.t 9), (.t 10)]), 0⟩,
   ⟨(some 8), none, (.mv (.t 11)), 8⟩,
   ⟨(some 12), none, (.extr (.t 8) 0), 8⟩,
   ⟨(some 13), none, (.extr (.t 8) 1), 8⟩,
   ⟨(some 6), none, (.alloc 70 (.pb [] 49 ff)), 8⟩,
   ⟨none, none, (.st (.many 0 49) (.t 6) (.t 12)), 9⟩,
   ⟨(some 7), none, (.mv (.t 13)), 9⟩] 9)
 (.seq (.seq (.regD [⟨(some 14), none, (.mv (.t 7)), 0⟩,
    ⟨(some 15), none, (.bin .neq (.t 14) (.c (.s (.int .i64 0)))), 0⟩,
    ⟨(some 16), none, (.mv (.t 15)), 0⟩,
    ⟨(some 17), (some (16, false)), (.ld (.many 0 49) (.t 6)), 0⟩,
    ⟨(some 18), (some (16, false)), (.call (.c (.s (.fn 60 []))) []), 0⟩,
    ⟨(some 19), (some (16, false)), (.eqv (.agg 0 49) false (.t 17) (.t 18)), 8⟩,
    ⟨(some 20), none, (.pick (.t 16) (.c (.s (.bool true))) (.t 19)), 8⟩] 8 [(3, 4)])
  (.cond (.t 20)
   (.seq (.reg [⟨(some 21), none, (.mv (.t 7)), 0⟩,
     ⟨(some 4), none, (.mv (.c (.s .nils))), 0⟩,
     ⟨(some 5), none, (.mv (.t 21)), 0⟩] 0)
   .ret)
   .skip))
 (.seq (.reg [⟨(some 22), none, (.ld (.many 0 49) (.t 6)), 0⟩,
   ⟨(some 23), none, (.call (.c (.s (.fn 61 []))) [(.t 22)]), 0⟩,
   ⟨(some 24), none, (.call (.c (.s (.fn 56 []))) [(.t 23)]), 8⟩,
   ⟨(some 4), none, (.mv (.t 24)), 16⟩,
   ⟨(some 5), none, (.mv (.c (.s (.int .i64 0)))), 16⟩] 16)
 .ret)))), [(.t 4), (.t 5)]⟩

/-- girouette/orders.CheckOrder -/
def x13 : XFn := ⟨14, (.seq (.reg [⟨(some 4), none, (.mv (.c (.s (.int .i64 0)))), 0⟩] 0)
 (.seq (.reg [⟨(some 8), none, (.mv (.t 0)), 0⟩,
   ⟨(some 9), none, (.mv (.t 1)), 0⟩,
   ⟨(some 10), none, (.call (.c (.s (.fn 59 []))) [(.t 8), (.t 9)]), 0⟩,
   ⟨(some 7), none, (.mv (.t 10)), 8⟩,
   ⟨(some 11), none, (.extr (.t 7) 0), 8⟩,
   ⟨(some 12), none, (.extr (.t 7) 1), 8⟩,
   ⟨(some 5), none, (.alloc 70 (.pb [] 49 ff)), 8⟩,
   ⟨none, none, (.st (.many 0 49) (.t 5) (.t 11)), 9⟩,
   ⟨(some 6), none, (.mv (.t 12)), 9⟩] 9)
 (.seq (.reg [⟨(some 13), none, (.mv (.t 6)), 0⟩,
   ⟨(some 4), none, (.mv (.t 13)), 0⟩] 0)
 .ret))), [(.t 4)]⟩

/-- girouette/girouetteref03.Same -/
def x14 : XFn := ⟨26, (.seq (.reg [⟨(some 4), none, (.mv (.c (.s (.bool false)))), 0⟩] 0)
 (.seq (.seq (.reg [⟨(some 6), none, (.mv (.t 0)), 0⟩,
    ⟨(some 7), none, (.len (.t 6)), 0⟩,
    ⟨(some 8), none, (.mv (.t 1)), 0⟩,
    ⟨(some 9), none, (.len (.t 8)), 0⟩,
    ⟨(some 10), none, (.bin .neq (.t 7) (.t 9)), 0⟩] 0)
  (.cond (.t 10)
   (.seq (.reg [⟨(some 4), none, (.mv (.c (.s (.bool false)))), 0⟩] 0)
   .ret)
   .skip))
 (.seq (.seq (.reg [⟨(some 5), none, (.mv (.c (.s (.int .i64 0)))), 0⟩] 0)
  (.block 0 (.loop (.seq (.seq (.reg [⟨(some 11), none, (.mv (.t 5)), 0⟩,
       ⟨(some 12), none, (.mv (.t 0)), 0⟩,
       ⟨(some 13), none, (.len (.t 12)), 0⟩,
       ⟨(some 14), none, (.bin .lss (.t 11) (.t 13)), 0⟩] 0)
     (.cond (.t 14)
      .skip
      (.exit 0)))
    (.seq (.block 1 (.seq (.regD [⟨(some 17), none, (.mv (.t 0)), 0⟩,
        ⟨(some 18), none, (.mv (.t 5)), 0⟩,
        ⟨(some 19), none, (.iadS 2 (.t 17) (.t 18)), 0⟩,
        ⟨(some 20), none, (.ld (.many 2 0) (.t 19)), 0⟩,
        ⟨(some 21), none, (.mv (.t 1)), 0⟩,
        ⟨(some 22), none, (.mv (.t 5)), 0⟩,
        ⟨(some 23), none, (.iadS 2 (.t 21) (.t 22)), 0⟩,
        ⟨(some 24), none, (.ld (.many 2 0) (.t 23)), 0⟩,
        ⟨(some 25), none, (.eqv (.agg 2 0) true (.t 20) (.t 24)), 0⟩] 0 [])
      (.cond (.t 25)
       (.seq (.reg [⟨(some 4), none, (.mv (.c (.s (.bool false)))), 0⟩] 0)
       .ret)
       .skip)))
    (.reg [⟨(some 15), none, (.mv (.t 5)), 0⟩,
     ⟨(some 16), none, (.bin .add (.t 15) (.c (.s (.int .i64 1)))), 0⟩,
     ⟨(some 5), none, (.mv (.t 16)), 0⟩] 0))))))
 (.seq (.reg [⟨(some 4), none, (.mv (.c (.s (.bool true)))), 0⟩] 0)
 .ret)))), [(.t 4)]⟩

/-- girouette/girouettetop.small -/
def x15 : XFn := ⟨12, (.seq (.reg [⟨(some 4), none, (.mv (.c (.s (.int .i64 0)))), 0⟩] 0)
 (.seq (.reg [⟨(some 5), none, (.mv (.t 0)), 0⟩,
   ⟨(some 6), none, (.conv .u64 (.t 5)), 0⟩,
   ⟨(some 7), none, (.mv (.t 1)), 0⟩,
   ⟨(some 8), none, (.bin .add (.t 7) (.c (.s (.int .i64 1)))), 0⟩,
   ⟨(some 9), none, (.conv .u64 (.t 8)), 0⟩,
   ⟨(some 10), none, (.bin .rem (.t 6) (.t 9)), 0⟩,
   ⟨(some 11), none, (.conv .i64 (.t 10)), 0⟩,
   ⟨(some 4), none, (.mv (.t 11)), 0⟩] 0)
 .ret)), [(.t 4)]⟩

/-- girouette/girouettetop.edges -/
def x16 : XFn := ⟨47, (.seq (.reg [⟨(some 6), none, (.mv (.c (.s .nils))), 0⟩] 0)
 (.seq (.reg [⟨(some 7), none, (.mv (.c (.s .nils))), 0⟩] 0)
 (.seq (.seq (.reg [⟨(some 8), none, (.mv (.c (.s (.int .i64 0)))), 0⟩] 0)
  (.block 0 (.loop (.seq (.seq (.reg [⟨(some 9), none, (.mv (.t 8)), 0⟩,
       ⟨(some 10), none, (.mv (.t 1)), 0⟩,
       ⟨(some 11), none, (.len (.t 10)), 0⟩,
       ⟨(some 12), none, (.bin .lss (.t 9) (.t 11)), 0⟩,
       ⟨(some 13), none, (.mv (.t 12)), 0⟩,
       ⟨(some 14), (some (13, true)), (.mv (.t 8)), 0⟩,
       ⟨(some 15), (some (13, true)), (.bin .lss (.t 14) (.c (.s (.int .i64 40)))), 0⟩,
       ⟨(some 16), none, (.pick (.t 13) (.t 15) (.c (.s (.bool false)))), 0⟩] 0)
     (.cond (.t 16)
      .skip
      (.exit 0)))
    (.seq (.block 1 (.regD [⟨(some 19), none, (.mv (.t 7)), 0⟩,
       ⟨(some 20), none, (.mv (.t 1)), 0⟩,
       ⟨(some 21), none, (.mv (.t 8)), 0⟩,
       ⟨(some 22), none, (.iadS 2 (.t 20) (.t 21)), 0⟩,
       ⟨(some 23), none, (.iad 2 1 (.t 22) (.c (.s (.int .i64 0)))), 0⟩,
       ⟨(some 24), none, (.ld .one (.t 23)), 0⟩,
       ⟨(some 25), none, (.mv (.t 0)), 0⟩,
       ⟨(some 26), none, (.bin .sub (.t 25) (.c (.s (.int .i64 1)))), 0⟩,
       ⟨(some 27), none, (.call (.c (.s (.fn 15 []))) [(.t 24), (.t 26)]), 0⟩,
       ⟨(some 28), none, (.mv (.t 1)), 8⟩,
       ⟨(some 29), none, (.mv (.t 8)), 8⟩,
       ⟨(some 30), none, (.iadS 2 (.t 28) (.t 29)), 8⟩,
       ⟨(some 31), none, (.iad 2 1 (.t 30) (.c (.s (.int .i64 1)))), 8⟩,
       ⟨(some 32), none, (.ld .one (.t 31)), 8⟩,
       ⟨(some 33), none, (.mv (.t 0)), 8⟩,
       ⟨(some 34), none, (.bin .sub (.t 33) (.c (.s (.int .i64 1)))), 8⟩,
       ⟨(some 35), none, (.call (.c (.s (.fn 15 []))) [(.t 32), (.t 34)]), 8⟩,
       ⟨(some 36), none, (.bld (.pb [(.int .i64 0), (.int .i64 0)] 0 ff) [((0, 1), (.t 27)), ((1, 1), (.t 35))]), 16⟩,
       ⟨(some 37), none, (.bsl 38 .i64 2 1 [(0, (.t 36))]), 16⟩,
       ⟨(some 38), none, (.app 38 .i64 2 (.t 19) (.t 37)), 17⟩,
       ⟨(some 7), none, (.mv (.t 38)), 18⟩] 18 [(8, 13)]))
    (.reg [⟨(some 17), none, (.mv (.t 8)), 0⟩,
     ⟨(some 18), none, (.bin .add (.t 17) (.c (.s (.int .i64 1)))), 0⟩,
     ⟨(some 8), none, (.mv (.t 18)), 0⟩] 0))))))
 (.seq (.reg [⟨(some 39), none, (.mv (.t 7)), 0⟩,
   ⟨(some 40), none, (.call (.c (.s (.fn 18 []))) [(.t 39)]), 0⟩,
   ⟨(some 7), none, (.mv (.t 40)), 8⟩] 8)
 (.seq (.reg [⟨(some 41), none, (.mv (.t 7)), 0⟩,
   ⟨(some 42), none, (.mv (.t 7)), 0⟩,
   ⟨(some 43), none, (.len (.t 42)), 0⟩,
   ⟨(some 44), none, (.mv (.t 2)), 0⟩,
   ⟨(some 45), none, (.mn [(.t 43), (.t 44)]), 0⟩,
   ⟨(some 46), none, (.slc 2 (.t 41) none (some (.t 45))), 0⟩,
   ⟨(some 6), none, (.mv (.t 46)), 0⟩] 0)
 .ret))))), [(.t 6)]⟩

/-- girouette/girouettetop.related -/
def x17 : XFn := ⟨32, (.seq (.reg [⟨(some 6), none, (.mv (.c (.s (.bool false)))), 0⟩] 0)
 (.seq (.seq (.reg [⟨(some 7), none, (.mv (.c (.s (.int .i64 0)))), 0⟩] 0)
  (.block 0 (.loop (.seq (.seq (.reg [⟨(some 8), none, (.mv (.t 7)), 0⟩,
       ⟨(some 9), none, (.mv (.t 0)), 0⟩,
       ⟨(some 10), none, (.len (.t 9)), 0⟩,
       ⟨(some 11), none, (.bin .lss (.t 8) (.t 10)), 0⟩] 0)
     (.cond (.t 11)
      .skip
      (.exit 0)))
    (.seq (.block 1 (.seq (.reg [⟨(some 14), none, (.mv (.t 0)), 0⟩,
        ⟨(some 15), none, (.mv (.t 7)), 0⟩,
        ⟨(some 16), none, (.iadS 2 (.t 14) (.t 15)), 0⟩,
        ⟨(some 17), none, (.ld (.many 2 0) (.t 16)), 0⟩,
        ⟨(some 18), none, (.mv (.t 1)), 0⟩,
        ⟨(some 19), none, (.mv (.t 2)), 0⟩,
        ⟨(some 20), none, (.bld (.pb [(.int .i64 0), (.int .i64 0)] 0 ff) [((0, 1), (.t 18)), ((1, 1), (.t 19))]), 0⟩,
        ⟨(some 21), none, (.eqv (.agg 2 0) false (.t 17) (.t 20)), 0⟩,
        ⟨(some 22), none, (.mv (.t 21)), 0⟩,
        ⟨(some 23), (some (22, false)), (.mv (.t 0)), 0⟩,
        ⟨(some 24), (some (22, false)), (.mv (.t 7)), 0⟩,
        ⟨(some 25), (some (22, false)), (.iadS 2 (.t 23) (.t 24)), 0⟩,
        ⟨(some 26), (some (22, false)), (.ld (.many 2 0) (.t 25)), 0⟩,
        ⟨(some 27), (some (22, false)), (.mv (.t 2)), 0⟩,
        ⟨(some 28), (some (22, false)), (.mv (.t 1)), 0⟩,
        ⟨(some 29), (some (22, false)), (.bld (.pb [(.int .i64 0), (.int .i64 0)] 0 ff) [((0, 1), (.t 27)), ((1, 1), (.t 28))]), 0⟩,
        ⟨(some 30), (some (22, false)), (.eqv (.agg 2 0) false (.t 26) (.t 29)), 0⟩,
        ⟨(some 31), none, (.pick (.t 22) (.c (.s (.bool true))) (.t 30)), 0⟩] 0)
      (.cond (.t 31)
       (.seq (.reg [⟨(some 6), none, (.mv (.c (.s (.bool true)))), 0⟩] 0)
       .ret)
       .skip)))
    (.reg [⟨(some 12), none, (.mv (.t 7)), 0⟩,
     ⟨(some 13), none, (.bin .add (.t 12) (.c (.s (.int .i64 1)))), 0⟩,
     ⟨(some 7), none, (.mv (.t 13)), 0⟩] 0))))))
 (.seq (.reg [⟨(some 6), none, (.mv (.c (.s (.bool false)))), 0⟩] 0)
 .ret))), [(.t 6)]⟩

/-- girouette/girouettetop.sorted -/
def x18 : XFn := ⟨109, (.seq (.reg [⟨(some 2), none, (.mv (.c (.s .nils))), 0⟩] 0)
 (.seq (.reg [⟨(some 3), none, (.mv (.c (.s .nils))), 0⟩] 0)
 (.seq (.seq (.reg [⟨(some 4), none, (.mv (.c (.s (.int .i64 0)))), 0⟩] 0)
  (.block 0 (.loop (.seq (.seq (.reg [⟨(some 9), none, (.mv (.t 4)), 0⟩,
       ⟨(some 10), none, (.mv (.t 0)), 0⟩,
       ⟨(some 11), none, (.len (.t 10)), 0⟩,
       ⟨(some 12), none, (.bin .lss (.t 9) (.t 11)), 0⟩] 0)
     (.cond (.t 12)
      .skip
      (.exit 0)))
    (.seq (.block 1 (.seq (.regD [⟨(some 15), none, (.mv (.t 0)), 0⟩,
        ⟨(some 16), none, (.mv (.t 4)), 0⟩,
        ⟨(some 17), none, (.iadS 2 (.t 15) (.t 16)), 0⟩,
        ⟨(some 18), none, (.iad 2 1 (.t 17) (.c (.s (.int .i64 0)))), 0⟩,
        ⟨(some 19), none, (.ld .one (.t 18)), 0⟩,
        ⟨(some 20), none, (.mv (.t 0)), 0⟩,
        ⟨(some 21), none, (.mv (.t 4)), 0⟩,
        ⟨(some 22), none, (.iadS 2 (.t 20) (.t 21)), 0⟩,
        ⟨(some 23), none, (.iad 2 1 (.t 22) (.c (.s (.int .i64 1)))), 0⟩,
        ⟨(some 24), none, (.ld .one (.t 23)), 0⟩,
        ⟨(some 25), none, (.mn [(.t 19), (.t 24)]), 0⟩,
        ⟨(some 26), none, (.mv (.t 0)), 0⟩,
        ⟨(some 27), none, (.mv (.t 4)), 0⟩,
        ⟨(some 28), none, (.iadS 2 (.t 26) (.t 27)), 0⟩,
        ⟨(some 29), none, (.iad 2 1 (.t 28) (.c (.s (.int .i64 0)))), 0⟩,
        ⟨(some 30), none, (.ld .one (.t 29)), 0⟩,
        ⟨(some 31), none, (.mv (.t 0)), 0⟩,
        ⟨(some 32), none, (.mv (.t 4)), 0⟩,
        ⟨(some 33), none, (.iadS 2 (.t 31) (.t 32)), 0⟩,
        ⟨(some 34), none, (.iad 2 1 (.t 33) (.c (.s (.int .i64 1)))), 0⟩,
        ⟨(some 35), none, (.ld .one (.t 34)), 0⟩,
        ⟨(some 36), none, (.mx [(.t 30), (.t 35)]), 0⟩,
        ⟨(some 37), none, (.bld (.pb [(.int .i64 0), (.int .i64 0)] 0 ff) [((0, 1), (.t 25)), ((1, 1), (.t 36))]), 0⟩,
        ⟨(some 5), none, (.alloc 38 (.pb [(.int .i64 0), (.int .i64 0)] 0 ff)), 0⟩,
        ⟨none, none, (.st (.many 2 0) (.t 5) (.t 37)), 1⟩] 1 [(4, 23), (9, 23), (15, 23), (20, 23)])
      (.seq (.regD [⟨(some 38), none, (.iad 2 1 (.t 5) (.c (.s (.int .i64 0)))), 0⟩,
        ⟨(some 39), none, (.ld .one (.t 38)), 0⟩,
        ⟨(some 40), none, (.iad 2 1 (.t 5) (.c (.s (.int .i64 1)))), 0⟩,
        ⟨(some 41), none, (.ld .one (.t 40)), 0⟩,
        ⟨(some 42), none, (.bin .eql (.t 39) (.t 41)), 0⟩,
        ⟨(some 6), none, (.mv (.c (.s (.int .i64 0)))), 0⟩,
        ⟨(some 7), none, (.mv (.t 42)), 0⟩] 0 [])
      (.seq (.block 2 (.loop (.seq (.seq (.regD [⟨(some 43), none, (.mv (.t 6)), 0⟩,
            ⟨(some 44), none, (.mv (.t 3)), 0⟩,
            ⟨(some 45), none, (.len (.t 44)), 0⟩,
            ⟨(some 46), none, (.bin .lss (.t 43) (.t 45)), 0⟩,
            ⟨(some 47), none, (.mv (.t 46)), 0⟩,
            ⟨(some 48), (some (47, true)), (.mv (.t 3)), 0⟩,
            ⟨(some 49), (some (47, true)), (.mv (.t 6)), 0⟩,
            ⟨(some 50), (some (47, true)), (.iadS 2 (.t 48) (.t 49)), 0⟩,
            ⟨(some 51), (some (47, true)), (.iad 2 1 (.t 50) (.c (.s (.int .i64 0)))), 0⟩,
            ⟨(some 52), (some (47, true)), (.ld .one (.t 51)), 0⟩,
            ⟨(some 53), (some (47, true)), (.iad 2 1 (.t 5) (.c (.s (.int .i64 0)))), 0⟩,
            ⟨(some 54), (some (47, true)), (.ld .one (.t 53)), 0⟩,
            ⟨(some 55), (some (47, true)), (.bin .lss (.t 52) (.t 54)), 0⟩,
            ⟨(some 56), (some (47, true)), (.mv (.t 55)), 0⟩,
            ⟨(some 57), (some (56, false)), (.mv (.t 3)), 0⟩,
            ⟨(some 58), (some (56, false)), (.mv (.t 6)), 0⟩,
            ⟨(some 59), (some (56, false)), (.iadS 2 (.t 57) (.t 58)), 0⟩,
            ⟨(some 60), (some (56, false)), (.iad 2 1 (.t 59) (.c (.s (.int .i64 0)))), 0⟩,
            ⟨(some 61), (some (56, false)), (.ld .one (.t 60)), 0⟩,
            ⟨(some 62), (some (56, false)), (.iad 2 1 (.t 5) (.c (.s (.int .i64 0)))), 0⟩,
            ⟨(some 63), (some (56, false)), (.ld .one (.t 62)), 0⟩,
            ⟨(some 64), (some (56, false)), (.bin .eql (.t 61) (.t 63)), 0⟩,
            ⟨(some 65), (some (56, false)), (.mv (.t 64)), 0⟩,
            ⟨(some 66), (some (65, true)), (.mv (.t 3)), 0⟩,
            ⟨(some 67), (some (65, true)), (.mv (.t 6)), 0⟩,
            ⟨(some 68), (some (65, true)), (.iadS 2 (.t 66) (.t 67)), 0⟩,
            ⟨(some 69), (some (65, true)), (.iad 2 1 (.t 68) (.c (.s (.int .i64 1)))), 0⟩,
            ⟨(some 70), (some (65, true)), (.ld .one (.t 69)), 0⟩,
            ⟨(some 71), (some (65, true)), (.iad 2 1 (.t 5) (.c (.s (.int .i64 1)))), 0⟩,
            ⟨(some 72), (some (65, true)), (.ld .one (.t 71)), 0⟩,
            ⟨(some 73), (some (65, true)), (.bin .lss (.t 70) (.t 72)), 0⟩,
            ⟨(some 74), (some (56, false)), (.pick (.t 65) (.t 73) (.c (.s (.bool false)))), 0⟩,
            ⟨(some 75), (some (47, true)), (.pick (.t 56) (.c (.s (.bool true))) (.t 74)), 0⟩,
            ⟨(some 76), none, (.pick (.t 47) (.t 75) (.c (.s (.bool false)))), 0⟩] 0 [])
          (.cond (.t 76)
           .skip
           (.exit 2)))
         (.block 3 (.reg [⟨(some 77), none, (.mv (.t 6)), 0⟩,
           ⟨(some 78), none, (.bin .add (.t 77) (.c (.s (.int .i64 1)))), 0⟩,
           ⟨(some 6), none, (.mv (.t 78)), 0⟩] 0)))))
      (.seq (.seq (.regD [⟨(some 79), none, (.mv (.t 7)), 0⟩,
         ⟨(some 80), none, (.mv (.t 79)), 0⟩,
         ⟨(some 81), (some (80, false)), (.mv (.t 6)), 0⟩,
         ⟨(some 82), (some (80, false)), (.mv (.t 3)), 0⟩,
         ⟨(some 83), (some (80, false)), (.len (.t 82)), 0⟩,
         ⟨(some 84), (some (80, false)), (.bin .lss (.t 81) (.t 83)), 0⟩,
         ⟨(some 85), (some (80, false)), (.mv (.t 84)), 0⟩,
         ⟨(some 86), (some (85, true)), (.mv (.t 3)), 0⟩,
         ⟨(some 87), (some (85, true)), (.mv (.t 6)), 0⟩,
         ⟨(some 88), (some (85, true)), (.iadS 2 (.t 86) (.t 87)), 0⟩,
         ⟨(some 89), (some (85, true)), (.ld (.many 2 0) (.t 88)), 0⟩,
         ⟨(some 90), (some (85, true)), (.ld (.many 2 0) (.t 5)), 0⟩,
         ⟨(some 91), (some (85, true)), (.eqv (.agg 2 0) false (.t 89) (.t 90)), 0⟩,
         ⟨(some 92), (some (80, false)), (.pick (.t 85) (.t 91) (.c (.s (.bool false)))), 0⟩,
         ⟨(some 93), none, (.pick (.t 80) (.c (.s (.bool true))) (.t 92)), 0⟩] 0 [])
       (.cond (.t 93)
        (.exit 1)
        .skip))
      (.seq (.reg [⟨(some 8), none, (.mv (.c (.s .nils))), 0⟩] 0)
      (.seq (.reg [⟨(some 94), none, (.mv (.t 8)), 0⟩,
        ⟨(some 95), none, (.mv (.t 3)), 0⟩,
        ⟨(some 96), none, (.mv (.t 6)), 0⟩,
        ⟨(some 97), none, (.slc 2 (.t 95) none (some (.t 96))), 0⟩,
        ⟨(some 98), none, (.app 38 .i64 2 (.t 94) (.t 97)), 0⟩,
        ⟨(some 8), none, (.mv (.t 98)), 1⟩] 1)
      (.seq (.reg [⟨(some 99), none, (.mv (.t 8)), 0⟩,
        ⟨(some 100), none, (.ld (.many 2 0) (.t 5)), 0⟩,
        ⟨(some 101), none, (.bsl 38 .i64 2 1 [(0, (.t 100))]), 0⟩,
        ⟨(some 102), none, (.app 38 .i64 2 (.t 99) (.t 101)), 1⟩,
        ⟨(some 8), none, (.mv (.t 102)), 2⟩] 2)
      (.reg [⟨(some 103), none, (.mv (.t 8)), 0⟩,
       ⟨(some 104), none, (.mv (.t 3)), 0⟩,
       ⟨(some 105), none, (.mv (.t 6)), 0⟩,
       ⟨(some 106), none, (.slc 2 (.t 104) (some (.t 105)) none), 0⟩,
       ⟨(some 107), none, (.app 38 .i64 2 (.t 103) (.t 106)), 0⟩,
       ⟨(some 3), none, (.mv (.t 107)), 1⟩] 1)))))))))
    (.reg [⟨(some 13), none, (.mv (.t 4)), 0⟩,
     ⟨(some 14), none, (.bin .add (.t 13) (.c (.s (.int .i64 1)))), 0⟩,
     ⟨(some 4), none, (.mv (.t 14)), 0⟩] 0))))))
 (.seq (.reg [⟨(some 108), none, (.mv (.t 3)), 0⟩,
   ⟨(some 2), none, (.mv (.t 108)), 0⟩] 0)
 .ret)))), [(.t 2)]⟩

/-- girouette/orders.Chain -/
def x19 : XFn := ⟨65, (.seq (.reg [⟨(some 4), none, (.mv (.c (.s .nils))), 0⟩,
   ⟨(some 5), none, (.mv (.c (.s (.int .i64 0)))), 0⟩] 0)
 (.seq (.reg [⟨(some 13), none, (.mv (.t 0)), 0⟩,
   ⟨(some 14), none, (.mv (.t 1)), 0⟩,
   ⟨(some 15), none, (.call (.c (.s (.fn 59 []))) [(.t 13), (.t 14)]), 0⟩,
   ⟨(some 12), none, (.mv (.t 15)), 8⟩,
   ⟨(some 16), none, (.extr (.t 12) 0), 8⟩,
   ⟨(some 17), none, (.extr (.t 12) 1), 8⟩,
   ⟨(some 6), none, (.alloc 70 (.pb [] 49 ff)), 8⟩,
   ⟨none, none, (.st (.many 0 49) (.t 6) (.t 16)), 9⟩,
   ⟨(some 7), none, (.mv (.t 17)), 9⟩] 9)
 (.seq (.seq (.reg [⟨(some 18), none, (.mv (.t 7)), 0⟩,
    ⟨(some 19), none, (.bin .neq (.t 18) (.c (.s (.int .i64 0)))), 0⟩] 0)
  (.cond (.t 19)
   (.seq (.reg [⟨(some 20), none, (.mv (.t 7)), 0⟩,
     ⟨(some 4), none, (.mv (.c (.s .nils))), 0⟩,
     ⟨(some 5), none, (.mv (.t 20)), 0⟩] 0)
   .ret)
   .skip))
 (.seq (.reg [⟨(some 21), none, (.ld (.many 0 49) (.t 6)), 0⟩,
   ⟨(some 22), none, (.mv (.t 0)), 0⟩,
   ⟨(some 23), none, (.call (.c (.s (.fn 62 []))) [(.t 21), (.t 22)]), 0⟩,
   ⟨(some 8), none, (.mv (.t 23)), 8⟩] 8)
 (.seq (.reg [⟨(some 24), none, (.mv (.t 8)), 0⟩,
   ⟨(some 25), none, (.mv (.t 8)), 0⟩,
   ⟨(some 26), none, (.call (.c (.s (.fn 64 []))) [(.t 25)]), 0⟩,
   ⟨(some 27), none, (.call (.c (.s (.fn 63 []))) [(.t 24), (.t 26)]), 8⟩,
   ⟨(some 9), none, (.mv (.t 27)), 16⟩] 16)
 (.seq (.reg [⟨(some 28), none, (.mv (.t 9)), 0⟩,
   ⟨(some 29), none, (.bsl 3 .i64 1 1 [(0, (.t 28))]), 0⟩,
   ⟨(some 10), none, (.mv (.t 29)), 1⟩] 1)
 (.seq (.block 0 (.loop (.seq (.seq (.reg [⟨(some 30), none, (.mv (.t 8)), 0⟩,
       ⟨(some 31), none, (.mv (.t 9)), 0⟩,
       ⟨(some 32), none, (.iadS 1 (.t 30) (.t 31)), 0⟩,
       ⟨(some 33), none, (.ld .one (.t 32)), 0⟩,
       ⟨(some 34), none, (.bin .gtr (.t 33) (.c (.s (.int .i64 0)))), 0⟩] 0)
     (.cond (.t 34)
      .skip
      (.exit 0)))
    (.block 1 (.seq (.seq (.reg [⟨(some 35), none, (.mv (.t 0)), 0⟩,
        ⟨(some 36), none, (.mv (.c (.s (.int .i64 0)))), 0⟩] 0)
      (.block 2 (.loop (.seq (.reg [⟨(some 37), none, (.bin .lss (.t 36) (.t 35)), 0⟩] 0)
        (.seq (.cond (.t 37)
          .skip
          (.exit 2))
        (.seq (.block 3 (.seq (.reg [⟨(some 38), none, (.mv (.t 36)), 0⟩,
            ⟨(some 11), none, (.mv (.t 38)), 0⟩] 0)
          (.seq (.regD [⟨(some 39), none, (.mv (.t 11)), 0⟩,
            ⟨(some 40), none, (.mv (.t 9)), 0⟩,
            ⟨(some 41), none, (.iad 7 7 (.t 6) (.t 39)), 0⟩,
            ⟨(some 42), none, (.iad 7 1 (.t 41) (.t 40)), 0⟩,
            ⟨(some 43), none, (.ld .one (.t 42)), 0⟩,
            ⟨(some 44), none, (.mv (.t 43)), 0⟩,
            ⟨(some 45), (some (44, true)), (.mv (.t 8)), 0⟩,
            ⟨(some 46), (some (44, true)), (.mv (.t 11)), 0⟩,
            ⟨(some 47), (some (44, true)), (.iadS 1 (.t 45) (.t 46)), 0⟩,
            ⟨(some 48), (some (44, true)), (.ld .one (.t 47)), 0⟩,
            ⟨(some 49), (some (44, true)), (.mv (.t 8)), 0⟩,
            ⟨(some 50), (some (44, true)), (.mv (.t 9)), 0⟩,
            ⟨(some 51), (some (44, true)), (.iadS 1 (.t 49) (.t 50)), 0⟩,
            ⟨(some 52), (some (44, true)), (.ld .one (.t 51)), 0⟩,
            ⟨(some 53), (some (44, true)), (.bin .sub (.t 52) (.c (.s (.int .i64 1)))), 0⟩,
            ⟨(some 54), (some (44, true)), (.bin .eql (.t 48) (.t 53)), 0⟩,
            ⟨(some 55), none, (.pick (.t 44) (.t 54) (.c (.s (.bool false)))), 0⟩] 0 [])
          (.cond (.t 55)
           (.seq (.reg [⟨(some 56), none, (.mv (.t 11)), 0⟩,
             ⟨(some 9), none, (.mv (.t 56)), 0⟩] 0)
           (.exit 2))
           .skip))))
        (.reg [⟨(some 57), none, (.bin .add (.t 36) (.c (.s (.int .i64 1)))), 0⟩,
         ⟨(some 36), none, (.mv (.t 57)), 0⟩] 0)))))))
     (.reg [⟨(some 58), none, (.mv (.t 10)), 0⟩,
      ⟨(some 59), none, (.mv (.t 9)), 0⟩,
      ⟨(some 60), none, (.bsl 3 .i64 1 1 [(0, (.t 59))]), 0⟩,
      ⟨(some 61), none, (.app 3 .i64 1 (.t 58) (.t 60)), 1⟩,
      ⟨(some 10), none, (.mv (.t 61)), 2⟩] 2))))))
 (.seq (.reg [⟨(some 62), none, (.mv (.t 10)), 0⟩,
   ⟨(some 63), none, (.call (.c (.s (.fn 65 []))) [(.t 62)]), 0⟩] 8)
 (.seq (.reg [⟨(some 64), none, (.mv (.t 10)), 0⟩,
   ⟨(some 4), none, (.mv (.t 64)), 0⟩,
   ⟨(some 5), none, (.mv (.c (.s (.int .i64 0)))), 0⟩] 0)
 .ret))))))))), [(.t 4), (.t 5)]⟩

/-- girouette/orders.Layers -/
def x20 : XFn := ⟨20, (.seq (.reg [⟨(some 4), none, (.mv (.c (.s .nils))), 0⟩,
   ⟨(some 5), none, (.mv (.c (.s (.int .i64 0)))), 0⟩] 0)
 (.seq (.reg [⟨(some 9), none, (.mv (.t 0)), 0⟩,
   ⟨(some 10), none, (.mv (.t 1)), 0⟩,
   ⟨(some 11), none, (.call (.c (.s (.fn 59 []))) [(.t 9), (.t 10)]), 0⟩,
   ⟨(some 8), none, (.mv (.t 11)), 8⟩,
   ⟨(some 12), none, (.extr (.t 8) 0), 8⟩,
   ⟨(some 13), none, (.extr (.t 8) 1), 8⟩,
   ⟨(some 6), none, (.alloc 70 (.pb [] 49 ff)), 8⟩,
   ⟨none, none, (.st (.many 0 49) (.t 6) (.t 12)), 9⟩,
   ⟨(some 7), none, (.mv (.t 13)), 9⟩] 9)
 (.seq (.seq (.reg [⟨(some 14), none, (.mv (.t 7)), 0⟩,
    ⟨(some 15), none, (.bin .neq (.t 14) (.c (.s (.int .i64 0)))), 0⟩] 0)
  (.cond (.t 15)
   (.seq (.reg [⟨(some 16), none, (.mv (.t 7)), 0⟩,
     ⟨(some 4), none, (.mv (.c (.s .nils))), 0⟩,
     ⟨(some 5), none, (.mv (.t 16)), 0⟩] 0)
   .ret)
   .skip))
 (.seq (.reg [⟨(some 17), none, (.ld (.many 0 49) (.t 6)), 0⟩,
   ⟨(some 18), none, (.mv (.t 0)), 0⟩,
   ⟨(some 19), none, (.call (.c (.s (.fn 62 []))) [(.t 17), (.t 18)]), 0⟩,
   ⟨(some 4), none, (.mv (.t 19)), 8⟩,
   ⟨(some 5), none, (.mv (.c (.s (.int .i64 0)))), 8⟩] 8)
 .ret)))), [(.t 4), (.t 5)]⟩

/-- girouette/shells.Made -/
def x21 : XFn := ⟨27, (.seq (.reg [⟨(some 2), none, (.box 3 (.t 0)), 0⟩,
   ⟨(some 4), none, (.mv (.c (.s .nils))), 1⟩,
   ⟨(some 5), none, (.mv (.c (.s (.int .i64 0)))), 1⟩] 1)
 (.seq (.seq (.reg [⟨(some 6), none, (.ld .one (.t 2)), 0⟩,
    ⟨(some 7), none, (.bin .lss (.t 6) (.c (.s (.int .i64 1)))), 0⟩,
    ⟨(some 8), none, (.mv (.t 7)), 0⟩,
    ⟨(some 9), (some (8, false)), (.ld .one (.t 2)), 0⟩,
    ⟨(some 10), (some (8, false)), (.bin .gtr (.t 9) (.c (.s (.int .i64 6)))), 0⟩,
    ⟨(some 11), none, (.pick (.t 8) (.c (.s (.bool true))) (.t 10)), 0⟩,
    ⟨(some 12), none, (.mv (.t 11)), 0⟩,
    ⟨(some 13), (some (12, false)), (.mv (.t 1)), 0⟩,
    ⟨(some 14), (some (12, false)), (.len (.t 13)), 0⟩,
    ⟨(some 15), (some (12, false)), (.bin .gtr (.t 14) (.c (.s (.int .i64 64)))), 0⟩,
    ⟨(some 16), none, (.pick (.t 12) (.c (.s (.bool true))) (.t 15)), 0⟩,
    ⟨(some 17), none, (.mv (.t 16)), 0⟩,
    ⟨(some 18), (some (17, false)), (.mv (.t 1)), 0⟩,
    ⟨(some 19), (some (17, false)), (.mkf 67 [(.t 2)]), 0⟩,
    ⟨(some 20), (some (17, false)), (.call (.c (.s (.fn 66 []))) [(.t 18), (.t 19)]), 0⟩,
    ⟨(some 21), none, (.pick (.t 17) (.c (.s (.bool true))) (.t 20)), 8⟩] 8)
  (.cond (.t 21)
   (.seq (.reg [⟨(some 4), none, (.mv (.c (.s .nils))), 0⟩,
     ⟨(some 5), none, (.mv (.c (.s (.int .i64 1)))), 0⟩] 0)
   .ret)
   .skip))
 (.seq (.reg [⟨(some 22), none, (.mv (.t 1)), 0⟩,
   ⟨(some 23), none, (.call (.c (.s (.fn 69 []))) [(.t 22)]), 0⟩,
   ⟨(some 24), none, (.call (.c (.s (.fn 68 []))) [(.t 23)]), 8⟩,
   ⟨(some 25), none, (.extr (.t 24) 0), 16⟩,
   ⟨(some 26), none, (.extr (.t 24) 1), 16⟩,
   ⟨(some 4), none, (.mv (.t 25)), 16⟩,
   ⟨(some 5), none, (.mv (.t 26)), 16⟩] 16)
 .ret))), [(.t 4), (.t 5)]⟩

/-- girouette/girouettetop.chains -/
def x22 : XFn := ⟨55, (.seq (.reg [⟨(some 4), none, (.mv (.c (.s .nils))), 0⟩] 0)
 (.seq (.reg [⟨(some 5), none, (.mv (.c (.s .nils))), 0⟩] 0)
 (.seq (.seq (.reg [⟨(some 6), none, (.mv (.c (.s (.int .i64 1)))), 0⟩] 0)
  (.block 0 (.loop (.seq (.seq (.reg [⟨(some 10), none, (.mv (.t 6)), 0⟩,
       ⟨(some 11), none, (.mv (.t 0)), 0⟩,
       ⟨(some 12), none, (.bin .shl (.c (.s (.int .i64 1))) (.t 11)), 0⟩,
       ⟨(some 13), none, (.bin .lss (.t 10) (.t 12)), 0⟩] 0)
     (.cond (.t 13)
      .skip
      (.exit 0)))
    (.seq (.block 1 (.seq (.reg [⟨(some 7), none, (.mv (.c (.s (.bool true)))), 0⟩] 0)
      (.seq (.seq (.reg [⟨(some 8), none, (.mv (.c (.s (.int .i64 0)))), 0⟩] 0)
       (.block 2 (.loop (.seq (.seq (.reg [⟨(some 16), none, (.mv (.t 8)), 0⟩,
            ⟨(some 17), none, (.mv (.t 0)), 0⟩,
            ⟨(some 18), none, (.bin .lss (.t 16) (.t 17)), 0⟩] 0)
          (.cond (.t 18)
           .skip
           (.exit 2)))
         (.seq (.block 3 (.seq (.reg [⟨(some 21), none, (.mv (.t 8)), 0⟩,
             ⟨(some 22), none, (.bin .add (.t 21) (.c (.s (.int .i64 1)))), 0⟩,
             ⟨(some 9), none, (.mv (.t 22)), 0⟩] 0)
           (.block 4 (.loop (.seq (.seq (.reg [⟨(some 23), none, (.mv (.t 9)), 0⟩,
                ⟨(some 24), none, (.mv (.t 0)), 0⟩,
                ⟨(some 25), none, (.bin .lss (.t 23) (.t 24)), 0⟩] 0)
              (.cond (.t 25)
               .skip
               (.exit 4)))
             (.seq (.block 5 (.reg [⟨(some 28), none, (.mv (.t 7)), 0⟩,
                ⟨(some 29), none, (.mv (.t 28)), 0⟩,
                ⟨(some 30), (some (29, true)), (.mv (.t 6)), 0⟩,
                ⟨(some 31), (some (29, true)), (.mv (.t 8)), 0⟩,
                ⟨(some 32), (some (29, true)), (.bin .shr (.t 30) (.t 31)), 0⟩,
                ⟨(some 33), (some (29, true)), (.bin .rem (.t 32) (.c (.s (.int .i64 2)))), 0⟩,
                ⟨(some 34), (some (29, true)), (.bin .eql (.t 33) (.c (.s (.int .i64 0)))), 0⟩,
                ⟨(some 35), (some (29, true)), (.mv (.t 34)), 0⟩,
                ⟨(some 36), (some (35, false)), (.mv (.t 6)), 0⟩,
                ⟨(some 37), (some (35, false)), (.mv (.t 9)), 0⟩,
                ⟨(some 38), (some (35, false)), (.bin .shr (.t 36) (.t 37)), 0⟩,
                ⟨(some 39), (some (35, false)), (.bin .rem (.t 38) (.c (.s (.int .i64 2)))), 0⟩,
                ⟨(some 40), (some (35, false)), (.bin .eql (.t 39) (.c (.s (.int .i64 0)))), 0⟩,
                ⟨(some 41), (some (29, true)), (.pick (.t 35) (.c (.s (.bool true))) (.t 40)), 0⟩,
                ⟨(some 42), (some (29, true)), (.mv (.t 41)), 0⟩,
                ⟨(some 43), (some (42, false)), (.mv (.t 1)), 0⟩,
                ⟨(some 44), (some (42, false)), (.mv (.t 8)), 0⟩,
                ⟨(some 45), (some (42, false)), (.mv (.t 9)), 0⟩,
                ⟨(some 46), (some (42, false)), (.call (.c (.s (.fn 17 []))) [(.t 43), (.t 44), (.t 45)]), 0⟩,
                ⟨(some 47), (some (29, true)), (.pick (.t 42) (.c (.s (.bool true))) (.t 46)), 8⟩,
                ⟨(some 48), none, (.pick (.t 29) (.t 47) (.c (.s (.bool false)))), 8⟩,
                ⟨(some 7), none, (.mv (.t 48)), 8⟩] 8))
             (.reg [⟨(some 26), none, (.mv (.t 9)), 0⟩,
              ⟨(some 27), none, (.bin .add (.t 26) (.c (.s (.int .i64 1)))), 0⟩,
              ⟨(some 9), none, (.mv (.t 27)), 0⟩] 0)))))))
         (.reg [⟨(some 19), none, (.mv (.t 8)), 0⟩,
          ⟨(some 20), none, (.bin .add (.t 19) (.c (.s (.int .i64 1)))), 0⟩,
          ⟨(some 8), none, (.mv (.t 20)), 0⟩] 0))))))
      (.seq (.reg [⟨(some 49), none, (.mv (.t 7)), 0⟩] 0)
      (.cond (.t 49)
       (.reg [⟨(some 50), none, (.mv (.t 5)), 0⟩,
        ⟨(some 51), none, (.mv (.t 6)), 0⟩,
        ⟨(some 52), none, (.bsl 3 .i64 1 1 [(0, (.t 51))]), 0⟩,
        ⟨(some 53), none, (.app 3 .i64 1 (.t 50) (.t 52)), 1⟩,
        ⟨(some 5), none, (.mv (.t 53)), 2⟩] 2)
       .skip)))))
    (.reg [⟨(some 14), none, (.mv (.t 6)), 0⟩,
     ⟨(some 15), none, (.bin .add (.t 14) (.c (.s (.int .i64 1)))), 0⟩,
     ⟨(some 6), none, (.mv (.t 15)), 0⟩] 0))))))
 (.seq (.reg [⟨(some 54), none, (.mv (.t 5)), 0⟩,
   ⟨(some 4), none, (.mv (.t 54)), 0⟩] 0)
 .ret)))), [(.t 4)]⟩

/-- girouette/shells.Counts -/
def x23 : XFn := ⟨19, (.seq (.reg [⟨(some 4), none, (.mv (.c (.s .nils))), 0⟩,
   ⟨(some 5), none, (.mv (.c (.s (.int .i64 0)))), 0⟩] 0)
 (.seq (.reg [⟨(some 9), none, (.mv (.t 0)), 0⟩,
   ⟨(some 10), none, (.mv (.t 1)), 0⟩,
   ⟨(some 11), none, (.call (.c (.s (.fn 70 []))) [(.t 9), (.t 10)]), 0⟩,
   ⟨(some 8), none, (.mv (.t 11)), 8⟩,
   ⟨(some 12), none, (.extr (.t 8) 0), 8⟩,
   ⟨(some 13), none, (.extr (.t 8) 1), 8⟩,
   ⟨(some 6), none, (.mv (.t 12)), 8⟩,
   ⟨(some 7), none, (.mv (.t 13)), 8⟩] 8)
 (.seq (.seq (.reg [⟨(some 14), none, (.mv (.t 7)), 0⟩,
    ⟨(some 15), none, (.bin .neq (.t 14) (.c (.s (.int .i64 0)))), 0⟩] 0)
  (.cond (.t 15)
   (.seq (.reg [⟨(some 16), none, (.mv (.t 7)), 0⟩,
     ⟨(some 4), none, (.mv (.c (.s .nils))), 0⟩,
     ⟨(some 5), none, (.mv (.t 16)), 0⟩] 0)
   .ret)
   .skip))
 (.seq (.reg [⟨(some 17), none, (.mv (.t 6)), 0⟩,
   ⟨(some 18), none, (.call (.c (.s (.fn 71 []))) [(.t 17)]), 0⟩,
   ⟨(some 4), none, (.mv (.t 18)), 8⟩,
   ⟨(some 5), none, (.mv (.c (.s (.int .i64 0)))), 8⟩] 8)
 .ret)))), [(.t 4), (.t 5)]⟩

/-- girouette/girouettetop.ints -/
def x24 : XFn := ⟨26, (.seq (.reg [⟨(some 4), none, (.mv (.c (.s (.bool false)))), 0⟩] 0)
 (.seq (.seq (.reg [⟨(some 6), none, (.mv (.t 0)), 0⟩,
    ⟨(some 7), none, (.len (.t 6)), 0⟩,
    ⟨(some 8), none, (.mv (.t 1)), 0⟩,
    ⟨(some 9), none, (.len (.t 8)), 0⟩,
    ⟨(some 10), none, (.bin .neq (.t 7) (.t 9)), 0⟩] 0)
  (.cond (.t 10)
   (.seq (.reg [⟨(some 4), none, (.mv (.c (.s (.bool false)))), 0⟩] 0)
   .ret)
   .skip))
 (.seq (.seq (.reg [⟨(some 5), none, (.mv (.c (.s (.int .i64 0)))), 0⟩] 0)
  (.block 0 (.loop (.seq (.seq (.reg [⟨(some 11), none, (.mv (.t 5)), 0⟩,
       ⟨(some 12), none, (.mv (.t 0)), 0⟩,
       ⟨(some 13), none, (.len (.t 12)), 0⟩,
       ⟨(some 14), none, (.bin .lss (.t 11) (.t 13)), 0⟩] 0)
     (.cond (.t 14)
      .skip
      (.exit 0)))
    (.seq (.block 1 (.seq (.regD [⟨(some 17), none, (.mv (.t 0)), 0⟩,
        ⟨(some 18), none, (.mv (.t 5)), 0⟩,
        ⟨(some 19), none, (.iadS 1 (.t 17) (.t 18)), 0⟩,
        ⟨(some 20), none, (.ld .one (.t 19)), 0⟩,
        ⟨(some 21), none, (.mv (.t 1)), 0⟩,
        ⟨(some 22), none, (.mv (.t 5)), 0⟩,
        ⟨(some 23), none, (.iadS 1 (.t 21) (.t 22)), 0⟩,
        ⟨(some 24), none, (.ld .one (.t 23)), 0⟩,
        ⟨(some 25), none, (.bin .neq (.t 20) (.t 24)), 0⟩] 0 [])
      (.cond (.t 25)
       (.seq (.reg [⟨(some 4), none, (.mv (.c (.s (.bool false)))), 0⟩] 0)
       .ret)
       .skip)))
    (.reg [⟨(some 15), none, (.mv (.t 5)), 0⟩,
     ⟨(some 16), none, (.bin .add (.t 15) (.c (.s (.int .i64 1)))), 0⟩,
     ⟨(some 5), none, (.mv (.t 16)), 0⟩] 0))))))
 (.seq (.reg [⟨(some 4), none, (.mv (.c (.s (.bool true)))), 0⟩] 0)
 .ret)))), [(.t 4)]⟩

/-- girouette/shells.Collapse -/
def x25 : XFn := ⟨37, (.seq (.reg [⟨(some 4), none, (.mv (.c (.s .nils))), 0⟩,
   ⟨(some 5), none, (.mv (.c (.s (.bool false)))), 0⟩,
   ⟨(some 6), none, (.mv (.c (.s (.int .i64 0)))), 0⟩] 0)
 (.seq (.reg [⟨(some 14), none, (.mv (.t 0)), 0⟩,
   ⟨(some 15), none, (.mv (.t 1)), 0⟩,
   ⟨(some 16), none, (.call (.c (.s (.fn 70 []))) [(.t 14), (.t 15)]), 0⟩,
   ⟨(some 13), none, (.mv (.t 16)), 8⟩,
   ⟨(some 17), none, (.extr (.t 13) 0), 8⟩,
   ⟨(some 18), none, (.extr (.t 13) 1), 8⟩,
   ⟨(some 7), none, (.mv (.t 17)), 8⟩,
   ⟨(some 8), none, (.mv (.t 18)), 8⟩] 8)
 (.seq (.seq (.reg [⟨(some 19), none, (.mv (.t 8)), 0⟩,
    ⟨(some 20), none, (.bin .neq (.t 19) (.c (.s (.int .i64 0)))), 0⟩] 0)
  (.cond (.t 20)
   (.seq (.reg [⟨(some 21), none, (.mv (.t 8)), 0⟩,
     ⟨(some 4), none, (.mv (.c (.s .nils))), 0⟩,
     ⟨(some 5), none, (.mv (.c (.s (.bool false)))), 0⟩,
     ⟨(some 6), none, (.mv (.t 21)), 0⟩] 0)
   .ret)
   .skip))
 (.seq (.reg [⟨(some 9), none, (.alloc 22 (.s .nils)), 0⟩] 1)
 (.seq (.reg [⟨(some 22), none, (.mmk (.bools 64) .bool1), 0⟩,
   ⟨(some 10), none, (.alloc 101 (.s .nilm)), 1⟩,
   ⟨none, none, (.st .one (.t 10) (.t 22)), 2⟩] 2)
 (.seq (.reg [⟨(some 23), none, (.mv (.t 7)), 0⟩,
   ⟨(some 24), none, (.nck (.t 23)), 0⟩,
   ⟨(some 25), none, (.fad 2 (.t 24)), 0⟩,
   ⟨(some 26), none, (.ld (.many 0 64) (.t 25)), 0⟩,
   ⟨(some 11), none, (.alloc 95 (.pb [] 64 ff)), 0⟩,
   ⟨none, none, (.st (.many 0 64) (.t 11) (.t 26)), 1⟩] 1)
 (.seq (.reg [⟨(some 12), none, (.alloc 30 (.s .nilf)), 0⟩] 1)
 (.seq (.reg [⟨(some 27), none, (.mkf 72 [(.t 11), (.t 10), (.t 9), (.t 12)]), 0⟩,
   ⟨none, none, (.st .one (.t 12) (.t 27)), 0⟩] 0)
 (.seq (.seq (.reg [⟨(some 28), none, (.mv (.t 7)), 0⟩,
    ⟨(some 29), none, (.call (.c (.s (.fn 75 []))) [(.t 28)]), 0⟩,
    ⟨(some 30), none, (.call (.c (.s (.fn 66 []))) [(.t 29), (.c (.s (.fn 76 [])))]), 8⟩,
    ⟨(some 31), none, (.mv (.t 30)), 16⟩,
    ⟨(some 32), (some (31, false)), (.ld .one (.t 12)), 16⟩,
    ⟨(some 33), (some (31, false)), (.call (.t 32) []), 16⟩,
    ⟨(some 34), (some (31, false)), (.not (.t 33)), 24⟩,
    ⟨(some 35), none, (.pick (.t 31) (.c (.s (.bool true))) (.t 34)), 24⟩] 24)
  (.cond (.t 35)
   (.seq (.reg [⟨(some 4), none, (.mv (.c (.s .nils))), 0⟩,
     ⟨(some 5), none, (.mv (.c (.s (.bool false)))), 0⟩,
     ⟨(some 6), none, (.mv (.c (.s (.int .i64 0)))), 0⟩] 0)
   .ret)
   .skip))
 (.seq (.reg [⟨(some 36), none, (.ld .one (.t 9)), 0⟩,
   ⟨(some 4), none, (.mv (.t 36)), 0⟩,
   ⟨(some 5), none, (.mv (.c (.s (.bool true)))), 0⟩,
   ⟨(some 6), none, (.mv (.c (.s (.int .i64 0)))), 0⟩] 0)
 .ret)))))))))), [(.t 4), (.t 5), (.t 6)]⟩

/-- girouette/shells.Hollows -/
def x26 : XFn := ⟨19, (.seq (.reg [⟨(some 4), none, (.mv (.c (.s .nils))), 0⟩,
   ⟨(some 5), none, (.mv (.c (.s (.int .i64 0)))), 0⟩] 0)
 (.seq (.reg [⟨(some 9), none, (.mv (.t 0)), 0⟩,
   ⟨(some 10), none, (.mv (.t 1)), 0⟩,
   ⟨(some 11), none, (.call (.c (.s (.fn 70 []))) [(.t 9), (.t 10)]), 0⟩,
   ⟨(some 8), none, (.mv (.t 11)), 8⟩,
   ⟨(some 12), none, (.extr (.t 8) 0), 8⟩,
   ⟨(some 13), none, (.extr (.t 8) 1), 8⟩,
   ⟨(some 6), none, (.mv (.t 12)), 8⟩,
   ⟨(some 7), none, (.mv (.t 13)), 8⟩] 8)
 (.seq (.seq (.reg [⟨(some 14), none, (.mv (.t 7)), 0⟩,
    ⟨(some 15), none, (.bin .neq (.t 14) (.c (.s (.int .i64 0)))), 0⟩] 0)
  (.cond (.t 15)
   (.seq (.reg [⟨(some 16), none, (.mv (.t 7)), 0⟩,
     ⟨(some 4), none, (.mv (.c (.s .nils))), 0⟩,
     ⟨(some 5), none, (.mv (.t 16)), 0⟩] 0)
   .ret)
   .skip))
 (.seq (.reg [⟨(some 17), none, (.mv (.t 6)), 0⟩,
   ⟨(some 18), none, (.call (.c (.s (.fn 75 []))) [(.t 17)]), 0⟩,
   ⟨(some 4), none, (.mv (.t 18)), 8⟩,
   ⟨(some 5), none, (.mv (.c (.s (.int .i64 0)))), 8⟩] 8)
 .ret)))), [(.t 4), (.t 5)]⟩

/-- girouette/girouettetop.three -/
def x27 : XFn := ⟨57, (.seq (.reg [⟨(some 0), none, (.mv (.c (.s (.bool false)))), 0⟩] 0)
 (.seq (.reg [⟨(some 9), none, (.bld (.pb [(.int .i64 0), (.int .i64 0)] 0 ff) [((0, 1), (.c (.s (.int .i64 0)))), ((1, 1), (.c (.s (.int .i64 1))))]), 0⟩,
   ⟨(some 10), none, (.bld (.pb [(.int .i64 0), (.int .i64 0)] 0 ff) [((0, 1), (.c (.s (.int .i64 0)))), ((1, 1), (.c (.s (.int .i64 2))))]), 0⟩,
   ⟨(some 11), none, (.bld (.pb [(.int .i64 0), (.int .i64 0)] 0 ff) [((0, 1), (.c (.s (.int .i64 1)))), ((1, 1), (.c (.s (.int .i64 2))))]), 0⟩,
   ⟨(some 12), none, (.bsl 38 .i64 2 3 [(0, (.t 9)), (1, (.t 10)), (2, (.t 11))]), 0⟩,
   ⟨(some 1), none, (.mv (.t 12)), 1⟩] 1)
 (.seq (.reg [⟨(some 14), none, (.bsl 3 .i64 1 3 [(0, (.c (.s (.int .i64 3)))), (1, (.c (.s (.int .i64 5)))), (2, (.c (.s (.int .i64 6))))]), 0⟩,
   ⟨(some 15), none, (.call (.c (.s (.fn 26 []))) [(.c (.s (.int .i64 3))), (.t 14)]), 1⟩,
   ⟨(some 13), none, (.mv (.t 15)), 9⟩,
   ⟨(some 16), none, (.extr (.t 13) 0), 9⟩,
   ⟨(some 17), none, (.extr (.t 13) 1), 9⟩,
   ⟨(some 2), none, (.mv (.t 16)), 9⟩,
   ⟨(some 3), none, (.mv (.t 17)), 9⟩] 9)
 (.seq (.reg [⟨(some 19), none, (.mv (.t 1)), 0⟩,
   ⟨(some 20), none, (.call (.c (.s (.fn 77 []))) [(.c (.s (.int .i64 3))), (.t 19)]), 0⟩,
   ⟨(some 18), none, (.mv (.t 20)), 8⟩,
   ⟨(some 21), none, (.extr (.t 18) 0), 8⟩,
   ⟨(some 22), none, (.extr (.t 18) 1), 8⟩,
   ⟨(some 23), none, (.extr (.t 18) 2), 8⟩,
   ⟨(some 4), none, (.mv (.t 21)), 8⟩,
   ⟨(some 5), none, (.mv (.t 22)), 8⟩,
   ⟨(some 6), none, (.mv (.t 23)), 8⟩] 8)
 (.seq (.reg [⟨(some 25), none, (.mv (.t 1)), 0⟩,
   ⟨(some 26), none, (.call (.c (.s (.fn 19 []))) [(.c (.s (.int .i64 3))), (.t 25)]), 0⟩,
   ⟨(some 24), none, (.mv (.t 26)), 8⟩,
   ⟨(some 27), none, (.extr (.t 24) 0), 8⟩,
   ⟨(some 28), none, (.extr (.t 24) 1), 8⟩,
   ⟨(some 7), none, (.mv (.t 27)), 8⟩,
   ⟨(some 8), none, (.mv (.t 28)), 8⟩] 8)
 (.seq (.reg [⟨(some 29), none, (.mv (.t 3)), 0⟩,
   ⟨(some 30), none, (.bin .eql (.t 29) (.c (.s (.int .i64 0)))), 0⟩,
   ⟨(some 31), none, (.mv (.t 30)), 0⟩,
   ⟨(some 32), (some (31, true)), (.mv (.t 2)), 0⟩,
   ⟨(some 33), (some (31, true)), (.bsl 3 .i64 1 2 [(0, (.c (.s (.int .i64 0)))), (1, (.c (.s (.int .i64 1))))]), 0⟩,
   ⟨(some 34), (some (31, true)), (.call (.c (.s (.fn 24 []))) [(.t 32), (.t 33)]), 1⟩,
   ⟨(some 35), none, (.pick (.t 31) (.t 34) (.c (.s (.bool false)))), 9⟩,
   ⟨(some 36), none, (.mv (.t 35)), 9⟩,
   ⟨(some 37), (some (36, true)), (.mv (.t 6)), 9⟩,
   ⟨(some 38), (some (36, true)), (.bin .eql (.t 37) (.c (.s (.int .i64 0)))), 9⟩,
   ⟨(some 39), none, (.pick (.t 36) (.t 38) (.c (.s (.bool false)))), 9⟩,
   ⟨(some 40), none, (.mv (.t 39)), 9⟩,
   ⟨(some 41), (some (40, true)), (.mv (.t 5)), 9⟩,
   ⟨(some 42), none, (.pick (.t 40) (.t 41) (.c (.s (.bool false)))), 9⟩,
   ⟨(some 43), none, (.mv (.t 42)), 9⟩,
   ⟨(some 44), (some (43, true)), (.mv (.t 4)), 9⟩,
   ⟨(some 45), (some (43, true)), (.bsl 3 .i64 1 3 [(0, (.c (.s (.int .i64 0)))), (1, (.c (.s (.int .i64 1)))), (2, (.c (.s (.int .i64 3))))]), 9⟩,
   ⟨(some 46), (some (43, true)), (.call (.c (.s (.fn 24 []))) [(.t 44), (.t 45)]), 10⟩,
   ⟨(some 47), none, (.pick (.t 43) (.t 46) (.c (.s (.bool false)))), 18⟩,
   ⟨(some 48), none, (.mv (.t 47)), 18⟩,
   ⟨(some 49), (some (48, true)), (.mv (.t 8)), 18⟩,
   ⟨(some 50), (some (48, true)), (.bin .eql (.t 49) (.c (.s (.int .i64 0)))), 18⟩,
   ⟨(some 51), none, (.pick (.t 48) (.t 50) (.c (.s (.bool false)))), 18⟩,
   ⟨(some 52), none, (.mv (.t 51)), 18⟩,
   ⟨(some 53), (some (52, true)), (.mv (.t 7)), 18⟩,
   ⟨(some 54), (some (52, true)), (.bsl 3 .i64 1 3 [(0, (.c (.s (.int .i64 0)))), (1, (.c (.s (.int .i64 1)))), (2, (.c (.s (.int .i64 2))))]), 18⟩,
   ⟨(some 55), (some (52, true)), (.call (.c (.s (.fn 24 []))) [(.t 53), (.t 54)]), 19⟩,
   ⟨(some 56), none, (.pick (.t 52) (.t 55) (.c (.s (.bool false)))), 27⟩,
   ⟨(some 0), none, (.mv (.t 56)), 27⟩] 27)
 .ret)))))), [(.t 0)]⟩

/-- girouette/girouetteref03.IsOrder -/
def x28 : XFn := ⟨95, (.seq (.reg [⟨(some 4), none, (.mv (.c (.s (.bool false)))), 0⟩] 0)
 (.seq (.seq (.reg [⟨(some 5), none, (.mv (.c (.s (.int .i64 0)))), 0⟩] 0)
  (.block 0 (.loop (.seq (.seq (.reg [⟨(some 9), none, (.mv (.t 5)), 0⟩,
       ⟨(some 10), none, (.mv (.t 1)), 0⟩,
       ⟨(some 11), none, (.len (.t 10)), 0⟩,
       ⟨(some 12), none, (.bin .lss (.t 9) (.t 11)), 0⟩] 0)
     (.cond (.t 12)
      .skip
      (.exit 0)))
    (.seq (.block 1 (.seq (.regD [⟨(some 15), none, (.mv (.t 1)), 0⟩,
        ⟨(some 16), none, (.mv (.t 5)), 0⟩,
        ⟨(some 17), none, (.iadS 2 (.t 15) (.t 16)), 0⟩,
        ⟨(some 18), none, (.iad 2 1 (.t 17) (.c (.s (.int .i64 0)))), 0⟩,
        ⟨(some 19), none, (.ld .one (.t 18)), 0⟩,
        ⟨(some 20), none, (.mv (.t 1)), 0⟩,
        ⟨(some 21), none, (.mv (.t 5)), 0⟩,
        ⟨(some 22), none, (.iadS 2 (.t 20) (.t 21)), 0⟩,
        ⟨(some 23), none, (.iad 2 1 (.t 22) (.c (.s (.int .i64 1)))), 0⟩,
        ⟨(some 24), none, (.ld .one (.t 23)), 0⟩,
        ⟨(some 6), none, (.mv (.t 19)), 0⟩,
        ⟨(some 7), none, (.mv (.t 24)), 0⟩] 0 [])
      (.seq (.seq (.regD [⟨(some 25), none, (.mv (.t 6)), 0⟩,
         ⟨(some 26), none, (.bin .lss (.t 25) (.c (.s (.int .i64 0)))), 0⟩,
         ⟨(some 27), none, (.mv (.t 26)), 0⟩,
         ⟨(some 28), (some (27, false)), (.mv (.t 7)), 0⟩,
         ⟨(some 29), (some (27, false)), (.bin .lss (.t 28) (.c (.s (.int .i64 0)))), 0⟩,
         ⟨(some 30), none, (.pick (.t 27) (.c (.s (.bool true))) (.t 29)), 0⟩,
         ⟨(some 31), none, (.mv (.t 30)), 0⟩,
         ⟨(some 32), (some (31, false)), (.mv (.t 6)), 0⟩,
         ⟨(some 33), (some (31, false)), (.mv (.t 0)), 0⟩,
         ⟨(some 34), (some (31, false)), (.bin .geq (.t 32) (.t 33)), 0⟩,
         ⟨(some 35), none, (.pick (.t 31) (.c (.s (.bool true))) (.t 34)), 0⟩,
         ⟨(some 36), none, (.mv (.t 35)), 0⟩,
         ⟨(some 37), (some (36, false)), (.mv (.t 7)), 0⟩,
         ⟨(some 38), (some (36, false)), (.mv (.t 0)), 0⟩,
         ⟨(some 39), (some (36, false)), (.bin .geq (.t 37) (.t 38)), 0⟩,
         ⟨(some 40), none, (.pick (.t 36) (.c (.s (.bool true))) (.t 39)), 0⟩,
         ⟨(some 41), none, (.mv (.t 40)), 0⟩,
         ⟨(some 42), (some (41, false)), (.mv (.t 6)), 0⟩,
         ⟨(some 43), (some (41, false)), (.mv (.t 7)), 0⟩,
         ⟨(some 44), (some (41, false)), (.bin .eql (.t 42) (.t 43)), 0⟩,
         ⟨(some 45), none, (.pick (.t 41) (.c (.s (.bool true))) (.t 44)), 0⟩,
         ⟨(some 46), none, (.mv (.t 45)), 0⟩,
         ⟨(some 47), (some (46, false)), (.mv (.t 1)), 0⟩,
         ⟨(some 48), (some (46, false)), (.mv (.t 7)), 0⟩,
         ⟨(some 49), (some (46, false)), (.mv (.t 6)), 0⟩,
         ⟨(some 50), (some (46, false)), (.bld (.pb [(.int .i64 0), (.int .i64 0)] 0 ff) [((0, 1), (.t 48)), ((1, 1), (.t 49))]), 0⟩,
         ⟨(some 51), (some (46, false)), (.call (.c (.s (.fn 78 []))) [(.t 47), (.t 50)]), 0⟩,
         ⟨(some 52), none, (.pick (.t 46) (.c (.s (.bool true))) (.t 51)), 8⟩,
         ⟨(some 53), none, (.mv (.t 52)), 8⟩,
         ⟨(some 54), (some (53, false)), (.mv (.t 5)), 8⟩,
         ⟨(some 55), (some (53, false)), (.bin .gtr (.t 54) (.c (.s (.int .i64 0)))), 8⟩,
         ⟨(some 56), (some (53, false)), (.mv (.t 55)), 8⟩,
         ⟨(some 57), (some (56, true)), (.mv (.t 1)), 8⟩,
         ⟨(some 58), (some (56, true)), (.mv (.t 5)), 8⟩,
         ⟨(some 59), (some (56, true)), (.bin .sub (.t 58) (.c (.s (.int .i64 1)))), 8⟩,
         ⟨(some 60), (some (56, true)), (.iadS 2 (.t 57) (.t 59)), 8⟩,
         ⟨(some 61), (some (56, true)), (.ld (.many 2 0) (.t 60)), 8⟩,
         ⟨(some 62), (some (56, true)), (.mv (.t 1)), 8⟩,
         ⟨(some 63), (some (56, true)), (.mv (.t 5)), 8⟩,
         ⟨(some 64), (some (56, true)), (.iadS 2 (.t 62) (.t 63)), 8⟩,
         ⟨(some 65), (some (56, true)), (.ld (.many 2 0) (.t 64)), 8⟩,
         ⟨(some 66), (some (56, true)), (.call (.c (.s (.fn 79 []))) [(.t 61), (.t 65)]), 8⟩,
         ⟨(some 67), (some (56, true)), (.not (.t 66)), 16⟩,
         ⟨(some 68), (some (53, false)), (.pick (.t 56) (.t 67) (.c (.s (.bool false)))), 16⟩,
         ⟨(some 69), none, (.pick (.t 53) (.c (.s (.bool true))) (.t 68)), 16⟩] 16 [])
       (.cond (.t 69)
        (.seq (.reg [⟨(some 4), none, (.mv (.c (.s (.bool false)))), 0⟩] 0)
        .ret)
        .skip))
      (.seq (.reg [⟨(some 8), none, (.mv (.c (.s (.int .i64 0)))), 0⟩] 0)
      (.block 2 (.loop (.seq (.seq (.reg [⟨(some 70), none, (.mv (.t 8)), 0⟩,
           ⟨(some 71), none, (.mv (.t 1)), 0⟩,
           ⟨(some 72), none, (.len (.t 71)), 0⟩,
           ⟨(some 73), none, (.bin .lss (.t 70) (.t 72)), 0⟩] 0)
         (.cond (.t 73)
          .skip
          (.exit 2)))
        (.seq (.block 3 (.seq (.reg [⟨(some 76), none, (.mv (.t 1)), 0⟩,
            ⟨(some 77), none, (.mv (.t 8)), 0⟩,
            ⟨(some 78), none, (.iadS 2 (.t 76) (.t 77)), 0⟩,
            ⟨(some 79), none, (.iad 2 1 (.t 78) (.c (.s (.int .i64 0)))), 0⟩,
            ⟨(some 80), none, (.ld .one (.t 79)), 0⟩,
            ⟨(some 81), none, (.mv (.t 7)), 0⟩,
            ⟨(some 82), none, (.bin .eql (.t 80) (.t 81)), 0⟩,
            ⟨(some 83), none, (.mv (.t 82)), 0⟩,
            ⟨(some 84), (some (83, true)), (.mv (.t 1)), 0⟩,
            ⟨(some 85), (some (83, true)), (.mv (.t 6)), 0⟩,
            ⟨(some 86), (some (83, true)), (.mv (.t 1)), 0⟩,
            ⟨(some 87), (some (83, true)), (.mv (.t 8)), 0⟩,
            ⟨(some 88), (some (83, true)), (.iadS 2 (.t 86) (.t 87)), 0⟩,
            ⟨(some 89), (some (83, true)), (.iad 2 1 (.t 88) (.c (.s (.int .i64 1)))), 0⟩,
            ⟨(some 90), (some (83, true)), (.ld .one (.t 89)), 0⟩,
            ⟨(some 91), (some (83, true)), (.bld (.pb [(.int .i64 0), (.int .i64 0)] 0 ff) [((0, 1), (.t 85)), ((1, 1), (.t 90))]), 0⟩,
            ⟨(some 92), (some (83, true)), (.call (.c (.s (.fn 78 []))) [(.t 84), (.t 91)]), 0⟩,
            ⟨(some 93), (some (83, true)), (.not (.t 92)), 8⟩,
            ⟨(some 94), none, (.pick (.t 83) (.t 93) (.c (.s (.bool false)))), 8⟩] 8)
          (.cond (.t 94)
           (.seq (.reg [⟨(some 4), none, (.mv (.c (.s (.bool false)))), 0⟩] 0)
           .ret)
           .skip)))
        (.reg [⟨(some 74), none, (.mv (.t 8)), 0⟩,
         ⟨(some 75), none, (.bin .add (.t 74) (.c (.s (.int .i64 1)))), 0⟩,
         ⟨(some 8), none, (.mv (.t 75)), 0⟩] 0)))))))))
    (.reg [⟨(some 13), none, (.mv (.t 5)), 0⟩,
     ⟨(some 14), none, (.bin .add (.t 13) (.c (.s (.int .i64 1)))), 0⟩,
     ⟨(some 5), none, (.mv (.t 14)), 0⟩] 0))))))
 (.seq (.reg [⟨(some 4), none, (.mv (.c (.s (.bool true)))), 0⟩] 0)
 .ret))), [(.t 4)]⟩

/-- girouette/orders.Realize -/
def x29 : XFn := ⟨53, (.seq (.reg [⟨(some 4), none, (.alloc 48 (.pb [.nils, .nils] 0 ff)), 0⟩,
   ⟨(some 5), none, (.mv (.c (.s (.bool false)))), 1⟩,
   ⟨(some 6), none, (.mv (.c (.s (.int .i64 0)))), 1⟩] 1)
 (.seq (.reg [⟨(some 13), none, (.mv (.t 0)), 0⟩,
   ⟨(some 14), none, (.mv (.t 1)), 0⟩,
   ⟨(some 15), none, (.call (.c (.s (.fn 59 []))) [(.t 13), (.t 14)]), 0⟩,
   ⟨(some 12), none, (.mv (.t 15)), 8⟩,
   ⟨(some 16), none, (.extr (.t 12) 0), 8⟩,
   ⟨(some 17), none, (.extr (.t 12) 1), 8⟩,
   ⟨(some 7), none, (.alloc 70 (.pb [] 49 ff)), 8⟩,
   ⟨none, none, (.st (.many 0 49) (.t 7) (.t 16)), 9⟩,
   ⟨(some 8), none, (.mv (.t 17)), 9⟩] 9)
 (.seq (.seq (.reg [⟨(some 18), none, (.mv (.t 8)), 0⟩,
    ⟨(some 19), none, (.bin .neq (.t 18) (.c (.s (.int .i64 0)))), 0⟩] 0)
  (.cond (.t 19)
   (.seq (.reg [⟨(some 20), none, (.bld (.pb [.nils, .nils] 0 ff) []), 0⟩,
     ⟨(some 21), none, (.mv (.t 8)), 0⟩,
     ⟨none, none, (.st (.many 2 0) (.t 4) (.t 20)), 0⟩,
     ⟨(some 5), none, (.mv (.c (.s (.bool false)))), 0⟩,
     ⟨(some 6), none, (.mv (.t 21)), 0⟩] 0)
   .ret)
   .skip))
 (.seq (.regD [⟨(some 22), none, (.mv (.t 0)), 0⟩,
   ⟨(some 23), none, (.ld (.many 0 49) (.t 7)), 0⟩,
   ⟨(some 24), none, (.ld (.many 0 49) (.t 7)), 0⟩,
   ⟨(some 25), none, (.call (.c (.s (.fn 61 []))) [(.t 24)]), 0⟩,
   ⟨(some 26), none, (.bslB 70 49 2 [(0, (.t 23)), (1, (.t 25))]), 8⟩,
   ⟨(some 27), none, (.call (.c (.s (.fn 80 []))) [(.t 26)]), 9⟩,
   ⟨(some 28), none, (.bld (.pb [(.int .i64 0)] 49 ff) [((0, 1), (.t 22)), ((1, 49), (.t 27))]), 17⟩,
   ⟨(some 29), none, (.box 115 (.t 28)), 17⟩,
   ⟨(some 9), none, (.mv (.t 29)), 18⟩] 18 [(1, 3)])
 (.seq (.reg [⟨(some 31), none, (.mv (.t 9)), 0⟩,
   ⟨(some 32), none, (.call (.c (.s (.fn 81 []))) [(.t 31)]), 0⟩,
   ⟨(some 33), none, (.call (.c (.s (.fn 55 []))) [(.t 32)]), 8⟩,
   ⟨(some 30), none, (.mv (.t 33)), 16⟩,
   ⟨(some 34), none, (.extr (.t 30) 0), 16⟩,
   ⟨(some 35), none, (.extr (.t 30) 1), 16⟩,
   ⟨(some 10), none, (.alloc 70 (.pb [] 49 ff)), 16⟩,
   ⟨none, none, (.st (.many 0 49) (.t 10) (.t 34)), 17⟩,
   ⟨(some 11), none, (.mv (.t 35)), 17⟩] 17)
 (.seq (.seq (.reg [⟨(some 36), none, (.mv (.t 11)), 0⟩,
    ⟨(some 37), none, (.not (.t 36)), 0⟩] 0)
  (.cond (.t 37)
   (.seq (.reg [⟨(some 38), none, (.bld (.pb [.nils, .nils] 0 ff) []), 0⟩,
     ⟨none, none, (.st (.many 2 0) (.t 4) (.t 38)), 0⟩,
     ⟨(some 5), none, (.mv (.c (.s (.bool false)))), 0⟩,
     ⟨(some 6), none, (.mv (.c (.s (.int .i64 0)))), 0⟩] 0)
   .ret)
   .skip))
 (.seq (.regD [⟨(some 39), none, (.ld (.many 0 49) (.t 7)), 0⟩,
   ⟨(some 40), none, (.ld (.many 0 49) (.t 10)), 0⟩,
   ⟨(some 41), none, (.bslB 70 49 2 [(0, (.t 39)), (1, (.t 40))]), 0⟩,
   ⟨(some 42), none, (.call (.c (.s (.fn 80 []))) [(.t 41)]), 1⟩,
   ⟨(some 43), none, (.mv (.t 0)), 9⟩,
   ⟨(some 44), none, (.call (.c (.s (.fn 82 []))) [(.t 42), (.t 43)]), 9⟩,
   ⟨(some 45), none, (.ld (.many 0 49) (.t 7)), 17⟩,
   ⟨(some 46), none, (.ld (.many 0 49) (.t 10)), 17⟩,
   ⟨(some 47), none, (.call (.c (.s (.fn 61 []))) [(.t 46)]), 17⟩,
   ⟨(some 48), none, (.bslB 70 49 2 [(0, (.t 45)), (1, (.t 47))]), 25⟩,
   ⟨(some 49), none, (.call (.c (.s (.fn 80 []))) [(.t 48)]), 26⟩,
   ⟨(some 50), none, (.mv (.t 0)), 34⟩,
   ⟨(some 51), none, (.call (.c (.s (.fn 82 []))) [(.t 49), (.t 50)]), 34⟩,
   ⟨(some 52), none, (.bld (.pb [.nils, .nils] 0 ff) [((0, 1), (.t 44)), ((1, 1), (.t 51))]), 42⟩,
   ⟨none, none, (.st (.many 2 0) (.t 4) (.t 52)), 42⟩,
   ⟨(some 5), none, (.mv (.c (.s (.bool true)))), 42⟩,
   ⟨(some 6), none, (.mv (.c (.s (.int .i64 0)))), 42⟩] 42 [(2, 6), (3, 6), (5, 6), (2, 7), (3, 7), (5, 7), (6, 8)])
 .ret))))))), [(.cell 4 (.many 2 0)), (.t 5), (.t 6)]⟩

/-- girouette/girouetteref03.Layers -/
def x30 : XFn := ⟨47, (.seq (.reg [⟨(some 4), none, (.mv (.c (.s .nils))), 0⟩] 0)
 (.seq (.reg [⟨(some 8), none, (.mv (.t 0)), 0⟩,
   ⟨(some 9), none, (.mkS 3 .i64 (.t 8)), 0⟩,
   ⟨(some 5), none, (.mv (.t 9)), 1⟩] 1)
 (.seq (.seq (.reg [⟨(some 6), none, (.mv (.c (.s (.int .i64 0)))), 0⟩] 0)
  (.block 0 (.loop (.seq (.seq (.reg [⟨(some 10), none, (.mv (.t 6)), 0⟩,
       ⟨(some 11), none, (.mv (.t 0)), 0⟩,
       ⟨(some 12), none, (.bin .lss (.t 10) (.t 11)), 0⟩] 0)
     (.cond (.t 12)
      .skip
      (.exit 0)))
    (.seq (.block 1 (.seq (.reg [⟨(some 7), none, (.mv (.c (.s (.int .i64 0)))), 0⟩] 0)
      (.block 2 (.loop (.seq (.seq (.reg [⟨(some 15), none, (.mv (.t 7)), 0⟩,
           ⟨(some 16), none, (.mv (.t 1)), 0⟩,
           ⟨(some 17), none, (.len (.t 16)), 0⟩,
           ⟨(some 18), none, (.bin .lss (.t 15) (.t 17)), 0⟩] 0)
         (.cond (.t 18)
          .skip
          (.exit 2)))
        (.seq (.block 3 (.regD [⟨(some 21), none, (.mv (.t 5)), 0⟩,
           ⟨(some 22), none, (.mv (.t 1)), 0⟩,
           ⟨(some 23), none, (.mv (.t 7)), 0⟩,
           ⟨(some 24), none, (.iadS 2 (.t 22) (.t 23)), 0⟩,
           ⟨(some 25), none, (.iad 2 1 (.t 24) (.c (.s (.int .i64 1)))), 0⟩,
           ⟨(some 26), none, (.ld .one (.t 25)), 0⟩,
           ⟨(some 27), none, (.mv (.t 5)), 0⟩,
           ⟨(some 28), none, (.mv (.t 1)), 0⟩,
           ⟨(some 29), none, (.mv (.t 7)), 0⟩,
           ⟨(some 30), none, (.iadS 2 (.t 28) (.t 29)), 0⟩,
           ⟨(some 31), none, (.iad 2 1 (.t 30) (.c (.s (.int .i64 1)))), 0⟩,
           ⟨(some 32), none, (.ld .one (.t 31)), 0⟩,
           ⟨(some 33), none, (.iadS 1 (.t 27) (.t 32)), 0⟩,
           ⟨(some 34), none, (.ld .one (.t 33)), 0⟩,
           ⟨(some 35), none, (.mv (.t 5)), 0⟩,
           ⟨(some 36), none, (.mv (.t 1)), 0⟩,
           ⟨(some 37), none, (.mv (.t 7)), 0⟩,
           ⟨(some 38), none, (.iadS 2 (.t 36) (.t 37)), 0⟩,
           ⟨(some 39), none, (.iad 2 1 (.t 38) (.c (.s (.int .i64 0)))), 0⟩,
           ⟨(some 40), none, (.ld .one (.t 39)), 0⟩,
           ⟨(some 41), none, (.iadS 1 (.t 35) (.t 40)), 0⟩,
           ⟨(some 42), none, (.ld .one (.t 41)), 0⟩,
           ⟨(some 43), none, (.bin .add (.t 42) (.c (.s (.int .i64 1)))), 0⟩,
           ⟨(some 44), none, (.mx [(.t 34), (.t 43)]), 0⟩,
           ⟨(some 45), none, (.iadS 1 (.t 21) (.t 26)), 0⟩,
           ⟨none, none, (.st .one (.t 45) (.t 44)), 0⟩] 0 []))
        (.reg [⟨(some 19), none, (.mv (.t 7)), 0⟩,
         ⟨(some 20), none, (.bin .add (.t 19) (.c (.s (.int .i64 1)))), 0⟩,
         ⟨(some 7), none, (.mv (.t 20)), 0⟩] 0)))))))
    (.reg [⟨(some 13), none, (.mv (.t 6)), 0⟩,
     ⟨(some 14), none, (.bin .add (.t 13) (.c (.s (.int .i64 1)))), 0⟩,
     ⟨(some 6), none, (.mv (.t 14)), 0⟩] 0))))))
 (.seq (.reg [⟨(some 46), none, (.mv (.t 5)), 0⟩,
   ⟨(some 4), none, (.mv (.t 46)), 0⟩] 0)
 .ret)))), [(.t 4)]⟩

/-- girouette/girouetteref03.Turned -/
def x31 : XFn := ⟨30, (.seq (.reg [⟨(some 4), none, (.mv (.c (.s .nils))), 0⟩] 0)
 (.seq (.reg [⟨(some 5), none, (.mv (.c (.s .nils))), 0⟩] 0)
 (.seq (.seq (.reg [⟨(some 6), none, (.mv (.c (.s (.int .i64 0)))), 0⟩] 0)
  (.block 0 (.loop (.seq (.seq (.reg [⟨(some 8), none, (.mv (.t 6)), 0⟩,
       ⟨(some 9), none, (.mv (.t 0)), 0⟩,
       ⟨(some 10), none, (.bin .lss (.t 8) (.t 9)), 0⟩] 0)
     (.cond (.t 10)
      .skip
      (.exit 0)))
    (.seq (.block 1 (.seq (.reg [⟨(some 7), none, (.mv (.c (.s (.int .i64 0)))), 0⟩] 0)
      (.block 2 (.loop (.seq (.seq (.reg [⟨(some 13), none, (.mv (.t 7)), 0⟩,
           ⟨(some 14), none, (.mv (.t 0)), 0⟩,
           ⟨(some 15), none, (.bin .lss (.t 13) (.t 14)), 0⟩] 0)
         (.cond (.t 15)
          .skip
          (.exit 2)))
        (.seq (.block 3 (.seq (.reg [⟨(some 18), none, (.mv (.t 1)), 0⟩,
            ⟨(some 19), none, (.mv (.t 7)), 0⟩,
            ⟨(some 20), none, (.mv (.t 6)), 0⟩,
            ⟨(some 21), none, (.bld (.pb [(.int .i64 0), (.int .i64 0)] 0 ff) [((0, 1), (.t 19)), ((1, 1), (.t 20))]), 0⟩,
            ⟨(some 22), none, (.call (.c (.s (.fn 78 []))) [(.t 18), (.t 21)]), 0⟩] 8)
          (.cond (.t 22)
           (.reg [⟨(some 23), none, (.mv (.t 5)), 0⟩,
            ⟨(some 24), none, (.mv (.t 6)), 0⟩,
            ⟨(some 25), none, (.mv (.t 7)), 0⟩,
            ⟨(some 26), none, (.bld (.pb [(.int .i64 0), (.int .i64 0)] 0 ff) [((0, 1), (.t 24)), ((1, 1), (.t 25))]), 0⟩,
            ⟨(some 27), none, (.bsl 38 .i64 2 1 [(0, (.t 26))]), 0⟩,
            ⟨(some 28), none, (.app 38 .i64 2 (.t 23) (.t 27)), 1⟩,
            ⟨(some 5), none, (.mv (.t 28)), 2⟩] 2)
           .skip)))
        (.reg [⟨(some 16), none, (.mv (.t 7)), 0⟩,
         ⟨(some 17), none, (.bin .add (.t 16) (.c (.s (.int .i64 1)))), 0⟩,
         ⟨(some 7), none, (.mv (.t 17)), 0⟩] 0)))))))
    (.reg [⟨(some 11), none, (.mv (.t 6)), 0⟩,
     ⟨(some 12), none, (.bin .add (.t 11) (.c (.s (.int .i64 1)))), 0⟩,
     ⟨(some 6), none, (.mv (.t 12)), 0⟩] 0))))))
 (.seq (.reg [⟨(some 29), none, (.mv (.t 5)), 0⟩,
   ⟨(some 4), none, (.mv (.t 29)), 0⟩] 0)
 .ret)))), [(.t 4)]⟩

/-- girouette/girouetteref03.Chain -/
def x32 : XFn := ⟨49, (.seq (.reg [⟨(some 6), none, (.mv (.c (.s (.bool false)))), 0⟩] 0)
 (.seq (.seq (.reg [⟨(some 7), none, (.mv (.c (.s (.int .i64 0)))), 0⟩] 0)
  (.block 0 (.loop (.seq (.seq (.reg [⟨(some 8), none, (.mv (.t 7)), 0⟩,
       ⟨(some 9), none, (.mv (.t 2)), 0⟩,
       ⟨(some 10), none, (.len (.t 9)), 0⟩,
       ⟨(some 11), none, (.bin .lss (.t 8) (.t 10)), 0⟩] 0)
     (.cond (.t 11)
      .skip
      (.exit 0)))
    (.seq (.block 1 (.seq (.regD [⟨(some 14), none, (.mv (.t 2)), 0⟩,
        ⟨(some 15), none, (.mv (.t 7)), 0⟩,
        ⟨(some 16), none, (.iadS 1 (.t 14) (.t 15)), 0⟩,
        ⟨(some 17), none, (.ld .one (.t 16)), 0⟩,
        ⟨(some 18), none, (.bin .lss (.t 17) (.c (.s (.int .i64 0)))), 0⟩,
        ⟨(some 19), none, (.mv (.t 18)), 0⟩,
        ⟨(some 20), (some (19, false)), (.mv (.t 2)), 0⟩,
        ⟨(some 21), (some (19, false)), (.mv (.t 7)), 0⟩,
        ⟨(some 22), (some (19, false)), (.iadS 1 (.t 20) (.t 21)), 0⟩,
        ⟨(some 23), (some (19, false)), (.ld .one (.t 22)), 0⟩,
        ⟨(some 24), (some (19, false)), (.mv (.t 0)), 0⟩,
        ⟨(some 25), (some (19, false)), (.bin .geq (.t 23) (.t 24)), 0⟩,
        ⟨(some 26), none, (.pick (.t 19) (.c (.s (.bool true))) (.t 25)), 0⟩,
        ⟨(some 27), none, (.mv (.t 26)), 0⟩,
        ⟨(some 28), (some (27, false)), (.mv (.t 7)), 0⟩,
        ⟨(some 29), (some (27, false)), (.bin .gtr (.t 28) (.c (.s (.int .i64 0)))), 0⟩,
        ⟨(some 30), (some (27, false)), (.mv (.t 29)), 0⟩,
        ⟨(some 31), (some (30, true)), (.mv (.t 1)), 0⟩,
        ⟨(some 32), (some (30, true)), (.mv (.t 2)), 0⟩,
        ⟨(some 33), (some (30, true)), (.mv (.t 7)), 0⟩,
        ⟨(some 34), (some (30, true)), (.bin .sub (.t 33) (.c (.s (.int .i64 1)))), 0⟩,
        ⟨(some 35), (some (30, true)), (.iadS 1 (.t 32) (.t 34)), 0⟩,
        ⟨(some 36), (some (30, true)), (.ld .one (.t 35)), 0⟩,
        ⟨(some 37), (some (30, true)), (.mv (.t 2)), 0⟩,
        ⟨(some 38), (some (30, true)), (.mv (.t 7)), 0⟩,
        ⟨(some 39), (some (30, true)), (.iadS 1 (.t 37) (.t 38)), 0⟩,
        ⟨(some 40), (some (30, true)), (.ld .one (.t 39)), 0⟩,
        ⟨(some 41), (some (30, true)), (.bld (.pb [(.int .i64 0), (.int .i64 0)] 0 ff) [((0, 1), (.t 36)), ((1, 1), (.t 40))]), 0⟩,
        ⟨(some 42), (some (30, true)), (.call (.c (.s (.fn 78 []))) [(.t 31), (.t 41)]), 0⟩,
        ⟨(some 43), (some (30, true)), (.not (.t 42)), 8⟩,
        ⟨(some 44), (some (27, false)), (.pick (.t 30) (.t 43) (.c (.s (.bool false)))), 8⟩,
        ⟨(some 45), none, (.pick (.t 27) (.c (.s (.bool true))) (.t 44)), 8⟩] 8 [])
      (.cond (.t 45)
       (.seq (.reg [⟨(some 6), none, (.mv (.c (.s (.bool false)))), 0⟩] 0)
       .ret)
       .skip)))
    (.reg [⟨(some 12), none, (.mv (.t 7)), 0⟩,
     ⟨(some 13), none, (.bin .add (.t 12) (.c (.s (.int .i64 1)))), 0⟩,
     ⟨(some 7), none, (.mv (.t 13)), 0⟩] 0))))))
 (.seq (.reg [⟨(some 46), none, (.mv (.t 2)), 0⟩,
   ⟨(some 47), none, (.len (.t 46)), 0⟩,
   ⟨(some 48), none, (.bin .geq (.t 47) (.c (.s (.int .i64 1)))), 0⟩,
   ⟨(some 6), none, (.mv (.t 48)), 0⟩] 0)
 .ret))), [(.t 6)]⟩

/-- girouette/girouettelaw03.ints -/
def x33 : XFn := ⟨26, (.seq (.reg [⟨(some 4), none, (.mv (.c (.s (.bool false)))), 0⟩] 0)
 (.seq (.seq (.reg [⟨(some 6), none, (.mv (.t 0)), 0⟩,
    ⟨(some 7), none, (.len (.t 6)), 0⟩,
    ⟨(some 8), none, (.mv (.t 1)), 0⟩,
    ⟨(some 9), none, (.len (.t 8)), 0⟩,
    ⟨(some 10), none, (.bin .neq (.t 7) (.t 9)), 0⟩] 0)
  (.cond (.t 10)
   (.seq (.reg [⟨(some 4), none, (.mv (.c (.s (.bool false)))), 0⟩] 0)
   .ret)
   .skip))
 (.seq (.seq (.reg [⟨(some 5), none, (.mv (.c (.s (.int .i64 0)))), 0⟩] 0)
  (.block 0 (.loop (.seq (.seq (.reg [⟨(some 11), none, (.mv (.t 5)), 0⟩,
       ⟨(some 12), none, (.mv (.t 0)), 0⟩,
       ⟨(some 13), none, (.len (.t 12)), 0⟩,
       ⟨(some 14), none, (.bin .lss (.t 11) (.t 13)), 0⟩] 0)
     (.cond (.t 14)
      .skip
      (.exit 0)))
    (.seq (.block 1 (.seq (.regD [⟨(some 17), none, (.mv (.t 0)), 0⟩,
        ⟨(some 18), none, (.mv (.t 5)), 0⟩,
        ⟨(some 19), none, (.iadS 1 (.t 17) (.t 18)), 0⟩,
        ⟨(some 20), none, (.ld .one (.t 19)), 0⟩,
        ⟨(some 21), none, (.mv (.t 1)), 0⟩,
        ⟨(some 22), none, (.mv (.t 5)), 0⟩,
        ⟨(some 23), none, (.iadS 1 (.t 21) (.t 22)), 0⟩,
        ⟨(some 24), none, (.ld .one (.t 23)), 0⟩,
        ⟨(some 25), none, (.bin .neq (.t 20) (.t 24)), 0⟩] 0 [])
      (.cond (.t 25)
       (.seq (.reg [⟨(some 4), none, (.mv (.c (.s (.bool false)))), 0⟩] 0)
       .ret)
       .skip)))
    (.reg [⟨(some 15), none, (.mv (.t 5)), 0⟩,
     ⟨(some 16), none, (.bin .add (.t 15) (.c (.s (.int .i64 1)))), 0⟩,
     ⟨(some 5), none, (.mv (.t 16)), 0⟩] 0))))))
 (.seq (.reg [⟨(some 4), none, (.mv (.c (.s (.bool true)))), 0⟩] 0)
 .ret)))), [(.t 4)]⟩

/-- girouette/girouetteref03.Others -/
def x34 : XFn := ⟨32, (.seq (.reg [⟨(some 4), none, (.mv (.c (.s .nils))), 0⟩] 0)
 (.seq (.reg [⟨(some 5), none, (.mv (.c (.s .nils))), 0⟩] 0)
 (.seq (.seq (.reg [⟨(some 6), none, (.mv (.c (.s (.int .i64 0)))), 0⟩] 0)
  (.block 0 (.loop (.seq (.seq (.reg [⟨(some 8), none, (.mv (.t 6)), 0⟩,
       ⟨(some 9), none, (.mv (.t 0)), 0⟩,
       ⟨(some 10), none, (.bin .lss (.t 8) (.t 9)), 0⟩] 0)
     (.cond (.t 10)
      .skip
      (.exit 0)))
    (.seq (.block 1 (.seq (.reg [⟨(some 13), none, (.mv (.t 6)), 0⟩,
        ⟨(some 14), none, (.bin .add (.t 13) (.c (.s (.int .i64 1)))), 0⟩,
        ⟨(some 7), none, (.mv (.t 14)), 0⟩] 0)
      (.block 2 (.loop (.seq (.seq (.reg [⟨(some 15), none, (.mv (.t 7)), 0⟩,
           ⟨(some 16), none, (.mv (.t 0)), 0⟩,
           ⟨(some 17), none, (.bin .lss (.t 15) (.t 16)), 0⟩] 0)
         (.cond (.t 17)
          .skip
          (.exit 2)))
        (.seq (.block 3 (.seq (.reg [⟨(some 20), none, (.mv (.t 1)), 0⟩,
            ⟨(some 21), none, (.mv (.t 6)), 0⟩,
            ⟨(some 22), none, (.mv (.t 7)), 0⟩,
            ⟨(some 23), none, (.call (.c (.s (.fn 83 []))) [(.t 20), (.t 21), (.t 22)]), 0⟩,
            ⟨(some 24), none, (.not (.t 23)), 8⟩] 8)
          (.cond (.t 24)
           (.reg [⟨(some 25), none, (.mv (.t 5)), 0⟩,
            ⟨(some 26), none, (.mv (.t 6)), 0⟩,
            ⟨(some 27), none, (.mv (.t 7)), 0⟩,
            ⟨(some 28), none, (.bld (.pb [(.int .i64 0), (.int .i64 0)] 0 ff) [((0, 1), (.t 26)), ((1, 1), (.t 27))]), 0⟩,
            ⟨(some 29), none, (.bsl 38 .i64 2 1 [(0, (.t 28))]), 0⟩,
            ⟨(some 30), none, (.app 38 .i64 2 (.t 25) (.t 29)), 1⟩,
            ⟨(some 5), none, (.mv (.t 30)), 2⟩] 2)
           .skip)))
        (.reg [⟨(some 18), none, (.mv (.t 7)), 0⟩,
         ⟨(some 19), none, (.bin .add (.t 18) (.c (.s (.int .i64 1)))), 0⟩,
         ⟨(some 7), none, (.mv (.t 19)), 0⟩] 0)))))))
    (.reg [⟨(some 11), none, (.mv (.t 6)), 0⟩,
     ⟨(some 12), none, (.bin .add (.t 11) (.c (.s (.int .i64 1)))), 0⟩,
     ⟨(some 6), none, (.mv (.t 12)), 0⟩] 0))))))
 (.seq (.reg [⟨(some 31), none, (.mv (.t 5)), 0⟩,
   ⟨(some 4), none, (.mv (.t 31)), 0⟩] 0)
 .ret)))), [(.t 4)]⟩

/-- girouette/girouetteref03.Graph -/
def x35 : XFn := ⟨39, (.seq (.reg [⟨(some 4), none, (.mv (.c (.s .nils))), 0⟩] 0)
 (.seq (.reg [⟨(some 5), none, (.mv (.c (.s .nils))), 0⟩] 0)
 (.seq (.seq (.reg [⟨(some 6), none, (.mv (.c (.s (.int .i64 0)))), 0⟩] 0)
  (.block 0 (.loop (.seq (.seq (.reg [⟨(some 8), none, (.mv (.t 6)), 0⟩,
       ⟨(some 9), none, (.mv (.t 0)), 0⟩,
       ⟨(some 10), none, (.bin .lss (.t 8) (.t 9)), 0⟩] 0)
     (.cond (.t 10)
      .skip
      (.exit 0)))
    (.seq (.block 1 (.seq (.reg [⟨(some 13), none, (.mv (.t 6)), 0⟩,
        ⟨(some 14), none, (.bin .add (.t 13) (.c (.s (.int .i64 1)))), 0⟩,
        ⟨(some 7), none, (.mv (.t 14)), 0⟩] 0)
      (.block 2 (.loop (.seq (.seq (.reg [⟨(some 15), none, (.mv (.t 7)), 0⟩,
           ⟨(some 16), none, (.mv (.t 0)), 0⟩,
           ⟨(some 17), none, (.bin .lss (.t 15) (.t 16)), 0⟩] 0)
         (.cond (.t 17)
          .skip
          (.exit 2)))
        (.seq (.block 3 (.seq (.reg [⟨(some 20), none, (.mv (.t 1)), 0⟩,
            ⟨(some 21), none, (.mv (.t 6)), 0⟩,
            ⟨(some 22), none, (.mv (.t 7)), 0⟩,
            ⟨(some 23), none, (.bld (.pb [(.int .i64 0), (.int .i64 0)] 0 ff) [((0, 1), (.t 21)), ((1, 1), (.t 22))]), 0⟩,
            ⟨(some 24), none, (.call (.c (.s (.fn 78 []))) [(.t 20), (.t 23)]), 0⟩,
            ⟨(some 25), none, (.mv (.t 24)), 8⟩,
            ⟨(some 26), (some (25, false)), (.mv (.t 1)), 8⟩,
            ⟨(some 27), (some (25, false)), (.mv (.t 7)), 8⟩,
            ⟨(some 28), (some (25, false)), (.mv (.t 6)), 8⟩,
            ⟨(some 29), (some (25, false)), (.bld (.pb [(.int .i64 0), (.int .i64 0)] 0 ff) [((0, 1), (.t 27)), ((1, 1), (.t 28))]), 8⟩,
            ⟨(some 30), (some (25, false)), (.call (.c (.s (.fn 78 []))) [(.t 26), (.t 29)]), 8⟩,
            ⟨(some 31), none, (.pick (.t 25) (.c (.s (.bool true))) (.t 30)), 16⟩] 16)
          (.cond (.t 31)
           (.reg [⟨(some 32), none, (.mv (.t 5)), 0⟩,
            ⟨(some 33), none, (.mv (.t 6)), 0⟩,
            ⟨(some 34), none, (.mv (.t 7)), 0⟩,
            ⟨(some 35), none, (.bld (.pb [(.int .i64 0), (.int .i64 0)] 0 ff) [((0, 1), (.t 33)), ((1, 1), (.t 34))]), 0⟩,
            ⟨(some 36), none, (.bsl 38 .i64 2 1 [(0, (.t 35))]), 0⟩,
            ⟨(some 37), none, (.app 38 .i64 2 (.t 32) (.t 36)), 1⟩,
            ⟨(some 5), none, (.mv (.t 37)), 2⟩] 2)
           .skip)))
        (.reg [⟨(some 18), none, (.mv (.t 7)), 0⟩,
         ⟨(some 19), none, (.bin .add (.t 18) (.c (.s (.int .i64 1)))), 0⟩,
         ⟨(some 7), none, (.mv (.t 19)), 0⟩] 0)))))))
    (.reg [⟨(some 11), none, (.mv (.t 6)), 0⟩,
     ⟨(some 12), none, (.bin .add (.t 11) (.c (.s (.int .i64 1)))), 0⟩,
     ⟨(some 6), none, (.mv (.t 12)), 0⟩] 0))))))
 (.seq (.reg [⟨(some 38), none, (.mv (.t 5)), 0⟩,
   ⟨(some 4), none, (.mv (.t 38)), 0⟩] 0)
 .ret)))), [(.t 4)]⟩

/-- girouette/girouetteref03.Clash -/
def x36 : XFn := ⟨71, (.seq (.reg [⟨(some 4), none, (.mv (.c (.s (.int .i64 0)))), 0⟩] 0)
 (.seq (.reg [⟨(some 11), none, (.mv (.t 0)), 0⟩,
   ⟨(some 12), none, (.mv (.t 1)), 0⟩,
   ⟨(some 13), none, (.call (.c (.s (.fn 84 []))) [(.t 11), (.t 12)]), 0⟩,
   ⟨(some 5), none, (.mv (.t 13)), 8⟩] 8)
 (.seq (.reg [⟨(some 6), none, (.mv (.c (.s (.int .i64 0)))), 0⟩] 0)
 (.seq (.seq (.reg [⟨(some 7), none, (.mv (.c (.s (.int .i64 0)))), 0⟩] 0)
  (.block 0 (.loop (.seq (.seq (.reg [⟨(some 14), none, (.mv (.t 7)), 0⟩,
       ⟨(some 15), none, (.mv (.t 5)), 0⟩,
       ⟨(some 16), none, (.len (.t 15)), 0⟩,
       ⟨(some 17), none, (.bin .lss (.t 14) (.t 16)), 0⟩] 0)
     (.cond (.t 17)
      .skip
      (.exit 0)))
    (.seq (.block 1 (.seq (.reg [⟨(some 21), none, (.mv (.t 0)), 0⟩,
        ⟨(some 22), none, (.mv (.t 1)), 0⟩,
        ⟨(some 23), none, (.mv (.t 5)), 0⟩,
        ⟨(some 24), none, (.mv (.t 7)), 0⟩,
        ⟨(some 25), none, (.iadS 2 (.t 23) (.t 24)), 0⟩,
        ⟨(some 26), none, (.ld (.many 2 0) (.t 25)), 0⟩,
        ⟨(some 27), none, (.call (.c (.s (.fn 85 []))) [(.t 21), (.t 22), (.t 26)]), 0⟩,
        ⟨(some 20), none, (.mv (.t 27)), 8⟩,
        ⟨(some 28), none, (.extr (.t 20) 0), 8⟩,
        ⟨(some 29), none, (.extr (.t 20) 1), 8⟩,
        ⟨(some 8), none, (.mv (.t 28)), 8⟩,
        ⟨(some 9), none, (.mv (.t 29)), 8⟩] 8)
      (.seq (.reg [⟨(some 10), none, (.mv (.c (.s (.int .i64 0)))), 0⟩] 0)
      (.block 2 (.loop (.seq (.seq (.reg [⟨(some 30), none, (.mv (.t 10)), 0⟩,
           ⟨(some 31), none, (.mv (.t 8)), 0⟩,
           ⟨(some 32), none, (.len (.t 31)), 0⟩,
           ⟨(some 33), none, (.bin .lss (.t 30) (.t 32)), 0⟩] 0)
         (.cond (.t 33)
          .skip
          (.exit 2)))
        (.seq (.block 3 (.seq (.regD [⟨(some 36), none, (.mv (.t 8)), 0⟩,
            ⟨(some 37), none, (.mv (.t 10)), 0⟩,
            ⟨(some 38), none, (.iadS 2 (.t 36) (.t 37)), 0⟩,
            ⟨(some 39), none, (.ld (.many 2 0) (.t 38)), 0⟩,
            ⟨(some 40), none, (.mv (.t 5)), 0⟩,
            ⟨(some 41), none, (.mv (.t 7)), 0⟩,
            ⟨(some 42), none, (.iadS 2 (.t 40) (.t 41)), 0⟩,
            ⟨(some 43), none, (.iad 2 1 (.t 42) (.c (.s (.int .i64 1)))), 0⟩,
            ⟨(some 44), none, (.ld .one (.t 43)), 0⟩,
            ⟨(some 45), none, (.mv (.t 5)), 0⟩,
            ⟨(some 46), none, (.mv (.t 7)), 0⟩,
            ⟨(some 47), none, (.iadS 2 (.t 45) (.t 46)), 0⟩,
            ⟨(some 48), none, (.iad 2 1 (.t 47) (.c (.s (.int .i64 0)))), 0⟩,
            ⟨(some 49), none, (.ld .one (.t 48)), 0⟩,
            ⟨(some 50), none, (.bld (.pb [(.int .i64 0), (.int .i64 0)] 0 ff) [((0, 1), (.t 44)), ((1, 1), (.t 49))]), 0⟩,
            ⟨(some 51), none, (.eqv (.agg 2 0) false (.t 39) (.t 50)), 0⟩,
            ⟨(some 52), none, (.mv (.t 51)), 0⟩,
            ⟨(some 53), (some (52, true)), (.mv (.t 6)), 0⟩,
            ⟨(some 54), (some (52, true)), (.bin .eql (.t 53) (.c (.s (.int .i64 0)))), 0⟩,
            ⟨(some 55), (some (52, true)), (.mv (.t 54)), 0⟩,
            ⟨(some 56), (some (55, false)), (.mv (.t 9)), 0⟩,
            ⟨(some 57), (some (55, false)), (.mv (.t 10)), 0⟩,
            ⟨(some 58), (some (55, false)), (.iadS 1 (.t 56) (.t 57)), 0⟩,
            ⟨(some 59), (some (55, false)), (.ld .one (.t 58)), 0⟩,
            ⟨(some 60), (some (55, false)), (.bin .add (.t 59) (.c (.s (.int .i64 1)))), 0⟩,
            ⟨(some 61), (some (55, false)), (.mv (.t 6)), 0⟩,
            ⟨(some 62), (some (55, false)), (.bin .lss (.t 60) (.t 61)), 0⟩,
            ⟨(some 63), (some (52, true)), (.pick (.t 55) (.c (.s (.bool true))) (.t 62)), 0⟩,
            ⟨(some 64), none, (.pick (.t 52) (.t 63) (.c (.s (.bool false)))), 0⟩] 0 [])
          (.cond (.t 64)
           (.reg [⟨(some 65), none, (.mv (.t 9)), 0⟩,
            ⟨(some 66), none, (.mv (.t 10)), 0⟩,
            ⟨(some 67), none, (.iadS 1 (.t 65) (.t 66)), 0⟩,
            ⟨(some 68), none, (.ld .one (.t 67)), 0⟩,
            ⟨(some 69), none, (.bin .add (.t 68) (.c (.s (.int .i64 1)))), 0⟩,
            ⟨(some 6), none, (.mv (.t 69)), 0⟩] 0)
           .skip)))
        (.reg [⟨(some 34), none, (.mv (.t 10)), 0⟩,
         ⟨(some 35), none, (.bin .add (.t 34) (.c (.s (.int .i64 1)))), 0⟩,
         ⟨(some 10), none, (.mv (.t 35)), 0⟩] 0))))))))
    (.reg [⟨(some 18), none, (.mv (.t 7)), 0⟩,
     ⟨(some 19), none, (.bin .add (.t 18) (.c (.s (.int .i64 1)))), 0⟩,
     ⟨(some 7), none, (.mv (.t 19)), 0⟩] 0))))))
 (.seq (.reg [⟨(some 70), none, (.mv (.t 6)), 0⟩,
   ⟨(some 4), none, (.mv (.t 70)), 0⟩] 0)
 .ret))))), [(.t 4)]⟩

/-- girouette/girouetteref03.Lines -/
def x37 : XFn := ⟨57, (.seq (.reg [⟨(some 3), none, (.box 48 (.t 1)), 0⟩,
   ⟨(some 4), none, (.mv (.c (.s (.bool false)))), 1⟩] 1)
 (.seq (.seq (.reg [⟨(some 5), none, (.mv (.c (.s (.int .i64 0)))), 0⟩] 0)
  (.block 0 (.loop (.seq (.seq (.reg [⟨(some 9), none, (.mv (.t 5)), 0⟩,
       ⟨(some 10), none, (.bin .lss (.t 9) (.c (.s (.int .i64 2)))), 0⟩] 0)
     (.cond (.t 10)
      .skip
      (.exit 0)))
    (.seq (.block 1 (.seq (.reg [⟨(some 6), none, (.mv (.c (.s (.int .i64 0)))), 0⟩] 0)
      (.seq (.seq (.reg [⟨(some 7), none, (.mv (.c (.s (.int .i64 0)))), 0⟩] 0)
       (.block 2 (.loop (.seq (.seq (.reg [⟨(some 13), none, (.mv (.t 7)), 0⟩,
            ⟨(some 14), none, (.mv (.t 5)), 0⟩,
            ⟨(some 15), none, (.iad 2 1 (.t 3) (.t 14)), 0⟩,
            ⟨(some 16), none, (.ld .one (.t 15)), 0⟩,
            ⟨(some 17), none, (.len (.t 16)), 0⟩,
            ⟨(some 18), none, (.bin .lss (.t 13) (.t 17)), 0⟩] 0)
          (.cond (.t 18)
           .skip
           (.exit 2)))
         (.seq (.block 3 (.seq (.reg [⟨(some 21), none, (.mv (.t 5)), 0⟩,
             ⟨(some 22), none, (.iad 2 1 (.t 3) (.t 21)), 0⟩,
             ⟨(some 23), none, (.ld .one (.t 22)), 0⟩,
             ⟨(some 24), none, (.mv (.t 7)), 0⟩,
             ⟨(some 25), none, (.iadS 1 (.t 23) (.t 24)), 0⟩,
             ⟨(some 26), none, (.ld .one (.t 25)), 0⟩,
             ⟨(some 8), none, (.mv (.t 26)), 0⟩] 0)
           (.seq (.seq (.reg [⟨(some 27), none, (.mv (.t 8)), 0⟩,
              ⟨(some 28), none, (.bin .lss (.t 27) (.c (.s (.int .i64 0)))), 0⟩,
              ⟨(some 29), none, (.mv (.t 28)), 0⟩,
              ⟨(some 30), (some (29, false)), (.mv (.t 8)), 0⟩,
              ⟨(some 31), (some (29, false)), (.mv (.t 0)), 0⟩,
              ⟨(some 32), (some (29, false)), (.bin .geq (.t 30) (.t 31)), 0⟩,
              ⟨(some 33), none, (.pick (.t 29) (.c (.s (.bool true))) (.t 32)), 0⟩,
              ⟨(some 34), none, (.mv (.t 33)), 0⟩,
              ⟨(some 35), (some (34, false)), (.mv (.t 6)), 0⟩,
              ⟨(some 36), (some (34, false)), (.mv (.t 8)), 0⟩,
              ⟨(some 37), (some (34, false)), (.bin .shr (.t 35) (.t 36)), 0⟩,
              ⟨(some 38), (some (34, false)), (.bin .rem (.t 37) (.c (.s (.int .i64 2)))), 0⟩,
              ⟨(some 39), (some (34, false)), (.bin .eql (.t 38) (.c (.s (.int .i64 1)))), 0⟩,
              ⟨(some 40), none, (.pick (.t 34) (.c (.s (.bool true))) (.t 39)), 0⟩] 0)
            (.cond (.t 40)
             (.seq (.reg [⟨(some 4), none, (.mv (.c (.s (.bool false)))), 0⟩] 0)
             .ret)
             .skip))
           (.reg [⟨(some 41), none, (.mv (.t 6)), 0⟩,
            ⟨(some 42), none, (.mv (.t 8)), 0⟩,
            ⟨(some 43), none, (.bin .shl (.c (.s (.int .i64 1))) (.t 42)), 0⟩,
            ⟨(some 44), none, (.bin .or (.t 41) (.t 43)), 0⟩,
            ⟨(some 6), none, (.mv (.t 44)), 0⟩] 0))))
         (.reg [⟨(some 19), none, (.mv (.t 7)), 0⟩,
          ⟨(some 20), none, (.bin .add (.t 19) (.c (.s (.int .i64 1)))), 0⟩,
          ⟨(some 7), none, (.mv (.t 20)), 0⟩] 0))))))
      (.seq (.reg [⟨(some 45), none, (.mv (.t 5)), 0⟩,
        ⟨(some 46), none, (.iad 2 1 (.t 3) (.t 45)), 0⟩,
        ⟨(some 47), none, (.ld .one (.t 46)), 0⟩,
        ⟨(some 48), none, (.len (.t 47)), 0⟩,
        ⟨(some 49), none, (.mv (.t 0)), 0⟩,
        ⟨(some 50), none, (.bin .neq (.t 48) (.t 49)), 0⟩] 0)
      (.cond (.t 50)
       (.seq (.reg [⟨(some 4), none, (.mv (.c (.s (.bool false)))), 0⟩] 0)
       .ret)
       .skip)))))
    (.reg [⟨(some 11), none, (.mv (.t 5)), 0⟩,
     ⟨(some 12), none, (.bin .add (.t 11) (.c (.s (.int .i64 1)))), 0⟩,
     ⟨(some 5), none, (.mv (.t 12)), 0⟩] 0))))))
 (.seq (.reg [⟨(some 51), none, (.mv (.t 0)), 0⟩,
   ⟨(some 52), none, (.bin .geq (.t 51) (.c (.s (.int .i64 1)))), 0⟩,
   ⟨(some 53), none, (.mv (.t 52)), 0⟩,
   ⟨(some 54), (some (53, true)), (.mv (.t 0)), 0⟩,
   ⟨(some 55), (some (53, true)), (.bin .leq (.t 54) (.c (.s (.int .i64 7)))), 0⟩,
   ⟨(some 56), none, (.pick (.t 53) (.t 55) (.c (.s (.bool false)))), 0⟩,
   ⟨(some 4), none, (.mv (.t 56)), 0⟩] 0)
 .ret))), [(.t 4)]⟩

/-- girouette/girouetteref03.Common -/
def x38 : XFn := ⟨42, (.seq (.reg [⟨(some 3), none, (.box 48 (.t 1)), 0⟩,
   ⟨(some 4), none, (.mv (.c (.s .nils))), 1⟩] 1)
 (.seq (.reg [⟨(some 5), none, (.mv (.c (.s .nils))), 0⟩] 0)
 (.seq (.seq (.reg [⟨(some 6), none, (.mv (.c (.s (.int .i64 0)))), 0⟩] 0)
  (.block 0 (.loop (.seq (.seq (.reg [⟨(some 8), none, (.mv (.t 6)), 0⟩,
       ⟨(some 9), none, (.mv (.t 0)), 0⟩,
       ⟨(some 10), none, (.bin .lss (.t 8) (.t 9)), 0⟩] 0)
     (.cond (.t 10)
      .skip
      (.exit 0)))
    (.seq (.block 1 (.seq (.reg [⟨(some 7), none, (.mv (.c (.s (.int .i64 0)))), 0⟩] 0)
      (.block 2 (.loop (.seq (.seq (.reg [⟨(some 13), none, (.mv (.t 7)), 0⟩,
           ⟨(some 14), none, (.mv (.t 0)), 0⟩,
           ⟨(some 15), none, (.bin .lss (.t 13) (.t 14)), 0⟩] 0)
         (.cond (.t 15)
          .skip
          (.exit 2)))
        (.seq (.block 3 (.seq (.reg [⟨(some 18), none, (.mv (.t 6)), 0⟩,
            ⟨(some 19), none, (.mv (.t 7)), 0⟩,
            ⟨(some 20), none, (.bin .neq (.t 18) (.t 19)), 0⟩,
            ⟨(some 21), none, (.mv (.t 20)), 0⟩,
            ⟨(some 22), (some (21, true)), (.iad 2 1 (.t 3) (.c (.s (.int .i64 0)))), 0⟩,
            ⟨(some 23), (some (21, true)), (.ld .one (.t 22)), 0⟩,
            ⟨(some 24), (some (21, true)), (.mv (.t 6)), 0⟩,
            ⟨(some 25), (some (21, true)), (.mv (.t 7)), 0⟩,
            ⟨(some 26), (some (21, true)), (.call (.c (.s (.fn 86 []))) [(.t 23), (.t 24), (.t 25)]), 0⟩,
            ⟨(some 27), none, (.pick (.t 21) (.t 26) (.c (.s (.bool false)))), 8⟩,
            ⟨(some 28), none, (.mv (.t 27)), 8⟩,
            ⟨(some 29), (some (28, true)), (.iad 2 1 (.t 3) (.c (.s (.int .i64 1)))), 8⟩,
            ⟨(some 30), (some (28, true)), (.ld .one (.t 29)), 8⟩,
            ⟨(some 31), (some (28, true)), (.mv (.t 6)), 8⟩,
            ⟨(some 32), (some (28, true)), (.mv (.t 7)), 8⟩,
            ⟨(some 33), (some (28, true)), (.call (.c (.s (.fn 86 []))) [(.t 30), (.t 31), (.t 32)]), 8⟩,
            ⟨(some 34), none, (.pick (.t 28) (.t 33) (.c (.s (.bool false)))), 16⟩] 16)
          (.cond (.t 34)
           (.reg [⟨(some 35), none, (.mv (.t 5)), 0⟩,
            ⟨(some 36), none, (.mv (.t 6)), 0⟩,
            ⟨(some 37), none, (.mv (.t 7)), 0⟩,
            ⟨(some 38), none, (.bld (.pb [(.int .i64 0), (.int .i64 0)] 0 ff) [((0, 1), (.t 36)), ((1, 1), (.t 37))]), 0⟩,
            ⟨(some 39), none, (.bsl 38 .i64 2 1 [(0, (.t 38))]), 0⟩,
            ⟨(some 40), none, (.app 38 .i64 2 (.t 35) (.t 39)), 1⟩,
            ⟨(some 5), none, (.mv (.t 40)), 2⟩] 2)
           .skip)))
        (.reg [⟨(some 16), none, (.mv (.t 7)), 0⟩,
         ⟨(some 17), none, (.bin .add (.t 16) (.c (.s (.int .i64 1)))), 0⟩,
         ⟨(some 7), none, (.mv (.t 17)), 0⟩] 0)))))))
    (.reg [⟨(some 11), none, (.mv (.t 6)), 0⟩,
     ⟨(some 12), none, (.bin .add (.t 11) (.c (.s (.int .i64 1)))), 0⟩,
     ⟨(some 6), none, (.mv (.t 12)), 0⟩] 0))))))
 (.seq (.reg [⟨(some 41), none, (.mv (.t 5)), 0⟩,
   ⟨(some 4), none, (.mv (.t 41)), 0⟩] 0)
 .ret)))), [(.t 4)]⟩

/-- girouette/girouettelaw03.few -/
def x39 : XFn := ⟨14, (.seq (.reg [⟨(some 4), none, (.mv (.c (.s .nils))), 0⟩] 0)
 (.seq (.reg [⟨(some 5), none, (.mv (.c (.s .nils))), 0⟩] 0)
 (.seq (.reg [⟨(some 6), none, (.mv (.t 5)), 0⟩,
   ⟨(some 7), none, (.mv (.t 0)), 0⟩,
   ⟨(some 8), none, (.mv (.t 0)), 0⟩,
   ⟨(some 9), none, (.len (.t 8)), 0⟩,
   ⟨(some 10), none, (.mv (.t 1)), 0⟩,
   ⟨(some 11), none, (.mn [(.t 9), (.t 10)]), 0⟩,
   ⟨(some 12), none, (.slc 2 (.t 7) none (some (.t 11))), 0⟩,
   ⟨(some 13), none, (.app 38 .i64 2 (.t 6) (.t 12)), 0⟩,
   ⟨(some 4), none, (.mv (.t 13)), 1⟩] 1)
 .ret))), [(.t 4)]⟩

/-- girouette/girouetteref03.Check -/
def x40 : XFn := ⟨59, (.seq (.reg [⟨(some 4), none, (.mv (.c (.s (.int .i64 0)))), 0⟩] 0)
 (.seq (.seq (.reg [⟨(some 8), none, (.mv (.t 0)), 0⟩,
    ⟨(some 9), none, (.bin .lss (.t 8) (.c (.s (.int .i64 1)))), 0⟩,
    ⟨(some 10), none, (.mv (.t 9)), 0⟩,
    ⟨(some 11), (some (10, false)), (.mv (.t 0)), 0⟩,
    ⟨(some 12), (some (10, false)), (.bin .gtr (.t 11) (.c (.s (.int .i64 7)))), 0⟩,
    ⟨(some 13), none, (.pick (.t 10) (.c (.s (.bool true))) (.t 12)), 0⟩] 0)
  (.cond (.t 13)
   (.seq (.reg [⟨(some 4), none, (.mv (.c (.s (.int .i64 1)))), 0⟩] 0)
   .ret)
   .skip))
 (.seq (.seq (.reg [⟨(some 5), none, (.mv (.c (.s (.int .i64 0)))), 0⟩] 0)
  (.block 0 (.loop (.seq (.seq (.reg [⟨(some 14), none, (.mv (.t 5)), 0⟩,
       ⟨(some 15), none, (.mv (.t 1)), 0⟩,
       ⟨(some 16), none, (.len (.t 15)), 0⟩,
       ⟨(some 17), none, (.bin .lss (.t 14) (.t 16)), 0⟩] 0)
     (.cond (.t 17)
      .skip
      (.exit 0)))
    (.seq (.block 1 (.seq (.regD [⟨(some 20), none, (.mv (.t 1)), 0⟩,
        ⟨(some 21), none, (.mv (.t 5)), 0⟩,
        ⟨(some 22), none, (.iadS 2 (.t 20) (.t 21)), 0⟩,
        ⟨(some 23), none, (.iad 2 1 (.t 22) (.c (.s (.int .i64 0)))), 0⟩,
        ⟨(some 24), none, (.ld .one (.t 23)), 0⟩,
        ⟨(some 25), none, (.mv (.t 1)), 0⟩,
        ⟨(some 26), none, (.mv (.t 5)), 0⟩,
        ⟨(some 27), none, (.iadS 2 (.t 25) (.t 26)), 0⟩,
        ⟨(some 28), none, (.iad 2 1 (.t 27) (.c (.s (.int .i64 1)))), 0⟩,
        ⟨(some 29), none, (.ld .one (.t 28)), 0⟩,
        ⟨(some 6), none, (.mv (.t 24)), 0⟩,
        ⟨(some 7), none, (.mv (.t 29)), 0⟩] 0 [])
      (.seq (.regD [⟨(some 30), none, (.mv (.t 6)), 0⟩,
        ⟨(some 31), none, (.bin .lss (.t 30) (.c (.s (.int .i64 0)))), 0⟩,
        ⟨(some 32), none, (.mv (.t 31)), 0⟩,
        ⟨(some 33), (some (32, false)), (.mv (.t 6)), 0⟩,
        ⟨(some 34), (some (32, false)), (.mv (.t 7)), 0⟩,
        ⟨(some 35), (some (32, false)), (.bin .geq (.t 33) (.t 34)), 0⟩,
        ⟨(some 36), none, (.pick (.t 32) (.c (.s (.bool true))) (.t 35)), 0⟩,
        ⟨(some 37), none, (.mv (.t 36)), 0⟩,
        ⟨(some 38), (some (37, false)), (.mv (.t 7)), 0⟩,
        ⟨(some 39), (some (37, false)), (.mv (.t 0)), 0⟩,
        ⟨(some 40), (some (37, false)), (.bin .geq (.t 38) (.t 39)), 0⟩,
        ⟨(some 41), none, (.pick (.t 37) (.c (.s (.bool true))) (.t 40)), 0⟩,
        ⟨(some 42), none, (.mv (.t 41)), 0⟩,
        ⟨(some 43), (some (42, false)), (.mv (.t 5)), 0⟩,
        ⟨(some 44), (some (42, false)), (.bin .gtr (.t 43) (.c (.s (.int .i64 0)))), 0⟩,
        ⟨(some 45), (some (42, false)), (.mv (.t 44)), 0⟩,
        ⟨(some 46), (some (45, true)), (.mv (.t 1)), 0⟩,
        ⟨(some 47), (some (45, true)), (.mv (.t 5)), 0⟩,
        ⟨(some 48), (some (45, true)), (.bin .sub (.t 47) (.c (.s (.int .i64 1)))), 0⟩,
        ⟨(some 49), (some (45, true)), (.iadS 2 (.t 46) (.t 48)), 0⟩,
        ⟨(some 50), (some (45, true)), (.ld (.many 2 0) (.t 49)), 0⟩,
        ⟨(some 51), (some (45, true)), (.mv (.t 1)), 0⟩,
        ⟨(some 52), (some (45, true)), (.mv (.t 5)), 0⟩,
        ⟨(some 53), (some (45, true)), (.iadS 2 (.t 51) (.t 52)), 0⟩,
        ⟨(some 54), (some (45, true)), (.ld (.many 2 0) (.t 53)), 0⟩,
        ⟨(some 55), (some (45, true)), (.call (.c (.s (.fn 79 []))) [(.t 50), (.t 54)]), 0⟩,
        ⟨(some 56), (some (45, true)), (.not (.t 55)), 8⟩,
        ⟨(some 57), (some (42, false)), (.pick (.t 45) (.t 56) (.c (.s (.bool false)))), 8⟩,
        ⟨(some 58), none, (.pick (.t 42) (.c (.s (.bool true))) (.t 57)), 8⟩] 8 [])
      (.cond (.t 58)
       (.seq (.reg [⟨(some 4), none, (.mv (.c (.s (.int .i64 20)))), 0⟩] 0)
       .ret)
       .skip))))
    (.reg [⟨(some 18), none, (.mv (.t 5)), 0⟩,
     ⟨(some 19), none, (.bin .add (.t 18) (.c (.s (.int .i64 1)))), 0⟩,
     ⟨(some 5), none, (.mv (.t 19)), 0⟩] 0))))))
 (.seq (.reg [⟨(some 4), none, (.mv (.c (.s (.int .i64 0)))), 0⟩] 0)
 .ret)))), [(.t 4)]⟩

/-- girouette/orders.Check -/
def x41 : XFn := ⟨14, (.seq (.reg [⟨(some 4), none, (.mv (.c (.s (.int .i64 0)))), 0⟩] 0)
 (.seq (.reg [⟨(some 8), none, (.mv (.t 0)), 0⟩,
   ⟨(some 9), none, (.mv (.t 1)), 0⟩,
   ⟨(some 10), none, (.call (.c (.s (.fn 48 []))) [(.t 8), (.t 9)]), 0⟩,
   ⟨(some 7), none, (.mv (.t 10)), 8⟩,
   ⟨(some 11), none, (.extr (.t 7) 0), 8⟩,
   ⟨(some 12), none, (.extr (.t 7) 1), 8⟩,
   ⟨(some 5), none, (.mv (.t 11)), 8⟩,
   ⟨(some 6), none, (.mv (.t 12)), 8⟩] 8)
 (.seq (.reg [⟨(some 13), none, (.mv (.t 6)), 0⟩,
   ⟨(some 4), none, (.mv (.t 13)), 0⟩] 0)
 .ret))), [(.t 4)]⟩

/-- girouette/orders.Others -/
def x42 : XFn := ⟨20, (.seq (.reg [⟨(some 4), none, (.mv (.c (.s .nils))), 0⟩,
   ⟨(some 5), none, (.mv (.c (.s (.int .i64 0)))), 0⟩] 0)
 (.seq (.reg [⟨(some 9), none, (.mv (.t 0)), 0⟩,
   ⟨(some 10), none, (.mv (.t 1)), 0⟩,
   ⟨(some 11), none, (.call (.c (.s (.fn 48 []))) [(.t 9), (.t 10)]), 0⟩,
   ⟨(some 8), none, (.mv (.t 11)), 8⟩,
   ⟨(some 12), none, (.extr (.t 8) 0), 8⟩,
   ⟨(some 13), none, (.extr (.t 8) 1), 8⟩,
   ⟨(some 6), none, (.mv (.t 12)), 8⟩,
   ⟨(some 7), none, (.mv (.t 13)), 8⟩] 8)
 (.seq (.seq (.reg [⟨(some 14), none, (.mv (.t 7)), 0⟩,
    ⟨(some 15), none, (.bin .neq (.t 14) (.c (.s (.int .i64 0)))), 0⟩] 0)
  (.cond (.t 15)
   (.seq (.reg [⟨(some 16), none, (.mv (.t 7)), 0⟩,
     ⟨(some 4), none, (.mv (.c (.s .nils))), 0⟩,
     ⟨(some 5), none, (.mv (.t 16)), 0⟩] 0)
   .ret)
   .skip))
 (.seq (.reg [⟨(some 17), none, (.mv (.t 6)), 0⟩,
   ⟨(some 18), none, (.call (.c (.s (.fn 81 []))) [(.t 17)]), 0⟩,
   ⟨(some 19), none, (.call (.c (.s (.fn 49 []))) [(.t 18)]), 8⟩,
   ⟨(some 4), none, (.mv (.t 19)), 16⟩,
   ⟨(some 5), none, (.mv (.c (.s (.int .i64 0)))), 16⟩] 16)
 .ret)))), [(.t 4), (.t 5)]⟩

/-- girouette/orders.Forces -/
def x43 : XFn := ⟨51, (.seq (.reg [⟨(some 6), none, (.box 38 (.t 2)), 0⟩,
   ⟨(some 7), none, (.box 38 (.t 3)), 1⟩,
   ⟨(some 8), none, (.alloc 4 (.s (.bool false))), 2⟩,
   ⟨(some 9), none, (.alloc 25 (.s (.int .i64 0))), 3⟩] 4)
 (.seq (.reg [⟨(some 16), none, (.mv (.t 0)), 0⟩,
   ⟨(some 17), none, (.mv (.t 1)), 0⟩,
   ⟨(some 18), none, (.call (.c (.s (.fn 48 []))) [(.t 16), (.t 17)]), 0⟩,
   ⟨(some 15), none, (.mv (.t 18)), 8⟩,
   ⟨(some 19), none, (.extr (.t 15) 0), 8⟩,
   ⟨(some 20), none, (.extr (.t 15) 1), 8⟩,
   ⟨(some 10), none, (.mv (.t 19)), 8⟩,
   ⟨(some 11), none, (.mv (.t 20)), 8⟩] 8)
 (.seq (.seq (.reg [⟨(some 21), none, (.mv (.t 11)), 0⟩,
    ⟨(some 22), none, (.bin .neq (.t 21) (.c (.s (.int .i64 0)))), 0⟩] 0)
  (.cond (.t 22)
   (.seq (.reg [⟨(some 23), none, (.mv (.t 11)), 0⟩,
     ⟨none, none, (.st .one (.t 8) (.c (.s (.bool false)))), 0⟩,
     ⟨none, none, (.st .one (.t 9) (.t 23)), 0⟩] 0)
   .ret)
   .skip))
 (.seq (.regD [⟨(some 24), none, (.iad 2 1 (.t 6) (.c (.s (.int .i64 0)))), 0⟩,
   ⟨(some 25), none, (.ld .one (.t 24)), 0⟩,
   ⟨(some 26), none, (.iad 2 1 (.t 6) (.c (.s (.int .i64 1)))), 0⟩,
   ⟨(some 27), none, (.ld .one (.t 26)), 0⟩,
   ⟨(some 28), none, (.bld (.pb [(.int .i64 0), (.int .i64 0)] 0 ff) [((0, 1), (.t 25)), ((1, 1), (.t 27))]), 0⟩,
   ⟨(some 29), none, (.iad 2 1 (.t 7) (.c (.s (.int .i64 0)))), 0⟩,
   ⟨(some 30), none, (.ld .one (.t 29)), 0⟩,
   ⟨(some 31), none, (.iad 2 1 (.t 7) (.c (.s (.int .i64 1)))), 0⟩,
   ⟨(some 32), none, (.ld .one (.t 31)), 0⟩,
   ⟨(some 33), none, (.bld (.pb [(.int .i64 0), (.int .i64 0)] 0 ff) [((0, 1), (.t 30)), ((1, 1), (.t 32))]), 0⟩,
   ⟨(some 12), none, (.alloc 77 (.pb [(.int .i64 0), (.int .i64 0)] 0 ff)), 0⟩,
   ⟨(some 13), none, (.alloc 77 (.pb [(.int .i64 0), (.int .i64 0)] 0 ff)), 1⟩,
   ⟨none, none, (.st (.many 2 0) (.t 12) (.t 28)), 2⟩,
   ⟨none, none, (.st (.many 2 0) (.t 13) (.t 33)), 2⟩] 2 [(1, 10), (3, 10), (6, 10), (8, 10), (1, 11), (3, 11), (6, 11), (8, 11), (10, 11), (6, 12), (8, 12)])
 (.seq (.seq (.reg [⟨(some 34), none, (.mv (.t 10)), 0⟩,
    ⟨(some 35), none, (.ld (.many 2 0) (.t 12)), 0⟩,
    ⟨(some 36), none, (.call (.c (.s (.fn 87 []))) [(.t 34), (.t 35)]), 0⟩,
    ⟨(some 37), none, (.not (.t 36)), 8⟩,
    ⟨(some 38), none, (.mv (.t 37)), 8⟩,
    ⟨(some 39), (some (38, false)), (.mv (.t 10)), 8⟩,
    ⟨(some 40), (some (38, false)), (.ld (.many 2 0) (.t 13)), 8⟩,
    ⟨(some 41), (some (38, false)), (.call (.c (.s (.fn 87 []))) [(.t 39), (.t 40)]), 8⟩,
    ⟨(some 42), (some (38, false)), (.not (.t 41)), 16⟩,
    ⟨(some 43), none, (.pick (.t 38) (.c (.s (.bool true))) (.t 42)), 16⟩] 16)
  (.cond (.t 43)
   (.seq (.reg [⟨none, none, (.st .one (.t 8) (.c (.s (.bool false)))), 0⟩,
     ⟨none, none, (.st .one (.t 9) (.c (.s (.int .i64 1)))), 0⟩] 0)
   .ret)
   .skip))
 (.seq (.seq (.reg [⟨(some 44), none, (.mv (.t 10)), 0⟩,
    ⟨(some 45), none, (.ld (.many 2 0) (.t 12)), 0⟩,
    ⟨(some 46), none, (.call (.c (.s (.fn 88 []))) [(.t 44), (.t 45)]), 0⟩] 8)
  (.block 0 (.rf (.t 46) [47] (.reg [⟨(some 14), none, (.alloc 77 (.pb [(.int .i64 0), (.int .i64 0)] 0 ff)), 0⟩,
     ⟨none, none, (.st (.many 2 0) (.t 14) (.t 47)), 1⟩] 1) (.block 1 (.seq (.reg [⟨(some 48), none, (.ld (.many 2 0) (.t 14)), 0⟩,
       ⟨(some 49), none, (.ld (.many 2 0) (.t 13)), 0⟩,
       ⟨(some 50), none, (.eqv (.agg 2 0) false (.t 48) (.t 49)), 0⟩] 0)
     (.cond (.t 50)
      (.seq (.reg [⟨none, none, (.st .one (.t 8) (.c (.s (.bool true)))), 0⟩,
        ⟨none, none, (.st .one (.t 9) (.c (.s (.int .i64 0)))), 0⟩] 0)
      .ret)
      .skip))))))
 (.seq (.reg [⟨none, none, (.st .one (.t 8) (.c (.s (.bool false)))), 0⟩,
   ⟨none, none, (.st .one (.t 9) (.c (.s (.int .i64 0)))), 0⟩] 0)
 .ret))))))), [(.cell 8 .one), (.cell 9 .one)]⟩

/-- girouette/orders.Class -/
def x44 : XFn := ⟨41, (.seq (.reg [⟨(some 5), none, (.box 38 (.t 2)), 0⟩,
   ⟨(some 6), none, (.mv (.c (.s .nils))), 1⟩,
   ⟨(some 7), none, (.mv (.c (.s (.int .i64 0)))), 1⟩] 1)
 (.seq (.reg [⟨(some 13), none, (.mv (.t 0)), 0⟩,
   ⟨(some 14), none, (.mv (.t 1)), 0⟩,
   ⟨(some 15), none, (.call (.c (.s (.fn 48 []))) [(.t 13), (.t 14)]), 0⟩,
   ⟨(some 12), none, (.mv (.t 15)), 8⟩,
   ⟨(some 16), none, (.extr (.t 12) 0), 8⟩,
   ⟨(some 17), none, (.extr (.t 12) 1), 8⟩,
   ⟨(some 8), none, (.mv (.t 16)), 8⟩,
   ⟨(some 9), none, (.mv (.t 17)), 8⟩] 8)
 (.seq (.seq (.reg [⟨(some 18), none, (.mv (.t 9)), 0⟩,
    ⟨(some 19), none, (.bin .neq (.t 18) (.c (.s (.int .i64 0)))), 0⟩] 0)
  (.cond (.t 19)
   (.seq (.reg [⟨(some 20), none, (.mv (.t 9)), 0⟩,
     ⟨(some 6), none, (.mv (.c (.s .nils))), 0⟩,
     ⟨(some 7), none, (.mv (.t 20)), 0⟩] 0)
   .ret)
   .skip))
 (.seq (.seq (.reg [⟨(some 21), none, (.mv (.t 8)), 0⟩,
    ⟨(some 22), none, (.iad 2 1 (.t 5) (.c (.s (.int .i64 0)))), 0⟩,
    ⟨(some 23), none, (.ld .one (.t 22)), 0⟩,
    ⟨(some 24), none, (.iad 2 1 (.t 5) (.c (.s (.int .i64 1)))), 0⟩,
    ⟨(some 25), none, (.ld .one (.t 24)), 0⟩,
    ⟨(some 26), none, (.bld (.pb [(.int .i64 0), (.int .i64 0)] 0 ff) [((0, 1), (.t 23)), ((1, 1), (.t 25))]), 0⟩,
    ⟨(some 27), none, (.call (.c (.s (.fn 87 []))) [(.t 21), (.t 26)]), 0⟩,
    ⟨(some 28), none, (.not (.t 27)), 8⟩] 8)
  (.cond (.t 28)
   (.seq (.reg [⟨(some 6), none, (.mv (.c (.s .nils))), 0⟩,
     ⟨(some 7), none, (.mv (.c (.s (.int .i64 1)))), 0⟩] 0)
   .ret)
   .skip))
 (.seq (.reg [⟨(some 30), none, (.mv (.t 8)), 0⟩,
   ⟨(some 31), none, (.iad 2 1 (.t 5) (.c (.s (.int .i64 0)))), 0⟩,
   ⟨(some 32), none, (.ld .one (.t 31)), 0⟩,
   ⟨(some 33), none, (.iad 2 1 (.t 5) (.c (.s (.int .i64 1)))), 0⟩,
   ⟨(some 34), none, (.ld .one (.t 33)), 0⟩,
   ⟨(some 35), none, (.bld (.pb [(.int .i64 0), (.int .i64 0)] 0 ff) [((0, 1), (.t 32)), ((1, 1), (.t 34))]), 0⟩,
   ⟨(some 36), none, (.call (.c (.s (.fn 54 []))) [(.t 30), (.t 35)]), 0⟩,
   ⟨(some 29), none, (.mv (.t 36)), 8⟩,
   ⟨(some 37), none, (.extr (.t 29) 0), 8⟩,
   ⟨(some 38), none, (.extr (.t 29) 1), 8⟩,
   ⟨(some 10), none, (.mv (.t 37)), 8⟩,
   ⟨(some 11), none, (.mv (.t 38)), 8⟩] 8)
 (.seq (.reg [⟨(some 39), none, (.mv (.t 10)), 0⟩,
   ⟨(some 40), none, (.call (.c (.s (.fn 89 []))) [(.t 39)]), 0⟩,
   ⟨(some 6), none, (.mv (.t 40)), 8⟩,
   ⟨(some 7), none, (.mv (.c (.s (.int .i64 0)))), 8⟩] 8)
 .ret)))))), [(.t 6), (.t 7)]⟩

/-- girouette/orders.Clash -/
def x45 : XFn := ⟨101, (.seq (.reg [⟨(some 4), none, (.mv (.c (.s .nils))), 0⟩,
   ⟨(some 5), none, (.mv (.c (.s (.bool false)))), 0⟩,
   ⟨(some 6), none, (.mv (.c (.s (.int .i64 0)))), 0⟩] 0)
 (.seq (.reg [⟨(some 21), none, (.mv (.t 0)), 0⟩,
   ⟨(some 22), none, (.mv (.t 1)), 0⟩,
   ⟨(some 23), none, (.call (.c (.s (.fn 48 []))) [(.t 21), (.t 22)]), 0⟩,
   ⟨(some 20), none, (.mv (.t 23)), 8⟩,
   ⟨(some 24), none, (.extr (.t 20) 0), 8⟩,
   ⟨(some 25), none, (.extr (.t 20) 1), 8⟩,
   ⟨(some 7), none, (.mv (.t 24)), 8⟩,
   ⟨(some 8), none, (.mv (.t 25)), 8⟩] 8)
 (.seq (.seq (.reg [⟨(some 26), none, (.mv (.t 8)), 0⟩,
    ⟨(some 27), none, (.bin .neq (.t 26) (.c (.s (.int .i64 0)))), 0⟩] 0)
  (.cond (.t 27)
   (.seq (.reg [⟨(some 28), none, (.mv (.t 8)), 0⟩,
     ⟨(some 4), none, (.mv (.c (.s .nils))), 0⟩,
     ⟨(some 5), none, (.mv (.c (.s (.bool false)))), 0⟩,
     ⟨(some 6), none, (.mv (.t 28)), 0⟩] 0)
   .ret)
   .skip))
 (.seq (.reg [⟨(some 9), none, (.mv (.c (.s .nils))), 0⟩] 0)
 (.seq (.seq (.reg [⟨(some 29), none, (.mv (.t 7)), 0⟩,
    ⟨(some 30), none, (.call (.c (.s (.fn 53 []))) [(.t 29)]), 0⟩,
    ⟨(some 31), none, (.len (.t 30)), 8⟩,
    ⟨(some 32), none, (.mv (.c (.s (.int .i64 0)))), 8⟩] 8)
  (.block 0 (.loop (.seq (.reg [⟨(some 33), none, (.bin .lss (.t 32) (.t 31)), 0⟩] 0)
    (.seq (.cond (.t 33)
      .skip
      (.exit 0))
    (.seq (.block 1 (.seq (.reg [⟨(some 34), none, (.iadS 2 (.t 30) (.t 32)), 0⟩,
        ⟨(some 35), none, (.ld (.many 2 0) (.t 34)), 0⟩,
        ⟨(some 11), none, (.alloc 77 (.pb [(.int .i64 0), (.int .i64 0)] 0 ff)), 0⟩,
        ⟨none, none, (.st (.many 2 0) (.t 11) (.t 35)), 1⟩] 1)
      (.seq (.reg [⟨(some 37), none, (.mv (.t 7)), 0⟩,
        ⟨(some 38), none, (.ld (.many 2 0) (.t 11)), 0⟩,
        ⟨(some 39), none, (.call (.c (.s (.fn 54 []))) [(.t 37), (.t 38)]), 0⟩,
        ⟨(some 36), none, (.mv (.t 39)), 8⟩,
        ⟨(some 40), none, (.extr (.t 36) 0), 8⟩,
        ⟨(some 41), none, (.extr (.t 36) 1), 8⟩,
        ⟨(some 12), none, (.mv (.t 40)), 8⟩,
        ⟨(some 13), none, (.mv (.t 41)), 8⟩] 8)
      (.seq (.seq (.reg [⟨(some 43), none, (.mv (.t 13)), 0⟩,
         ⟨(some 44), none, (.ld (.many 2 0) (.t 11)), 0⟩,
         ⟨(some 45), none, (.call (.c (.s (.fn 90 []))) [(.t 44)]), 0⟩,
         ⟨(some 46), none, (.lkup (.ints 2) (.ints 2) true (.t 43) (.t 45)), 8⟩,
         ⟨(some 42), none, (.mv (.t 46)), 8⟩,
         ⟨(some 47), none, (.extr (.t 42) 0), 8⟩,
         ⟨(some 48), none, (.extr (.t 42) 1), 8⟩,
         ⟨(some 14), none, (.alloc 77 (.pb [(.int .i64 0), (.int .i64 0)] 0 ff)), 8⟩,
         ⟨none, none, (.st (.many 2 0) (.t 14) (.t 47)), 9⟩,
         ⟨(some 15), none, (.mv (.t 48)), 9⟩] 9)
       (.seq (.reg [⟨(some 49), none, (.mv (.t 15)), 0⟩,
         ⟨(some 50), none, (.not (.t 49)), 0⟩] 0)
       (.cond (.t 50)
        (.exit 1)
        .skip)))
      (.seq (.reg [⟨(some 51), none, (.ld (.many 2 0) (.t 11)), 0⟩,
        ⟨(some 52), none, (.call (.c (.s (.fn 90 []))) [(.t 51)]), 0⟩,
        ⟨(some 53), none, (.bsl 77 .i64 2 1 [(0, (.t 52))]), 8⟩,
        ⟨(some 16), none, (.mv (.t 53)), 9⟩] 9)
      (.seq (.block 2 (.loop (.seq (.seq (.regD [⟨(some 54), none, (.mv (.t 16)), 0⟩,
            ⟨(some 55), none, (.mv (.t 16)), 0⟩,
            ⟨(some 56), none, (.len (.t 55)), 0⟩,
            ⟨(some 57), none, (.bin .sub (.t 56) (.c (.s (.int .i64 1)))), 0⟩,
            ⟨(some 58), none, (.iadS 2 (.t 54) (.t 57)), 0⟩,
            ⟨(some 59), none, (.ld (.many 2 0) (.t 58)), 0⟩,
            ⟨(some 60), none, (.ld (.many 2 0) (.t 11)), 0⟩,
            ⟨(some 61), none, (.eqv (.agg 2 0) true (.t 59) (.t 60)), 0⟩] 0 [])
          (.cond (.t 61)
           .skip
           (.exit 2)))
         (.block 3 (.reg [⟨(some 62), none, (.mv (.t 16)), 0⟩,
           ⟨(some 63), none, (.mv (.t 13)), 0⟩,
           ⟨(some 64), none, (.mv (.t 16)), 0⟩,
           ⟨(some 65), none, (.mv (.t 16)), 0⟩,
           ⟨(some 66), none, (.len (.t 65)), 0⟩,
           ⟨(some 67), none, (.bin .sub (.t 66) (.c (.s (.int .i64 1)))), 0⟩,
           ⟨(some 68), none, (.iadS 2 (.t 64) (.t 67)), 0⟩,
           ⟨(some 69), none, (.ld (.many 2 0) (.t 68)), 0⟩,
           ⟨(some 70), none, (.lkup (.ints 2) (.ints 2) false (.t 63) (.t 69)), 0⟩,
           ⟨(some 71), none, (.bsl 77 .i64 2 1 [(0, (.t 70))]), 0⟩,
           ⟨(some 72), none, (.app 77 .i64 2 (.t 62) (.t 71)), 1⟩,
           ⟨(some 16), none, (.mv (.t 72)), 2⟩] 2)))))
      (.seq (.reg [⟨(some 73), none, (.mv (.t 16)), 0⟩,
        ⟨(some 74), none, (.call (.c (.s (.fn 91 []))) [(.t 73)]), 0⟩] 8)
      (.seq (.reg [⟨(some 75), none, (.mv (.t 9)), 0⟩,
        ⟨(some 76), none, (.eqv .nil false (.t 75) (.c (.s .nils))), 0⟩,
        ⟨(some 77), none, (.mv (.t 76)), 0⟩,
        ⟨(some 78), (some (77, false)), (.mv (.t 16)), 0⟩,
        ⟨(some 79), (some (77, false)), (.len (.t 78)), 0⟩,
        ⟨(some 80), (some (77, false)), (.mv (.t 9)), 0⟩,
        ⟨(some 81), (some (77, false)), (.len (.t 80)), 0⟩,
        ⟨(some 82), (some (77, false)), (.bin .lss (.t 79) (.t 81)), 0⟩,
        ⟨(some 83), none, (.pick (.t 77) (.c (.s (.bool true))) (.t 82)), 0⟩] 0)
      (.cond (.t 83)
       (.reg [⟨(some 84), none, (.mv (.t 16)), 0⟩,
        ⟨(some 9), none, (.mv (.t 84)), 0⟩] 0)
       .skip)))))))))
    (.reg [⟨(some 85), none, (.bin .add (.t 32) (.c (.s (.int .i64 1)))), 0⟩,
     ⟨(some 32), none, (.mv (.t 85)), 0⟩] 0)))))))
 (.seq (.reg [⟨(some 17), none, (.mv (.c (.s .nils))), 0⟩] 0)
 (.seq (.seq (.reg [⟨(some 86), none, (.mv (.t 9)), 0⟩,
    ⟨(some 87), none, (.len (.t 86)), 0⟩,
    ⟨(some 88), none, (.mv (.c (.s (.int .i64 0)))), 0⟩] 0)
  (.block 4 (.loop (.seq (.reg [⟨(some 89), none, (.bin .lss (.t 88) (.t 87)), 0⟩] 0)
    (.seq (.cond (.t 89)
      .skip
      (.exit 4))
    (.seq (.block 5 (.seq (.reg [⟨(some 90), none, (.iadS 2 (.t 86) (.t 88)), 0⟩,
        ⟨(some 91), none, (.ld (.many 2 0) (.t 90)), 0⟩,
        ⟨(some 19), none, (.alloc 77 (.pb [(.int .i64 0), (.int .i64 0)] 0 ff)), 0⟩,
        ⟨none, none, (.st (.many 2 0) (.t 19) (.t 91)), 1⟩] 1)
      (.reg [⟨(some 92), none, (.mv (.t 17)), 0⟩,
       ⟨(some 93), none, (.ld (.many 2 0) (.t 19)), 0⟩,
       ⟨(some 94), none, (.call (.c (.s (.fn 92 []))) [(.t 93)]), 0⟩,
       ⟨(some 95), none, (.bsl 38 .i64 2 1 [(0, (.t 94))]), 8⟩,
       ⟨(some 96), none, (.app 38 .i64 2 (.t 92) (.t 95)), 9⟩,
       ⟨(some 17), none, (.mv (.t 96)), 10⟩] 10)))
    (.reg [⟨(some 97), none, (.bin .add (.t 88) (.c (.s (.int .i64 1)))), 0⟩,
     ⟨(some 88), none, (.mv (.t 97)), 0⟩] 0)))))))
 (.seq (.reg [⟨(some 98), none, (.mv (.t 17)), 0⟩,
   ⟨(some 99), none, (.mv (.t 17)), 0⟩,
   ⟨(some 100), none, (.eqv .nil true (.t 99) (.c (.s .nils))), 0⟩,
   ⟨(some 4), none, (.mv (.t 98)), 0⟩,
   ⟨(some 5), none, (.mv (.t 100)), 0⟩,
   ⟨(some 6), none, (.mv (.c (.s (.int .i64 0)))), 0⟩] 0)
 .ret)))))))), [(.t 4), (.t 5), (.t 6)]⟩

/-- girouette/orders.IsClash -/
def x46 : XFn := ⟨86, (.seq (.reg [⟨(some 6), none, (.mv (.c (.s (.bool false)))), 0⟩,
   ⟨(some 7), none, (.mv (.c (.s (.int .i64 0)))), 0⟩] 0)
 (.scope (.seq (.reg [⟨(some 17), none, (.mv (.t 0)), 0⟩,
    ⟨(some 18), none, (.mv (.t 1)), 0⟩,
    ⟨(some 19), none, (.call (.c (.s (.fn 48 []))) [(.t 17), (.t 18)]), 0⟩,
    ⟨(some 16), none, (.mv (.t 19)), 8⟩,
    ⟨(some 20), none, (.extr (.t 16) 0), 8⟩,
    ⟨(some 21), none, (.extr (.t 16) 1), 8⟩,
    ⟨(some 8), none, (.mv (.t 20)), 8⟩,
    ⟨(some 9), none, (.mv (.t 21)), 8⟩] 8)
  (.seq (.seq (.reg [⟨(some 22), none, (.mv (.t 9)), 0⟩,
     ⟨(some 23), none, (.bin .neq (.t 22) (.c (.s (.int .i64 0)))), 0⟩] 0)
   (.cond (.t 23)
    (.seq (.reg [⟨(some 24), none, (.mv (.t 9)), 0⟩,
      ⟨(some 6), none, (.mv (.c (.s (.bool false)))), 0⟩,
      ⟨(some 7), none, (.mv (.t 24)), 0⟩] 0)
    .ret)
    .skip))
  (.seq (.seq (.reg [⟨(some 25), none, (.mv (.t 2)), 0⟩,
     ⟨(some 26), none, (.len (.t 25)), 0⟩,
     ⟨(some 27), none, (.bin .eql (.t 26) (.c (.s (.int .i64 0)))), 0⟩] 0)
   (.cond (.t 27)
    (.seq (.reg [⟨(some 6), none, (.mv (.c (.s (.bool false)))), 0⟩,
      ⟨(some 7), none, (.mv (.c (.s (.int .i64 0)))), 0⟩] 0)
    .ret)
    .skip))
  (.seq (.label 0)
  (.seq (.seq (.reg [⟨(some 28), none, (.mv (.t 2)), 0⟩,
     ⟨(some 29), none, (.len (.t 28)), 0⟩,
     ⟨(some 30), none, (.mv (.c (.s (.int .i64 0)))), 0⟩] 0)
   (.block 0 (.loop (.seq (.reg [⟨(some 31), none, (.bin .lss (.t 30) (.t 29)), 0⟩] 0)
     (.seq (.cond (.t 31)
       .skip
       (.exit 0))
     (.seq (.block 1 (.seq (.reg [⟨(some 32), none, (.mv (.t 30)), 0⟩,
         ⟨(some 33), none, (.iadS 2 (.t 28) (.t 30)), 0⟩,
         ⟨(some 34), none, (.ld (.many 2 0) (.t 33)), 0⟩,
         ⟨(some 11), none, (.alloc 38 (.pb [(.int .i64 0), (.int .i64 0)] 0 ff)), 0⟩,
         ⟨(some 10), none, (.mv (.t 32)), 1⟩,
         ⟨none, none, (.st (.many 2 0) (.t 11) (.t 34)), 1⟩] 1)
       (.seq (.reg [⟨(some 35), none, (.iad 2 1 (.t 11) (.c (.s (.int .i64 0)))), 0⟩,
         ⟨(some 36), none, (.ld .one (.t 35)), 0⟩,
         ⟨(some 37), none, (.iad 2 1 (.t 11) (.c (.s (.int .i64 1)))), 0⟩,
         ⟨(some 38), none, (.ld .one (.t 37)), 0⟩,
         ⟨(some 39), none, (.bld (.pb [(.int .i64 0), (.int .i64 0)] 0 ff) [((0, 1), (.t 36)), ((1, 1), (.t 38))]), 0⟩,
         ⟨(some 12), none, (.alloc 77 (.pb [(.int .i64 0), (.int .i64 0)] 0 ff)), 0⟩,
         ⟨none, none, (.st (.many 2 0) (.t 12) (.t 39)), 1⟩] 1)
       (.seq (.seq (.reg [⟨(some 40), none, (.mv (.t 8)), 0⟩,
          ⟨(some 41), none, (.ld (.many 2 0) (.t 12)), 0⟩,
          ⟨(some 42), none, (.call (.c (.s (.fn 87 []))) [(.t 40), (.t 41)]), 0⟩,
          ⟨(some 43), none, (.not (.t 42)), 8⟩] 8)
        (.cond (.t 43)
         (.seq (.reg [⟨(some 6), none, (.mv (.c (.s (.bool false)))), 0⟩,
           ⟨(some 7), none, (.mv (.c (.s (.int .i64 0)))), 0⟩] 0)
         .ret)
         .skip))
       (.seq (.seq (.reg [⟨(some 44), none, (.mv (.t 10)), 0⟩,
          ⟨(some 45), none, (.bin .eql (.t 44) (.c (.s (.int .i64 0)))), 0⟩] 0)
        (.cond (.t 45)
         (.exit 1)
         .skip))
       (.seq (.seq (.regD [⟨(some 46), none, (.mv (.t 8)), 0⟩,
          ⟨(some 47), none, (.mv (.t 2)), 0⟩,
          ⟨(some 48), none, (.mv (.t 10)), 0⟩,
          ⟨(some 49), none, (.bin .sub (.t 48) (.c (.s (.int .i64 1)))), 0⟩,
          ⟨(some 50), none, (.iadS 2 (.t 47) (.t 49)), 0⟩,
          ⟨(some 51), none, (.iad 2 1 (.t 50) (.c (.s (.int .i64 0)))), 0⟩,
          ⟨(some 52), none, (.ld .one (.t 51)), 0⟩,
          ⟨(some 53), none, (.mv (.t 2)), 0⟩,
          ⟨(some 54), none, (.mv (.t 10)), 0⟩,
          ⟨(some 55), none, (.bin .sub (.t 54) (.c (.s (.int .i64 1)))), 0⟩,
          ⟨(some 56), none, (.iadS 2 (.t 53) (.t 55)), 0⟩,
          ⟨(some 57), none, (.iad 2 1 (.t 56) (.c (.s (.int .i64 1)))), 0⟩,
          ⟨(some 58), none, (.ld .one (.t 57)), 0⟩,
          ⟨(some 59), none, (.bld (.pb [(.int .i64 0), (.int .i64 0)] 0 ff) [((0, 1), (.t 52)), ((1, 1), (.t 58))]), 0⟩,
          ⟨(some 60), none, (.call (.c (.s (.fn 88 []))) [(.t 46), (.t 59)]), 0⟩] 8 [])
        (.block 2 (.rf (.t 60) [61] (.reg [⟨(some 13), none, (.alloc 77 (.pb [(.int .i64 0), (.int .i64 0)] 0 ff)), 0⟩,
           ⟨none, none, (.st (.many 2 0) (.t 13) (.t 61)), 1⟩] 1) (.block 3 (.seq (.reg [⟨(some 62), none, (.ld (.many 2 0) (.t 13)), 0⟩,
             ⟨(some 63), none, (.ld (.many 2 0) (.t 12)), 0⟩,
             ⟨(some 64), none, (.eqv (.agg 2 0) false (.t 62) (.t 63)), 0⟩] 0)
           (.cond (.t 64)
            (.exit 1)
            .skip))))))
       (.seq (.reg [⟨(some 6), none, (.mv (.c (.s (.bool false)))), 0⟩,
         ⟨(some 7), none, (.mv (.c (.s (.int .i64 0)))), 0⟩] 0)
       .ret)))))))
     (.reg [⟨(some 65), none, (.bin .add (.t 30) (.c (.s (.int .i64 1)))), 0⟩,
      ⟨(some 30), none, (.mv (.t 65)), 0⟩] 0)))))))
  (.seq (.regD [⟨(some 66), none, (.mv (.t 2)), 0⟩,
    ⟨(some 67), none, (.iadS 2 (.t 66) (.c (.s (.int .i64 0)))), 0⟩,
    ⟨(some 68), none, (.ld (.many 2 0) (.t 67)), 0⟩,
    ⟨(some 69), none, (.mv (.t 2)), 0⟩,
    ⟨(some 70), none, (.mv (.t 2)), 0⟩,
    ⟨(some 71), none, (.len (.t 70)), 0⟩,
    ⟨(some 72), none, (.bin .sub (.t 71) (.c (.s (.int .i64 1)))), 0⟩,
    ⟨(some 73), none, (.iadS 2 (.t 69) (.t 72)), 0⟩,
    ⟨(some 74), none, (.ld (.many 2 0) (.t 73)), 0⟩,
    ⟨(some 14), none, (.alloc 38 (.pb [(.int .i64 0), (.int .i64 0)] 0 ff)), 0⟩,
    ⟨(some 15), none, (.alloc 38 (.pb [(.int .i64 0), (.int .i64 0)] 0 ff)), 1⟩,
    ⟨none, none, (.st (.many 2 0) (.t 14) (.t 68)), 2⟩,
    ⟨none, none, (.st (.many 2 0) (.t 15) (.t 74)), 2⟩] 2 [(2, 9), (8, 9), (2, 10), (8, 10), (9, 10), (8, 11)])
  (.seq (.reg [⟨(some 75), none, (.iad 2 1 (.t 14) (.c (.s (.int .i64 0)))), 0⟩,
    ⟨(some 76), none, (.ld .one (.t 75)), 0⟩,
    ⟨(some 77), none, (.iad 2 1 (.t 14) (.c (.s (.int .i64 1)))), 0⟩,
    ⟨(some 78), none, (.ld .one (.t 77)), 0⟩,
    ⟨(some 79), none, (.bld (.pb [(.int .i64 0), (.int .i64 0)] 0 ff) [((0, 1), (.t 76)), ((1, 1), (.t 78))]), 0⟩,
    ⟨(some 80), none, (.iad 2 1 (.t 15) (.c (.s (.int .i64 1)))), 0⟩,
    ⟨(some 81), none, (.ld .one (.t 80)), 0⟩,
    ⟨(some 82), none, (.iad 2 1 (.t 15) (.c (.s (.int .i64 0)))), 0⟩,
    ⟨(some 83), none, (.ld .one (.t 82)), 0⟩,
    ⟨(some 84), none, (.bld (.pb [(.int .i64 0), (.int .i64 0)] 0 ff) [((0, 1), (.t 81)), ((1, 1), (.t 83))]), 0⟩,
    ⟨(some 85), none, (.eqv (.agg 2 0) false (.t 79) (.t 84)), 0⟩,
    ⟨(some 6), none, (.mv (.t 85)), 0⟩,
    ⟨(some 7), none, (.mv (.c (.s (.int .i64 0)))), 0⟩] 0)
  .ret))))))))), [(.t 6), (.t 7)]⟩

/-- girouette/orders.Draw -/
def x47 : XFn := ⟨55, (.seq (.reg [⟨(some 4), none, (.alloc 48 (.pb [.nils, .nils] 0 ff)), 0⟩,
   ⟨(some 5), none, (.mv (.c (.s (.bool false)))), 1⟩,
   ⟨(some 6), none, (.mv (.c (.s (.int .i64 0)))), 1⟩] 1)
 (.seq (.reg [⟨(some 14), none, (.mv (.t 0)), 0⟩,
   ⟨(some 15), none, (.mv (.t 1)), 0⟩,
   ⟨(some 16), none, (.call (.c (.s (.fn 48 []))) [(.t 14), (.t 15)]), 0⟩,
   ⟨(some 13), none, (.mv (.t 16)), 8⟩,
   ⟨(some 17), none, (.extr (.t 13) 0), 8⟩,
   ⟨(some 18), none, (.extr (.t 13) 1), 8⟩,
   ⟨(some 7), none, (.mv (.t 17)), 8⟩,
   ⟨(some 8), none, (.mv (.t 18)), 8⟩] 8)
 (.seq (.seq (.reg [⟨(some 19), none, (.mv (.t 8)), 0⟩,
    ⟨(some 20), none, (.bin .neq (.t 19) (.c (.s (.int .i64 0)))), 0⟩] 0)
  (.cond (.t 20)
   (.seq (.reg [⟨(some 21), none, (.bld (.pb [.nils, .nils] 0 ff) []), 0⟩,
     ⟨(some 22), none, (.mv (.t 8)), 0⟩,
     ⟨none, none, (.st (.many 2 0) (.t 4) (.t 21)), 0⟩,
     ⟨(some 5), none, (.mv (.c (.s (.bool false)))), 0⟩,
     ⟨(some 6), none, (.mv (.t 22)), 0⟩] 0)
   .ret)
   .skip))
 (.seq (.reg [⟨(some 24), none, (.mv (.t 7)), 0⟩,
   ⟨(some 25), none, (.call (.c (.s (.fn 55 []))) [(.t 24)]), 0⟩,
   ⟨(some 23), none, (.mv (.t 25)), 8⟩,
   ⟨(some 26), none, (.extr (.t 23) 0), 8⟩,
   ⟨(some 27), none, (.extr (.t 23) 1), 8⟩,
   ⟨(some 9), none, (.alloc 70 (.pb [] 49 ff)), 8⟩,
   ⟨none, none, (.st (.many 0 49) (.t 9) (.t 26)), 9⟩,
   ⟨(some 10), none, (.mv (.t 27)), 9⟩] 9)
 (.seq (.reg [⟨(some 29), none, (.mv (.t 7)), 0⟩,
   ⟨(some 30), none, (.call (.c (.s (.fn 81 []))) [(.t 29)]), 0⟩,
   ⟨(some 31), none, (.call (.c (.s (.fn 55 []))) [(.t 30)]), 8⟩,
   ⟨(some 28), none, (.mv (.t 31)), 16⟩,
   ⟨(some 32), none, (.extr (.t 28) 0), 16⟩,
   ⟨(some 33), none, (.extr (.t 28) 1), 16⟩,
   ⟨(some 11), none, (.alloc 70 (.pb [] 49 ff)), 16⟩,
   ⟨none, none, (.st (.many 0 49) (.t 11) (.t 32)), 17⟩,
   ⟨(some 12), none, (.mv (.t 33)), 17⟩] 17)
 (.seq (.seq (.reg [⟨(some 34), none, (.mv (.t 10)), 0⟩,
    ⟨(some 35), none, (.not (.t 34)), 0⟩,
    ⟨(some 36), none, (.mv (.t 35)), 0⟩,
    ⟨(some 37), (some (36, false)), (.mv (.t 12)), 0⟩,
    ⟨(some 38), (some (36, false)), (.not (.t 37)), 0⟩,
    ⟨(some 39), none, (.pick (.t 36) (.c (.s (.bool true))) (.t 38)), 0⟩] 0)
  (.cond (.t 39)
   (.seq (.reg [⟨(some 40), none, (.bld (.pb [.nils, .nils] 0 ff) []), 0⟩,
     ⟨none, none, (.st (.many 2 0) (.t 4) (.t 40)), 0⟩,
     ⟨(some 5), none, (.mv (.c (.s (.bool false)))), 0⟩,
     ⟨(some 6), none, (.mv (.c (.s (.int .i64 0)))), 0⟩] 0)
   .ret)
   .skip))
 (.seq (.regD [⟨(some 41), none, (.ld (.many 0 49) (.t 11)), 0⟩,
   ⟨(some 42), none, (.ld (.many 0 49) (.t 9)), 0⟩,
   ⟨(some 43), none, (.bslB 70 49 2 [(0, (.t 41)), (1, (.t 42))]), 0⟩,
   ⟨(some 44), none, (.call (.c (.s (.fn 80 []))) [(.t 43)]), 1⟩,
   ⟨(some 45), none, (.mv (.t 0)), 9⟩,
   ⟨(some 46), none, (.call (.c (.s (.fn 82 []))) [(.t 44), (.t 45)]), 9⟩,
   ⟨(some 47), none, (.ld (.many 0 49) (.t 11)), 17⟩,
   ⟨(some 48), none, (.ld (.many 0 49) (.t 9)), 17⟩,
   ⟨(some 49), none, (.call (.c (.s (.fn 61 []))) [(.t 48)]), 17⟩,
   ⟨(some 50), none, (.bslB 70 49 2 [(0, (.t 47)), (1, (.t 49))]), 25⟩,
   ⟨(some 51), none, (.call (.c (.s (.fn 80 []))) [(.t 50)]), 26⟩,
   ⟨(some 52), none, (.mv (.t 0)), 34⟩,
   ⟨(some 53), none, (.call (.c (.s (.fn 82 []))) [(.t 51), (.t 52)]), 34⟩,
   ⟨(some 54), none, (.bld (.pb [.nils, .nils] 0 ff) [((0, 1), (.t 46)), ((1, 1), (.t 53))]), 42⟩,
   ⟨none, none, (.st (.many 2 0) (.t 4) (.t 54)), 42⟩,
   ⟨(some 5), none, (.mv (.c (.s (.bool true)))), 42⟩,
   ⟨(some 6), none, (.mv (.c (.s (.int .i64 0)))), 42⟩] 42 [(2, 6), (3, 6), (5, 6), (2, 7), (3, 7), (5, 7), (6, 8)])
 .ret))))))), [(.cell 4 (.many 2 0)), (.t 5), (.t 6)]⟩

/-- girouette/orders.open -/
def x48 : XFn := ⟨75, (.seq (.reg [⟨(some 4), none, (.mv (.c (.s .nilp))), 0⟩,
   ⟨(some 5), none, (.mv (.c (.s (.int .i64 0)))), 0⟩] 0)
 (.seq (.seq (.reg [⟨(some 9), none, (.mv (.t 0)), 0⟩,
    ⟨(some 10), none, (.bin .lss (.t 9) (.c (.s (.int .i64 1)))), 0⟩,
    ⟨(some 11), none, (.mv (.t 10)), 0⟩,
    ⟨(some 12), (some (11, false)), (.mv (.t 0)), 0⟩,
    ⟨(some 13), (some (11, false)), (.bin .gtr (.t 12) (.c (.s (.int .i64 7)))), 0⟩,
    ⟨(some 14), none, (.pick (.t 11) (.c (.s (.bool true))) (.t 13)), 0⟩] 0)
  (.cond (.t 14)
   (.seq (.reg [⟨(some 4), none, (.mv (.c (.s .nilp))), 0⟩,
     ⟨(some 5), none, (.mv (.c (.s (.int .i64 1)))), 0⟩] 0)
   .ret)
   .skip))
 (.seq (.reg [⟨(some 15), none, (.mv (.t 0)), 0⟩,
   ⟨(some 16), none, (.bld (.pb [(.int .i64 0)] 49 ff) [((0, 1), (.t 15))]), 0⟩,
   ⟨(some 17), none, (.box 115 (.t 16)), 0⟩,
   ⟨(some 6), none, (.mv (.t 17)), 1⟩] 1)
 (.seq (.seq (.reg [⟨(some 18), none, (.mv (.t 1)), 0⟩,
    ⟨(some 19), none, (.len (.t 18)), 0⟩,
    ⟨(some 20), none, (.mv (.c (.s (.int .i64 0)))), 0⟩] 0)
  (.block 0 (.loop (.seq (.reg [⟨(some 21), none, (.bin .lss (.t 20) (.t 19)), 0⟩] 0)
    (.seq (.cond (.t 21)
      .skip
      (.exit 0))
    (.seq (.block 1 (.seq (.reg [⟨(some 22), none, (.mv (.t 20)), 0⟩,
        ⟨(some 23), none, (.iadS 2 (.t 18) (.t 20)), 0⟩,
        ⟨(some 24), none, (.ld (.many 2 0) (.t 23)), 0⟩,
        ⟨(some 8), none, (.alloc 38 (.pb [(.int .i64 0), (.int .i64 0)] 0 ff)), 0⟩,
        ⟨(some 7), none, (.mv (.t 22)), 1⟩,
        ⟨none, none, (.st (.many 2 0) (.t 8) (.t 24)), 1⟩] 1)
      (.seq (.seq (.regD [⟨(some 25), none, (.iad 2 1 (.t 8) (.c (.s (.int .i64 0)))), 0⟩,
         ⟨(some 26), none, (.ld .one (.t 25)), 0⟩,
         ⟨(some 27), none, (.bin .lss (.t 26) (.c (.s (.int .i64 0)))), 0⟩,
         ⟨(some 28), none, (.mv (.t 27)), 0⟩,
         ⟨(some 29), (some (28, false)), (.iad 2 1 (.t 8) (.c (.s (.int .i64 0)))), 0⟩,
         ⟨(some 30), (some (28, false)), (.ld .one (.t 29)), 0⟩,
         ⟨(some 31), (some (28, false)), (.iad 2 1 (.t 8) (.c (.s (.int .i64 1)))), 0⟩,
         ⟨(some 32), (some (28, false)), (.ld .one (.t 31)), 0⟩,
         ⟨(some 33), (some (28, false)), (.bin .geq (.t 30) (.t 32)), 0⟩,
         ⟨(some 34), none, (.pick (.t 28) (.c (.s (.bool true))) (.t 33)), 0⟩,
         ⟨(some 35), none, (.mv (.t 34)), 0⟩,
         ⟨(some 36), (some (35, false)), (.iad 2 1 (.t 8) (.c (.s (.int .i64 1)))), 0⟩,
         ⟨(some 37), (some (35, false)), (.ld .one (.t 36)), 0⟩,
         ⟨(some 38), (some (35, false)), (.mv (.t 0)), 0⟩,
         ⟨(some 39), (some (35, false)), (.bin .geq (.t 37) (.t 38)), 0⟩,
         ⟨(some 40), none, (.pick (.t 35) (.c (.s (.bool true))) (.t 39)), 0⟩,
         ⟨(some 41), none, (.mv (.t 40)), 0⟩,
         ⟨(some 42), (some (41, false)), (.mv (.t 7)), 0⟩,
         ⟨(some 43), (some (41, false)), (.bin .gtr (.t 42) (.c (.s (.int .i64 0)))), 0⟩,
         ⟨(some 44), (some (41, false)), (.mv (.t 43)), 0⟩,
         ⟨(some 45), (some (44, true)), (.mv (.t 1)), 0⟩,
         ⟨(some 46), (some (44, true)), (.mv (.t 7)), 0⟩,
         ⟨(some 47), (some (44, true)), (.bin .sub (.t 46) (.c (.s (.int .i64 1)))), 0⟩,
         ⟨(some 48), (some (44, true)), (.iadS 2 (.t 45) (.t 47)), 0⟩,
         ⟨(some 49), (some (44, true)), (.slcA 2 1 (.t 48) none none), 0⟩,
         ⟨(some 50), (some (44, true)), (.slcA 2 1 (.t 8) none none), 0⟩,
         ⟨(some 51), (some (44, true)), (.call (.c (.s (.fn 93 []))) [(.t 49), (.t 50)]), 0⟩,
         ⟨(some 52), (some (44, true)), (.bin .geq (.t 51) (.c (.s (.int .i64 0)))), 8⟩,
         ⟨(some 53), (some (41, false)), (.pick (.t 44) (.t 52) (.c (.s (.bool false)))), 8⟩,
         ⟨(some 54), none, (.pick (.t 41) (.c (.s (.bool true))) (.t 53)), 8⟩] 8 [])
       (.cond (.t 54)
        (.seq (.reg [⟨(some 4), none, (.mv (.c (.s .nilp))), 0⟩,
          ⟨(some 5), none, (.mv (.c (.s (.int .i64 20)))), 0⟩] 0)
        .ret)
        .skip))
      (.regD [⟨(some 55), none, (.mv (.t 6)), 0⟩,
       ⟨(some 56), none, (.iad 2 1 (.t 8) (.c (.s (.int .i64 0)))), 0⟩,
       ⟨(some 57), none, (.ld .one (.t 56)), 0⟩,
       ⟨(some 58), none, (.iad 2 1 (.t 8) (.c (.s (.int .i64 1)))), 0⟩,
       ⟨(some 59), none, (.ld .one (.t 58)), 0⟩,
       ⟨(some 60), none, (.mv (.t 6)), 0⟩,
       ⟨(some 61), none, (.iad 2 1 (.t 8) (.c (.s (.int .i64 1)))), 0⟩,
       ⟨(some 62), none, (.ld .one (.t 61)), 0⟩,
       ⟨(some 63), none, (.iad 2 1 (.t 8) (.c (.s (.int .i64 0)))), 0⟩,
       ⟨(some 64), none, (.ld .one (.t 63)), 0⟩,
       ⟨(some 65), none, (.nck (.t 55)), 0⟩,
       ⟨(some 66), none, (.fad 1 (.t 65)), 0⟩,
       ⟨(some 67), none, (.iad 7 7 (.t 66) (.t 57)), 0⟩,
       ⟨(some 68), none, (.iad 7 1 (.t 67) (.t 59)), 0⟩,
       ⟨none, none, (.st .one (.t 68) (.c (.s (.bool true)))), 0⟩,
       ⟨(some 69), none, (.nck (.t 60)), 0⟩,
       ⟨(some 70), none, (.fad 1 (.t 69)), 0⟩,
       ⟨(some 71), none, (.iad 7 7 (.t 70) (.t 62)), 0⟩,
       ⟨(some 72), none, (.iad 7 1 (.t 71) (.t 64)), 0⟩,
       ⟨none, none, (.st .one (.t 72) (.c (.s (.bool true)))), 0⟩] 0 []))))
    (.reg [⟨(some 73), none, (.bin .add (.t 20) (.c (.s (.int .i64 1)))), 0⟩,
     ⟨(some 20), none, (.mv (.t 73)), 0⟩] 0)))))))
 (.seq (.reg [⟨(some 74), none, (.mv (.t 6)), 0⟩,
   ⟨(some 4), none, (.mv (.t 74)), 0⟩,
   ⟨(some 5), none, (.mv (.c (.s (.int .i64 0)))), 0⟩] 0)
 .ret))))), [(.t 4), (.t 5)]⟩

/-- (*girouette/orders.graph).edges -/
def x49 : XFn := ⟨39, (.seq (.reg [⟨(some 2), none, (.mv (.c (.s .nils))), 0⟩] 0)
 (.seq (.reg [⟨(some 3), none, (.mv (.c (.s .nils))), 0⟩] 0)
 (.seq (.seq (.reg [⟨(some 6), none, (.mv (.t 0)), 0⟩,
    ⟨(some 7), none, (.nck (.t 6)), 0⟩,
    ⟨(some 8), none, (.fad 0 (.t 7)), 0⟩,
    ⟨(some 9), none, (.ld .one (.t 8)), 0⟩,
    ⟨(some 10), none, (.mv (.c (.s (.int .i64 0)))), 0⟩] 0)
  (.block 0 (.loop (.seq (.reg [⟨(some 11), none, (.bin .lss (.t 10) (.t 9)), 0⟩] 0)
    (.seq (.cond (.t 11)
      .skip
      (.exit 0))
    (.seq (.block 1 (.seq (.reg [⟨(some 12), none, (.mv (.t 10)), 0⟩,
        ⟨(some 4), none, (.mv (.t 12)), 0⟩] 0)
      (.seq (.reg [⟨(some 13), none, (.mv (.t 4)), 0⟩,
        ⟨(some 14), none, (.bin .add (.t 13) (.c (.s (.int .i64 1)))), 0⟩,
        ⟨(some 5), none, (.mv (.t 14)), 0⟩] 0)
      (.block 2 (.loop (.seq (.seq (.reg [⟨(some 15), none, (.mv (.t 5)), 0⟩,
           ⟨(some 16), none, (.mv (.t 0)), 0⟩,
           ⟨(some 17), none, (.nck (.t 16)), 0⟩,
           ⟨(some 18), none, (.fad 0 (.t 17)), 0⟩,
           ⟨(some 19), none, (.ld .one (.t 18)), 0⟩,
           ⟨(some 20), none, (.bin .lss (.t 15) (.t 19)), 0⟩] 0)
         (.cond (.t 20)
          .skip
          (.exit 2)))
        (.seq (.block 3 (.seq (.reg [⟨(some 23), none, (.mv (.t 0)), 0⟩,
            ⟨(some 24), none, (.mv (.t 4)), 0⟩,
            ⟨(some 25), none, (.mv (.t 5)), 0⟩,
            ⟨(some 26), none, (.nck (.t 23)), 0⟩,
            ⟨(some 27), none, (.fad 1 (.t 26)), 0⟩,
            ⟨(some 28), none, (.iad 7 7 (.t 27) (.t 24)), 0⟩,
            ⟨(some 29), none, (.iad 7 1 (.t 28) (.t 25)), 0⟩,
            ⟨(some 30), none, (.ld .one (.t 29)), 0⟩] 0)
          (.cond (.t 30)
           (.reg [⟨(some 31), none, (.mv (.t 3)), 0⟩,
            ⟨(some 32), none, (.mv (.t 4)), 0⟩,
            ⟨(some 33), none, (.mv (.t 5)), 0⟩,
            ⟨(some 34), none, (.bld (.pb [(.int .i64 0), (.int .i64 0)] 0 ff) [((0, 1), (.t 32)), ((1, 1), (.t 33))]), 0⟩,
            ⟨(some 35), none, (.bsl 38 .i64 2 1 [(0, (.t 34))]), 0⟩,
            ⟨(some 36), none, (.app 38 .i64 2 (.t 31) (.t 35)), 1⟩,
            ⟨(some 3), none, (.mv (.t 36)), 2⟩] 2)
           .skip)))
        (.reg [⟨(some 21), none, (.mv (.t 5)), 0⟩,
         ⟨(some 22), none, (.bin .add (.t 21) (.c (.s (.int .i64 1)))), 0⟩,
         ⟨(some 5), none, (.mv (.t 22)), 0⟩] 0))))))))
    (.reg [⟨(some 37), none, (.bin .add (.t 10) (.c (.s (.int .i64 1)))), 0⟩,
     ⟨(some 10), none, (.mv (.t 37)), 0⟩] 0)))))))
 (.seq (.reg [⟨(some 38), none, (.mv (.t 3)), 0⟩,
   ⟨(some 2), none, (.mv (.t 38)), 0⟩] 0)
 .ret)))), [(.t 2)]⟩

/-- girouette/orders.Count$1 -/
def x50 : XFn := ⟨50, (.seq (.seq (.reg [⟨(some 9), none, (.mv (.t 0)), 0⟩,
    ⟨(some 10), none, (.ld .one (.t 1)), 0⟩,
    ⟨(some 11), none, (.len (.t 10)), 0⟩,
    ⟨(some 12), none, (.bin .eql (.t 9) (.t 11)), 0⟩] 0)
  (.cond (.t 12)
   (.seq (.seq (.reg [⟨(some 13), none, (.ld (.many 0 49) (.t 2)), 0⟩,
      ⟨(some 14), none, (.call (.c (.s (.fn 51 []))) [(.t 13)]), 0⟩] 8)
    (.cond (.t 14)
     (.reg [⟨(some 15), none, (.ld .one (.t 3)), 0⟩,
      ⟨(some 16), none, (.bin .add (.t 15) (.c (.s (.int .i64 1)))), 0⟩,
      ⟨none, none, (.st .one (.t 3) (.t 16)), 0⟩] 0)
     .skip))
   .ret)
   .skip))
 (.seq (.regD [⟨(some 17), none, (.ld .one (.t 1)), 0⟩,
   ⟨(some 18), none, (.mv (.t 0)), 0⟩,
   ⟨(some 19), none, (.iadS 2 (.t 17) (.t 18)), 0⟩,
   ⟨(some 20), none, (.iad 2 1 (.t 19) (.c (.s (.int .i64 0)))), 0⟩,
   ⟨(some 21), none, (.ld .one (.t 20)), 0⟩,
   ⟨(some 22), none, (.ld .one (.t 1)), 0⟩,
   ⟨(some 23), none, (.mv (.t 0)), 0⟩,
   ⟨(some 24), none, (.iadS 2 (.t 22) (.t 23)), 0⟩,
   ⟨(some 25), none, (.iad 2 1 (.t 24) (.c (.s (.int .i64 1)))), 0⟩,
   ⟨(some 26), none, (.ld .one (.t 25)), 0⟩,
   ⟨(some 7), none, (.mv (.t 21)), 0⟩,
   ⟨(some 8), none, (.mv (.t 26)), 0⟩] 0 [])
 (.seq (.reg [⟨(some 27), none, (.mv (.c (.s (.int .i64 0)))), 0⟩] 0)
 (.block 0 (.loop (.seq (.reg [⟨(some 28), none, (.bin .lss (.t 27) (.c (.s (.int .i64 2)))), 0⟩] 0)
   (.seq (.cond (.t 28)
     .skip
     (.exit 0))
   (.seq (.block 1 (.seq (.reg [⟨(some 29), none, (.mv (.t 7)), 0⟩,
       ⟨(some 30), none, (.mv (.t 8)), 0⟩,
       ⟨(some 31), none, (.iad 7 7 (.t 2) (.t 29)), 0⟩,
       ⟨(some 32), none, (.iad 7 1 (.t 31) (.t 30)), 0⟩,
       ⟨none, none, (.st .one (.t 32) (.c (.s (.bool true)))), 0⟩] 0)
     (.seq (.seq (.reg [⟨(some 33), none, (.ld .one (.t 4)), 0⟩,
        ⟨(some 34), none, (.ld (.many 0 49) (.t 2)), 0⟩,
        ⟨(some 35), none, (.mv (.t 7)), 0⟩,
        ⟨(some 36), none, (.mv (.t 8)), 0⟩,
        ⟨(some 37), none, (.call (.c (.s (.fn 52 []))) [(.t 33), (.t 34), (.t 35), (.t 36)]), 0⟩,
        ⟨(some 38), none, (.not (.t 37)), 8⟩] 8)
      (.cond (.t 38)
       (.reg [⟨(some 39), none, (.ld .one (.t 5)), 0⟩,
        ⟨(some 40), none, (.mv (.t 0)), 0⟩,
        ⟨(some 41), none, (.bin .add (.t 40) (.c (.s (.int .i64 1)))), 0⟩,
        ⟨(some 42), none, (.call (.t 39) [(.t 41)]), 0⟩] 8)
       .skip))
     (.seq (.reg [⟨(some 43), none, (.mv (.t 7)), 0⟩,
       ⟨(some 44), none, (.mv (.t 8)), 0⟩,
       ⟨(some 45), none, (.iad 7 7 (.t 2) (.t 43)), 0⟩,
       ⟨(some 46), none, (.iad 7 1 (.t 45) (.t 44)), 0⟩,
       ⟨none, none, (.st .one (.t 46) (.c (.s (.bool false)))), 0⟩] 0)
     (.reg [⟨(some 47), none, (.mv (.t 8)), 0⟩,
      ⟨(some 48), none, (.mv (.t 7)), 0⟩,
      ⟨(some 7), none, (.mv (.t 47)), 0⟩,
      ⟨(some 8), none, (.mv (.t 48)), 0⟩] 0)))))
   (.reg [⟨(some 49), none, (.bin .add (.t 27) (.c (.s (.int .i64 1)))), 0⟩,
    ⟨(some 27), none, (.mv (.t 49)), 0⟩] 0))))))))), []⟩

/-- (girouette/orders.relation).transitive -/
def x51 : XFn := ⟨42, (.seq (.reg [⟨(some 1), none, (.box 70 (.t 0)), 0⟩,
   ⟨(some 2), none, (.mv (.c (.s (.bool false)))), 1⟩] 1)
 (.seq (.seq (.reg [⟨(some 6), none, (.mv (.c (.s (.int .i64 0)))), 0⟩] 0)
  (.block 0 (.loop (.seq (.reg [⟨(some 7), none, (.bin .lss (.t 6) (.c (.s (.int .i64 7)))), 0⟩] 0)
    (.seq (.cond (.t 7)
      .skip
      (.exit 0))
    (.seq (.block 1 (.seq (.reg [⟨(some 8), none, (.mv (.t 6)), 0⟩,
        ⟨(some 3), none, (.mv (.t 8)), 0⟩] 0)
      (.seq (.reg [⟨(some 9), none, (.mv (.c (.s (.int .i64 0)))), 0⟩] 0)
      (.block 2 (.loop (.seq (.reg [⟨(some 10), none, (.bin .lss (.t 9) (.c (.s (.int .i64 7)))), 0⟩] 0)
        (.seq (.cond (.t 10)
          .skip
          (.exit 2))
        (.seq (.block 3 (.seq (.reg [⟨(some 11), none, (.mv (.t 9)), 0⟩,
            ⟨(some 4), none, (.mv (.t 11)), 0⟩] 0)
          (.seq (.seq (.reg [⟨(some 12), none, (.mv (.t 3)), 0⟩,
             ⟨(some 13), none, (.mv (.t 4)), 0⟩,
             ⟨(some 14), none, (.iad 7 7 (.t 1) (.t 12)), 0⟩,
             ⟨(some 15), none, (.iad 7 1 (.t 14) (.t 13)), 0⟩,
             ⟨(some 16), none, (.ld .one (.t 15)), 0⟩,
             ⟨(some 17), none, (.not (.t 16)), 0⟩] 0)
           (.cond (.t 17)
            (.exit 3)
            .skip))
          (.seq (.seq (.reg [⟨(some 18), none, (.mv (.t 4)), 0⟩,
             ⟨(some 19), none, (.mv (.t 3)), 0⟩,
             ⟨(some 20), none, (.iad 7 7 (.t 1) (.t 18)), 0⟩,
             ⟨(some 21), none, (.iad 7 1 (.t 20) (.t 19)), 0⟩,
             ⟨(some 22), none, (.ld .one (.t 21)), 0⟩] 0)
           (.cond (.t 22)
            (.seq (.reg [⟨(some 2), none, (.mv (.c (.s (.bool false)))), 0⟩] 0)
            .ret)
            .skip))
          (.seq (.reg [⟨(some 23), none, (.mv (.c (.s (.int .i64 0)))), 0⟩] 0)
          (.block 4 (.loop (.seq (.reg [⟨(some 24), none, (.bin .lss (.t 23) (.c (.s (.int .i64 7)))), 0⟩] 0)
            (.seq (.cond (.t 24)
              .skip
              (.exit 4))
            (.seq (.block 5 (.seq (.reg [⟨(some 25), none, (.mv (.t 23)), 0⟩,
                ⟨(some 5), none, (.mv (.t 25)), 0⟩] 0)
              (.seq (.reg [⟨(some 26), none, (.mv (.t 4)), 0⟩,
                ⟨(some 27), none, (.mv (.t 5)), 0⟩,
                ⟨(some 28), none, (.iad 7 7 (.t 1) (.t 26)), 0⟩,
                ⟨(some 29), none, (.iad 7 1 (.t 28) (.t 27)), 0⟩,
                ⟨(some 30), none, (.ld .one (.t 29)), 0⟩,
                ⟨(some 31), none, (.mv (.t 30)), 0⟩,
                ⟨(some 32), (some (31, true)), (.mv (.t 3)), 0⟩,
                ⟨(some 33), (some (31, true)), (.mv (.t 5)), 0⟩,
                ⟨(some 34), (some (31, true)), (.iad 7 7 (.t 1) (.t 32)), 0⟩,
                ⟨(some 35), (some (31, true)), (.iad 7 1 (.t 34) (.t 33)), 0⟩,
                ⟨(some 36), (some (31, true)), (.ld .one (.t 35)), 0⟩,
                ⟨(some 37), (some (31, true)), (.not (.t 36)), 0⟩,
                ⟨(some 38), none, (.pick (.t 31) (.t 37) (.c (.s (.bool false)))), 0⟩] 0)
              (.cond (.t 38)
               (.seq (.reg [⟨(some 2), none, (.mv (.c (.s (.bool false)))), 0⟩] 0)
               .ret)
               .skip))))
            (.reg [⟨(some 39), none, (.bin .add (.t 23) (.c (.s (.int .i64 1)))), 0⟩,
             ⟨(some 23), none, (.mv (.t 39)), 0⟩] 0)))))))))))
        (.reg [⟨(some 40), none, (.bin .add (.t 9) (.c (.s (.int .i64 1)))), 0⟩,
         ⟨(some 9), none, (.mv (.t 40)), 0⟩] 0)))))))))
    (.reg [⟨(some 41), none, (.bin .add (.t 6) (.c (.s (.int .i64 1)))), 0⟩,
     ⟨(some 6), none, (.mv (.t 41)), 0⟩] 0)))))))
 (.seq (.reg [⟨(some 2), none, (.mv (.c (.s (.bool true)))), 0⟩] 0)
 .ret))), [(.t 2)]⟩

/-- (*girouette/orders.graph).spoilt -/
def x52 : XFn := ⟨66, (.seq (.reg [⟨(some 5), none, (.box 70 (.t 1)), 0⟩,
   ⟨(some 8), none, (.mv (.c (.s (.bool false)))), 1⟩] 1)
 (.seq (.seq (.reg [⟨(some 10), none, (.mv (.t 0)), 0⟩,
    ⟨(some 11), none, (.nck (.t 10)), 0⟩,
    ⟨(some 12), none, (.fad 0 (.t 11)), 0⟩,
    ⟨(some 13), none, (.ld .one (.t 12)), 0⟩,
    ⟨(some 14), none, (.mv (.c (.s (.int .i64 0)))), 0⟩] 0)
  (.block 0 (.loop (.seq (.reg [⟨(some 15), none, (.bin .lss (.t 14) (.t 13)), 0⟩] 0)
    (.seq (.cond (.t 15)
      .skip
      (.exit 0))
    (.seq (.block 1 (.seq (.reg [⟨(some 16), none, (.mv (.t 14)), 0⟩,
        ⟨(some 9), none, (.mv (.t 16)), 0⟩] 0)
      (.seq (.reg [⟨(some 17), none, (.mv (.t 3)), 0⟩,
        ⟨(some 18), none, (.mv (.t 9)), 0⟩,
        ⟨(some 19), none, (.iad 7 7 (.t 5) (.t 17)), 0⟩,
        ⟨(some 20), none, (.iad 7 1 (.t 19) (.t 18)), 0⟩,
        ⟨(some 21), none, (.ld .one (.t 20)), 0⟩,
        ⟨(some 22), none, (.mv (.t 21)), 0⟩,
        ⟨(some 23), (some (22, true)), (.mv (.t 0)), 0⟩,
        ⟨(some 24), (some (22, true)), (.mv (.t 2)), 0⟩,
        ⟨(some 25), (some (22, true)), (.mv (.t 9)), 0⟩,
        ⟨(some 26), (some (22, true)), (.nck (.t 23)), 0⟩,
        ⟨(some 27), (some (22, true)), (.fad 1 (.t 26)), 0⟩,
        ⟨(some 28), (some (22, true)), (.iad 7 7 (.t 27) (.t 24)), 0⟩,
        ⟨(some 29), (some (22, true)), (.iad 7 1 (.t 28) (.t 25)), 0⟩,
        ⟨(some 30), (some (22, true)), (.ld .one (.t 29)), 0⟩,
        ⟨(some 31), (some (22, true)), (.not (.t 30)), 0⟩,
        ⟨(some 32), (some (22, true)), (.mv (.t 31)), 0⟩,
        ⟨(some 33), (some (32, false)), (.mv (.t 9)), 0⟩,
        ⟨(some 34), (some (32, false)), (.mv (.t 2)), 0⟩,
        ⟨(some 35), (some (32, false)), (.iad 7 7 (.t 5) (.t 33)), 0⟩,
        ⟨(some 36), (some (32, false)), (.iad 7 1 (.t 35) (.t 34)), 0⟩,
        ⟨(some 37), (some (32, false)), (.ld .one (.t 36)), 0⟩,
        ⟨(some 38), (some (22, true)), (.pick (.t 32) (.c (.s (.bool true))) (.t 37)), 0⟩,
        ⟨(some 39), none, (.pick (.t 22) (.t 38) (.c (.s (.bool false)))), 0⟩,
        ⟨(some 40), none, (.mv (.t 39)), 0⟩,
        ⟨(some 41), (some (40, false)), (.mv (.t 9)), 0⟩,
        ⟨(some 42), (some (40, false)), (.mv (.t 2)), 0⟩,
        ⟨(some 43), (some (40, false)), (.iad 7 7 (.t 5) (.t 41)), 0⟩,
        ⟨(some 44), (some (40, false)), (.iad 7 1 (.t 43) (.t 42)), 0⟩,
        ⟨(some 45), (some (40, false)), (.ld .one (.t 44)), 0⟩,
        ⟨(some 46), (some (40, false)), (.mv (.t 45)), 0⟩,
        ⟨(some 47), (some (46, true)), (.mv (.t 0)), 0⟩,
        ⟨(some 48), (some (46, true)), (.mv (.t 9)), 0⟩,
        ⟨(some 49), (some (46, true)), (.mv (.t 3)), 0⟩,
        ⟨(some 50), (some (46, true)), (.nck (.t 47)), 0⟩,
        ⟨(some 51), (some (46, true)), (.fad 1 (.t 50)), 0⟩,
        ⟨(some 52), (some (46, true)), (.iad 7 7 (.t 51) (.t 48)), 0⟩,
        ⟨(some 53), (some (46, true)), (.iad 7 1 (.t 52) (.t 49)), 0⟩,
        ⟨(some 54), (some (46, true)), (.ld .one (.t 53)), 0⟩,
        ⟨(some 55), (some (46, true)), (.not (.t 54)), 0⟩,
        ⟨(some 56), (some (46, true)), (.mv (.t 55)), 0⟩,
        ⟨(some 57), (some (56, false)), (.mv (.t 3)), 0⟩,
        ⟨(some 58), (some (56, false)), (.mv (.t 9)), 0⟩,
        ⟨(some 59), (some (56, false)), (.iad 7 7 (.t 5) (.t 57)), 0⟩,
        ⟨(some 60), (some (56, false)), (.iad 7 1 (.t 59) (.t 58)), 0⟩,
        ⟨(some 61), (some (56, false)), (.ld .one (.t 60)), 0⟩,
        ⟨(some 62), (some (46, true)), (.pick (.t 56) (.c (.s (.bool true))) (.t 61)), 0⟩,
        ⟨(some 63), (some (40, false)), (.pick (.t 46) (.t 62) (.c (.s (.bool false)))), 0⟩,
        ⟨(some 64), none, (.pick (.t 40) (.c (.s (.bool true))) (.t 63)), 0⟩] 0)
      (.cond (.t 64)
       (.seq (.reg [⟨(some 8), none, (.mv (.c (.s (.bool true)))), 0⟩] 0)
       .ret)
       .skip))))
    (.reg [⟨(some 65), none, (.bin .add (.t 14) (.c (.s (.int .i64 1)))), 0⟩,
     ⟨(some 14), none, (.mv (.t 65)), 0⟩] 0)))))))
 (.seq (.reg [⟨(some 8), none, (.mv (.c (.s (.bool false)))), 0⟩] 0)
 .ret))), [(.t 8)]⟩

/-- (*girouette/orders.graph).arrows -/
def x53 : XFn := ⟨37, (.seq (.reg [⟨(some 2), none, (.mv (.c (.s .nils))), 0⟩] 0)
 (.seq (.reg [⟨(some 3), none, (.mv (.c (.s .nils))), 0⟩] 0)
 (.seq (.seq (.reg [⟨(some 6), none, (.mv (.t 0)), 0⟩,
    ⟨(some 7), none, (.nck (.t 6)), 0⟩,
    ⟨(some 8), none, (.fad 0 (.t 7)), 0⟩,
    ⟨(some 9), none, (.ld .one (.t 8)), 0⟩,
    ⟨(some 10), none, (.mv (.c (.s (.int .i64 0)))), 0⟩] 0)
  (.block 0 (.loop (.seq (.reg [⟨(some 11), none, (.bin .lss (.t 10) (.t 9)), 0⟩] 0)
    (.seq (.cond (.t 11)
      .skip
      (.exit 0))
    (.seq (.block 1 (.seq (.reg [⟨(some 12), none, (.mv (.t 10)), 0⟩,
        ⟨(some 4), none, (.mv (.t 12)), 0⟩] 0)
      (.seq (.reg [⟨(some 13), none, (.mv (.t 0)), 0⟩,
        ⟨(some 14), none, (.nck (.t 13)), 0⟩,
        ⟨(some 15), none, (.fad 0 (.t 14)), 0⟩,
        ⟨(some 16), none, (.ld .one (.t 15)), 0⟩,
        ⟨(some 17), none, (.mv (.c (.s (.int .i64 0)))), 0⟩] 0)
      (.block 2 (.loop (.seq (.reg [⟨(some 18), none, (.bin .lss (.t 17) (.t 16)), 0⟩] 0)
        (.seq (.cond (.t 18)
          .skip
          (.exit 2))
        (.seq (.block 3 (.seq (.reg [⟨(some 19), none, (.mv (.t 17)), 0⟩,
            ⟨(some 5), none, (.mv (.t 19)), 0⟩] 0)
          (.seq (.reg [⟨(some 20), none, (.mv (.t 0)), 0⟩,
            ⟨(some 21), none, (.mv (.t 4)), 0⟩,
            ⟨(some 22), none, (.mv (.t 5)), 0⟩,
            ⟨(some 23), none, (.nck (.t 20)), 0⟩,
            ⟨(some 24), none, (.fad 1 (.t 23)), 0⟩,
            ⟨(some 25), none, (.iad 7 7 (.t 24) (.t 21)), 0⟩,
            ⟨(some 26), none, (.iad 7 1 (.t 25) (.t 22)), 0⟩,
            ⟨(some 27), none, (.ld .one (.t 26)), 0⟩] 0)
          (.cond (.t 27)
           (.reg [⟨(some 28), none, (.mv (.t 3)), 0⟩,
            ⟨(some 29), none, (.mv (.t 4)), 0⟩,
            ⟨(some 30), none, (.mv (.t 5)), 0⟩,
            ⟨(some 31), none, (.bld (.pb [(.int .i64 0), (.int .i64 0)] 0 ff) [((0, 1), (.t 29)), ((1, 1), (.t 30))]), 0⟩,
            ⟨(some 32), none, (.bsl 77 .i64 2 1 [(0, (.t 31))]), 0⟩,
            ⟨(some 33), none, (.app 77 .i64 2 (.t 28) (.t 32)), 1⟩,
            ⟨(some 3), none, (.mv (.t 33)), 2⟩] 2)
           .skip))))
        (.reg [⟨(some 34), none, (.bin .add (.t 17) (.c (.s (.int .i64 1)))), 0⟩,
         ⟨(some 17), none, (.mv (.t 34)), 0⟩] 0)))))))))
    (.reg [⟨(some 35), none, (.bin .add (.t 10) (.c (.s (.int .i64 1)))), 0⟩,
     ⟨(some 10), none, (.mv (.t 35)), 0⟩] 0)))))))
 (.seq (.reg [⟨(some 36), none, (.mv (.t 3)), 0⟩,
   ⟨(some 2), none, (.mv (.t 36)), 0⟩] 0)
 .ret)))), [(.t 2)]⟩

/-- (*girouette/orders.graph).reach -/
def x54 : XFn := ⟨52, (.seq (.reg [⟨(some 3), none, (.box 77 (.t 1)), 0⟩,
   ⟨(some 4), none, (.mv (.c (.s .nils))), 1⟩,
   ⟨(some 5), none, (.mv (.c (.s .nilm))), 1⟩] 1)
 (.seq (.reg [⟨(some 12), none, (.mmk (.ints 2) (.ints 2)), 0⟩,
   ⟨(some 13), none, (.ld (.many 2 0) (.t 3)), 1⟩,
   ⟨(some 14), none, (.ld (.many 2 0) (.t 3)), 1⟩,
   ⟨none, none, (.mupd (.ints 2) (.ints 2) (.t 12) (.t 13) (.t 14)), 1⟩,
   ⟨(some 15), none, (.mv (.t 12)), 1⟩,
   ⟨(some 6), none, (.alloc 78 (.s .nilm)), 1⟩,
   ⟨none, none, (.st .one (.t 6) (.t 15)), 2⟩] 2)
 (.seq (.reg [⟨(some 16), none, (.ld (.many 2 0) (.t 3)), 0⟩,
   ⟨(some 17), none, (.bsl 77 .i64 2 1 [(0, (.t 16))]), 0⟩,
   ⟨(some 7), none, (.alloc 74 (.s .nils)), 1⟩,
   ⟨none, none, (.st .one (.t 7) (.t 17)), 2⟩] 2)
 (.seq (.seq (.reg [⟨(some 8), none, (.alloc 3 (.s (.int .i64 0))), 0⟩,
    ⟨none, none, (.st .one (.t 8) (.c (.s (.int .i64 0)))), 1⟩] 1)
  (.block 0 (.loop (.seq (.seq (.reg [⟨(some 18), none, (.ld .one (.t 8)), 0⟩,
       ⟨(some 19), none, (.ld .one (.t 7)), 0⟩,
       ⟨(some 20), none, (.len (.t 19)), 0⟩,
       ⟨(some 21), none, (.bin .lss (.t 18) (.t 20)), 0⟩] 0)
     (.cond (.t 21)
      .skip
      (.exit 0)))
    (.seq (.block 1 (.seq (.reg [⟨(some 24), none, (.mv (.t 0)), 0⟩,
        ⟨(some 25), none, (.ld .one (.t 7)), 0⟩,
        ⟨(some 26), none, (.ld .one (.t 8)), 0⟩,
        ⟨(some 27), none, (.iadS 2 (.t 25) (.t 26)), 0⟩,
        ⟨(some 28), none, (.ld (.many 2 0) (.t 27)), 0⟩,
        ⟨(some 29), none, (.call (.c (.s (.fn 88 []))) [(.t 24), (.t 28)]), 0⟩] 8)
      (.block 2 (.rf (.t 29) [30] (.reg [⟨(some 9), none, (.alloc 77 (.pb [(.int .i64 0), (.int .i64 0)] 0 ff)), 0⟩,
         ⟨none, none, (.st (.many 2 0) (.t 9) (.t 30)), 1⟩] 1) (.block 3 (.seq (.reg [⟨(some 32), none, (.ld .one (.t 6)), 0⟩,
           ⟨(some 33), none, (.ld (.many 2 0) (.t 9)), 0⟩,
           ⟨(some 34), none, (.lkup (.ints 2) (.ints 2) true (.t 32) (.t 33)), 0⟩,
           ⟨(some 31), none, (.mv (.t 34)), 0⟩,
           ⟨(some 35), none, (.extr (.t 31) 0), 0⟩,
           ⟨(some 36), none, (.extr (.t 31) 1), 0⟩,
           ⟨(some 10), none, (.alloc 77 (.pb [(.int .i64 0), (.int .i64 0)] 0 ff)), 0⟩,
           ⟨none, none, (.st (.many 2 0) (.t 10) (.t 35)), 1⟩,
           ⟨(some 11), none, (.mv (.t 36)), 1⟩] 1)
         (.seq (.reg [⟨(some 37), none, (.mv (.t 11)), 0⟩,
           ⟨(some 38), none, (.not (.t 37)), 0⟩] 0)
         (.cond (.t 38)
          (.seq (.regD [⟨(some 39), none, (.ld .one (.t 6)), 0⟩,
            ⟨(some 40), none, (.ld (.many 2 0) (.t 9)), 0⟩,
            ⟨(some 41), none, (.ld .one (.t 7)), 0⟩,
            ⟨(some 42), none, (.ld .one (.t 8)), 0⟩,
            ⟨(some 43), none, (.iadS 2 (.t 41) (.t 42)), 0⟩,
            ⟨(some 44), none, (.ld (.many 2 0) (.t 43)), 0⟩,
            ⟨none, none, (.mupd (.ints 2) (.ints 2) (.t 39) (.t 40) (.t 44)), 0⟩] 0 [])
          (.reg [⟨(some 45), none, (.ld .one (.t 7)), 0⟩,
           ⟨(some 46), none, (.ld (.many 2 0) (.t 9)), 0⟩,
           ⟨(some 47), none, (.bsl 77 .i64 2 1 [(0, (.t 46))]), 0⟩,
           ⟨(some 48), none, (.app 77 .i64 2 (.t 45) (.t 47)), 1⟩,
           ⟨none, none, (.st .one (.t 7) (.t 48)), 2⟩] 2))
          .skip))))))))
    (.seq (.seq (.reg [⟨(some 49), none, (.ld .one (.t 8)), 0⟩] 0)
     (.reg [⟨(some 8), none, (.alloc 3 (.s (.int .i64 0))), 0⟩,
      ⟨none, none, (.st .one (.t 8) (.t 49)), 1⟩] 1))
    (.reg [⟨(some 22), none, (.ld .one (.t 8)), 0⟩,
     ⟨(some 23), none, (.bin .add (.t 22) (.c (.s (.int .i64 1)))), 0⟩,
     ⟨none, none, (.st .one (.t 8) (.t 23)), 0⟩] 0)))))))
 (.seq (.regD [⟨(some 50), none, (.ld .one (.t 7)), 0⟩,
   ⟨(some 51), none, (.ld .one (.t 6)), 0⟩,
   ⟨(some 4), none, (.mv (.t 50)), 0⟩,
   ⟨(some 5), none, (.mv (.t 51)), 0⟩] 0 [])
 .ret))))), [(.t 4), (.t 5)]⟩

/-- (*girouette/orders.graph).orient -/
def x55 : XFn := ⟨72, (.seq (.reg [⟨(some 2), none, (.alloc 70 (.pb [] 49 ff)), 0⟩,
   ⟨(some 3), none, (.mv (.c (.s (.bool false)))), 1⟩] 1)
 (.seq (.reg [⟨(some 4), none, (.alloc 70 (.pb [] 49 ff)), 0⟩] 1)
 (.seq (.reg [⟨(some 13), none, (.mv (.t 0)), 0⟩,
   ⟨(some 14), none, (.nck (.t 13)), 0⟩,
   ⟨(some 15), none, (.ld (.many 1 49) (.t 14)), 0⟩,
   ⟨(some 5), none, (.alloc 115 (.pb [(.int .i64 0)] 49 ff)), 0⟩,
   ⟨none, none, (.st (.many 1 49) (.t 5) (.t 15)), 1⟩] 1)
 (.seq (.block 0 (.loop (.block 1 (.seq (.reg [⟨(some 16), none, (.call (.c (.s (.fn 53 []))) [(.t 5)]), 0⟩,
       ⟨(some 6), none, (.mv (.t 16)), 8⟩] 8)
     (.seq (.seq (.reg [⟨(some 17), none, (.mv (.t 6)), 0⟩,
        ⟨(some 18), none, (.len (.t 17)), 0⟩,
        ⟨(some 19), none, (.bin .eql (.t 18) (.c (.s (.int .i64 0)))), 0⟩] 0)
      (.cond (.t 19)
       (.exit 0)
       .skip))
     (.seq (.reg [⟨(some 21), none, (.mv (.t 6)), 0⟩,
       ⟨(some 22), none, (.iadS 2 (.t 21) (.c (.s (.int .i64 0)))), 0⟩,
       ⟨(some 23), none, (.ld (.many 2 0) (.t 22)), 0⟩,
       ⟨(some 24), none, (.call (.c (.s (.fn 54 []))) [(.t 5), (.t 23)]), 0⟩,
       ⟨(some 20), none, (.mv (.t 24)), 8⟩,
       ⟨(some 25), none, (.extr (.t 20) 0), 8⟩,
       ⟨(some 26), none, (.extr (.t 20) 1), 8⟩,
       ⟨(some 7), none, (.mv (.t 25)), 8⟩,
       ⟨(some 8), none, (.mv (.t 26)), 8⟩] 8)
     (.seq (.seq (.reg [⟨(some 27), none, (.mv (.t 7)), 0⟩,
        ⟨(some 28), none, (.len (.t 27)), 0⟩,
        ⟨(some 29), none, (.mv (.c (.s (.int .i64 0)))), 0⟩] 0)
      (.block 2 (.loop (.seq (.reg [⟨(some 30), none, (.bin .lss (.t 29) (.t 28)), 0⟩] 0)
        (.seq (.cond (.t 30)
          .skip
          (.exit 2))
        (.seq (.block 3 (.seq (.reg [⟨(some 31), none, (.iadS 2 (.t 27) (.t 29)), 0⟩,
            ⟨(some 32), none, (.ld (.many 2 0) (.t 31)), 0⟩,
            ⟨(some 10), none, (.alloc 77 (.pb [(.int .i64 0), (.int .i64 0)] 0 ff)), 0⟩,
            ⟨none, none, (.st (.many 2 0) (.t 10) (.t 32)), 1⟩] 1)
          (.regD [⟨(some 33), none, (.fad 0 (.t 10)), 0⟩,
           ⟨(some 34), none, (.ld .one (.t 33)), 0⟩,
           ⟨(some 35), none, (.fad 1 (.t 10)), 0⟩,
           ⟨(some 36), none, (.ld .one (.t 35)), 0⟩,
           ⟨(some 37), none, (.iad 7 7 (.t 4) (.t 34)), 0⟩,
           ⟨(some 38), none, (.iad 7 1 (.t 37) (.t 36)), 0⟩,
           ⟨none, none, (.st .one (.t 38) (.c (.s (.bool true)))), 0⟩] 0 [])))
        (.reg [⟨(some 39), none, (.bin .add (.t 29) (.c (.s (.int .i64 1)))), 0⟩,
         ⟨(some 29), none, (.mv (.t 39)), 0⟩] 0)))))))
     (.seq (.reg [⟨(some 40), none, (.mv (.t 7)), 0⟩,
       ⟨(some 41), none, (.len (.t 40)), 0⟩,
       ⟨(some 42), none, (.mv (.c (.s (.int .i64 0)))), 0⟩] 0)
     (.block 4 (.loop (.seq (.reg [⟨(some 43), none, (.bin .lss (.t 42) (.t 41)), 0⟩] 0)
       (.seq (.cond (.t 43)
         .skip
         (.exit 4))
       (.seq (.block 5 (.seq (.reg [⟨(some 44), none, (.iadS 2 (.t 40) (.t 42)), 0⟩,
           ⟨(some 45), none, (.ld (.many 2 0) (.t 44)), 0⟩,
           ⟨(some 12), none, (.alloc 77 (.pb [(.int .i64 0), (.int .i64 0)] 0 ff)), 0⟩,
           ⟨none, none, (.st (.many 2 0) (.t 12) (.t 45)), 1⟩] 1)
         (.seq (.seq (.regD [⟨(some 46), none, (.fad 1 (.t 12)), 0⟩,
            ⟨(some 47), none, (.ld .one (.t 46)), 0⟩,
            ⟨(some 48), none, (.fad 0 (.t 12)), 0⟩,
            ⟨(some 49), none, (.ld .one (.t 48)), 0⟩,
            ⟨(some 50), none, (.iad 7 7 (.t 4) (.t 47)), 0⟩,
            ⟨(some 51), none, (.iad 7 1 (.t 50) (.t 49)), 0⟩,
            ⟨(some 52), none, (.ld .one (.t 51)), 0⟩] 0 [])
          (.cond (.t 52)
           (.seq (.reg [⟨(some 53), none, (.bld (.pb [] 49 ff) []), 0⟩,
             ⟨none, none, (.st (.many 0 49) (.t 2) (.t 53)), 0⟩,
             ⟨(some 3), none, (.mv (.c (.s (.bool false)))), 0⟩] 0)
           .ret)
           .skip))
         (.regD [⟨(some 54), none, (.fad 0 (.t 12)), 0⟩,
          ⟨(some 55), none, (.ld .one (.t 54)), 0⟩,
          ⟨(some 56), none, (.fad 1 (.t 12)), 0⟩,
          ⟨(some 57), none, (.ld .one (.t 56)), 0⟩,
          ⟨(some 58), none, (.fad 1 (.t 12)), 0⟩,
          ⟨(some 59), none, (.ld .one (.t 58)), 0⟩,
          ⟨(some 60), none, (.fad 0 (.t 12)), 0⟩,
          ⟨(some 61), none, (.ld .one (.t 60)), 0⟩,
          ⟨(some 62), none, (.fad 1 (.t 5)), 0⟩,
          ⟨(some 63), none, (.iad 7 7 (.t 62) (.t 55)), 0⟩,
          ⟨(some 64), none, (.iad 7 1 (.t 63) (.t 57)), 0⟩,
          ⟨none, none, (.st .one (.t 64) (.c (.s (.bool false)))), 0⟩,
          ⟨(some 65), none, (.fad 1 (.t 5)), 0⟩,
          ⟨(some 66), none, (.iad 7 7 (.t 65) (.t 59)), 0⟩,
          ⟨(some 67), none, (.iad 7 1 (.t 66) (.t 61)), 0⟩,
          ⟨none, none, (.st .one (.t 67) (.c (.s (.bool false)))), 0⟩] 0 [(5, 11), (7, 11)]))))
       (.reg [⟨(some 68), none, (.bin .add (.t 42) (.c (.s (.int .i64 1)))), 0⟩,
        ⟨(some 42), none, (.mv (.t 68)), 0⟩] 0))))))))))))))
 (.seq (.regD [⟨(some 69), none, (.ld (.many 0 49) (.t 4)), 0⟩,
   ⟨(some 70), none, (.ld (.many 0 49) (.t 4)), 0⟩,
   ⟨(some 71), none, (.call (.c (.s (.fn 51 []))) [(.t 70)]), 0⟩,
   ⟨none, none, (.st (.many 0 49) (.t 2) (.t 69)), 8⟩,
   ⟨(some 3), none, (.mv (.t 71)), 8⟩] 8 [(0, 2)])
 .ret))))), [(.cell 2 (.many 0 49)), (.t 3)]⟩

/-- (girouette/orders.relation).told -/
def x56 : XFn := ⟨26, (.seq (.reg [⟨(some 1), none, (.box 70 (.t 0)), 0⟩,
   ⟨(some 2), none, (.mv (.c (.s .nils))), 1⟩] 1)
 (.seq (.reg [⟨(some 3), none, (.mv (.c (.s .nils))), 0⟩] 0)
 (.seq (.seq (.reg [⟨(some 6), none, (.mv (.c (.s (.int .i64 0)))), 0⟩] 0)
  (.block 0 (.loop (.seq (.reg [⟨(some 7), none, (.bin .lss (.t 6) (.c (.s (.int .i64 7)))), 0⟩] 0)
    (.seq (.cond (.t 7)
      .skip
      (.exit 0))
    (.seq (.block 1 (.seq (.reg [⟨(some 8), none, (.mv (.t 6)), 0⟩,
        ⟨(some 4), none, (.mv (.t 8)), 0⟩] 0)
      (.seq (.reg [⟨(some 9), none, (.mv (.c (.s (.int .i64 0)))), 0⟩] 0)
      (.block 2 (.loop (.seq (.reg [⟨(some 10), none, (.bin .lss (.t 9) (.c (.s (.int .i64 7)))), 0⟩] 0)
        (.seq (.cond (.t 10)
          .skip
          (.exit 2))
        (.seq (.block 3 (.seq (.reg [⟨(some 11), none, (.mv (.t 9)), 0⟩,
            ⟨(some 5), none, (.mv (.t 11)), 0⟩] 0)
          (.seq (.reg [⟨(some 12), none, (.mv (.t 4)), 0⟩,
            ⟨(some 13), none, (.mv (.t 5)), 0⟩,
            ⟨(some 14), none, (.iad 7 7 (.t 1) (.t 12)), 0⟩,
            ⟨(some 15), none, (.iad 7 1 (.t 14) (.t 13)), 0⟩,
            ⟨(some 16), none, (.ld .one (.t 15)), 0⟩] 0)
          (.cond (.t 16)
           (.reg [⟨(some 17), none, (.mv (.t 3)), 0⟩,
            ⟨(some 18), none, (.mv (.t 4)), 0⟩,
            ⟨(some 19), none, (.mv (.t 5)), 0⟩,
            ⟨(some 20), none, (.bld (.pb [(.int .i64 0), (.int .i64 0)] 0 ff) [((0, 1), (.t 18)), ((1, 1), (.t 19))]), 0⟩,
            ⟨(some 21), none, (.bsl 38 .i64 2 1 [(0, (.t 20))]), 0⟩,
            ⟨(some 22), none, (.app 38 .i64 2 (.t 17) (.t 21)), 1⟩,
            ⟨(some 3), none, (.mv (.t 22)), 2⟩] 2)
           .skip))))
        (.reg [⟨(some 23), none, (.bin .add (.t 9) (.c (.s (.int .i64 1)))), 0⟩,
         ⟨(some 9), none, (.mv (.t 23)), 0⟩] 0)))))))))
    (.reg [⟨(some 24), none, (.bin .add (.t 6) (.c (.s (.int .i64 1)))), 0⟩,
     ⟨(some 6), none, (.mv (.t 24)), 0⟩] 0)))))))
 (.seq (.reg [⟨(some 25), none, (.mv (.t 3)), 0⟩,
   ⟨(some 2), none, (.mv (.t 25)), 0⟩] 0)
 .ret)))), [(.t 2)]⟩

/-- girouette/orders.Drawn -/
def x57 : XFn := ⟨29, (.seq (.reg [⟨(some 3), none, (.box 48 (.t 1)), 0⟩,
   ⟨(some 4), none, (.mv (.c (.s .nils))), 1⟩,
   ⟨(some 5), none, (.mv (.c (.s (.int .i64 0)))), 1⟩] 1)
 (.seq (.reg [⟨(some 10), none, (.mv (.t 0)), 0⟩,
   ⟨(some 11), none, (.ld (.many 2 0) (.t 3)), 0⟩,
   ⟨(some 12), none, (.call (.c (.s (.fn 94 []))) [(.t 10), (.t 11)]), 0⟩,
   ⟨(some 9), none, (.mv (.t 12)), 8⟩,
   ⟨(some 13), none, (.extr (.t 9) 0), 8⟩,
   ⟨(some 14), none, (.extr (.t 9) 1), 8⟩,
   ⟨(some 6), none, (.alloc 70 (.pb [] 49 ff)), 8⟩,
   ⟨none, none, (.st (.many 0 49) (.t 6) (.t 13)), 9⟩,
   ⟨(some 7), none, (.mv (.t 14)), 9⟩] 9)
 (.seq (.seq (.reg [⟨(some 15), none, (.mv (.t 7)), 0⟩,
    ⟨(some 16), none, (.bin .neq (.t 15) (.c (.s (.int .i64 0)))), 0⟩] 0)
  (.cond (.t 16)
   (.seq (.reg [⟨(some 17), none, (.mv (.t 7)), 0⟩,
     ⟨(some 4), none, (.mv (.c (.s .nils))), 0⟩,
     ⟨(some 5), none, (.mv (.t 17)), 0⟩] 0)
   .ret)
   .skip))
 (.seq (.regD [⟨(some 18), none, (.mv (.t 0)), 0⟩,
   ⟨(some 19), none, (.ld (.many 0 49) (.t 6)), 0⟩,
   ⟨(some 20), none, (.ld (.many 0 49) (.t 6)), 0⟩,
   ⟨(some 21), none, (.call (.c (.s (.fn 61 []))) [(.t 20)]), 0⟩,
   ⟨(some 22), none, (.bslB 70 49 2 [(0, (.t 19)), (1, (.t 21))]), 8⟩,
   ⟨(some 23), none, (.call (.c (.s (.fn 80 []))) [(.t 22)]), 9⟩,
   ⟨(some 24), none, (.bld (.pb [(.int .i64 0)] 49 ff) [((0, 1), (.t 18)), ((1, 49), (.t 23))]), 17⟩,
   ⟨(some 25), none, (.box 115 (.t 24)), 17⟩,
   ⟨(some 8), none, (.mv (.t 25)), 18⟩] 18 [(1, 3)])
 (.seq (.reg [⟨(some 26), none, (.mv (.t 8)), 0⟩,
   ⟨(some 27), none, (.call (.c (.s (.fn 81 []))) [(.t 26)]), 0⟩,
   ⟨(some 28), none, (.call (.c (.s (.fn 49 []))) [(.t 27)]), 8⟩,
   ⟨(some 4), none, (.mv (.t 28)), 16⟩,
   ⟨(some 5), none, (.mv (.c (.s (.int .i64 0)))), 16⟩] 16)
 .ret))))), [(.t 4), (.t 5)]⟩

/-- girouette/orders.Common -/
def x58 : XFn := ⟨19, (.seq (.reg [⟨(some 3), none, (.box 48 (.t 1)), 0⟩,
   ⟨(some 4), none, (.mv (.c (.s .nils))), 1⟩,
   ⟨(some 5), none, (.mv (.c (.s (.int .i64 0)))), 1⟩] 1)
 (.seq (.reg [⟨(some 9), none, (.mv (.t 0)), 0⟩,
   ⟨(some 10), none, (.ld (.many 2 0) (.t 3)), 0⟩,
   ⟨(some 11), none, (.call (.c (.s (.fn 94 []))) [(.t 9), (.t 10)]), 0⟩,
   ⟨(some 8), none, (.mv (.t 11)), 8⟩,
   ⟨(some 12), none, (.extr (.t 8) 0), 8⟩,
   ⟨(some 13), none, (.extr (.t 8) 1), 8⟩,
   ⟨(some 6), none, (.alloc 70 (.pb [] 49 ff)), 8⟩,
   ⟨none, none, (.st (.many 0 49) (.t 6) (.t 12)), 9⟩,
   ⟨(some 7), none, (.mv (.t 13)), 9⟩] 9)
 (.seq (.seq (.reg [⟨(some 14), none, (.mv (.t 7)), 0⟩,
    ⟨(some 15), none, (.bin .neq (.t 14) (.c (.s (.int .i64 0)))), 0⟩] 0)
  (.cond (.t 15)
   (.seq (.reg [⟨(some 16), none, (.mv (.t 7)), 0⟩,
     ⟨(some 4), none, (.mv (.c (.s .nils))), 0⟩,
     ⟨(some 5), none, (.mv (.t 16)), 0⟩] 0)
   .ret)
   .skip))
 (.seq (.reg [⟨(some 17), none, (.ld (.many 0 49) (.t 6)), 0⟩,
   ⟨(some 18), none, (.call (.c (.s (.fn 56 []))) [(.t 17)]), 0⟩,
   ⟨(some 4), none, (.mv (.t 18)), 8⟩,
   ⟨(some 5), none, (.mv (.c (.s (.int .i64 0)))), 8⟩] 8)
 .ret)))), [(.t 4), (.t 5)]⟩

/-- girouette/orders.order -/
def x59 : XFn := ⟨72, (.seq (.reg [⟨(some 4), none, (.alloc 70 (.pb [] 49 ff)), 0⟩,
   ⟨(some 5), none, (.mv (.c (.s (.int .i64 0)))), 1⟩] 1)
 (.seq (.reg [⟨(some 6), none, (.alloc 70 (.pb [] 49 ff)), 0⟩] 1)
 (.seq (.seq (.reg [⟨(some 9), none, (.mv (.t 0)), 0⟩,
    ⟨(some 10), none, (.bin .lss (.t 9) (.c (.s (.int .i64 1)))), 0⟩,
    ⟨(some 11), none, (.mv (.t 10)), 0⟩,
    ⟨(some 12), (some (11, false)), (.mv (.t 0)), 0⟩,
    ⟨(some 13), (some (11, false)), (.bin .gtr (.t 12) (.c (.s (.int .i64 7)))), 0⟩,
    ⟨(some 14), none, (.pick (.t 11) (.c (.s (.bool true))) (.t 13)), 0⟩] 0)
  (.cond (.t 14)
   (.seq (.reg [⟨(some 15), none, (.ld (.many 0 49) (.t 6)), 0⟩,
     ⟨none, none, (.st (.many 0 49) (.t 4) (.t 15)), 0⟩,
     ⟨(some 5), none, (.mv (.c (.s (.int .i64 1)))), 0⟩] 0)
   .ret)
   .skip))
 (.seq (.seq (.reg [⟨(some 16), none, (.mv (.t 1)), 0⟩,
    ⟨(some 17), none, (.len (.t 16)), 0⟩,
    ⟨(some 18), none, (.mv (.c (.s (.int .i64 0)))), 0⟩] 0)
  (.block 0 (.loop (.seq (.reg [⟨(some 19), none, (.bin .lss (.t 18) (.t 17)), 0⟩] 0)
    (.seq (.cond (.t 19)
      .skip
      (.exit 0))
    (.seq (.block 1 (.seq (.reg [⟨(some 20), none, (.mv (.t 18)), 0⟩,
        ⟨(some 21), none, (.iadS 2 (.t 16) (.t 18)), 0⟩,
        ⟨(some 22), none, (.ld (.many 2 0) (.t 21)), 0⟩,
        ⟨(some 8), none, (.alloc 38 (.pb [(.int .i64 0), (.int .i64 0)] 0 ff)), 0⟩,
        ⟨(some 7), none, (.mv (.t 20)), 1⟩,
        ⟨none, none, (.st (.many 2 0) (.t 8) (.t 22)), 1⟩] 1)
      (.seq (.seq (.regD [⟨(some 23), none, (.iad 2 1 (.t 8) (.c (.s (.int .i64 0)))), 0⟩,
         ⟨(some 24), none, (.ld .one (.t 23)), 0⟩,
         ⟨(some 25), none, (.iad 2 1 (.t 8) (.c (.s (.int .i64 1)))), 0⟩,
         ⟨(some 26), none, (.ld .one (.t 25)), 0⟩,
         ⟨(some 27), none, (.mn [(.t 24), (.t 26)]), 0⟩,
         ⟨(some 28), none, (.bin .lss (.t 27) (.c (.s (.int .i64 0)))), 0⟩,
         ⟨(some 29), none, (.mv (.t 28)), 0⟩,
         ⟨(some 30), (some (29, false)), (.iad 2 1 (.t 8) (.c (.s (.int .i64 0)))), 0⟩,
         ⟨(some 31), (some (29, false)), (.ld .one (.t 30)), 0⟩,
         ⟨(some 32), (some (29, false)), (.iad 2 1 (.t 8) (.c (.s (.int .i64 1)))), 0⟩,
         ⟨(some 33), (some (29, false)), (.ld .one (.t 32)), 0⟩,
         ⟨(some 34), (some (29, false)), (.mx [(.t 31), (.t 33)]), 0⟩,
         ⟨(some 35), (some (29, false)), (.mv (.t 0)), 0⟩,
         ⟨(some 36), (some (29, false)), (.bin .geq (.t 34) (.t 35)), 0⟩,
         ⟨(some 37), none, (.pick (.t 29) (.c (.s (.bool true))) (.t 36)), 0⟩,
         ⟨(some 38), none, (.mv (.t 37)), 0⟩,
         ⟨(some 39), (some (38, false)), (.iad 2 1 (.t 8) (.c (.s (.int .i64 0)))), 0⟩,
         ⟨(some 40), (some (38, false)), (.ld .one (.t 39)), 0⟩,
         ⟨(some 41), (some (38, false)), (.iad 2 1 (.t 8) (.c (.s (.int .i64 1)))), 0⟩,
         ⟨(some 42), (some (38, false)), (.ld .one (.t 41)), 0⟩,
         ⟨(some 43), (some (38, false)), (.bin .eql (.t 40) (.t 42)), 0⟩,
         ⟨(some 44), none, (.pick (.t 38) (.c (.s (.bool true))) (.t 43)), 0⟩,
         ⟨(some 45), none, (.mv (.t 44)), 0⟩,
         ⟨(some 46), (some (45, false)), (.mv (.t 7)), 0⟩,
         ⟨(some 47), (some (45, false)), (.bin .gtr (.t 46) (.c (.s (.int .i64 0)))), 0⟩,
         ⟨(some 48), (some (45, false)), (.mv (.t 47)), 0⟩,
         ⟨(some 49), (some (48, true)), (.mv (.t 1)), 0⟩,
         ⟨(some 50), (some (48, true)), (.mv (.t 7)), 0⟩,
         ⟨(some 51), (some (48, true)), (.bin .sub (.t 50) (.c (.s (.int .i64 1)))), 0⟩,
         ⟨(some 52), (some (48, true)), (.iadS 2 (.t 49) (.t 51)), 0⟩,
         ⟨(some 53), (some (48, true)), (.slcA 2 1 (.t 52) none none), 0⟩,
         ⟨(some 54), (some (48, true)), (.slcA 2 1 (.t 8) none none), 0⟩,
         ⟨(some 55), (some (48, true)), (.call (.c (.s (.fn 93 []))) [(.t 53), (.t 54)]), 0⟩,
         ⟨(some 56), (some (48, true)), (.bin .geq (.t 55) (.c (.s (.int .i64 0)))), 8⟩,
         ⟨(some 57), (some (45, false)), (.pick (.t 48) (.t 56) (.c (.s (.bool false)))), 8⟩,
         ⟨(some 58), none, (.pick (.t 45) (.c (.s (.bool true))) (.t 57)), 8⟩] 8 [])
       (.cond (.t 58)
        (.seq (.reg [⟨(some 59), none, (.ld (.many 0 49) (.t 6)), 0⟩,
          ⟨none, none, (.st (.many 0 49) (.t 4) (.t 59)), 0⟩,
          ⟨(some 5), none, (.mv (.c (.s (.int .i64 30)))), 0⟩] 0)
        .ret)
        .skip))
      (.regD [⟨(some 60), none, (.iad 2 1 (.t 8) (.c (.s (.int .i64 0)))), 0⟩,
       ⟨(some 61), none, (.ld .one (.t 60)), 0⟩,
       ⟨(some 62), none, (.iad 2 1 (.t 8) (.c (.s (.int .i64 1)))), 0⟩,
       ⟨(some 63), none, (.ld .one (.t 62)), 0⟩,
       ⟨(some 64), none, (.iad 7 7 (.t 6) (.t 61)), 0⟩,
       ⟨(some 65), none, (.iad 7 1 (.t 64) (.t 63)), 0⟩,
       ⟨none, none, (.st .one (.t 65) (.c (.s (.bool true)))), 0⟩] 0 []))))
    (.reg [⟨(some 66), none, (.bin .add (.t 18) (.c (.s (.int .i64 1)))), 0⟩,
     ⟨(some 18), none, (.mv (.t 66)), 0⟩] 0)))))))
 (.seq (.seq (.reg [⟨(some 67), none, (.ld (.many 0 49) (.t 6)), 0⟩,
    ⟨(some 68), none, (.call (.c (.s (.fn 51 []))) [(.t 67)]), 0⟩,
    ⟨(some 69), none, (.not (.t 68)), 8⟩] 8)
  (.cond (.t 69)
   (.seq (.reg [⟨(some 70), none, (.ld (.many 0 49) (.t 6)), 0⟩,
     ⟨none, none, (.st (.many 0 49) (.t 4) (.t 70)), 0⟩,
     ⟨(some 5), none, (.mv (.c (.s (.int .i64 30)))), 0⟩] 0)
   .ret)
   .skip))
 (.seq (.reg [⟨(some 71), none, (.ld (.many 0 49) (.t 6)), 0⟩,
   ⟨none, none, (.st (.many 0 49) (.t 4) (.t 71)), 0⟩,
   ⟨(some 5), none, (.mv (.c (.s (.int .i64 0)))), 0⟩] 0)
 .ret)))))), [(.cell 4 (.many 0 49)), (.t 5)]⟩

/-- girouette/orders.none -/
def x60 : XFn := ⟨3, (.seq (.reg [⟨(some 0), none, (.alloc 70 (.pb [] 49 ff)), 0⟩] 1)
 (.seq (.reg [⟨(some 1), none, (.alloc 70 (.pb [] 49 ff)), 0⟩] 1)
 (.seq (.reg [⟨(some 2), none, (.ld (.many 0 49) (.t 1)), 0⟩,
   ⟨none, none, (.st (.many 0 49) (.t 0) (.t 2)), 0⟩] 0)
 .ret))), [(.cell 0 (.many 0 49))]⟩

/-- (girouette/orders.relation).turned -/
def x61 : XFn := ⟨24, (.seq (.reg [⟨(some 1), none, (.box 70 (.t 0)), 0⟩,
   ⟨(some 2), none, (.alloc 70 (.pb [] 49 ff)), 1⟩] 2)
 (.seq (.reg [⟨(some 3), none, (.alloc 70 (.pb [] 49 ff)), 0⟩] 1)
 (.seq (.seq (.reg [⟨(some 6), none, (.mv (.c (.s (.int .i64 0)))), 0⟩] 0)
  (.block 0 (.loop (.seq (.reg [⟨(some 7), none, (.bin .lss (.t 6) (.c (.s (.int .i64 7)))), 0⟩] 0)
    (.seq (.cond (.t 7)
      .skip
      (.exit 0))
    (.seq (.block 1 (.seq (.reg [⟨(some 8), none, (.mv (.t 6)), 0⟩,
        ⟨(some 4), none, (.mv (.t 8)), 0⟩] 0)
      (.seq (.reg [⟨(some 9), none, (.mv (.c (.s (.int .i64 0)))), 0⟩] 0)
      (.block 2 (.loop (.seq (.reg [⟨(some 10), none, (.bin .lss (.t 9) (.c (.s (.int .i64 7)))), 0⟩] 0)
        (.seq (.cond (.t 10)
          .skip
          (.exit 2))
        (.seq (.block 3 (.seq (.reg [⟨(some 11), none, (.mv (.t 9)), 0⟩,
            ⟨(some 5), none, (.mv (.t 11)), 0⟩] 0)
          (.regD [⟨(some 12), none, (.mv (.t 5)), 0⟩,
           ⟨(some 13), none, (.mv (.t 4)), 0⟩,
           ⟨(some 14), none, (.mv (.t 4)), 0⟩,
           ⟨(some 15), none, (.mv (.t 5)), 0⟩,
           ⟨(some 16), none, (.iad 7 7 (.t 1) (.t 14)), 0⟩,
           ⟨(some 17), none, (.iad 7 1 (.t 16) (.t 15)), 0⟩,
           ⟨(some 18), none, (.ld .one (.t 17)), 0⟩,
           ⟨(some 19), none, (.iad 7 7 (.t 3) (.t 12)), 0⟩,
           ⟨(some 20), none, (.iad 7 1 (.t 19) (.t 13)), 0⟩,
           ⟨none, none, (.st .one (.t 20) (.t 18)), 0⟩] 0 [])))
        (.reg [⟨(some 21), none, (.bin .add (.t 9) (.c (.s (.int .i64 1)))), 0⟩,
         ⟨(some 9), none, (.mv (.t 21)), 0⟩] 0)))))))))
    (.reg [⟨(some 22), none, (.bin .add (.t 6) (.c (.s (.int .i64 1)))), 0⟩,
     ⟨(some 6), none, (.mv (.t 22)), 0⟩] 0)))))))
 (.seq (.reg [⟨(some 23), none, (.ld (.many 0 49) (.t 3)), 0⟩,
   ⟨none, none, (.st (.many 0 49) (.t 2) (.t 23)), 0⟩] 0)
 .ret)))), [(.cell 2 (.many 0 49))]⟩

/-- (girouette/orders.relation).layers -/
def x62 : XFn := ⟨23, (.seq (.reg [⟨(some 2), none, (.box 70 (.t 0)), 0⟩,
   ⟨(some 3), none, (.box 3 (.t 1)), 1⟩,
   ⟨(some 4), none, (.mv (.c (.s .nils))), 2⟩] 2)
 (.seq (.reg [⟨(some 8), none, (.ld .one (.t 3)), 0⟩,
   ⟨(some 9), none, (.mkS 3 .i64 (.t 8)), 0⟩,
   ⟨(some 5), none, (.mv (.t 9)), 1⟩] 1)
 (.seq (.reg [⟨(some 6), none, (.alloc 131 (.s .nilf)), 0⟩] 1)
 (.seq (.reg [⟨(some 10), none, (.mkf 95 [(.t 3), (.t 2), (.t 6)]), 0⟩,
   ⟨none, none, (.st .one (.t 6) (.t 10)), 0⟩] 0)
 (.seq (.seq (.reg [⟨(some 11), none, (.ld .one (.t 3)), 0⟩,
    ⟨(some 12), none, (.mv (.c (.s (.int .i64 0)))), 0⟩] 0)
  (.block 0 (.loop (.seq (.reg [⟨(some 13), none, (.bin .lss (.t 12) (.t 11)), 0⟩] 0)
    (.seq (.cond (.t 13)
      .skip
      (.exit 0))
    (.seq (.block 1 (.seq (.reg [⟨(some 14), none, (.mv (.t 12)), 0⟩,
        ⟨(some 7), none, (.mv (.t 14)), 0⟩] 0)
      (.reg [⟨(some 15), none, (.mv (.t 5)), 0⟩,
       ⟨(some 16), none, (.mv (.t 7)), 0⟩,
       ⟨(some 17), none, (.ld .one (.t 6)), 0⟩,
       ⟨(some 18), none, (.mv (.t 7)), 0⟩,
       ⟨(some 19), none, (.call (.t 17) [(.t 18)]), 0⟩,
       ⟨(some 20), none, (.iadS 1 (.t 15) (.t 16)), 8⟩,
       ⟨none, none, (.st .one (.t 20) (.t 19)), 8⟩] 8)))
    (.reg [⟨(some 21), none, (.bin .add (.t 12) (.c (.s (.int .i64 1)))), 0⟩,
     ⟨(some 12), none, (.mv (.t 21)), 0⟩] 0)))))))
 (.seq (.reg [⟨(some 22), none, (.mv (.t 5)), 0⟩,
   ⟨(some 4), none, (.mv (.t 22)), 0⟩] 0)
 .ret)))))), [(.t 4)]⟩


end Go.Proofs.Yteekkjfjpoaihaa.Eng
