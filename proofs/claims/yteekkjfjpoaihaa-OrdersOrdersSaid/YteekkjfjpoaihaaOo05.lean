/- A part of the proof of ordersOrders_holds. -/
import Derived.Test.YteekkjfjpoaihaaOo04
set_option linter.all false
namespace Go.Proofs.Yteekkjfjpoaihaa.Eng
open Go
abbrev oM (d s o : Nat) : XOp := ⟨some d, none, .mv (.t s), o⟩
abbrev oX (d : Nat) (x : XI) (o : Nat) : XOp := ⟨some d, none, x, o⟩
abbrev oG (d g : Nat) (b : Bool) (x : XI) (o : Nat) : XOp := ⟨some d, some (g, b), x, o⟩
abbrev oN (x : XI) (o : Nat) : XOp := ⟨none, none, x, o⟩
def x5 : XFn := ⟨191, (.seq (.reg [oX 6 (.mv (.c (.s (.bool false)))) 0] 0) (.seq (.reg [oM 28 0 0, oM 29 1 0, oX 30 (.call (.c (.s (.fn 7 []))) [(.t 28), (.t
 29), (.c (.s (.int .i64 7)))]) 0, oM 27 30 8, oX 31 (.extr (.t 27) 0) 8, oX 32 (.extr (.t 27) 1) 8, oM 7 31 8, oM 8 32 8] 8) (.seq (.reg [oM 34 7 0, oM 35 8 0,
 oX 36 (.call (.c (.s (.fn 10 []))) [(.t 34), (.t 35)]) 0, oM 33 36 8, oX 37 (.extr (.t 33) 0) 8, oX 38 (.extr (.t 33) 1) 8, oX 39 (.extr (.t 33) 2) 8, oM 9 37
 8, oM 10 38 8, oM 11 39 8] 8) (.seq (.seq (.reg [oM 40 11 0, oX 41 (.bin .neq (.t 40) (.c (.s (.int .i64 0)))) 0] 0) (.cond (.t 41) (.seq (.reg [oX 6 (.mv (.c
 (.s (.bool false)))) 0] 0) .ret) .skip)) (.seq (.seq (.reg [oM 42 10 0, oX 43 (.not (.t 42)) 0] 0) (.cond (.t 43) (.seq (.reg [oM 44 7 0, oX 45 (.bin .rem (.t
 44) (.c (.s (.int .i64 5)))) 0, oX 46 (.bin .add (.c (.s (.int .i64 1))) (.t 45)) 0, oM 7 46 0, oX 9 (.mv (.c (.s .nils))) 0] 0) (.seq (.reg [oX 12 (.mv (.c (.s
 (.int .i64 0)))) 0] 0) (.block 0 (.loop (.seq (.seq (.reg [oM 47 12 0, oM 48 7 0, oX 49 (.bin .lss (.t 47) (.t 48)) 0] 0) (.cond (.t 49) .skip (.exit 0))) (.seq
 (.block 1 (.seq (.reg [oM 52 12 0, oX 53 (.bin .add (.t 52) (.c (.s (.int .i64 1)))) 0, oM 13 53 0] 0) (.block 2 (.loop (.seq (.seq (.reg [oM 54 13 0, oM 55 7
 0, oX 56 (.bin .lss (.t 54) (.t 55)) 0] 0) (.cond (.t 56) .skip (.exit 2))) (.seq (.block 3 (.reg [oM 59 9 0, oM 60 12 0, oM 61 13 0, oX 62 (.bld (.pb [(.int
 .i64 0), (.int .i64 0)] 0 ff) [((0, 1), (.t 60)), ((1, 1), (.t 61))]) 0, oX 63 (.bsl 38 .i64 2 1 [(0, (.t 62))]) 0, oX 64 (.app 38 .i64 2 (.t 59) (.t 63)) 1, oM
 9 64 2] 2)) (.reg [oM 57 13 0, oX 58 (.bin .add (.t 57) (.c (.s (.int .i64 1)))) 0, oM 13 58 0] 0))))))) (.reg [oM 50 12 0, oX 51 (.bin .add (.t 50) (.c (.s
 (.int .i64 1)))) 0, oM 12 51 0] 0))))))) .skip)) (.seq (.seq (.reg [oM 65 7 0, oM 66 9 0, oX 67 (.call (.c (.s (.fn 28 []))) [(.t 65), (.t 66)]) 0, oX 68 (.not
 (.t 67)) 8] 8) (.cond (.t 68) (.seq (.reg [oX 6 (.mv (.c (.s (.bool false)))) 0] 0) .ret) .skip)) (.seq (.reg [oM 70 7 0, oM 71 9 0, oX 72 (.call (.c (.s (.fn
 12 []))) [(.t 70), (.t 71)]) 0, oM 69 72 8, oX 73 (.extr (.t 69) 0) 8, oX 74 (.extr (.t 69) 1) 8, oM 14 73 8, oM 15 74 8] 8) (.seq (.reg [oM 76 7 0, oM 77 9 0,
 oX 78 (.call (.c (.s (.fn 19 []))) [(.t 76), (.t 77)]) 0, oM 75 78 8, oX 79 (.extr (.t 75) 0) 8, oX 80 (.extr (.t 75) 1) 8, oM 16 79 8, oM 17 80 8] 8) (.seq
 (.reg [oM 82 7 0, oM 83 9 0, oX 84 (.call (.c (.s (.fn 20 []))) [(.t 82), (.t 83)]) 0, oM 81 84 8, oX 85 (.extr (.t 81) 0) 8, oX 86 (.extr (.t 81) 1) 8, oM 18
 85 8, oM 19 86 8] 8) (.seq (.reg [oM 88 7 0, oM 89 9 0, oX 90 (.call (.c (.s (.fn 29 []))) [(.t 88), (.t 89)]) 0, oM 87 90 8, oX 91 (.extr (.t 87) 0) 8, oX 92
 (.extr (.t 87) 1) 8, oX 93 (.extr (.t 87) 2) 8, oX 20 (.alloc 48 (.pb [.nils, .nils] 0 ff)) 8, oN (.st (.many 2 0) (.t 20) (.t 91)) 9, oM 21 92 9, oM 22 93 9]
 9) (.seq (.reg [oM 94 7 0, oM 95 9 0, oX 96 (.call (.c (.s (.fn 30 []))) [(.t 94), (.t 95)]) 0, oM 23 96 8] 8) (.seq (.reg [oX 24 (.mv (.c (.s (.int .i64 0))))
 0] 0) (.seq (.seq (.reg [oX 25 (.mv (.c (.s (.int .i64 0)))) 0] 0) (.block 4 (.loop (.seq (.seq (.reg [oM 97 25 0, oM 98 7 0, oX 99 (.bin .lss (.t 97) (.t 98))
 0] 0) (.cond (.t 99) .skip (.exit 4))) (.seq (.block 5 (.reg [oM 102 24 0, oM 103 23 0, oM 104 25 0, oX 105 (.iadS 1 (.t 103) (.t 104)) 0, oX 106 (.ld .one (.t
 105)) 0, oX 107 (.bin .add (.t 106) (.c (.s (.int .i64 1)))) 0, oX 108 (.mx [(.t 102), (.t 107)]) 0, oM 24 108 0] 0)) (.reg [oM 100 25 0, oX 101 (.bin .add (.t
 100) (.c (.s (.int .i64 1)))) 0, oM 25 101 0] 0)))))) (.seq (.seq (.reg [oM 109 15 0, oX 110 (.bin .neq (.t 109) (.c (.s (.int .i64 0)))) 0, oM 111 110 0, oG
 112 111 false (.mv (.t 14)) 0, oG 113 111 false (.mv (.t 7)) 0, oG 114 111 false (.mv (.t 9)) 0, oG 115 111 false (.call (.c (.s (.fn 31 []))) [(.t 113), (.t
 114)]) 0, oG 116 111 false (.call (.c (.s (.fn 14 []))) [(.t 112), (.t 115)]) 8, oG 117 111 false (.not (.t 116)) 16, oX 118 (.pick (.t 111) (.c (.s (.bool
 true))) (.t 117)) 16, oM 119 118 16, oG 120 119 false (.mv (.t 17)) 16, oG 121 119 false (.bin .neq (.t 120) (.c (.s (.int .i64 0)))) 16, oX 122 (.pick (.t 119)
 (.c (.s (.bool true))) (.t 121)) 16, oM 123 122 16, oG 124 123 false (.mv (.t 16)) 16, oG 125 123 false (.len (.t 124)) 16, oG 126 123 false (.mv (.t 24)) 16,
 oG 127 123 false (.bin .neq (.t 125) (.t 126)) 16, oX 128 (.pick (.t 123) (.c (.s (.bool true))) (.t 127)) 16, oM 129 128 16, oG 130 129 false (.mv (.t 7)) 16,
 oG 131 129 false (.mv (.t 9)) 16, oG 132 129 false (.mv (.t 16)) 16, oG 133 129 false (.call (.c (.s (.fn 32 []))) [(.t 130), (.t 131), (.t 132)]) 16, oG 134
 129 false (.not (.t 133)) 24, oX 135 (.pick (.t 129) (.c (.s (.bool true))) (.t 134)) 24, oM 136 135 24, oG 137 136 false (.mv (.t 19)) 24, oG 138 136 false
 (.bin .neq (.t 137) (.c (.s (.int .i64 0)))) 24, oX 139 (.pick (.t 136) (.c (.s (.bool true))) (.t 138)) 24, oM 140 139 24, oG 141 140 false (.mv (.t 18)) 24,
 oG 142 140 false (.mv (.t 23)) 24, oG 143 140 false (.call (.c (.s (.fn 33 []))) [(.t 141), (.t 142)]) 24, oG 144 140 false (.not (.t 143)) 32, oX 145 (.pick
 (.t 140) (.c (.s (.bool true))) (.t 144)) 32, oM 146 145 32, oG 147 146 false (.mv (.t 22)) 32, oG 148 146 false (.bin .neq (.t 147) (.c (.s (.int .i64 0))))
 32, oX 149 (.pick (.t 146) (.c (.s (.bool true))) (.t 148)) 32] 32) (.cond (.t 149) (.seq (.reg [oX 6 (.mv (.c (.s (.bool false)))) 0] 0) .ret) .skip)) (.seq
 (.reg [oM 150 7 0, oM 151 7 0, oM 152 9 0, oX 153 (.call (.c (.s (.fn 35 []))) [(.t 151), (.t 152)]) 0, oX 154 (.call (.c (.s (.fn 34 []))) [(.t 150), (.t
 153)]) 8, oM 26 154 16] 16) (.seq (.seq (.reg [oM 155 21 0, oM 156 7 0, oM 157 26 0, oX 158 (.call (.c (.s (.fn 36 []))) [(.t 156), (.t 157)]) 0, oX 159 (.bin
 .eql (.t 158) (.c (.s (.int .i64 0)))) 8, oX 160 (.eqv .b true (.t 155) (.t 159)) 8] 8) (.cond (.t 160) (.seq (.reg [oX 6 (.mv (.c (.s (.bool false)))) 0] 0)
 .ret) .skip)) (.seq (.reg [oM 161 21 0, oM 162 161 0, oG 163 162 true (.mv (.t 7)) 0, oG 164 162 true (.ld (.many 2 0) (.t 20)) 0, oG 165 162 true (.call (.c
 (.s (.fn 37 []))) [(.t 163), (.t 164)]) 0, oX 166 (.pick (.t 162) (.t 165) (.c (.s (.bool false)))) 8, oM 167 166 8, oG 168 167 true (.mv (.t 7)) 8, oG 169 167
 true (.ld (.many 2 0) (.t 20)) 8, oG 170 167 true (.call (.c (.s (.fn 38 []))) [(.t 168), (.t 169)]) 8, oG 171 167 true (.mv (.t 9)) 16, oG 172 167 true (.call
 (.c (.s (.fn 14 []))) [(.t 170), (.t 171)]) 16, oX 173 (.pick (.t 167) (.t 172) (.c (.s (.bool false)))) 24, oM 174 173 24, oG 175 174 false (.mv (.t 21)) 24,
 oG 176 174 false (.not (.t 175)) 24, oG 177 174 false (.mv (.t 176)) 24, oG 178 177 true (.iad 2 1 (.t 20) (.c (.s (.int .i64 0)))) 24, oG 179 177 true (.ld
 .one (.t 178)) 24, oG 180 177 true (.len (.t 179)) 24, oG 181 177 true (.iad 2 1 (.t 20) (.c (.s (.int .i64 1)))) 24, oG 182 177 true (.ld .one (.t 181)) 24, oG
 183 177 true (.len (.t 182)) 24, oG 184 177 true (.bin .add (.t 180) (.t 183)) 24, oG 185 177 true (.bin .eql (.t 184) (.c (.s (.int .i64 0)))) 24, oG 186 174
 false (.pick (.t 177) (.t 185) (.c (.s (.bool false)))) 24, oX 187 (.pick (.t 174) (.c (.s (.bool true))) (.t 186)) 24, oM 188 187 24, oG 189 188 true (.call
 (.c (.s (.fn 11 []))) []) 24, oX 190 (.pick (.t 188) (.t 189) (.c (.s (.bool false)))) 32, oM 6 190 32] 32) .ret))))))))))))))))), [(.t 6)]⟩
def x7 : XFn := ⟨83, (.seq (.reg [oX 6 (.mv (.c (.s (.int .i64 0)))) 0, oX 7 (.mv (.c (.s .nils))) 0] 0) (.seq (.reg [oM 14 0 0, oX 15 (.conv .u64 (.t 14)) 0, oM
 16 2 0, oX 17 (.conv .u64 (.t 16)) 0, oX 18 (.bin .rem (.t 15) (.t 17)) 0, oX 19 (.conv .i64 (.t 18)) 0, oX 20 (.bin .add (.c (.s (.int .i64 1))) (.t 19)) 0, oM
 0 20 0] 0) (.seq (.reg [oX 8 (.mv (.c (.s .nils))) 0] 0) (.seq (.seq (.reg [oX 9 (.mv (.c (.s (.int .i64 0)))) 0] 0) (.block 0 (.loop (.seq (.seq (.reg [oM 21 9
 0, oM 22 0 0, oX 23 (.bin .lss (.t 21) (.t 22)) 0] 0) (.cond (.t 23) .skip (.exit 0))) (.seq (.block 1 (.seq (.reg [oM 26 9 0, oX 27 (.bin .add (.t 26) (.c (.s
 (.int .i64 1)))) 0, oM 10 27 0] 0) (.block 2 (.loop (.seq (.seq (.reg [oM 28 10 0, oM 29 0 0, oX 30 (.bin .lss (.t 28) (.t 29)) 0] 0) (.cond (.t 30) .skip
 (.exit 2))) (.seq (.block 3 (.seq (.reg [oX 11 (.mv (.c (.s (.int .i64 0)))) 0] 0) (.block 4 (.loop (.seq (.seq (.reg [oM 33 11 0, oM 34 1 0, oX 35 (.len (.t
 34)) 0, oX 36 (.bin .lss (.t 33) (.t 35)) 0, oM 37 36 0, oG 38 37 true (.mv (.t 11)) 0, oG 39 37 true (.bin .lss (.t 38) (.c (.s (.int .i64 25)))) 0, oX 40
 (.pick (.t 37) (.t 39) (.c (.s (.bool false)))) 0] 0) (.cond (.t 40) .skip (.exit 4))) (.seq (.block 5 (.seq (.regD [oM 43 1 0, oM 44 11 0, oX 45 (.iadS 2 (.t
 43) (.t 44)) 0, oX 46 (.iad 2 1 (.t 45) (.c (.s (.int .i64 0)))) 0, oX 47 (.ld .one (.t 46)) 0, oX 48 (.conv .u64 (.t 47)) 0, oM 49 0 0, oX 50 (.conv .u64 (.t
 49)) 0, oX 51 (.bin .rem (.t 48) (.t 50)) 0, oX 52 (.conv .i64 (.t 51)) 0, oM 53 1 0, oM 54 11 0, oX 55 (.iadS 2 (.t 53) (.t 54)) 0, oX 56 (.iad 2 1 (.t 55) (.c
 (.s (.int .i64 1)))) 0, oX 57 (.ld .one (.t 56)) 0, oX 58 (.conv .u64 (.t 57)) 0, oM 59 0 0, oX 60 (.conv .u64 (.t 59)) 0, oX 61 (.bin .rem (.t 58) (.t 60)) 0,
 oX 62 (.conv .i64 (.t 61)) 0, oM 12 52 0, oM 13 62 0] 0 []) (.seq (.reg [oM 63 12 0, oM 64 13 0, oX 65 (.mn [(.t 63), (.t 64)]) 0, oM 66 9 0, oX 67 (.bin .eql
 (.t 65) (.t 66)) 0, oM 68 67 0, oG 69 68 true (.mv (.t 12)) 0, oG 70 68 true (.mv (.t 13)) 0, oG 71 68 true (.mx [(.t 69), (.t 70)]) 0, oG 72 68 true (.mv (.t
 10)) 0, oG 73 68 true (.bin .eql (.t 71) (.t 72)) 0, oX 74 (.pick (.t 68) (.t 73) (.c (.s (.bool false)))) 0] 0) (.cond (.t 74) (.seq (.reg [oM 75 8 0, oM 76 9
 0, oM 77 10 0, oX 78 (.bld (.pb [(.int .i64 0), (.int .i64 0)] 0 ff) [((0, 1), (.t 76)), ((1, 1), (.t 77))]) 0, oX 79 (.bsl 38 .i64 2 1 [(0, (.t 78))]) 0, oX 80
 (.app 38 .i64 2 (.t 75) (.t 79)) 1, oM 8 80 2] 2) (.exit 4)) .skip)))) (.reg [oM 41 11 0, oX 42 (.bin .add (.t 41) (.c (.s (.int .i64 1)))) 0, oM 11 42 0]
 0))))))) (.reg [oM 31 10 0, oX 32 (.bin .add (.t 31) (.c (.s (.int .i64 1)))) 0, oM 10 32 0] 0))))))) (.reg [oM 24 9 0, oX 25 (.bin .add (.t 24) (.c (.s (.int
 .i64 1)))) 0, oM 9 25 0] 0)))))) (.seq (.reg [oM 81 0 0, oM 82 8 0, oM 6 81 0, oM 7 82 0] 0) .ret))))), [(.t 6), (.t 7)]⟩
def x8 : XFn := ⟨29, (.seq (.reg [oX 4 (.mv (.c (.s (.int .i64 0)))) 0, oX 5 (.mv (.c (.s (.int .i64 0)))) 0] 0) (.seq (.reg [oM 13 0 0, oM 14 1 0, oX 15 (.call
 (.c (.s (.fn 48 []))) [(.t 13), (.t 14)]) 0, oM 12 15 8, oX 16 (.extr (.t 12) 0) 8, oX 17 (.extr (.t 12) 1) 8, oX 6 (.alloc 64 (.s .nilp)) 8, oN (.st .one (.t
 6) (.t 16)) 9, oM 7 17 9] 9) (.seq (.seq (.reg [oM 18 7 0, oX 19 (.bin .neq (.t 18) (.c (.s (.int .i64 0)))) 0] 0) (.cond (.t 19) (.seq (.reg [oM 20 7 0, oX 4
 (.mv (.c (.s (.int .i64 0)))) 0, oM 5 20 0] 0) .ret) .skip)) (.seq (.seq (.reg [oM 21 0 0, oX 22 (.bin .gtr (.t 21) (.c (.s (.int .i64 6)))) 0] 0) (.cond (.t
 22) (.seq (.reg [oX 4 (.mv (.c (.s (.int .i64 0)))) 0, oX 5 (.mv (.c (.s (.int .i64 1)))) 0] 0) .ret) .skip)) (.seq (.reg [oX 23 (.ld .one (.t 6)) 0, oX 24
 (.call (.c (.s (.fn 49 []))) [(.t 23)]) 0, oX 8 (.alloc 22 (.s .nils)) 8, oN (.st .one (.t 8) (.t 24)) 9] 9) (.seq (.reg [oX 9 (.alloc 3 (.s (.int .i64 0))) 0,
 oN (.st .one (.t 9) (.c (.s (.int .i64 0)))) 1] 1) (.seq (.reg [oX 10 (.alloc 70 (.pb [] 49 ff)) 0] 1) (.seq (.reg [oX 11 (.alloc 71 (.s .nilf)) 0] 1) (.seq
 (.reg [oX 25 (.mkf 50 [(.t 8), (.t 10), (.t 9), (.t 6), (.t 11)]) 0, oN (.st .one (.t 11) (.t 25)) 0] 0) (.seq (.reg [oX 26 (.ld .one (.t 11)) 0, oX 27 (.call
 (.t 26) [(.c (.s (.int .i64 0)))]) 0] 8) (.seq (.reg [oX 28 (.ld .one (.t 9)) 0, oM 4 28 0, oX 5 (.mv (.c (.s (.int .i64 0)))) 0] 0) .ret))))))))))), [(.t 4),
 (.t 5)]⟩
def x10 : XFn := ⟨29, (.seq (.reg [oX 4 (.mv (.c (.s .nils))) 0, oX 5 (.mv (.c (.s (.bool false)))) 0, oX 6 (.mv (.c (.s (.int .i64 0)))) 0] 0) (.seq (.reg [oM
 12 0 0, oM 13 1 0, oX 14 (.call (.c (.s (.fn 48 []))) [(.t 12), (.t 13)]) 0, oM 11 14 8, oX 15 (.extr (.t 11) 0) 8, oX 16 (.extr (.t 11) 1) 8, oM 7 15 8, oM 8
 16 8] 8) (.seq (.seq (.reg [oM 17 8 0, oX 18 (.bin .neq (.t 17) (.c (.s (.int .i64 0)))) 0] 0) (.cond (.t 18) (.seq (.reg [oM 19 8 0, oX 4 (.mv (.c (.s .nils)))
 0, oX 5 (.mv (.c (.s (.bool false)))) 0, oM 6 19 0] 0) .ret) .skip)) (.seq (.reg [oM 21 7 0, oX 22 (.call (.c (.s (.fn 55 []))) [(.t 21)]) 0, oM 20 22 8, oX 23
 (.extr (.t 20) 0) 8, oX 24 (.extr (.t 20) 1) 8, oX 9 (.alloc 70 (.pb [] 49 ff)) 8, oN (.st (.many 0 49) (.t 9) (.t 23)) 9, oM 10 24 9] 9) (.seq (.seq (.reg [oM
 25 10 0, oX 26 (.not (.t 25)) 0] 0) (.cond (.t 26) (.seq (.reg [oX 4 (.mv (.c (.s .nils))) 0, oX 5 (.mv (.c (.s (.bool false)))) 0, oX 6 (.mv (.c (.s (.int .i64
 0)))) 0] 0) .ret) .skip)) (.seq (.reg [oX 27 (.ld (.many 0 49) (.t 9)) 0, oX 28 (.call (.c (.s (.fn 56 []))) [(.t 27)]) 0, oM 4 28 8, oX 5 (.mv (.c (.s (.bool
 true)))) 8, oX 6 (.mv (.c (.s (.int .i64 0)))) 8] 8) .ret)))))), [(.t 4), (.t 5), (.t 6)]⟩
def x11 : XFn := ⟨121, (.seq (.reg [oX 0 (.mv (.c (.s (.bool false)))) 0] 0) (.seq (.reg [oX 16 (.bld (.pb [(.int .i64 0), (.int .i64 0)] 0 ff) [((0, 1), (.c (.s
 (.int .i64 0)))), ((1, 1), (.c (.s (.int .i64 1))))]) 0, oX 17 (.bld (.pb [(.int .i64 0), (.int .i64 0)] 0 ff) [((0, 1), (.c (.s (.int .i64 0)))), ((1, 1), (.c
 (.s (.int .i64 4))))]) 0, oX 18 (.bld (.pb [(.int .i64 0), (.int .i64 0)] 0 ff) [((0, 1), (.c (.s (.int .i64 1)))), ((1, 1), (.c (.s (.int .i64 2))))]) 0, oX 19
 (.bld (.pb [(.int .i64 0), (.int .i64 0)] 0 ff) [((0, 1), (.c (.s (.int .i64 2)))), ((1, 1), (.c (.s (.int .i64 3))))]) 0, oX 20 (.bld (.pb [(.int .i64 0),
 (.int .i64 0)] 0 ff) [((0, 1), (.c (.s (.int .i64 3)))), ((1, 1), (.c (.s (.int .i64 4))))]) 0, oX 21 (.bsl 38 .i64 2 5 [(0, (.t 16)), (1, (.t 17)), (2, (.t
 18)), (3, (.t 19)), (4, (.t 20))]) 0, oM 1 21 1] 1) (.seq (.reg [oM 23 1 0, oX 24 (.call (.c (.s (.fn 45 []))) [(.c (.s (.int .i64 5))), (.t 23)]) 0, oM 22 24
 8, oX 25 (.extr (.t 22) 0) 8, oX 26 (.extr (.t 22) 1) 8, oX 27 (.extr (.t 22) 2) 8, oM 2 25 8, oM 3 26 8, oM 4 27 8] 8) (.seq (.reg [oM 29 1 0, oX 30 (.call (.c
 (.s (.fn 10 []))) [(.c (.s (.int .i64 5))), (.t 29)]) 0, oM 28 30 8, oX 31 (.extr (.t 28) 0) 8, oX 32 (.extr (.t 28) 1) 8, oX 33 (.extr (.t 28) 2) 8, oM 5 31 8,
 oM 6 32 8, oM 7 33 8] 8) (.seq (.reg [oX 35 (.bld (.pb [(.int .i64 0), (.int .i64 0)] 0 ff) [((0, 1), (.c (.s (.int .i64 0)))), ((1, 1), (.c (.s (.int .i64
 1))))]) 0, oX 36 (.bld (.pb [(.int .i64 0), (.int .i64 0)] 0 ff) [((0, 1), (.c (.s (.int .i64 0)))), ((1, 1), (.c (.s (.int .i64 3))))]) 0, oX 37 (.bld (.pb
 [(.int .i64 0), (.int .i64 0)] 0 ff) [((0, 1), (.c (.s (.int .i64 1)))), ((1, 1), (.c (.s (.int .i64 2))))]) 0, oX 38 (.bld (.pb [(.int .i64 0), (.int .i64 0)]
 0 ff) [((0, 1), (.c (.s (.int .i64 2)))), ((1, 1), (.c (.s (.int .i64 3))))]) 0, oX 39 (.bsl 38 .i64 2 4 [(0, (.t 35)), (1, (.t 36)), (2, (.t 37)), (3, (.t
 38))]) 0, oX 40 (.call (.c (.s (.fn 8 []))) [(.c (.s (.int .i64 4))), (.t 39)]) 1, oM 34 40 9, oX 41 (.extr (.t 34) 0) 9, oX 42 (.extr (.t 34) 1) 9, oM 8 41 9,
 oM 9 42 9] 9) (.seq (.reg [oX 44 (.bld (.pb [(.int .i64 0), (.int .i64 0)] 0 ff) [((0, 1), (.c (.s (.int .i64 0)))), ((1, 1), (.c (.s (.int .i64 1))))]) 0, oX
 45 (.bld (.pb [(.int .i64 0), (.int .i64 0)] 0 ff) [((0, 1), (.c (.s (.int .i64 0)))), ((1, 1), (.c (.s (.int .i64 2))))]) 0, oX 46 (.bld (.pb [(.int .i64 0),
 (.int .i64 0)] 0 ff) [((0, 1), (.c (.s (.int .i64 0)))), ((1, 1), (.c (.s (.int .i64 3))))]) 0, oX 47 (.bsl 38 .i64 2 3 [(0, (.t 44)), (1, (.t 45)), (2, (.t
 46))]) 0, oX 48 (.call (.c (.s (.fn 20 []))) [(.c (.s (.int .i64 4))), (.t 47)]) 1, oM 43 48 9, oX 49 (.extr (.t 43) 0) 9, oX 50 (.extr (.t 43) 1) 9, oM 10 49
 9, oM 11 50 9] 9) (.seq (.reg [oX 52 (.bsl 3 .i64 1 3 [(0, (.c (.s (.int .i64 0)))), (1, (.c (.s (.int .i64 1)))), (2, (.c (.s (.int .i64 2))))]) 0, oX 53 (.bsl
 3 .i64 1 3 [(0, (.c (.s (.int .i64 2)))), (1, (.c (.s (.int .i64 0)))), (2, (.c (.s (.int .i64 1))))]) 1, oX 54 (.bld (.pb [.nils, .nils] 0 ff) [((0, 1), (.t
 52)), ((1, 1), (.t 53))]) 2, oX 55 (.call (.c (.s (.fn 57 []))) [(.c (.s (.int .i64 3))), (.t 54)]) 2, oM 51 55 10, oX 56 (.extr (.t 51) 0) 10, oX 57 (.extr (.t
 51) 1) 10, oM 12 56 10, oM 13 57 10] 10) (.seq (.reg [oX 59 (.bsl 3 .i64 1 3 [(0, (.c (.s (.int .i64 0)))), (1, (.c (.s (.int .i64 1)))), (2, (.c (.s (.int .i64
 2))))]) 0, oX 60 (.bsl 3 .i64 1 3 [(0, (.c (.s (.int .i64 2)))), (1, (.c (.s (.int .i64 0)))), (2, (.c (.s (.int .i64 1))))]) 1, oX 61 (.bld (.pb [.nils, .nils]
 0 ff) [((0, 1), (.t 59)), ((1, 1), (.t 60))]) 2, oX 62 (.call (.c (.s (.fn 58 []))) [(.c (.s (.int .i64 3))), (.t 61)]) 2, oM 58 62 10, oX 63 (.extr (.t 58) 0)
 10, oX 64 (.extr (.t 58) 1) 10, oM 14 63 10, oM 15 64 10] 10) (.seq (.reg [oM 65 4 0, oX 66 (.bin .eql (.t 65) (.c (.s (.int .i64 0)))) 0, oM 67 66 0, oG 68 67
 true (.mv (.t 3)) 0, oX 69 (.pick (.t 67) (.t 68) (.c (.s (.bool false)))) 0, oM 70 69 0, oG 71 70 true (.mv (.t 2)) 0, oG 72 70 true (.len (.t 71)) 0, oG 73 70
 true (.bin .eql (.t 72) (.c (.s (.int .i64 6)))) 0, oX 74 (.pick (.t 70) (.t 73) (.c (.s (.bool false)))) 0, oM 75 74 0, oG 76 75 true (.mv (.t 7)) 0, oG 77 75
 true (.bin .eql (.t 76) (.c (.s (.int .i64 0)))) 0, oX 78 (.pick (.t 75) (.t 77) (.c (.s (.bool false)))) 0, oM 79 78 0, oG 80 79 true (.mv (.t 6)) 0, oG 81 79
 true (.not (.t 80)) 0, oX 82 (.pick (.t 79) (.t 81) (.c (.s (.bool false)))) 0, oM 83 82 0, oG 84 83 true (.mv (.t 9)) 0, oG 85 83 true (.bin .eql (.t 84) (.c
 (.s (.int .i64 0)))) 0, oX 86 (.pick (.t 83) (.t 85) (.c (.s (.bool false)))) 0, oM 87 86 0, oG 88 87 true (.mv (.t 8)) 0, oG 89 87 true (.bin .eql (.t 88) (.c
 (.s (.int .i64 2)))) 0, oX 90 (.pick (.t 87) (.t 89) (.c (.s (.bool false)))) 0, oM 91 90 0, oG 92 91 true (.mv (.t 11)) 0, oG 93 91 true (.bin .eql (.t 92) (.c
 (.s (.int .i64 0)))) 0, oX 94 (.pick (.t 91) (.t 93) (.c (.s (.bool false)))) 0, oM 95 94 0, oG 96 95 true (.mv (.t 10)) 0, oG 97 95 true (.bsl 3 .i64 1 4 [(0,
 (.c (.s (.int .i64 0)))), (1, (.c (.s (.int .i64 1)))), (2, (.c (.s (.int .i64 1)))), (3, (.c (.s (.int .i64 1))))]) 0, oG 98 95 true (.call (.c (.s (.fn 33
 []))) [(.t 96), (.t 97)]) 1, oX 99 (.pick (.t 95) (.t 98) (.c (.s (.bool false)))) 9, oM 100 99 9, oG 101 100 true (.mv (.t 13)) 9, oG 102 100 true (.bin .eql
 (.t 101) (.c (.s (.int .i64 0)))) 9, oX 103 (.pick (.t 100) (.t 102) (.c (.s (.bool false)))) 9, oM 104 103 9, oG 105 104 true (.mv (.t 12)) 9, oG 106 104 true
 (.bld (.pb [(.int .i64 0), (.int .i64 0)] 0 ff) [((0, 1), (.c (.s (.int .i64 0)))), ((1, 1), (.c (.s (.int .i64 2))))]) 9, oG 107 104 true (.bld (.pb [(.int
 .i64 0), (.int .i64 0)] 0 ff) [((0, 1), (.c (.s (.int .i64 1)))), ((1, 1), (.c (.s (.int .i64 2))))]) 9, oG 108 104 true (.bsl 38 .i64 2 2 [(0, (.t 106)), (1,
 (.t 107))]) 9, oG 109 104 true (.call (.c (.s (.fn 14 []))) [(.t 105), (.t 108)]) 10, oX 110 (.pick (.t 104) (.t 109) (.c (.s (.bool false)))) 18, oM 111 110
 18, oG 112 111 true (.mv (.t 15)) 18, oG 113 111 true (.bin .eql (.t 112) (.c (.s (.int .i64 0)))) 18, oX 114 (.pick (.t 111) (.t 113) (.c (.s (.bool false))))
 18, oM 115 114 18, oG 116 115 true (.mv (.t 14)) 18, oG 117 115 true (.bld (.pb [(.int .i64 0), (.int .i64 0)] 0 ff) [((0, 1), (.c (.s (.int .i64 0)))), ((1,
 1), (.c (.s (.int .i64 1))))]) 18, oG 118 115 true (.bsl 38 .i64 2 1 [(0, (.t 117))]) 18, oG 119 115 true (.call (.c (.s (.fn 14 []))) [(.t 116), (.t 118)]) 19,
 oX 120 (.pick (.t 115) (.t 119) (.c (.s (.bool false)))) 27, oM 0 120 27] 27) .ret))))))))), [(.t 0)]⟩
def x12 : XFn := ⟨25, (.seq (.reg [oX 4 (.mv (.c (.s .nils))) 0, oX 5 (.mv (.c (.s (.int .i64 0)))) 0] 0) (.seq (.reg [oM 9 0 0, oM 10 1 0, oX 11 (.call (.c (.s
 (.fn 59 []))) [(.t 9), (.t 10)]) 0, oM 8 11 8, oX 12 (.extr (.t 8) 0) 8, oX 13 (.extr (.t 8) 1) 8, oX 6 (.alloc 70 (.pb [] 49 ff)) 8, oN (.st (.many 0 49) (.t
 6) (.t 12)) 9, oM 7 13 9] 9) (.seq (.seq (.regD [oM 14 7 0, oX 15 (.bin .neq (.t 14) (.c (.s (.int .i64 0)))) 0, oM 16 15 0, oG 17 16 false (.ld (.many 0 49)
 (.t 6)) 0, oG 18 16 false (.call (.c (.s (.fn 60 []))) []) 0, oG 19 16 false (.eqv (.agg 0 49) false (.t 17) (.t 18)) 8, oX 20 (.pick (.t 16) (.c (.s (.bool
 true))) (.t 19)) 8] 8 [(3, 4)]) (.cond (.t 20) (.seq (.reg [oM 21 7 0, oX 4 (.mv (.c (.s .nils))) 0, oM 5 21 0] 0) .ret) .skip)) (.seq (.reg [oX 22 (.ld (.many
 0 49) (.t 6)) 0, oX 23 (.call (.c (.s (.fn 61 []))) [(.t 22)]) 0, oX 24 (.call (.c (.s (.fn 56 []))) [(.t 23)]) 8, oM 4 24 16, oX 5 (.mv (.c (.s (.int .i64
 0)))) 16] 16) .ret)))), [(.t 4), (.t 5)]⟩
def x14 : XFn := ⟨26, (.seq (.reg [oX 4 (.mv (.c (.s (.bool false)))) 0] 0) (.seq (.seq (.reg [oM 6 0 0, oX 7 (.len (.t 6)) 0, oM 8 1 0, oX 9 (.len (.t 8)) 0, oX
 10 (.bin .neq (.t 7) (.t 9)) 0] 0) (.cond (.t 10) (.seq (.reg [oX 4 (.mv (.c (.s (.bool false)))) 0] 0) .ret) .skip)) (.seq (.seq (.reg [oX 5 (.mv (.c (.s (.int
 .i64 0)))) 0] 0) (.block 0 (.loop (.seq (.seq (.reg [oM 11 5 0, oM 12 0 0, oX 13 (.len (.t 12)) 0, oX 14 (.bin .lss (.t 11) (.t 13)) 0] 0) (.cond (.t 14) .skip
 (.exit 0))) (.seq (.block 1 (.seq (.regD [oM 17 0 0, oM 18 5 0, oX 19 (.iadS 2 (.t 17) (.t 18)) 0, oX 20 (.ld (.many 2 0) (.t 19)) 0, oM 21 1 0, oM 22 5 0, oX
 23 (.iadS 2 (.t 21) (.t 22)) 0, oX 24 (.ld (.many 2 0) (.t 23)) 0, oX 25 (.eqv (.agg 2 0) true (.t 20) (.t 24)) 0] 0 []) (.cond (.t 25) (.seq (.reg [oX 4 (.mv
 (.c (.s (.bool false)))) 0] 0) .ret) .skip))) (.reg [oM 15 5 0, oX 16 (.bin .add (.t 15) (.c (.s (.int .i64 1)))) 0, oM 5 16 0] 0)))))) (.seq (.reg [oX 4 (.mv
 (.c (.s (.bool true)))) 0] 0) .ret)))), [(.t 4)]⟩
def x19 : XFn := ⟨65, (.seq (.reg [oX 4 (.mv (.c (.s .nils))) 0, oX 5 (.mv (.c (.s (.int .i64 0)))) 0] 0) (.seq (.reg [oM 13 0 0, oM 14 1 0, oX 15 (.call (.c (.s
 (.fn 59 []))) [(.t 13), (.t 14)]) 0, oM 12 15 8, oX 16 (.extr (.t 12) 0) 8, oX 17 (.extr (.t 12) 1) 8, oX 6 (.alloc 70 (.pb [] 49 ff)) 8, oN (.st (.many 0 49)
 (.t 6) (.t 16)) 9, oM 7 17 9] 9) (.seq (.seq (.reg [oM 18 7 0, oX 19 (.bin .neq (.t 18) (.c (.s (.int .i64 0)))) 0] 0) (.cond (.t 19) (.seq (.reg [oM 20 7 0, oX
 4 (.mv (.c (.s .nils))) 0, oM 5 20 0] 0) .ret) .skip)) (.seq (.reg [oX 21 (.ld (.many 0 49) (.t 6)) 0, oM 22 0 0, oX 23 (.call (.c (.s (.fn 62 []))) [(.t 21),
 (.t 22)]) 0, oM 8 23 8] 8) (.seq (.reg [oM 24 8 0, oM 25 8 0, oX 26 (.call (.c (.s (.fn 64 []))) [(.t 25)]) 0, oX 27 (.call (.c (.s (.fn 63 []))) [(.t 24), (.t
 26)]) 8, oM 9 27 16] 16) (.seq (.reg [oM 28 9 0, oX 29 (.bsl 3 .i64 1 1 [(0, (.t 28))]) 0, oM 10 29 1] 1) (.seq (.block 0 (.loop (.seq (.seq (.reg [oM 30 8 0,
 oM 31 9 0, oX 32 (.iadS 1 (.t 30) (.t 31)) 0, oX 33 (.ld .one (.t 32)) 0, oX 34 (.bin .gtr (.t 33) (.c (.s (.int .i64 0)))) 0] 0) (.cond (.t 34) .skip (.exit
 0))) (.block 1 (.seq (.seq (.reg [oM 35 0 0, oX 36 (.mv (.c (.s (.int .i64 0)))) 0] 0) (.block 2 (.loop (.seq (.reg [oX 37 (.bin .lss (.t 36) (.t 35)) 0] 0)
 (.seq (.cond (.t 37) .skip (.exit 2)) (.seq (.block 3 (.seq (.reg [oM 38 36 0, oM 11 38 0] 0) (.seq (.regD [oM 39 11 0, oM 40 9 0, oX 41 (.iad 7 7 (.t 6) (.t
 39)) 0, oX 42 (.iad 7 1 (.t 41) (.t 40)) 0, oX 43 (.ld .one (.t 42)) 0, oM 44 43 0, oG 45 44 true (.mv (.t 8)) 0, oG 46 44 true (.mv (.t 11)) 0, oG 47 44 true
 (.iadS 1 (.t 45) (.t 46)) 0, oG 48 44 true (.ld .one (.t 47)) 0, oG 49 44 true (.mv (.t 8)) 0, oG 50 44 true (.mv (.t 9)) 0, oG 51 44 true (.iadS 1 (.t 49) (.t
 50)) 0, oG 52 44 true (.ld .one (.t 51)) 0, oG 53 44 true (.bin .sub (.t 52) (.c (.s (.int .i64 1)))) 0, oG 54 44 true (.bin .eql (.t 48) (.t 53)) 0, oX 55
 (.pick (.t 44) (.t 54) (.c (.s (.bool false)))) 0] 0 []) (.cond (.t 55) (.seq (.reg [oM 56 11 0, oM 9 56 0] 0) (.exit 2)) .skip)))) (.reg [oX 57 (.bin .add (.t
 36) (.c (.s (.int .i64 1)))) 0, oM 36 57 0] 0))))))) (.reg [oM 58 10 0, oM 59 9 0, oX 60 (.bsl 3 .i64 1 1 [(0, (.t 59))]) 0, oX 61 (.app 3 .i64 1 (.t 58) (.t
 60)) 1, oM 10 61 2] 2)))))) (.seq (.reg [oM 62 10 0, oX 63 (.call (.c (.s (.fn 65 []))) [(.t 62)]) 0] 8) (.seq (.reg [oM 64 10 0, oM 4 64 0, oX 5 (.mv (.c (.s
 (.int .i64 0)))) 0] 0) .ret))))))))), [(.t 4), (.t 5)]⟩
def x20 : XFn := ⟨20, (.seq (.reg [oX 4 (.mv (.c (.s .nils))) 0, oX 5 (.mv (.c (.s (.int .i64 0)))) 0] 0) (.seq (.reg [oM 9 0 0, oM 10 1 0, oX 11 (.call (.c (.s
 (.fn 59 []))) [(.t 9), (.t 10)]) 0, oM 8 11 8, oX 12 (.extr (.t 8) 0) 8, oX 13 (.extr (.t 8) 1) 8, oX 6 (.alloc 70 (.pb [] 49 ff)) 8, oN (.st (.many 0 49) (.t
 6) (.t 12)) 9, oM 7 13 9] 9) (.seq (.seq (.reg [oM 14 7 0, oX 15 (.bin .neq (.t 14) (.c (.s (.int .i64 0)))) 0] 0) (.cond (.t 15) (.seq (.reg [oM 16 7 0, oX 4
 (.mv (.c (.s .nils))) 0, oM 5 16 0] 0) .ret) .skip)) (.seq (.reg [oX 17 (.ld (.many 0 49) (.t 6)) 0, oM 18 0 0, oX 19 (.call (.c (.s (.fn 62 []))) [(.t 17), (.t
 18)]) 0, oM 4 19 8, oX 5 (.mv (.c (.s (.int .i64 0)))) 8] 8) .ret)))), [(.t 4), (.t 5)]⟩
def x28 : XFn := ⟨95, (.seq (.reg [oX 4 (.mv (.c (.s (.bool false)))) 0] 0) (.seq (.seq (.reg [oX 5 (.mv (.c (.s (.int .i64 0)))) 0] 0) (.block 0 (.loop (.seq
 (.seq (.reg [oM 9 5 0, oM 10 1 0, oX 11 (.len (.t 10)) 0, oX 12 (.bin .lss (.t 9) (.t 11)) 0] 0) (.cond (.t 12) .skip (.exit 0))) (.seq (.block 1 (.seq (.regD
 [oM 15 1 0, oM 16 5 0, oX 17 (.iadS 2 (.t 15) (.t 16)) 0, oX 18 (.iad 2 1 (.t 17) (.c (.s (.int .i64 0)))) 0, oX 19 (.ld .one (.t 18)) 0, oM 20 1 0, oM 21 5 0,
 oX 22 (.iadS 2 (.t 20) (.t 21)) 0, oX 23 (.iad 2 1 (.t 22) (.c (.s (.int .i64 1)))) 0, oX 24 (.ld .one (.t 23)) 0, oM 6 19 0, oM 7 24 0] 0 []) (.seq (.seq
 (.regD [oM 25 6 0, oX 26 (.bin .lss (.t 25) (.c (.s (.int .i64 0)))) 0, oM 27 26 0, oG 28 27 false (.mv (.t 7)) 0, oG 29 27 false (.bin .lss (.t 28) (.c (.s
 (.int .i64 0)))) 0, oX 30 (.pick (.t 27) (.c (.s (.bool true))) (.t 29)) 0, oM 31 30 0, oG 32 31 false (.mv (.t 6)) 0, oG 33 31 false (.mv (.t 0)) 0, oG 34 31
 false (.bin .geq (.t 32) (.t 33)) 0, oX 35 (.pick (.t 31) (.c (.s (.bool true))) (.t 34)) 0, oM 36 35 0, oG 37 36 false (.mv (.t 7)) 0, oG 38 36 false (.mv (.t
 0)) 0, oG 39 36 false (.bin .geq (.t 37) (.t 38)) 0, oX 40 (.pick (.t 36) (.c (.s (.bool true))) (.t 39)) 0, oM 41 40 0, oG 42 41 false (.mv (.t 6)) 0, oG 43 41
 false (.mv (.t 7)) 0, oG 44 41 false (.bin .eql (.t 42) (.t 43)) 0, oX 45 (.pick (.t 41) (.c (.s (.bool true))) (.t 44)) 0, oM 46 45 0, oG 47 46 false (.mv (.t
 1)) 0, oG 48 46 false (.mv (.t 7)) 0, oG 49 46 false (.mv (.t 6)) 0, oG 50 46 false (.bld (.pb [(.int .i64 0), (.int .i64 0)] 0 ff) [((0, 1), (.t 48)), ((1, 1),
 (.t 49))]) 0, oG 51 46 false (.call (.c (.s (.fn 78 []))) [(.t 47), (.t 50)]) 0, oX 52 (.pick (.t 46) (.c (.s (.bool true))) (.t 51)) 8, oM 53 52 8, oG 54 53
 false (.mv (.t 5)) 8, oG 55 53 false (.bin .gtr (.t 54) (.c (.s (.int .i64 0)))) 8, oG 56 53 false (.mv (.t 55)) 8, oG 57 56 true (.mv (.t 1)) 8, oG 58 56 true
 (.mv (.t 5)) 8, oG 59 56 true (.bin .sub (.t 58) (.c (.s (.int .i64 1)))) 8, oG 60 56 true (.iadS 2 (.t 57) (.t 59)) 8, oG 61 56 true (.ld (.many 2 0) (.t 60))
 8, oG 62 56 true (.mv (.t 1)) 8, oG 63 56 true (.mv (.t 5)) 8, oG 64 56 true (.iadS 2 (.t 62) (.t 63)) 8, oG 65 56 true (.ld (.many 2 0) (.t 64)) 8, oG 66 56
 true (.call (.c (.s (.fn 79 []))) [(.t 61), (.t 65)]) 8, oG 67 56 true (.not (.t 66)) 16, oG 68 53 false (.pick (.t 56) (.t 67) (.c (.s (.bool false)))) 16, oX
 69 (.pick (.t 53) (.c (.s (.bool true))) (.t 68)) 16] 16 []) (.cond (.t 69) (.seq (.reg [oX 4 (.mv (.c (.s (.bool false)))) 0] 0) .ret) .skip)) (.seq (.reg [oX
 8 (.mv (.c (.s (.int .i64 0)))) 0] 0) (.block 2 (.loop (.seq (.seq (.reg [oM 70 8 0, oM 71 1 0, oX 72 (.len (.t 71)) 0, oX 73 (.bin .lss (.t 70) (.t 72)) 0] 0)
 (.cond (.t 73) .skip (.exit 2))) (.seq (.block 3 (.seq (.reg [oM 76 1 0, oM 77 8 0, oX 78 (.iadS 2 (.t 76) (.t 77)) 0, oX 79 (.iad 2 1 (.t 78) (.c (.s (.int
 .i64 0)))) 0, oX 80 (.ld .one (.t 79)) 0, oM 81 7 0, oX 82 (.bin .eql (.t 80) (.t 81)) 0, oM 83 82 0, oG 84 83 true (.mv (.t 1)) 0, oG 85 83 true (.mv (.t 6))
 0, oG 86 83 true (.mv (.t 1)) 0, oG 87 83 true (.mv (.t 8)) 0, oG 88 83 true (.iadS 2 (.t 86) (.t 87)) 0, oG 89 83 true (.iad 2 1 (.t 88) (.c (.s (.int .i64
 1)))) 0, oG 90 83 true (.ld .one (.t 89)) 0, oG 91 83 true (.bld (.pb [(.int .i64 0), (.int .i64 0)] 0 ff) [((0, 1), (.t 85)), ((1, 1), (.t 90))]) 0, oG 92 83
 true (.call (.c (.s (.fn 78 []))) [(.t 84), (.t 91)]) 0, oG 93 83 true (.not (.t 92)) 8, oX 94 (.pick (.t 83) (.t 93) (.c (.s (.bool false)))) 8] 8) (.cond (.t
 94) (.seq (.reg [oX 4 (.mv (.c (.s (.bool false)))) 0] 0) .ret) .skip))) (.reg [oM 74 8 0, oX 75 (.bin .add (.t 74) (.c (.s (.int .i64 1)))) 0, oM 8 75 0]
 0))))))))) (.reg [oM 13 5 0, oX 14 (.bin .add (.t 13) (.c (.s (.int .i64 1)))) 0, oM 5 14 0] 0)))))) (.seq (.reg [oX 4 (.mv (.c (.s (.bool true)))) 0] 0)
 .ret))), [(.t 4)]⟩
def x29 : XFn := ⟨53, (.seq (.reg [oX 4 (.alloc 48 (.pb [.nils, .nils] 0 ff)) 0, oX 5 (.mv (.c (.s (.bool false)))) 1, oX 6 (.mv (.c (.s (.int .i64 0)))) 1] 1)
 (.seq (.reg [oM 13 0 0, oM 14 1 0, oX 15 (.call (.c (.s (.fn 59 []))) [(.t 13), (.t 14)]) 0, oM 12 15 8, oX 16 (.extr (.t 12) 0) 8, oX 17 (.extr (.t 12) 1) 8,
 oX 7 (.alloc 70 (.pb [] 49 ff)) 8, oN (.st (.many 0 49) (.t 7) (.t 16)) 9, oM 8 17 9] 9) (.seq (.seq (.reg [oM 18 8 0, oX 19 (.bin .neq (.t 18) (.c (.s (.int
 .i64 0)))) 0] 0) (.cond (.t 19) (.seq (.reg [oX 20 (.bld (.pb [.nils, .nils] 0 ff) []) 0, oM 21 8 0, oN (.st (.many 2 0) (.t 4) (.t 20)) 0, oX 5 (.mv (.c (.s
 (.bool false)))) 0, oM 6 21 0] 0) .ret) .skip)) (.seq (.regD [oM 22 0 0, oX 23 (.ld (.many 0 49) (.t 7)) 0, oX 24 (.ld (.many 0 49) (.t 7)) 0, oX 25 (.call (.c
 (.s (.fn 61 []))) [(.t 24)]) 0, oX 26 (.bslB 70 49 2 [(0, (.t 23)), (1, (.t 25))]) 8, oX 27 (.call (.c (.s (.fn 80 []))) [(.t 26)]) 9, oX 28 (.bld (.pb [(.int
 .i64 0)] 49 ff) [((0, 1), (.t 22)), ((1, 49), (.t 27))]) 17, oX 29 (.box 115 (.t 28)) 17, oM 9 29 18] 18 [(1, 3)]) (.seq (.reg [oM 31 9 0, oX 32 (.call (.c (.s
 (.fn 81 []))) [(.t 31)]) 0, oX 33 (.call (.c (.s (.fn 55 []))) [(.t 32)]) 8, oM 30 33 16, oX 34 (.extr (.t 30) 0) 16, oX 35 (.extr (.t 30) 1) 16, oX 10 (.alloc
 70 (.pb [] 49 ff)) 16, oN (.st (.many 0 49) (.t 10) (.t 34)) 17, oM 11 35 17] 17) (.seq (.seq (.reg [oM 36 11 0, oX 37 (.not (.t 36)) 0] 0) (.cond (.t 37) (.seq
 (.reg [oX 38 (.bld (.pb [.nils, .nils] 0 ff) []) 0, oN (.st (.many 2 0) (.t 4) (.t 38)) 0, oX 5 (.mv (.c (.s (.bool false)))) 0, oX 6 (.mv (.c (.s (.int .i64
 0)))) 0] 0) .ret) .skip)) (.seq (.regD [oX 39 (.ld (.many 0 49) (.t 7)) 0, oX 40 (.ld (.many 0 49) (.t 10)) 0, oX 41 (.bslB 70 49 2 [(0, (.t 39)), (1, (.t
 40))]) 0, oX 42 (.call (.c (.s (.fn 80 []))) [(.t 41)]) 1, oM 43 0 9, oX 44 (.call (.c (.s (.fn 82 []))) [(.t 42), (.t 43)]) 9, oX 45 (.ld (.many 0 49) (.t 7))
 17, oX 46 (.ld (.many 0 49) (.t 10)) 17, oX 47 (.call (.c (.s (.fn 61 []))) [(.t 46)]) 17, oX 48 (.bslB 70 49 2 [(0, (.t 45)), (1, (.t 47))]) 25, oX 49 (.call
 (.c (.s (.fn 80 []))) [(.t 48)]) 26, oM 50 0 34, oX 51 (.call (.c (.s (.fn 82 []))) [(.t 49), (.t 50)]) 34, oX 52 (.bld (.pb [.nils, .nils] 0 ff) [((0, 1), (.t
 44)), ((1, 1), (.t 51))]) 42, oN (.st (.many 2 0) (.t 4) (.t 52)) 42, oX 5 (.mv (.c (.s (.bool true)))) 42, oX 6 (.mv (.c (.s (.int .i64 0)))) 42] 42 [(2, 6),
 (3, 6), (5, 6), (2, 7), (3, 7), (5, 7), (6, 8)]) .ret))))))), [(.cell 4 (.many 2 0)), (.t 5), (.t 6)]⟩
def x30 : XFn := ⟨47, (.seq (.reg [oX 4 (.mv (.c (.s .nils))) 0] 0) (.seq (.reg [oM 8 0 0, oX 9 (.mkS 3 .i64 (.t 8)) 0, oM 5 9 1] 1) (.seq (.seq (.reg [oX 6 (.mv
 (.c (.s (.int .i64 0)))) 0] 0) (.block 0 (.loop (.seq (.seq (.reg [oM 10 6 0, oM 11 0 0, oX 12 (.bin .lss (.t 10) (.t 11)) 0] 0) (.cond (.t 12) .skip (.exit
 0))) (.seq (.block 1 (.seq (.reg [oX 7 (.mv (.c (.s (.int .i64 0)))) 0] 0) (.block 2 (.loop (.seq (.seq (.reg [oM 15 7 0, oM 16 1 0, oX 17 (.len (.t 16)) 0, oX
 18 (.bin .lss (.t 15) (.t 17)) 0] 0) (.cond (.t 18) .skip (.exit 2))) (.seq (.block 3 (.regD [oM 21 5 0, oM 22 1 0, oM 23 7 0, oX 24 (.iadS 2 (.t 22) (.t 23))
 0, oX 25 (.iad 2 1 (.t 24) (.c (.s (.int .i64 1)))) 0, oX 26 (.ld .one (.t 25)) 0, oM 27 5 0, oM 28 1 0, oM 29 7 0, oX 30 (.iadS 2 (.t 28) (.t 29)) 0, oX 31
 (.iad 2 1 (.t 30) (.c (.s (.int .i64 1)))) 0, oX 32 (.ld .one (.t 31)) 0, oX 33 (.iadS 1 (.t 27) (.t 32)) 0, oX 34 (.ld .one (.t 33)) 0, oM 35 5 0, oM 36 1 0,
 oM 37 7 0, oX 38 (.iadS 2 (.t 36) (.t 37)) 0, oX 39 (.iad 2 1 (.t 38) (.c (.s (.int .i64 0)))) 0, oX 40 (.ld .one (.t 39)) 0, oX 41 (.iadS 1 (.t 35) (.t 40)) 0,
 oX 42 (.ld .one (.t 41)) 0, oX 43 (.bin .add (.t 42) (.c (.s (.int .i64 1)))) 0, oX 44 (.mx [(.t 34), (.t 43)]) 0, oX 45 (.iadS 1 (.t 21) (.t 26)) 0, oN (.st
 .one (.t 45) (.t 44)) 0] 0 [])) (.reg [oM 19 7 0, oX 20 (.bin .add (.t 19) (.c (.s (.int .i64 1)))) 0, oM 7 20 0] 0))))))) (.reg [oM 13 6 0, oX 14 (.bin .add
 (.t 13) (.c (.s (.int .i64 1)))) 0, oM 6 14 0] 0)))))) (.seq (.reg [oM 46 5 0, oM 4 46 0] 0) .ret)))), [(.t 4)]⟩
def x31 : XFn := ⟨30, (.seq (.reg [oX 4 (.mv (.c (.s .nils))) 0] 0) (.seq (.reg [oX 5 (.mv (.c (.s .nils))) 0] 0) (.seq (.seq (.reg [oX 6 (.mv (.c (.s (.int .i64
 0)))) 0] 0) (.block 0 (.loop (.seq (.seq (.reg [oM 8 6 0, oM 9 0 0, oX 10 (.bin .lss (.t 8) (.t 9)) 0] 0) (.cond (.t 10) .skip (.exit 0))) (.seq (.block 1 (.seq
 (.reg [oX 7 (.mv (.c (.s (.int .i64 0)))) 0] 0) (.block 2 (.loop (.seq (.seq (.reg [oM 13 7 0, oM 14 0 0, oX 15 (.bin .lss (.t 13) (.t 14)) 0] 0) (.cond (.t 15)
 .skip (.exit 2))) (.seq (.block 3 (.seq (.reg [oM 18 1 0, oM 19 7 0, oM 20 6 0, oX 21 (.bld (.pb [(.int .i64 0), (.int .i64 0)] 0 ff) [((0, 1), (.t 19)), ((1,
 1), (.t 20))]) 0, oX 22 (.call (.c (.s (.fn 78 []))) [(.t 18), (.t 21)]) 0] 8) (.cond (.t 22) (.reg [oM 23 5 0, oM 24 6 0, oM 25 7 0, oX 26 (.bld (.pb [(.int
 .i64 0), (.int .i64 0)] 0 ff) [((0, 1), (.t 24)), ((1, 1), (.t 25))]) 0, oX 27 (.bsl 38 .i64 2 1 [(0, (.t 26))]) 0, oX 28 (.app 38 .i64 2 (.t 23) (.t 27)) 1, oM
 5 28 2] 2) .skip))) (.reg [oM 16 7 0, oX 17 (.bin .add (.t 16) (.c (.s (.int .i64 1)))) 0, oM 7 17 0] 0))))))) (.reg [oM 11 6 0, oX 12 (.bin .add (.t 11) (.c
 (.s (.int .i64 1)))) 0, oM 6 12 0] 0)))))) (.seq (.reg [oM 29 5 0, oM 4 29 0] 0) .ret)))), [(.t 4)]⟩
def x32 : XFn := ⟨49, (.seq (.reg [oX 6 (.mv (.c (.s (.bool false)))) 0] 0) (.seq (.seq (.reg [oX 7 (.mv (.c (.s (.int .i64 0)))) 0] 0) (.block 0 (.loop (.seq
 (.seq (.reg [oM 8 7 0, oM 9 2 0, oX 10 (.len (.t 9)) 0, oX 11 (.bin .lss (.t 8) (.t 10)) 0] 0) (.cond (.t 11) .skip (.exit 0))) (.seq (.block 1 (.seq (.regD [oM
 14 2 0, oM 15 7 0, oX 16 (.iadS 1 (.t 14) (.t 15)) 0, oX 17 (.ld .one (.t 16)) 0, oX 18 (.bin .lss (.t 17) (.c (.s (.int .i64 0)))) 0, oM 19 18 0, oG 20 19
 false (.mv (.t 2)) 0, oG 21 19 false (.mv (.t 7)) 0, oG 22 19 false (.iadS 1 (.t 20) (.t 21)) 0, oG 23 19 false (.ld .one (.t 22)) 0, oG 24 19 false (.mv (.t
 0)) 0, oG 25 19 false (.bin .geq (.t 23) (.t 24)) 0, oX 26 (.pick (.t 19) (.c (.s (.bool true))) (.t 25)) 0, oM 27 26 0, oG 28 27 false (.mv (.t 7)) 0, oG 29 27
 false (.bin .gtr (.t 28) (.c (.s (.int .i64 0)))) 0, oG 30 27 false (.mv (.t 29)) 0, oG 31 30 true (.mv (.t 1)) 0, oG 32 30 true (.mv (.t 2)) 0, oG 33 30 true
 (.mv (.t 7)) 0, oG 34 30 true (.bin .sub (.t 33) (.c (.s (.int .i64 1)))) 0, oG 35 30 true (.iadS 1 (.t 32) (.t 34)) 0, oG 36 30 true (.ld .one (.t 35)) 0, oG
 37 30 true (.mv (.t 2)) 0, oG 38 30 true (.mv (.t 7)) 0, oG 39 30 true (.iadS 1 (.t 37) (.t 38)) 0, oG 40 30 true (.ld .one (.t 39)) 0, oG 41 30 true (.bld (.pb
 [(.int .i64 0), (.int .i64 0)] 0 ff) [((0, 1), (.t 36)), ((1, 1), (.t 40))]) 0, oG 42 30 true (.call (.c (.s (.fn 78 []))) [(.t 31), (.t 41)]) 0, oG 43 30 true
 (.not (.t 42)) 8, oG 44 27 false (.pick (.t 30) (.t 43) (.c (.s (.bool false)))) 8, oX 45 (.pick (.t 27) (.c (.s (.bool true))) (.t 44)) 8] 8 []) (.cond (.t 45)
 (.seq (.reg [oX 6 (.mv (.c (.s (.bool false)))) 0] 0) .ret) .skip))) (.reg [oM 12 7 0, oX 13 (.bin .add (.t 12) (.c (.s (.int .i64 1)))) 0, oM 7 13 0] 0))))))
 (.seq (.reg [oM 46 2 0, oX 47 (.len (.t 46)) 0, oX 48 (.bin .geq (.t 47) (.c (.s (.int .i64 1)))) 0, oM 6 48 0] 0) .ret))), [(.t 6)]⟩
def x33 : XFn := ⟨26, (.seq (.reg [oX 4 (.mv (.c (.s (.bool false)))) 0] 0) (.seq (.seq (.reg [oM 6 0 0, oX 7 (.len (.t 6)) 0, oM 8 1 0, oX 9 (.len (.t 8)) 0, oX
 10 (.bin .neq (.t 7) (.t 9)) 0] 0) (.cond (.t 10) (.seq (.reg [oX 4 (.mv (.c (.s (.bool false)))) 0] 0) .ret) .skip)) (.seq (.seq (.reg [oX 5 (.mv (.c (.s (.int
 .i64 0)))) 0] 0) (.block 0 (.loop (.seq (.seq (.reg [oM 11 5 0, oM 12 0 0, oX 13 (.len (.t 12)) 0, oX 14 (.bin .lss (.t 11) (.t 13)) 0] 0) (.cond (.t 14) .skip
 (.exit 0))) (.seq (.block 1 (.seq (.regD [oM 17 0 0, oM 18 5 0, oX 19 (.iadS 1 (.t 17) (.t 18)) 0, oX 20 (.ld .one (.t 19)) 0, oM 21 1 0, oM 22 5 0, oX 23
 (.iadS 1 (.t 21) (.t 22)) 0, oX 24 (.ld .one (.t 23)) 0, oX 25 (.bin .neq (.t 20) (.t 24)) 0] 0 []) (.cond (.t 25) (.seq (.reg [oX 4 (.mv (.c (.s (.bool
 false)))) 0] 0) .ret) .skip))) (.reg [oM 15 5 0, oX 16 (.bin .add (.t 15) (.c (.s (.int .i64 1)))) 0, oM 5 16 0] 0)))))) (.seq (.reg [oX 4 (.mv (.c (.s (.bool
 true)))) 0] 0) .ret)))), [(.t 4)]⟩
def x34 : XFn := ⟨32, (.seq (.reg [oX 4 (.mv (.c (.s .nils))) 0] 0) (.seq (.reg [oX 5 (.mv (.c (.s .nils))) 0] 0) (.seq (.seq (.reg [oX 6 (.mv (.c (.s (.int .i64
 0)))) 0] 0) (.block 0 (.loop (.seq (.seq (.reg [oM 8 6 0, oM 9 0 0, oX 10 (.bin .lss (.t 8) (.t 9)) 0] 0) (.cond (.t 10) .skip (.exit 0))) (.seq (.block 1 (.seq
 (.reg [oM 13 6 0, oX 14 (.bin .add (.t 13) (.c (.s (.int .i64 1)))) 0, oM 7 14 0] 0) (.block 2 (.loop (.seq (.seq (.reg [oM 15 7 0, oM 16 0 0, oX 17 (.bin .lss
 (.t 15) (.t 16)) 0] 0) (.cond (.t 17) .skip (.exit 2))) (.seq (.block 3 (.seq (.reg [oM 20 1 0, oM 21 6 0, oM 22 7 0, oX 23 (.call (.c (.s (.fn 83 []))) [(.t
 20), (.t 21), (.t 22)]) 0, oX 24 (.not (.t 23)) 8] 8) (.cond (.t 24) (.reg [oM 25 5 0, oM 26 6 0, oM 27 7 0, oX 28 (.bld (.pb [(.int .i64 0), (.int .i64 0)] 0
 ff) [((0, 1), (.t 26)), ((1, 1), (.t 27))]) 0, oX 29 (.bsl 38 .i64 2 1 [(0, (.t 28))]) 0, oX 30 (.app 38 .i64 2 (.t 25) (.t 29)) 1, oM 5 30 2] 2) .skip))) (.reg
 [oM 18 7 0, oX 19 (.bin .add (.t 18) (.c (.s (.int .i64 1)))) 0, oM 7 19 0] 0))))))) (.reg [oM 11 6 0, oX 12 (.bin .add (.t 11) (.c (.s (.int .i64 1)))) 0, oM 6
 12 0] 0)))))) (.seq (.reg [oM 31 5 0, oM 4 31 0] 0) .ret)))), [(.t 4)]⟩
def x35 : XFn := ⟨39, (.seq (.reg [oX 4 (.mv (.c (.s .nils))) 0] 0) (.seq (.reg [oX 5 (.mv (.c (.s .nils))) 0] 0) (.seq (.seq (.reg [oX 6 (.mv (.c (.s (.int .i64
 0)))) 0] 0) (.block 0 (.loop (.seq (.seq (.reg [oM 8 6 0, oM 9 0 0, oX 10 (.bin .lss (.t 8) (.t 9)) 0] 0) (.cond (.t 10) .skip (.exit 0))) (.seq (.block 1 (.seq
 (.reg [oM 13 6 0, oX 14 (.bin .add (.t 13) (.c (.s (.int .i64 1)))) 0, oM 7 14 0] 0) (.block 2 (.loop (.seq (.seq (.reg [oM 15 7 0, oM 16 0 0, oX 17 (.bin .lss
 (.t 15) (.t 16)) 0] 0) (.cond (.t 17) .skip (.exit 2))) (.seq (.block 3 (.seq (.reg [oM 20 1 0, oM 21 6 0, oM 22 7 0, oX 23 (.bld (.pb [(.int .i64 0), (.int
 .i64 0)] 0 ff) [((0, 1), (.t 21)), ((1, 1), (.t 22))]) 0, oX 24 (.call (.c (.s (.fn 78 []))) [(.t 20), (.t 23)]) 0, oM 25 24 8, oG 26 25 false (.mv (.t 1)) 8,
 oG 27 25 false (.mv (.t 7)) 8, oG 28 25 false (.mv (.t 6)) 8, oG 29 25 false (.bld (.pb [(.int .i64 0), (.int .i64 0)] 0 ff) [((0, 1), (.t 27)), ((1, 1), (.t
 28))]) 8, oG 30 25 false (.call (.c (.s (.fn 78 []))) [(.t 26), (.t 29)]) 8, oX 31 (.pick (.t 25) (.c (.s (.bool true))) (.t 30)) 16] 16) (.cond (.t 31) (.reg
 [oM 32 5 0, oM 33 6 0, oM 34 7 0, oX 35 (.bld (.pb [(.int .i64 0), (.int .i64 0)] 0 ff) [((0, 1), (.t 33)), ((1, 1), (.t 34))]) 0, oX 36 (.bsl 38 .i64 2 1 [(0,
 (.t 35))]) 0, oX 37 (.app 38 .i64 2 (.t 32) (.t 36)) 1, oM 5 37 2] 2) .skip))) (.reg [oM 18 7 0, oX 19 (.bin .add (.t 18) (.c (.s (.int .i64 1)))) 0, oM 7 19 0]
 0))))))) (.reg [oM 11 6 0, oX 12 (.bin .add (.t 11) (.c (.s (.int .i64 1)))) 0, oM 6 12 0] 0)))))) (.seq (.reg [oM 38 5 0, oM 4 38 0] 0) .ret)))), [(.t 4)]⟩
def x36 : XFn := ⟨71, (.seq (.reg [oX 4 (.mv (.c (.s (.int .i64 0)))) 0] 0) (.seq (.reg [oM 11 0 0, oM 12 1 0, oX 13 (.call (.c (.s (.fn 84 []))) [(.t 11), (.t
 12)]) 0, oM 5 13 8] 8) (.seq (.reg [oX 6 (.mv (.c (.s (.int .i64 0)))) 0] 0) (.seq (.seq (.reg [oX 7 (.mv (.c (.s (.int .i64 0)))) 0] 0) (.block 0 (.loop (.seq
 (.seq (.reg [oM 14 7 0, oM 15 5 0, oX 16 (.len (.t 15)) 0, oX 17 (.bin .lss (.t 14) (.t 16)) 0] 0) (.cond (.t 17) .skip (.exit 0))) (.seq (.block 1 (.seq (.reg
 [oM 21 0 0, oM 22 1 0, oM 23 5 0, oM 24 7 0, oX 25 (.iadS 2 (.t 23) (.t 24)) 0, oX 26 (.ld (.many 2 0) (.t 25)) 0, oX 27 (.call (.c (.s (.fn 85 []))) [(.t 21),
 (.t 22), (.t 26)]) 0, oM 20 27 8, oX 28 (.extr (.t 20) 0) 8, oX 29 (.extr (.t 20) 1) 8, oM 8 28 8, oM 9 29 8] 8) (.seq (.reg [oX 10 (.mv (.c (.s (.int .i64
 0)))) 0] 0) (.block 2 (.loop (.seq (.seq (.reg [oM 30 10 0, oM 31 8 0, oX 32 (.len (.t 31)) 0, oX 33 (.bin .lss (.t 30) (.t 32)) 0] 0) (.cond (.t 33) .skip
 (.exit 2))) (.seq (.block 3 (.seq (.regD [oM 36 8 0, oM 37 10 0, oX 38 (.iadS 2 (.t 36) (.t 37)) 0, oX 39 (.ld (.many 2 0) (.t 38)) 0, oM 40 5 0, oM 41 7 0, oX
 42 (.iadS 2 (.t 40) (.t 41)) 0, oX 43 (.iad 2 1 (.t 42) (.c (.s (.int .i64 1)))) 0, oX 44 (.ld .one (.t 43)) 0, oM 45 5 0, oM 46 7 0, oX 47 (.iadS 2 (.t 45) (.t
 46)) 0, oX 48 (.iad 2 1 (.t 47) (.c (.s (.int .i64 0)))) 0, oX 49 (.ld .one (.t 48)) 0, oX 50 (.bld (.pb [(.int .i64 0), (.int .i64 0)] 0 ff) [((0, 1), (.t
 44)), ((1, 1), (.t 49))]) 0, oX 51 (.eqv (.agg 2 0) false (.t 39) (.t 50)) 0, oM 52 51 0, oG 53 52 true (.mv (.t 6)) 0, oG 54 52 true (.bin .eql (.t 53) (.c (.s
 (.int .i64 0)))) 0, oG 55 52 true (.mv (.t 54)) 0, oG 56 55 false (.mv (.t 9)) 0, oG 57 55 false (.mv (.t 10)) 0, oG 58 55 false (.iadS 1 (.t 56) (.t 57)) 0, oG
 59 55 false (.ld .one (.t 58)) 0, oG 60 55 false (.bin .add (.t 59) (.c (.s (.int .i64 1)))) 0, oG 61 55 false (.mv (.t 6)) 0, oG 62 55 false (.bin .lss (.t 60)
 (.t 61)) 0, oG 63 52 true (.pick (.t 55) (.c (.s (.bool true))) (.t 62)) 0, oX 64 (.pick (.t 52) (.t 63) (.c (.s (.bool false)))) 0] 0 []) (.cond (.t 64) (.reg
 [oM 65 9 0, oM 66 10 0, oX 67 (.iadS 1 (.t 65) (.t 66)) 0, oX 68 (.ld .one (.t 67)) 0, oX 69 (.bin .add (.t 68) (.c (.s (.int .i64 1)))) 0, oM 6 69 0] 0)
 .skip))) (.reg [oM 34 10 0, oX 35 (.bin .add (.t 34) (.c (.s (.int .i64 1)))) 0, oM 10 35 0] 0)))))))) (.reg [oM 18 7 0, oX 19 (.bin .add (.t 18) (.c (.s (.int
 .i64 1)))) 0, oM 7 19 0] 0)))))) (.seq (.reg [oM 70 6 0, oM 4 70 0] 0) .ret))))), [(.t 4)]⟩
def x37 : XFn := ⟨57, (.seq (.reg [oX 3 (.box 48 (.t 1)) 0, oX 4 (.mv (.c (.s (.bool false)))) 1] 1) (.seq (.seq (.reg [oX 5 (.mv (.c (.s (.int .i64 0)))) 0] 0)
 (.block 0 (.loop (.seq (.seq (.reg [oM 9 5 0, oX 10 (.bin .lss (.t 9) (.c (.s (.int .i64 2)))) 0] 0) (.cond (.t 10) .skip (.exit 0))) (.seq (.block 1 (.seq
 (.reg [oX 6 (.mv (.c (.s (.int .i64 0)))) 0] 0) (.seq (.seq (.reg [oX 7 (.mv (.c (.s (.int .i64 0)))) 0] 0) (.block 2 (.loop (.seq (.seq (.reg [oM 13 7 0, oM 14
 5 0, oX 15 (.iad 2 1 (.t 3) (.t 14)) 0, oX 16 (.ld .one (.t 15)) 0, oX 17 (.len (.t 16)) 0, oX 18 (.bin .lss (.t 13) (.t 17)) 0] 0) (.cond (.t 18) .skip (.exit
 2))) (.seq (.block 3 (.seq (.reg [oM 21 5 0, oX 22 (.iad 2 1 (.t 3) (.t 21)) 0, oX 23 (.ld .one (.t 22)) 0, oM 24 7 0, oX 25 (.iadS 1 (.t 23) (.t 24)) 0, oX 26
 (.ld .one (.t 25)) 0, oM 8 26 0] 0) (.seq (.seq (.reg [oM 27 8 0, oX 28 (.bin .lss (.t 27) (.c (.s (.int .i64 0)))) 0, oM 29 28 0, oG 30 29 false (.mv (.t 8))
 0, oG 31 29 false (.mv (.t 0)) 0, oG 32 29 false (.bin .geq (.t 30) (.t 31)) 0, oX 33 (.pick (.t 29) (.c (.s (.bool true))) (.t 32)) 0, oM 34 33 0, oG 35 34
 false (.mv (.t 6)) 0, oG 36 34 false (.mv (.t 8)) 0, oG 37 34 false (.bin .shr (.t 35) (.t 36)) 0, oG 38 34 false (.bin .rem (.t 37) (.c (.s (.int .i64 2)))) 0,
 oG 39 34 false (.bin .eql (.t 38) (.c (.s (.int .i64 1)))) 0, oX 40 (.pick (.t 34) (.c (.s (.bool true))) (.t 39)) 0] 0) (.cond (.t 40) (.seq (.reg [oX 4 (.mv
 (.c (.s (.bool false)))) 0] 0) .ret) .skip)) (.reg [oM 41 6 0, oM 42 8 0, oX 43 (.bin .shl (.c (.s (.int .i64 1))) (.t 42)) 0, oX 44 (.bin .or (.t 41) (.t 43))
 0, oM 6 44 0] 0)))) (.reg [oM 19 7 0, oX 20 (.bin .add (.t 19) (.c (.s (.int .i64 1)))) 0, oM 7 20 0] 0)))))) (.seq (.reg [oM 45 5 0, oX 46 (.iad 2 1 (.t 3) (.t
 45)) 0, oX 47 (.ld .one (.t 46)) 0, oX 48 (.len (.t 47)) 0, oM 49 0 0, oX 50 (.bin .neq (.t 48) (.t 49)) 0] 0) (.cond (.t 50) (.seq (.reg [oX 4 (.mv (.c (.s
 (.bool false)))) 0] 0) .ret) .skip))))) (.reg [oM 11 5 0, oX 12 (.bin .add (.t 11) (.c (.s (.int .i64 1)))) 0, oM 5 12 0] 0)))))) (.seq (.reg [oM 51 0 0, oX 52
 (.bin .geq (.t 51) (.c (.s (.int .i64 1)))) 0, oM 53 52 0, oG 54 53 true (.mv (.t 0)) 0, oG 55 53 true (.bin .leq (.t 54) (.c (.s (.int .i64 7)))) 0, oX 56
 (.pick (.t 53) (.t 55) (.c (.s (.bool false)))) 0, oM 4 56 0] 0) .ret))), [(.t 4)]⟩
def x38 : XFn := ⟨42, (.seq (.reg [oX 3 (.box 48 (.t 1)) 0, oX 4 (.mv (.c (.s .nils))) 1] 1) (.seq (.reg [oX 5 (.mv (.c (.s .nils))) 0] 0) (.seq (.seq (.reg [oX
 6 (.mv (.c (.s (.int .i64 0)))) 0] 0) (.block 0 (.loop (.seq (.seq (.reg [oM 8 6 0, oM 9 0 0, oX 10 (.bin .lss (.t 8) (.t 9)) 0] 0) (.cond (.t 10) .skip (.exit
 0))) (.seq (.block 1 (.seq (.reg [oX 7 (.mv (.c (.s (.int .i64 0)))) 0] 0) (.block 2 (.loop (.seq (.seq (.reg [oM 13 7 0, oM 14 0 0, oX 15 (.bin .lss (.t 13)
 (.t 14)) 0] 0) (.cond (.t 15) .skip (.exit 2))) (.seq (.block 3 (.seq (.reg [oM 18 6 0, oM 19 7 0, oX 20 (.bin .neq (.t 18) (.t 19)) 0, oM 21 20 0, oG 22 21
 true (.iad 2 1 (.t 3) (.c (.s (.int .i64 0)))) 0, oG 23 21 true (.ld .one (.t 22)) 0, oG 24 21 true (.mv (.t 6)) 0, oG 25 21 true (.mv (.t 7)) 0, oG 26 21 true
 (.call (.c (.s (.fn 86 []))) [(.t 23), (.t 24), (.t 25)]) 0, oX 27 (.pick (.t 21) (.t 26) (.c (.s (.bool false)))) 8, oM 28 27 8, oG 29 28 true (.iad 2 1 (.t 3)
 (.c (.s (.int .i64 1)))) 8, oG 30 28 true (.ld .one (.t 29)) 8, oG 31 28 true (.mv (.t 6)) 8, oG 32 28 true (.mv (.t 7)) 8, oG 33 28 true (.call (.c (.s (.fn 86
 []))) [(.t 30), (.t 31), (.t 32)]) 8, oX 34 (.pick (.t 28) (.t 33) (.c (.s (.bool false)))) 16] 16) (.cond (.t 34) (.reg [oM 35 5 0, oM 36 6 0, oM 37 7 0, oX 38
 (.bld (.pb [(.int .i64 0), (.int .i64 0)] 0 ff) [((0, 1), (.t 36)), ((1, 1), (.t 37))]) 0, oX 39 (.bsl 38 .i64 2 1 [(0, (.t 38))]) 0, oX 40 (.app 38 .i64 2 (.t
 35) (.t 39)) 1, oM 5 40 2] 2) .skip))) (.reg [oM 16 7 0, oX 17 (.bin .add (.t 16) (.c (.s (.int .i64 1)))) 0, oM 7 17 0] 0))))))) (.reg [oM 11 6 0, oX 12 (.bin
 .add (.t 11) (.c (.s (.int .i64 1)))) 0, oM 6 12 0] 0)))))) (.seq (.reg [oM 41 5 0, oM 4 41 0] 0) .ret)))), [(.t 4)]⟩
def x45 : XFn := ⟨101, (.seq (.reg [oX 4 (.mv (.c (.s .nils))) 0, oX 5 (.mv (.c (.s (.bool false)))) 0, oX 6 (.mv (.c (.s (.int .i64 0)))) 0] 0) (.seq (.reg [oM
 21 0 0, oM 22 1 0, oX 23 (.call (.c (.s (.fn 48 []))) [(.t 21), (.t 22)]) 0, oM 20 23 8, oX 24 (.extr (.t 20) 0) 8, oX 25 (.extr (.t 20) 1) 8, oM 7 24 8, oM 8
 25 8] 8) (.seq (.seq (.reg [oM 26 8 0, oX 27 (.bin .neq (.t 26) (.c (.s (.int .i64 0)))) 0] 0) (.cond (.t 27) (.seq (.reg [oM 28 8 0, oX 4 (.mv (.c (.s .nils)))
 0, oX 5 (.mv (.c (.s (.bool false)))) 0, oM 6 28 0] 0) .ret) .skip)) (.seq (.reg [oX 9 (.mv (.c (.s .nils))) 0] 0) (.seq (.seq (.reg [oM 29 7 0, oX 30 (.call
 (.c (.s (.fn 53 []))) [(.t 29)]) 0, oX 31 (.len (.t 30)) 8, oX 32 (.mv (.c (.s (.int .i64 0)))) 8] 8) (.block 0 (.loop (.seq (.reg [oX 33 (.bin .lss (.t 32) (.t
 31)) 0] 0) (.seq (.cond (.t 33) .skip (.exit 0)) (.seq (.block 1 (.seq (.reg [oX 34 (.iadS 2 (.t 30) (.t 32)) 0, oX 35 (.ld (.many 2 0) (.t 34)) 0, oX 11
 (.alloc 77 (.pb [(.int .i64 0), (.int .i64 0)] 0 ff)) 0, oN (.st (.many 2 0) (.t 11) (.t 35)) 1] 1) (.seq (.reg [oM 37 7 0, oX 38 (.ld (.many 2 0) (.t 11)) 0,
 oX 39 (.call (.c (.s (.fn 54 []))) [(.t 37), (.t 38)]) 0, oM 36 39 8, oX 40 (.extr (.t 36) 0) 8, oX 41 (.extr (.t 36) 1) 8, oM 12 40 8, oM 13 41 8] 8) (.seq
 (.seq (.reg [oM 43 13 0, oX 44 (.ld (.many 2 0) (.t 11)) 0, oX 45 (.call (.c (.s (.fn 90 []))) [(.t 44)]) 0, oX 46 (.lkup (.ints 2) (.ints 2) true (.t 43) (.t
 45)) 8, oM 42 46 8, oX 47 (.extr (.t 42) 0) 8, oX 48 (.extr (.t 42) 1) 8, oX 14 (.alloc 77 (.pb [(.int .i64 0), (.int .i64 0)] 0 ff)) 8, oN (.st (.many 2 0) (.t
 14) (.t 47)) 9, oM 15 48 9] 9) (.seq (.reg [oM 49 15 0, oX 50 (.not (.t 49)) 0] 0) (.cond (.t 50) (.exit 1) .skip))) (.seq (.reg [oX 51 (.ld (.many 2 0) (.t
 11)) 0, oX 52 (.call (.c (.s (.fn 90 []))) [(.t 51)]) 0, oX 53 (.bsl 77 .i64 2 1 [(0, (.t 52))]) 8, oM 16 53 9] 9) (.seq (.block 2 (.loop (.seq (.seq (.regD [oM
 54 16 0, oM 55 16 0, oX 56 (.len (.t 55)) 0, oX 57 (.bin .sub (.t 56) (.c (.s (.int .i64 1)))) 0, oX 58 (.iadS 2 (.t 54) (.t 57)) 0, oX 59 (.ld (.many 2 0) (.t
 58)) 0, oX 60 (.ld (.many 2 0) (.t 11)) 0, oX 61 (.eqv (.agg 2 0) true (.t 59) (.t 60)) 0] 0 []) (.cond (.t 61) .skip (.exit 2))) (.block 3 (.reg [oM 62 16 0,
 oM 63 13 0, oM 64 16 0, oM 65 16 0, oX 66 (.len (.t 65)) 0, oX 67 (.bin .sub (.t 66) (.c (.s (.int .i64 1)))) 0, oX 68 (.iadS 2 (.t 64) (.t 67)) 0, oX 69 (.ld
 (.many 2 0) (.t 68)) 0, oX 70 (.lkup (.ints 2) (.ints 2) false (.t 63) (.t 69)) 0, oX 71 (.bsl 77 .i64 2 1 [(0, (.t 70))]) 0, oX 72 (.app 77 .i64 2 (.t 62) (.t
 71)) 1, oM 16 72 2] 2))))) (.seq (.reg [oM 73 16 0, oX 74 (.call (.c (.s (.fn 91 []))) [(.t 73)]) 0] 8) (.seq (.reg [oM 75 9 0, oX 76 (.eqv .nil false (.t 75)
 (.c (.s .nils))) 0, oM 77 76 0, oG 78 77 false (.mv (.t 16)) 0, oG 79 77 false (.len (.t 78)) 0, oG 80 77 false (.mv (.t 9)) 0, oG 81 77 false (.len (.t 80)) 0,
 oG 82 77 false (.bin .lss (.t 79) (.t 81)) 0, oX 83 (.pick (.t 77) (.c (.s (.bool true))) (.t 82)) 0] 0) (.cond (.t 83) (.reg [oM 84 16 0, oM 9 84 0] 0)
 .skip))))))))) (.reg [oX 85 (.bin .add (.t 32) (.c (.s (.int .i64 1)))) 0, oM 32 85 0] 0))))))) (.seq (.reg [oX 17 (.mv (.c (.s .nils))) 0] 0) (.seq (.seq (.reg
 [oM 86 9 0, oX 87 (.len (.t 86)) 0, oX 88 (.mv (.c (.s (.int .i64 0)))) 0] 0) (.block 4 (.loop (.seq (.reg [oX 89 (.bin .lss (.t 88) (.t 87)) 0] 0) (.seq (.cond
 (.t 89) .skip (.exit 4)) (.seq (.block 5 (.seq (.reg [oX 90 (.iadS 2 (.t 86) (.t 88)) 0, oX 91 (.ld (.many 2 0) (.t 90)) 0, oX 19 (.alloc 77 (.pb [(.int .i64
 0), (.int .i64 0)] 0 ff)) 0, oN (.st (.many 2 0) (.t 19) (.t 91)) 1] 1) (.reg [oM 92 17 0, oX 93 (.ld (.many 2 0) (.t 19)) 0, oX 94 (.call (.c (.s (.fn 92 [])))
 [(.t 93)]) 0, oX 95 (.bsl 38 .i64 2 1 [(0, (.t 94))]) 8, oX 96 (.app 38 .i64 2 (.t 92) (.t 95)) 9, oM 17 96 10] 10))) (.reg [oX 97 (.bin .add (.t 88) (.c (.s
 (.int .i64 1)))) 0, oM 88 97 0] 0))))))) (.seq (.reg [oM 98 17 0, oM 99 17 0, oX 100 (.eqv .nil true (.t 99) (.c (.s .nils))) 0, oM 4 98 0, oM 5 100 0, oX 6
 (.mv (.c (.s (.int .i64 0)))) 0] 0) .ret)))))))), [(.t 4), (.t 5), (.t 6)]⟩
def x48 : XFn := ⟨75, (.seq (.reg [oX 4 (.mv (.c (.s .nilp))) 0, oX 5 (.mv (.c (.s (.int .i64 0)))) 0] 0) (.seq (.seq (.reg [oM 9 0 0, oX 10 (.bin .lss (.t 9)
 (.c (.s (.int .i64 1)))) 0, oM 11 10 0, oG 12 11 false (.mv (.t 0)) 0, oG 13 11 false (.bin .gtr (.t 12) (.c (.s (.int .i64 7)))) 0, oX 14 (.pick (.t 11) (.c
 (.s (.bool true))) (.t 13)) 0] 0) (.cond (.t 14) (.seq (.reg [oX 4 (.mv (.c (.s .nilp))) 0, oX 5 (.mv (.c (.s (.int .i64 1)))) 0] 0) .ret) .skip)) (.seq (.reg
 [oM 15 0 0, oX 16 (.bld (.pb [(.int .i64 0)] 49 ff) [((0, 1), (.t 15))]) 0, oX 17 (.box 115 (.t 16)) 0, oM 6 17 1] 1) (.seq (.seq (.reg [oM 18 1 0, oX 19 (.len
 (.t 18)) 0, oX 20 (.mv (.c (.s (.int .i64 0)))) 0] 0) (.block 0 (.loop (.seq (.reg [oX 21 (.bin .lss (.t 20) (.t 19)) 0] 0) (.seq (.cond (.t 21) .skip (.exit
 0)) (.seq (.block 1 (.seq (.reg [oM 22 20 0, oX 23 (.iadS 2 (.t 18) (.t 20)) 0, oX 24 (.ld (.many 2 0) (.t 23)) 0, oX 8 (.alloc 38 (.pb [(.int .i64 0), (.int
 .i64 0)] 0 ff)) 0, oM 7 22 1, oN (.st (.many 2 0) (.t 8) (.t 24)) 1] 1) (.seq (.seq (.regD [oX 25 (.iad 2 1 (.t 8) (.c (.s (.int .i64 0)))) 0, oX 26 (.ld .one
 (.t 25)) 0, oX 27 (.bin .lss (.t 26) (.c (.s (.int .i64 0)))) 0, oM 28 27 0, oG 29 28 false (.iad 2 1 (.t 8) (.c (.s (.int .i64 0)))) 0, oG 30 28 false (.ld
 .one (.t 29)) 0, oG 31 28 false (.iad 2 1 (.t 8) (.c (.s (.int .i64 1)))) 0, oG 32 28 false (.ld .one (.t 31)) 0, oG 33 28 false (.bin .geq (.t 30) (.t 32)) 0,
 oX 34 (.pick (.t 28) (.c (.s (.bool true))) (.t 33)) 0, oM 35 34 0, oG 36 35 false (.iad 2 1 (.t 8) (.c (.s (.int .i64 1)))) 0, oG 37 35 false (.ld .one (.t
 36)) 0, oG 38 35 false (.mv (.t 0)) 0, oG 39 35 false (.bin .geq (.t 37) (.t 38)) 0, oX 40 (.pick (.t 35) (.c (.s (.bool true))) (.t 39)) 0, oM 41 40 0, oG 42
 41 false (.mv (.t 7)) 0, oG 43 41 false (.bin .gtr (.t 42) (.c (.s (.int .i64 0)))) 0, oG 44 41 false (.mv (.t 43)) 0, oG 45 44 true (.mv (.t 1)) 0, oG 46 44
 true (.mv (.t 7)) 0, oG 47 44 true (.bin .sub (.t 46) (.c (.s (.int .i64 1)))) 0, oG 48 44 true (.iadS 2 (.t 45) (.t 47)) 0, oG 49 44 true (.slcA 2 1 (.t 48)
 none none) 0, oG 50 44 true (.slcA 2 1 (.t 8) none none) 0, oG 51 44 true (.call (.c (.s (.fn 93 []))) [(.t 49), (.t 50)]) 0, oG 52 44 true (.bin .geq (.t 51)
 (.c (.s (.int .i64 0)))) 8, oG 53 41 false (.pick (.t 44) (.t 52) (.c (.s (.bool false)))) 8, oX 54 (.pick (.t 41) (.c (.s (.bool true))) (.t 53)) 8] 8 [])
 (.cond (.t 54) (.seq (.reg [oX 4 (.mv (.c (.s .nilp))) 0, oX 5 (.mv (.c (.s (.int .i64 20)))) 0] 0) .ret) .skip)) (.regD [oM 55 6 0, oX 56 (.iad 2 1 (.t 8) (.c
 (.s (.int .i64 0)))) 0, oX 57 (.ld .one (.t 56)) 0, oX 58 (.iad 2 1 (.t 8) (.c (.s (.int .i64 1)))) 0, oX 59 (.ld .one (.t 58)) 0, oM 60 6 0, oX 61 (.iad 2 1
 (.t 8) (.c (.s (.int .i64 1)))) 0, oX 62 (.ld .one (.t 61)) 0, oX 63 (.iad 2 1 (.t 8) (.c (.s (.int .i64 0)))) 0, oX 64 (.ld .one (.t 63)) 0, oX 65 (.nck (.t
 55)) 0, oX 66 (.fad 1 (.t 65)) 0, oX 67 (.iad 7 7 (.t 66) (.t 57)) 0, oX 68 (.iad 7 1 (.t 67) (.t 59)) 0, oN (.st .one (.t 68) (.c (.s (.bool true)))) 0, oX 69
 (.nck (.t 60)) 0, oX 70 (.fad 1 (.t 69)) 0, oX 71 (.iad 7 7 (.t 70) (.t 62)) 0, oX 72 (.iad 7 1 (.t 71) (.t 64)) 0, oN (.st .one (.t 72) (.c (.s (.bool true))))
 0] 0 [])))) (.reg [oX 73 (.bin .add (.t 20) (.c (.s (.int .i64 1)))) 0, oM 20 73 0] 0))))))) (.seq (.reg [oM 74 6 0, oM 4 74 0, oX 5 (.mv (.c (.s (.int .i64
 0)))) 0] 0) .ret))))), [(.t 4), (.t 5)]⟩
def x49 : XFn := ⟨39, (.seq (.reg [oX 2 (.mv (.c (.s .nils))) 0] 0) (.seq (.reg [oX 3 (.mv (.c (.s .nils))) 0] 0) (.seq (.seq (.reg [oM 6 0 0, oX 7 (.nck (.t 6))
 0, oX 8 (.fad 0 (.t 7)) 0, oX 9 (.ld .one (.t 8)) 0, oX 10 (.mv (.c (.s (.int .i64 0)))) 0] 0) (.block 0 (.loop (.seq (.reg [oX 11 (.bin .lss (.t 10) (.t 9)) 0]
 0) (.seq (.cond (.t 11) .skip (.exit 0)) (.seq (.block 1 (.seq (.reg [oM 12 10 0, oM 4 12 0] 0) (.seq (.reg [oM 13 4 0, oX 14 (.bin .add (.t 13) (.c (.s (.int
 .i64 1)))) 0, oM 5 14 0] 0) (.block 2 (.loop (.seq (.seq (.reg [oM 15 5 0, oM 16 0 0, oX 17 (.nck (.t 16)) 0, oX 18 (.fad 0 (.t 17)) 0, oX 19 (.ld .one (.t 18))
 0, oX 20 (.bin .lss (.t 15) (.t 19)) 0] 0) (.cond (.t 20) .skip (.exit 2))) (.seq (.block 3 (.seq (.reg [oM 23 0 0, oM 24 4 0, oM 25 5 0, oX 26 (.nck (.t 23))
 0, oX 27 (.fad 1 (.t 26)) 0, oX 28 (.iad 7 7 (.t 27) (.t 24)) 0, oX 29 (.iad 7 1 (.t 28) (.t 25)) 0, oX 30 (.ld .one (.t 29)) 0] 0) (.cond (.t 30) (.reg [oM 31
 3 0, oM 32 4 0, oM 33 5 0, oX 34 (.bld (.pb [(.int .i64 0), (.int .i64 0)] 0 ff) [((0, 1), (.t 32)), ((1, 1), (.t 33))]) 0, oX 35 (.bsl 38 .i64 2 1 [(0, (.t
 34))]) 0, oX 36 (.app 38 .i64 2 (.t 31) (.t 35)) 1, oM 3 36 2] 2) .skip))) (.reg [oM 21 5 0, oX 22 (.bin .add (.t 21) (.c (.s (.int .i64 1)))) 0, oM 5 22 0]
 0)))))))) (.reg [oX 37 (.bin .add (.t 10) (.c (.s (.int .i64 1)))) 0, oM 10 37 0] 0))))))) (.seq (.reg [oM 38 3 0, oM 2 38 0] 0) .ret)))), [(.t 2)]⟩
def x50 : XFn := ⟨50, (.seq (.seq (.reg [oM 9 0 0, oX 10 (.ld .one (.t 1)) 0, oX 11 (.len (.t 10)) 0, oX 12 (.bin .eql (.t 9) (.t 11)) 0] 0) (.cond (.t 12) (.seq
 (.seq (.reg [oX 13 (.ld (.many 0 49) (.t 2)) 0, oX 14 (.call (.c (.s (.fn 51 []))) [(.t 13)]) 0] 8) (.cond (.t 14) (.reg [oX 15 (.ld .one (.t 3)) 0, oX 16 (.bin
 .add (.t 15) (.c (.s (.int .i64 1)))) 0, oN (.st .one (.t 3) (.t 16)) 0] 0) .skip)) .ret) .skip)) (.seq (.regD [oX 17 (.ld .one (.t 1)) 0, oM 18 0 0, oX 19
 (.iadS 2 (.t 17) (.t 18)) 0, oX 20 (.iad 2 1 (.t 19) (.c (.s (.int .i64 0)))) 0, oX 21 (.ld .one (.t 20)) 0, oX 22 (.ld .one (.t 1)) 0, oM 23 0 0, oX 24 (.iadS
 2 (.t 22) (.t 23)) 0, oX 25 (.iad 2 1 (.t 24) (.c (.s (.int .i64 1)))) 0, oX 26 (.ld .one (.t 25)) 0, oM 7 21 0, oM 8 26 0] 0 []) (.seq (.reg [oX 27 (.mv (.c
 (.s (.int .i64 0)))) 0] 0) (.block 0 (.loop (.seq (.reg [oX 28 (.bin .lss (.t 27) (.c (.s (.int .i64 2)))) 0] 0) (.seq (.cond (.t 28) .skip (.exit 0)) (.seq
 (.block 1 (.seq (.reg [oM 29 7 0, oM 30 8 0, oX 31 (.iad 7 7 (.t 2) (.t 29)) 0, oX 32 (.iad 7 1 (.t 31) (.t 30)) 0, oN (.st .one (.t 32) (.c (.s (.bool true))))
 0] 0) (.seq (.seq (.reg [oX 33 (.ld .one (.t 4)) 0, oX 34 (.ld (.many 0 49) (.t 2)) 0, oM 35 7 0, oM 36 8 0, oX 37 (.call (.c (.s (.fn 52 []))) [(.t 33), (.t
 34), (.t 35), (.t 36)]) 0, oX 38 (.not (.t 37)) 8] 8) (.cond (.t 38) (.reg [oX 39 (.ld .one (.t 5)) 0, oM 40 0 0, oX 41 (.bin .add (.t 40) (.c (.s (.int .i64
 1)))) 0, oX 42 (.call (.t 39) [(.t 41)]) 0] 8) .skip)) (.seq (.reg [oM 43 7 0, oM 44 8 0, oX 45 (.iad 7 7 (.t 2) (.t 43)) 0, oX 46 (.iad 7 1 (.t 45) (.t 44)) 0,
 oN (.st .one (.t 46) (.c (.s (.bool false)))) 0] 0) (.reg [oM 47 8 0, oM 48 7 0, oM 7 47 0, oM 8 48 0] 0))))) (.reg [oX 49 (.bin .add (.t 27) (.c (.s (.int .i64
 1)))) 0, oM 27 49 0] 0))))))))), []⟩
def x51 : XFn := ⟨42, (.seq (.reg [oX 1 (.box 70 (.t 0)) 0, oX 2 (.mv (.c (.s (.bool false)))) 1] 1) (.seq (.seq (.reg [oX 6 (.mv (.c (.s (.int .i64 0)))) 0] 0)
 (.block 0 (.loop (.seq (.reg [oX 7 (.bin .lss (.t 6) (.c (.s (.int .i64 7)))) 0] 0) (.seq (.cond (.t 7) .skip (.exit 0)) (.seq (.block 1 (.seq (.reg [oM 8 6 0,
 oM 3 8 0] 0) (.seq (.reg [oX 9 (.mv (.c (.s (.int .i64 0)))) 0] 0) (.block 2 (.loop (.seq (.reg [oX 10 (.bin .lss (.t 9) (.c (.s (.int .i64 7)))) 0] 0) (.seq
 (.cond (.t 10) .skip (.exit 2)) (.seq (.block 3 (.seq (.reg [oM 11 9 0, oM 4 11 0] 0) (.seq (.seq (.reg [oM 12 3 0, oM 13 4 0, oX 14 (.iad 7 7 (.t 1) (.t 12))
 0, oX 15 (.iad 7 1 (.t 14) (.t 13)) 0, oX 16 (.ld .one (.t 15)) 0, oX 17 (.not (.t 16)) 0] 0) (.cond (.t 17) (.exit 3) .skip)) (.seq (.seq (.reg [oM 18 4 0, oM
 19 3 0, oX 20 (.iad 7 7 (.t 1) (.t 18)) 0, oX 21 (.iad 7 1 (.t 20) (.t 19)) 0, oX 22 (.ld .one (.t 21)) 0] 0) (.cond (.t 22) (.seq (.reg [oX 2 (.mv (.c (.s
 (.bool false)))) 0] 0) .ret) .skip)) (.seq (.reg [oX 23 (.mv (.c (.s (.int .i64 0)))) 0] 0) (.block 4 (.loop (.seq (.reg [oX 24 (.bin .lss (.t 23) (.c (.s (.int
 .i64 7)))) 0] 0) (.seq (.cond (.t 24) .skip (.exit 4)) (.seq (.block 5 (.seq (.reg [oM 25 23 0, oM 5 25 0] 0) (.seq (.reg [oM 26 4 0, oM 27 5 0, oX 28 (.iad 7 7
 (.t 1) (.t 26)) 0, oX 29 (.iad 7 1 (.t 28) (.t 27)) 0, oX 30 (.ld .one (.t 29)) 0, oM 31 30 0, oG 32 31 true (.mv (.t 3)) 0, oG 33 31 true (.mv (.t 5)) 0, oG 34
 31 true (.iad 7 7 (.t 1) (.t 32)) 0, oG 35 31 true (.iad 7 1 (.t 34) (.t 33)) 0, oG 36 31 true (.ld .one (.t 35)) 0, oG 37 31 true (.not (.t 36)) 0, oX 38
 (.pick (.t 31) (.t 37) (.c (.s (.bool false)))) 0] 0) (.cond (.t 38) (.seq (.reg [oX 2 (.mv (.c (.s (.bool false)))) 0] 0) .ret) .skip)))) (.reg [oX 39 (.bin
 .add (.t 23) (.c (.s (.int .i64 1)))) 0, oM 23 39 0] 0))))))))))) (.reg [oX 40 (.bin .add (.t 9) (.c (.s (.int .i64 1)))) 0, oM 9 40 0] 0))))))))) (.reg [oX 41
 (.bin .add (.t 6) (.c (.s (.int .i64 1)))) 0, oM 6 41 0] 0))))))) (.seq (.reg [oX 2 (.mv (.c (.s (.bool true)))) 0] 0) .ret))), [(.t 2)]⟩
def x52 : XFn := ⟨66, (.seq (.reg [oX 5 (.box 70 (.t 1)) 0, oX 8 (.mv (.c (.s (.bool false)))) 1] 1) (.seq (.seq (.reg [oM 10 0 0, oX 11 (.nck (.t 10)) 0, oX 12
 (.fad 0 (.t 11)) 0, oX 13 (.ld .one (.t 12)) 0, oX 14 (.mv (.c (.s (.int .i64 0)))) 0] 0) (.block 0 (.loop (.seq (.reg [oX 15 (.bin .lss (.t 14) (.t 13)) 0] 0)
 (.seq (.cond (.t 15) .skip (.exit 0)) (.seq (.block 1 (.seq (.reg [oM 16 14 0, oM 9 16 0] 0) (.seq (.reg [oM 17 3 0, oM 18 9 0, oX 19 (.iad 7 7 (.t 5) (.t 17))
 0, oX 20 (.iad 7 1 (.t 19) (.t 18)) 0, oX 21 (.ld .one (.t 20)) 0, oM 22 21 0, oG 23 22 true (.mv (.t 0)) 0, oG 24 22 true (.mv (.t 2)) 0, oG 25 22 true (.mv
 (.t 9)) 0, oG 26 22 true (.nck (.t 23)) 0, oG 27 22 true (.fad 1 (.t 26)) 0, oG 28 22 true (.iad 7 7 (.t 27) (.t 24)) 0, oG 29 22 true (.iad 7 1 (.t 28) (.t
 25)) 0, oG 30 22 true (.ld .one (.t 29)) 0, oG 31 22 true (.not (.t 30)) 0, oG 32 22 true (.mv (.t 31)) 0, oG 33 32 false (.mv (.t 9)) 0, oG 34 32 false (.mv
 (.t 2)) 0, oG 35 32 false (.iad 7 7 (.t 5) (.t 33)) 0, oG 36 32 false (.iad 7 1 (.t 35) (.t 34)) 0, oG 37 32 false (.ld .one (.t 36)) 0, oG 38 22 true (.pick
 (.t 32) (.c (.s (.bool true))) (.t 37)) 0, oX 39 (.pick (.t 22) (.t 38) (.c (.s (.bool false)))) 0, oM 40 39 0, oG 41 40 false (.mv (.t 9)) 0, oG 42 40 false
 (.mv (.t 2)) 0, oG 43 40 false (.iad 7 7 (.t 5) (.t 41)) 0, oG 44 40 false (.iad 7 1 (.t 43) (.t 42)) 0, oG 45 40 false (.ld .one (.t 44)) 0, oG 46 40 false
 (.mv (.t 45)) 0, oG 47 46 true (.mv (.t 0)) 0, oG 48 46 true (.mv (.t 9)) 0, oG 49 46 true (.mv (.t 3)) 0, oG 50 46 true (.nck (.t 47)) 0, oG 51 46 true (.fad 1
 (.t 50)) 0, oG 52 46 true (.iad 7 7 (.t 51) (.t 48)) 0, oG 53 46 true (.iad 7 1 (.t 52) (.t 49)) 0, oG 54 46 true (.ld .one (.t 53)) 0, oG 55 46 true (.not (.t
 54)) 0, oG 56 46 true (.mv (.t 55)) 0, oG 57 56 false (.mv (.t 3)) 0, oG 58 56 false (.mv (.t 9)) 0, oG 59 56 false (.iad 7 7 (.t 5) (.t 57)) 0, oG 60 56 false
 (.iad 7 1 (.t 59) (.t 58)) 0, oG 61 56 false (.ld .one (.t 60)) 0, oG 62 46 true (.pick (.t 56) (.c (.s (.bool true))) (.t 61)) 0, oG 63 40 false (.pick (.t 46)
 (.t 62) (.c (.s (.bool false)))) 0, oX 64 (.pick (.t 40) (.c (.s (.bool true))) (.t 63)) 0] 0) (.cond (.t 64) (.seq (.reg [oX 8 (.mv (.c (.s (.bool true)))) 0]
 0) .ret) .skip)))) (.reg [oX 65 (.bin .add (.t 14) (.c (.s (.int .i64 1)))) 0, oM 14 65 0] 0))))))) (.seq (.reg [oX 8 (.mv (.c (.s (.bool false)))) 0] 0)
 .ret))), [(.t 8)]⟩
def x53 : XFn := ⟨37, (.seq (.reg [oX 2 (.mv (.c (.s .nils))) 0] 0) (.seq (.reg [oX 3 (.mv (.c (.s .nils))) 0] 0) (.seq (.seq (.reg [oM 6 0 0, oX 7 (.nck (.t 6))
 0, oX 8 (.fad 0 (.t 7)) 0, oX 9 (.ld .one (.t 8)) 0, oX 10 (.mv (.c (.s (.int .i64 0)))) 0] 0) (.block 0 (.loop (.seq (.reg [oX 11 (.bin .lss (.t 10) (.t 9)) 0]
 0) (.seq (.cond (.t 11) .skip (.exit 0)) (.seq (.block 1 (.seq (.reg [oM 12 10 0, oM 4 12 0] 0) (.seq (.reg [oM 13 0 0, oX 14 (.nck (.t 13)) 0, oX 15 (.fad 0
 (.t 14)) 0, oX 16 (.ld .one (.t 15)) 0, oX 17 (.mv (.c (.s (.int .i64 0)))) 0] 0) (.block 2 (.loop (.seq (.reg [oX 18 (.bin .lss (.t 17) (.t 16)) 0] 0) (.seq
 (.cond (.t 18) .skip (.exit 2)) (.seq (.block 3 (.seq (.reg [oM 19 17 0, oM 5 19 0] 0) (.seq (.reg [oM 20 0 0, oM 21 4 0, oM 22 5 0, oX 23 (.nck (.t 20)) 0, oX
 24 (.fad 1 (.t 23)) 0, oX 25 (.iad 7 7 (.t 24) (.t 21)) 0, oX 26 (.iad 7 1 (.t 25) (.t 22)) 0, oX 27 (.ld .one (.t 26)) 0] 0) (.cond (.t 27) (.reg [oM 28 3 0,
 oM 29 4 0, oM 30 5 0, oX 31 (.bld (.pb [(.int .i64 0), (.int .i64 0)] 0 ff) [((0, 1), (.t 29)), ((1, 1), (.t 30))]) 0, oX 32 (.bsl 77 .i64 2 1 [(0, (.t 31))])
 0, oX 33 (.app 77 .i64 2 (.t 28) (.t 32)) 1, oM 3 33 2] 2) .skip)))) (.reg [oX 34 (.bin .add (.t 17) (.c (.s (.int .i64 1)))) 0, oM 17 34 0] 0))))))))) (.reg
 [oX 35 (.bin .add (.t 10) (.c (.s (.int .i64 1)))) 0, oM 10 35 0] 0))))))) (.seq (.reg [oM 36 3 0, oM 2 36 0] 0) .ret)))), [(.t 2)]⟩
def x54 : XFn := ⟨52, (.seq (.reg [oX 3 (.box 77 (.t 1)) 0, oX 4 (.mv (.c (.s .nils))) 1, oX 5 (.mv (.c (.s .nilm))) 1] 1) (.seq (.reg [oX 12 (.mmk (.ints 2)
 (.ints 2)) 0, oX 13 (.ld (.many 2 0) (.t 3)) 1, oX 14 (.ld (.many 2 0) (.t 3)) 1, oN (.mupd (.ints 2) (.ints 2) (.t 12) (.t 13) (.t 14)) 1, oM 15 12 1, oX 6
 (.alloc 78 (.s .nilm)) 1, oN (.st .one (.t 6) (.t 15)) 2] 2) (.seq (.reg [oX 16 (.ld (.many 2 0) (.t 3)) 0, oX 17 (.bsl 77 .i64 2 1 [(0, (.t 16))]) 0, oX 7
 (.alloc 74 (.s .nils)) 1, oN (.st .one (.t 7) (.t 17)) 2] 2) (.seq (.seq (.reg [oX 8 (.alloc 3 (.s (.int .i64 0))) 0, oN (.st .one (.t 8) (.c (.s (.int .i64
 0)))) 1] 1) (.block 0 (.loop (.seq (.seq (.reg [oX 18 (.ld .one (.t 8)) 0, oX 19 (.ld .one (.t 7)) 0, oX 20 (.len (.t 19)) 0, oX 21 (.bin .lss (.t 18) (.t 20))
 0] 0) (.cond (.t 21) .skip (.exit 0))) (.seq (.block 1 (.seq (.reg [oM 24 0 0, oX 25 (.ld .one (.t 7)) 0, oX 26 (.ld .one (.t 8)) 0, oX 27 (.iadS 2 (.t 25) (.t
 26)) 0, oX 28 (.ld (.many 2 0) (.t 27)) 0, oX 29 (.call (.c (.s (.fn 88 []))) [(.t 24), (.t 28)]) 0] 8) (.block 2 (.rf (.t 29) [30] (.reg [oX 9 (.alloc 77 (.pb
 [(.int .i64 0), (.int .i64 0)] 0 ff)) 0, oN (.st (.many 2 0) (.t 9) (.t 30)) 1] 1) (.block 3 (.seq (.reg [oX 32 (.ld .one (.t 6)) 0, oX 33 (.ld (.many 2 0) (.t
 9)) 0, oX 34 (.lkup (.ints 2) (.ints 2) true (.t 32) (.t 33)) 0, oM 31 34 0, oX 35 (.extr (.t 31) 0) 0, oX 36 (.extr (.t 31) 1) 0, oX 10 (.alloc 77 (.pb [(.int
 .i64 0), (.int .i64 0)] 0 ff)) 0, oN (.st (.many 2 0) (.t 10) (.t 35)) 1, oM 11 36 1] 1) (.seq (.reg [oM 37 11 0, oX 38 (.not (.t 37)) 0] 0) (.cond (.t 38)
 (.seq (.regD [oX 39 (.ld .one (.t 6)) 0, oX 40 (.ld (.many 2 0) (.t 9)) 0, oX 41 (.ld .one (.t 7)) 0, oX 42 (.ld .one (.t 8)) 0, oX 43 (.iadS 2 (.t 41) (.t 42))
 0, oX 44 (.ld (.many 2 0) (.t 43)) 0, oN (.mupd (.ints 2) (.ints 2) (.t 39) (.t 40) (.t 44)) 0] 0 []) (.reg [oX 45 (.ld .one (.t 7)) 0, oX 46 (.ld (.many 2 0)
 (.t 9)) 0, oX 47 (.bsl 77 .i64 2 1 [(0, (.t 46))]) 0, oX 48 (.app 77 .i64 2 (.t 45) (.t 47)) 1, oN (.st .one (.t 7) (.t 48)) 2] 2)) .skip)))))))) (.seq (.seq
 (.reg [oX 49 (.ld .one (.t 8)) 0] 0) (.reg [oX 8 (.alloc 3 (.s (.int .i64 0))) 0, oN (.st .one (.t 8) (.t 49)) 1] 1)) (.reg [oX 22 (.ld .one (.t 8)) 0, oX 23
 (.bin .add (.t 22) (.c (.s (.int .i64 1)))) 0, oN (.st .one (.t 8) (.t 23)) 0] 0))))))) (.seq (.regD [oX 50 (.ld .one (.t 7)) 0, oX 51 (.ld .one (.t 6)) 0, oM 4
 50 0, oM 5 51 0] 0 []) .ret))))), [(.t 4), (.t 5)]⟩
def x55 : XFn := ⟨72, (.seq (.reg [oX 2 (.alloc 70 (.pb [] 49 ff)) 0, oX 3 (.mv (.c (.s (.bool false)))) 1] 1) (.seq (.reg [oX 4 (.alloc 70 (.pb [] 49 ff)) 0] 1)
 (.seq (.reg [oM 13 0 0, oX 14 (.nck (.t 13)) 0, oX 15 (.ld (.many 1 49) (.t 14)) 0, oX 5 (.alloc 115 (.pb [(.int .i64 0)] 49 ff)) 0, oN (.st (.many 1 49) (.t 5)
 (.t 15)) 1] 1) (.seq (.block 0 (.loop (.block 1 (.seq (.reg [oX 16 (.call (.c (.s (.fn 53 []))) [(.t 5)]) 0, oM 6 16 8] 8) (.seq (.seq (.reg [oM 17 6 0, oX 18
 (.len (.t 17)) 0, oX 19 (.bin .eql (.t 18) (.c (.s (.int .i64 0)))) 0] 0) (.cond (.t 19) (.exit 0) .skip)) (.seq (.reg [oM 21 6 0, oX 22 (.iadS 2 (.t 21) (.c
 (.s (.int .i64 0)))) 0, oX 23 (.ld (.many 2 0) (.t 22)) 0, oX 24 (.call (.c (.s (.fn 54 []))) [(.t 5), (.t 23)]) 0, oM 20 24 8, oX 25 (.extr (.t 20) 0) 8, oX 26
 (.extr (.t 20) 1) 8, oM 7 25 8, oM 8 26 8] 8) (.seq (.seq (.reg [oM 27 7 0, oX 28 (.len (.t 27)) 0, oX 29 (.mv (.c (.s (.int .i64 0)))) 0] 0) (.block 2 (.loop
 (.seq (.reg [oX 30 (.bin .lss (.t 29) (.t 28)) 0] 0) (.seq (.cond (.t 30) .skip (.exit 2)) (.seq (.block 3 (.seq (.reg [oX 31 (.iadS 2 (.t 27) (.t 29)) 0, oX 32
 (.ld (.many 2 0) (.t 31)) 0, oX 10 (.alloc 77 (.pb [(.int .i64 0), (.int .i64 0)] 0 ff)) 0, oN (.st (.many 2 0) (.t 10) (.t 32)) 1] 1) (.regD [oX 33 (.fad 0 (.t
 10)) 0, oX 34 (.ld .one (.t 33)) 0, oX 35 (.fad 1 (.t 10)) 0, oX 36 (.ld .one (.t 35)) 0, oX 37 (.iad 7 7 (.t 4) (.t 34)) 0, oX 38 (.iad 7 1 (.t 37) (.t 36)) 0,
 oN (.st .one (.t 38) (.c (.s (.bool true)))) 0] 0 []))) (.reg [oX 39 (.bin .add (.t 29) (.c (.s (.int .i64 1)))) 0, oM 29 39 0] 0))))))) (.seq (.reg [oM 40 7 0,
 oX 41 (.len (.t 40)) 0, oX 42 (.mv (.c (.s (.int .i64 0)))) 0] 0) (.block 4 (.loop (.seq (.reg [oX 43 (.bin .lss (.t 42) (.t 41)) 0] 0) (.seq (.cond (.t 43)
 .skip (.exit 4)) (.seq (.block 5 (.seq (.reg [oX 44 (.iadS 2 (.t 40) (.t 42)) 0, oX 45 (.ld (.many 2 0) (.t 44)) 0, oX 12 (.alloc 77 (.pb [(.int .i64 0), (.int
 .i64 0)] 0 ff)) 0, oN (.st (.many 2 0) (.t 12) (.t 45)) 1] 1) (.seq (.seq (.regD [oX 46 (.fad 1 (.t 12)) 0, oX 47 (.ld .one (.t 46)) 0, oX 48 (.fad 0 (.t 12))
 0, oX 49 (.ld .one (.t 48)) 0, oX 50 (.iad 7 7 (.t 4) (.t 47)) 0, oX 51 (.iad 7 1 (.t 50) (.t 49)) 0, oX 52 (.ld .one (.t 51)) 0] 0 []) (.cond (.t 52) (.seq
 (.reg [oX 53 (.bld (.pb [] 49 ff) []) 0, oN (.st (.many 0 49) (.t 2) (.t 53)) 0, oX 3 (.mv (.c (.s (.bool false)))) 0] 0) .ret) .skip)) (.regD [oX 54 (.fad 0
 (.t 12)) 0, oX 55 (.ld .one (.t 54)) 0, oX 56 (.fad 1 (.t 12)) 0, oX 57 (.ld .one (.t 56)) 0, oX 58 (.fad 1 (.t 12)) 0, oX 59 (.ld .one (.t 58)) 0, oX 60 (.fad
 0 (.t 12)) 0, oX 61 (.ld .one (.t 60)) 0, oX 62 (.fad 1 (.t 5)) 0, oX 63 (.iad 7 7 (.t 62) (.t 55)) 0, oX 64 (.iad 7 1 (.t 63) (.t 57)) 0, oN (.st .one (.t 64)
 (.c (.s (.bool false)))) 0, oX 65 (.fad 1 (.t 5)) 0, oX 66 (.iad 7 7 (.t 65) (.t 59)) 0, oX 67 (.iad 7 1 (.t 66) (.t 61)) 0, oN (.st .one (.t 67) (.c (.s (.bool
 false)))) 0] 0 [(5, 11), (7, 11)])))) (.reg [oX 68 (.bin .add (.t 42) (.c (.s (.int .i64 1)))) 0, oM 42 68 0] 0)))))))))))))) (.seq (.regD [oX 69 (.ld (.many 0
 49) (.t 4)) 0, oX 70 (.ld (.many 0 49) (.t 4)) 0, oX 71 (.call (.c (.s (.fn 51 []))) [(.t 70)]) 0, oN (.st (.many 0 49) (.t 2) (.t 69)) 8, oM 3 71 8] 8 [(0,
 2)]) .ret))))), [(.cell 2 (.many 0 49)), (.t 3)]⟩
def x56 : XFn := ⟨26, (.seq (.reg [oX 1 (.box 70 (.t 0)) 0, oX 2 (.mv (.c (.s .nils))) 1] 1) (.seq (.reg [oX 3 (.mv (.c (.s .nils))) 0] 0) (.seq (.seq (.reg [oX
 6 (.mv (.c (.s (.int .i64 0)))) 0] 0) (.block 0 (.loop (.seq (.reg [oX 7 (.bin .lss (.t 6) (.c (.s (.int .i64 7)))) 0] 0) (.seq (.cond (.t 7) .skip (.exit 0))
 (.seq (.block 1 (.seq (.reg [oM 8 6 0, oM 4 8 0] 0) (.seq (.reg [oX 9 (.mv (.c (.s (.int .i64 0)))) 0] 0) (.block 2 (.loop (.seq (.reg [oX 10 (.bin .lss (.t 9)
 (.c (.s (.int .i64 7)))) 0] 0) (.seq (.cond (.t 10) .skip (.exit 2)) (.seq (.block 3 (.seq (.reg [oM 11 9 0, oM 5 11 0] 0) (.seq (.reg [oM 12 4 0, oM 13 5 0, oX
 14 (.iad 7 7 (.t 1) (.t 12)) 0, oX 15 (.iad 7 1 (.t 14) (.t 13)) 0, oX 16 (.ld .one (.t 15)) 0] 0) (.cond (.t 16) (.reg [oM 17 3 0, oM 18 4 0, oM 19 5 0, oX 20
 (.bld (.pb [(.int .i64 0), (.int .i64 0)] 0 ff) [((0, 1), (.t 18)), ((1, 1), (.t 19))]) 0, oX 21 (.bsl 38 .i64 2 1 [(0, (.t 20))]) 0, oX 22 (.app 38 .i64 2 (.t
 17) (.t 21)) 1, oM 3 22 2] 2) .skip)))) (.reg [oX 23 (.bin .add (.t 9) (.c (.s (.int .i64 1)))) 0, oM 9 23 0] 0))))))))) (.reg [oX 24 (.bin .add (.t 6) (.c (.s
 (.int .i64 1)))) 0, oM 6 24 0] 0))))))) (.seq (.reg [oM 25 3 0, oM 2 25 0] 0) .ret)))), [(.t 2)]⟩
def x57 : XFn := ⟨29, (.seq (.reg [oX 3 (.box 48 (.t 1)) 0, oX 4 (.mv (.c (.s .nils))) 1, oX 5 (.mv (.c (.s (.int .i64 0)))) 1] 1) (.seq (.reg [oM 10 0 0, oX 11
 (.ld (.many 2 0) (.t 3)) 0, oX 12 (.call (.c (.s (.fn 94 []))) [(.t 10), (.t 11)]) 0, oM 9 12 8, oX 13 (.extr (.t 9) 0) 8, oX 14 (.extr (.t 9) 1) 8, oX 6
 (.alloc 70 (.pb [] 49 ff)) 8, oN (.st (.many 0 49) (.t 6) (.t 13)) 9, oM 7 14 9] 9) (.seq (.seq (.reg [oM 15 7 0, oX 16 (.bin .neq (.t 15) (.c (.s (.int .i64
 0)))) 0] 0) (.cond (.t 16) (.seq (.reg [oM 17 7 0, oX 4 (.mv (.c (.s .nils))) 0, oM 5 17 0] 0) .ret) .skip)) (.seq (.regD [oM 18 0 0, oX 19 (.ld (.many 0 49)
 (.t 6)) 0, oX 20 (.ld (.many 0 49) (.t 6)) 0, oX 21 (.call (.c (.s (.fn 61 []))) [(.t 20)]) 0, oX 22 (.bslB 70 49 2 [(0, (.t 19)), (1, (.t 21))]) 8, oX 23
 (.call (.c (.s (.fn 80 []))) [(.t 22)]) 9, oX 24 (.bld (.pb [(.int .i64 0)] 49 ff) [((0, 1), (.t 18)), ((1, 49), (.t 23))]) 17, oX 25 (.box 115 (.t 24)) 17, oM
 8 25 18] 18 [(1, 3)]) (.seq (.reg [oM 26 8 0, oX 27 (.call (.c (.s (.fn 81 []))) [(.t 26)]) 0, oX 28 (.call (.c (.s (.fn 49 []))) [(.t 27)]) 8, oM 4 28 16, oX 5
 (.mv (.c (.s (.int .i64 0)))) 16] 16) .ret))))), [(.t 4), (.t 5)]⟩
def x58 : XFn := ⟨19, (.seq (.reg [oX 3 (.box 48 (.t 1)) 0, oX 4 (.mv (.c (.s .nils))) 1, oX 5 (.mv (.c (.s (.int .i64 0)))) 1] 1) (.seq (.reg [oM 9 0 0, oX 10
 (.ld (.many 2 0) (.t 3)) 0, oX 11 (.call (.c (.s (.fn 94 []))) [(.t 9), (.t 10)]) 0, oM 8 11 8, oX 12 (.extr (.t 8) 0) 8, oX 13 (.extr (.t 8) 1) 8, oX 6 (.alloc
 70 (.pb [] 49 ff)) 8, oN (.st (.many 0 49) (.t 6) (.t 12)) 9, oM 7 13 9] 9) (.seq (.seq (.reg [oM 14 7 0, oX 15 (.bin .neq (.t 14) (.c (.s (.int .i64 0)))) 0]
 0) (.cond (.t 15) (.seq (.reg [oM 16 7 0, oX 4 (.mv (.c (.s .nils))) 0, oM 5 16 0] 0) .ret) .skip)) (.seq (.reg [oX 17 (.ld (.many 0 49) (.t 6)) 0, oX 18 (.call
 (.c (.s (.fn 56 []))) [(.t 17)]) 0, oM 4 18 8, oX 5 (.mv (.c (.s (.int .i64 0)))) 8] 8) .ret)))), [(.t 4), (.t 5)]⟩
def x59 : XFn := ⟨72, (.seq (.reg [oX 4 (.alloc 70 (.pb [] 49 ff)) 0, oX 5 (.mv (.c (.s (.int .i64 0)))) 1] 1) (.seq (.reg [oX 6 (.alloc 70 (.pb [] 49 ff)) 0] 1)
 (.seq (.seq (.reg [oM 9 0 0, oX 10 (.bin .lss (.t 9) (.c (.s (.int .i64 1)))) 0, oM 11 10 0, oG 12 11 false (.mv (.t 0)) 0, oG 13 11 false (.bin .gtr (.t 12)
 (.c (.s (.int .i64 7)))) 0, oX 14 (.pick (.t 11) (.c (.s (.bool true))) (.t 13)) 0] 0) (.cond (.t 14) (.seq (.reg [oX 15 (.ld (.many 0 49) (.t 6)) 0, oN (.st
 (.many 0 49) (.t 4) (.t 15)) 0, oX 5 (.mv (.c (.s (.int .i64 1)))) 0] 0) .ret) .skip)) (.seq (.seq (.reg [oM 16 1 0, oX 17 (.len (.t 16)) 0, oX 18 (.mv (.c (.s
 (.int .i64 0)))) 0] 0) (.block 0 (.loop (.seq (.reg [oX 19 (.bin .lss (.t 18) (.t 17)) 0] 0) (.seq (.cond (.t 19) .skip (.exit 0)) (.seq (.block 1 (.seq (.reg
 [oM 20 18 0, oX 21 (.iadS 2 (.t 16) (.t 18)) 0, oX 22 (.ld (.many 2 0) (.t 21)) 0, oX 8 (.alloc 38 (.pb [(.int .i64 0), (.int .i64 0)] 0 ff)) 0, oM 7 20 1, oN
 (.st (.many 2 0) (.t 8) (.t 22)) 1] 1) (.seq (.seq (.regD [oX 23 (.iad 2 1 (.t 8) (.c (.s (.int .i64 0)))) 0, oX 24 (.ld .one (.t 23)) 0, oX 25 (.iad 2 1 (.t 8)
 (.c (.s (.int .i64 1)))) 0, oX 26 (.ld .one (.t 25)) 0, oX 27 (.mn [(.t 24), (.t 26)]) 0, oX 28 (.bin .lss (.t 27) (.c (.s (.int .i64 0)))) 0, oM 29 28 0, oG 30
 29 false (.iad 2 1 (.t 8) (.c (.s (.int .i64 0)))) 0, oG 31 29 false (.ld .one (.t 30)) 0, oG 32 29 false (.iad 2 1 (.t 8) (.c (.s (.int .i64 1)))) 0, oG 33 29
 false (.ld .one (.t 32)) 0, oG 34 29 false (.mx [(.t 31), (.t 33)]) 0, oG 35 29 false (.mv (.t 0)) 0, oG 36 29 false (.bin .geq (.t 34) (.t 35)) 0, oX 37 (.pick
 (.t 29) (.c (.s (.bool true))) (.t 36)) 0, oM 38 37 0, oG 39 38 false (.iad 2 1 (.t 8) (.c (.s (.int .i64 0)))) 0, oG 40 38 false (.ld .one (.t 39)) 0, oG 41 38
 false (.iad 2 1 (.t 8) (.c (.s (.int .i64 1)))) 0, oG 42 38 false (.ld .one (.t 41)) 0, oG 43 38 false (.bin .eql (.t 40) (.t 42)) 0, oX 44 (.pick (.t 38) (.c
 (.s (.bool true))) (.t 43)) 0, oM 45 44 0, oG 46 45 false (.mv (.t 7)) 0, oG 47 45 false (.bin .gtr (.t 46) (.c (.s (.int .i64 0)))) 0, oG 48 45 false (.mv (.t
 47)) 0, oG 49 48 true (.mv (.t 1)) 0, oG 50 48 true (.mv (.t 7)) 0, oG 51 48 true (.bin .sub (.t 50) (.c (.s (.int .i64 1)))) 0, oG 52 48 true (.iadS 2 (.t 49)
 (.t 51)) 0, oG 53 48 true (.slcA 2 1 (.t 52) none none) 0, oG 54 48 true (.slcA 2 1 (.t 8) none none) 0, oG 55 48 true (.call (.c (.s (.fn 93 []))) [(.t 53),
 (.t 54)]) 0, oG 56 48 true (.bin .geq (.t 55) (.c (.s (.int .i64 0)))) 8, oG 57 45 false (.pick (.t 48) (.t 56) (.c (.s (.bool false)))) 8, oX 58 (.pick (.t 45)
 (.c (.s (.bool true))) (.t 57)) 8] 8 []) (.cond (.t 58) (.seq (.reg [oX 59 (.ld (.many 0 49) (.t 6)) 0, oN (.st (.many 0 49) (.t 4) (.t 59)) 0, oX 5 (.mv (.c
 (.s (.int .i64 30)))) 0] 0) .ret) .skip)) (.regD [oX 60 (.iad 2 1 (.t 8) (.c (.s (.int .i64 0)))) 0, oX 61 (.ld .one (.t 60)) 0, oX 62 (.iad 2 1 (.t 8) (.c (.s
 (.int .i64 1)))) 0, oX 63 (.ld .one (.t 62)) 0, oX 64 (.iad 7 7 (.t 6) (.t 61)) 0, oX 65 (.iad 7 1 (.t 64) (.t 63)) 0, oN (.st .one (.t 65) (.c (.s (.bool
 true)))) 0] 0 [])))) (.reg [oX 66 (.bin .add (.t 18) (.c (.s (.int .i64 1)))) 0, oM 18 66 0] 0))))))) (.seq (.seq (.reg [oX 67 (.ld (.many 0 49) (.t 6)) 0, oX
 68 (.call (.c (.s (.fn 51 []))) [(.t 67)]) 0, oX 69 (.not (.t 68)) 8] 8) (.cond (.t 69) (.seq (.reg [oX 70 (.ld (.many 0 49) (.t 6)) 0, oN (.st (.many 0 49) (.t
 4) (.t 70)) 0, oX 5 (.mv (.c (.s (.int .i64 30)))) 0] 0) .ret) .skip)) (.seq (.reg [oX 71 (.ld (.many 0 49) (.t 6)) 0, oN (.st (.many 0 49) (.t 4) (.t 71)) 0,
 oX 5 (.mv (.c (.s (.int .i64 0)))) 0] 0) .ret)))))), [(.cell 4 (.many 0 49)), (.t 5)]⟩
def x60 : XFn := ⟨3, (.seq (.reg [oX 0 (.alloc 70 (.pb [] 49 ff)) 0] 1) (.seq (.reg [oX 1 (.alloc 70 (.pb [] 49 ff)) 0] 1) (.seq (.reg [oX 2 (.ld (.many 0 49)
 (.t 1)) 0, oN (.st (.many 0 49) (.t 0) (.t 2)) 0] 0) .ret))), [(.cell 0 (.many 0 49))]⟩
def x61 : XFn := ⟨24, (.seq (.reg [oX 1 (.box 70 (.t 0)) 0, oX 2 (.alloc 70 (.pb [] 49 ff)) 1] 2) (.seq (.reg [oX 3 (.alloc 70 (.pb [] 49 ff)) 0] 1) (.seq (.seq
 (.reg [oX 6 (.mv (.c (.s (.int .i64 0)))) 0] 0) (.block 0 (.loop (.seq (.reg [oX 7 (.bin .lss (.t 6) (.c (.s (.int .i64 7)))) 0] 0) (.seq (.cond (.t 7) .skip
 (.exit 0)) (.seq (.block 1 (.seq (.reg [oM 8 6 0, oM 4 8 0] 0) (.seq (.reg [oX 9 (.mv (.c (.s (.int .i64 0)))) 0] 0) (.block 2 (.loop (.seq (.reg [oX 10 (.bin
 .lss (.t 9) (.c (.s (.int .i64 7)))) 0] 0) (.seq (.cond (.t 10) .skip (.exit 2)) (.seq (.block 3 (.seq (.reg [oM 11 9 0, oM 5 11 0] 0) (.regD [oM 12 5 0, oM 13
 4 0, oM 14 4 0, oM 15 5 0, oX 16 (.iad 7 7 (.t 1) (.t 14)) 0, oX 17 (.iad 7 1 (.t 16) (.t 15)) 0, oX 18 (.ld .one (.t 17)) 0, oX 19 (.iad 7 7 (.t 3) (.t 12)) 0,
 oX 20 (.iad 7 1 (.t 19) (.t 13)) 0, oN (.st .one (.t 20) (.t 18)) 0] 0 []))) (.reg [oX 21 (.bin .add (.t 9) (.c (.s (.int .i64 1)))) 0, oM 9 21 0] 0)))))))))
 (.reg [oX 22 (.bin .add (.t 6) (.c (.s (.int .i64 1)))) 0, oM 6 22 0] 0))))))) (.seq (.reg [oX 23 (.ld (.many 0 49) (.t 3)) 0, oN (.st (.many 0 49) (.t 2) (.t
 23)) 0] 0) .ret)))), [(.cell 2 (.many 0 49))]⟩
def x62 : XFn := ⟨23, (.seq (.reg [oX 2 (.box 70 (.t 0)) 0, oX 3 (.box 3 (.t 1)) 1, oX 4 (.mv (.c (.s .nils))) 2] 2) (.seq (.reg [oX 8 (.ld .one (.t 3)) 0, oX 9
 (.mkS 3 .i64 (.t 8)) 0, oM 5 9 1] 1) (.seq (.reg [oX 6 (.alloc 131 (.s .nilf)) 0] 1) (.seq (.reg [oX 10 (.mkf 95 [(.t 3), (.t 2), (.t 6)]) 0, oN (.st .one (.t
 6) (.t 10)) 0] 0) (.seq (.seq (.reg [oX 11 (.ld .one (.t 3)) 0, oX 12 (.mv (.c (.s (.int .i64 0)))) 0] 0) (.block 0 (.loop (.seq (.reg [oX 13 (.bin .lss (.t 12)
 (.t 11)) 0] 0) (.seq (.cond (.t 13) .skip (.exit 0)) (.seq (.block 1 (.seq (.reg [oM 14 12 0, oM 7 14 0] 0) (.reg [oM 15 5 0, oM 16 7 0, oX 17 (.ld .one (.t 6))
 0, oM 18 7 0, oX 19 (.call (.t 17) [(.t 18)]) 0, oX 20 (.iadS 1 (.t 15) (.t 16)) 8, oN (.st .one (.t 20) (.t 19)) 8] 8))) (.reg [oX 21 (.bin .add (.t 12) (.c
 (.s (.int .i64 1)))) 0, oM 12 21 0] 0))))))) (.seq (.reg [oM 22 5 0, oM 4 22 0] 0) .ret)))))), [(.t 4)]⟩
end Go.Proofs.Yteekkjfjpoaihaa.Eng
namespace Go.Proofs.Yteekkjfjpoaihaa.Eng
open Go
def x63 : XFn := ⟨19, (.seq (.reg [oX 4 (.mv (.c (.s (.int .i64 0)))) 0] 0) (.seq (.seq (.reg [oM 6 0 0, oX 7 (.len (.t 6)) 0, oX 8 (.mv (.c (.s (.int .i64 0))))
 0] 0) (.block 0 (.loop (.seq (.reg [oX 9 (.bin .lss (.t 8) (.t 7)) 0] 0) (.seq (.cond (.t 9) .skip (.exit 0)) (.seq (.block 1 (.seq (.reg [oM 10 8 0, oM 5 10 0]
 0) (.seq (.reg [oM 11 1 0, oM 12 0 0, oM 13 5 0, oX 14 (.iadS 1 (.t 12) (.t 13)) 0, oX 15 (.ld .one (.t 14)) 0, oX 16 (.bin .eql (.t 11) (.t 15)) 0] 0) (.cond
 (.t 16) (.seq (.reg [oM 17 5 0, oM 4 17 0] 0) .ret) .skip)))) (.reg [oX 18 (.bin .add (.t 8) (.c (.s (.int .i64 1)))) 0, oM 8 18 0] 0))))))) (.seq (.reg [oX 4
 (.mv (.c (.s (.int .i64 (-1))))) 0] 0) .ret))), [(.t 4)]⟩
def x64 : XFn := ⟨25, (.seq (.reg [oX 2 (.mv (.c (.s (.int .i64 0)))) 0] 0) (.seq (.seq (.reg [oM 5 0 0, oX 6 (.len (.t 5)) 0, oX 7 (.bin .lss (.t 6) (.c (.s
 (.int .i64 1)))) 0] 0) (.cond (.t 7) (.reg [oX 8 .bad 0, oN .bad 0] 0) .skip)) (.seq (.reg [oM 9 0 0, oX 10 (.iadS 1 (.t 9) (.c (.s (.int .i64 0)))) 0, oX 11
 (.ld .one (.t 10)) 0, oM 3 11 0] 0) (.seq (.seq (.reg [oX 4 (.mv (.c (.s (.int .i64 1)))) 0] 0) (.block 0 (.loop (.seq (.seq (.reg [oM 12 4 0, oM 13 0 0, oX 14
 (.len (.t 13)) 0, oX 15 (.bin .lss (.t 12) (.t 14)) 0] 0) (.cond (.t 15) .skip (.exit 0))) (.seq (.block 1 (.reg [oM 18 3 0, oM 19 0 0, oM 20 4 0, oX 21 (.iadS
 1 (.t 19) (.t 20)) 0, oX 22 (.ld .one (.t 21)) 0, oX 23 (.mx [(.t 18), (.t 22)]) 0, oM 3 23 0] 0)) (.reg [oM 16 4 0, oX 17 (.bin .add (.t 16) (.c (.s (.int .i64
 1)))) 0, oM 4 17 0] 0)))))) (.seq (.reg [oM 24 3 0, oM 2 24 0] 0) .ret))))), [(.t 2)]⟩
def x65 : XFn := ⟨28, (.seq (.reg [oM 4 0 0, oX 5 (.len (.t 4)) 0, oX 6 (.bin .sub (.t 5) (.c (.s (.int .i64 1)))) 0, oX 2 (.mv (.c (.s (.int .i64 0)))) 0, oM 3
 6 0] 0) (.block 0 (.loop (.seq (.seq (.reg [oM 7 2 0, oM 8 3 0, oX 9 (.bin .lss (.t 7) (.t 8)) 0] 0) (.cond (.t 9) .skip (.exit 0))) (.seq (.block 1 (.regD [oM
 14 0 0, oM 15 2 0, oM 16 0 0, oM 17 3 0, oM 18 0 0, oM 19 3 0, oX 20 (.iadS 1 (.t 18) (.t 19)) 0, oX 21 (.ld .one (.t 20)) 0, oM 22 0 0, oM 23 2 0, oX 24 (.iadS
 1 (.t 22) (.t 23)) 0, oX 25 (.ld .one (.t 24)) 0, oX 26 (.iadS 1 (.t 14) (.t 15)) 0, oN (.st .one (.t 26) (.t 21)) 0, oX 27 (.iadS 1 (.t 16) (.t 17)) 0, oN (.st
 .one (.t 27) (.t 25)) 0] 0 [])) (.reg [oM 10 2 0, oX 11 (.bin .add (.t 10) (.c (.s (.int .i64 1)))) 0, oM 12 3 0, oX 13 (.bin .sub (.t 12) (.c (.s (.int .i64
 1)))) 0, oM 2 11 0, oM 3 13 0] 0)))))), []⟩
def x78 : XFn := ⟨18, (.seq (.reg [oX 3 (.box 38 (.t 1)) 0, oX 4 (.mv (.c (.s (.bool false)))) 1] 1) (.seq (.seq (.reg [oX 5 (.mv (.c (.s (.int .i64 0)))) 0] 0)
 (.block 0 (.loop (.seq (.seq (.reg [oM 6 5 0, oM 7 0 0, oX 8 (.len (.t 7)) 0, oX 9 (.bin .lss (.t 6) (.t 8)) 0] 0) (.cond (.t 9) .skip (.exit 0))) (.seq (.block
 1 (.seq (.regD [oM 12 0 0, oM 13 5 0, oX 14 (.iadS 2 (.t 12) (.t 13)) 0, oX 15 (.ld (.many 2 0) (.t 14)) 0, oX 16 (.ld (.many 2 0) (.t 3)) 0, oX 17 (.eqv (.agg
 2 0) false (.t 15) (.t 16)) 0] 0 []) (.cond (.t 17) (.seq (.reg [oX 4 (.mv (.c (.s (.bool true)))) 0] 0) .ret) .skip))) (.reg [oM 10 5 0, oX 11 (.bin .add (.t
 10) (.c (.s (.int .i64 1)))) 0, oM 5 11 0] 0)))))) (.seq (.reg [oX 4 (.mv (.c (.s (.bool false)))) 0] 0) .ret))), [(.t 4)]⟩
def x79 : XFn := ⟨24, (.seq (.reg [oX 2 (.box 38 (.t 0)) 0, oX 3 (.box 38 (.t 1)) 1, oX 4 (.mv (.c (.s (.bool false)))) 2] 2) (.seq (.reg [oX 5 (.iad 2 1 (.t 2)
 (.c (.s (.int .i64 0)))) 0, oX 6 (.ld .one (.t 5)) 0, oX 7 (.iad 2 1 (.t 3) (.c (.s (.int .i64 0)))) 0, oX 8 (.ld .one (.t 7)) 0, oX 9 (.bin .lss (.t 6) (.t 8))
 0, oM 10 9 0, oG 11 10 false (.iad 2 1 (.t 2) (.c (.s (.int .i64 0)))) 0, oG 12 10 false (.ld .one (.t 11)) 0, oG 13 10 false (.iad 2 1 (.t 3) (.c (.s (.int
 .i64 0)))) 0, oG 14 10 false (.ld .one (.t 13)) 0, oG 15 10 false (.bin .eql (.t 12) (.t 14)) 0, oG 16 10 false (.mv (.t 15)) 0, oG 17 16 true (.iad 2 1 (.t 2)
 (.c (.s (.int .i64 1)))) 0, oG 18 16 true (.ld .one (.t 17)) 0, oG 19 16 true (.iad 2 1 (.t 3) (.c (.s (.int .i64 1)))) 0, oG 20 16 true (.ld .one (.t 19)) 0,
 oG 21 16 true (.bin .lss (.t 18) (.t 20)) 0, oG 22 10 false (.pick (.t 16) (.t 21) (.c (.s (.bool false)))) 0, oX 23 (.pick (.t 10) (.c (.s (.bool true))) (.t
 22)) 0, oM 4 23 0] 0) .ret)), [(.t 4)]⟩
def x80 : XFn := ⟨40, (.seq (.reg [oX 2 (.alloc 70 (.pb [] 49 ff)) 0] 1) (.seq (.reg [oX 3 (.alloc 70 (.pb [] 49 ff)) 0] 1) (.seq (.seq (.reg [oM 8 0 0, oX 9
 (.len (.t 8)) 0, oX 10 (.mv (.c (.s (.int .i64 0)))) 0] 0) (.block 0 (.loop (.seq (.reg [oX 11 (.bin .lss (.t 10) (.t 9)) 0] 0) (.seq (.cond (.t 11) .skip
 (.exit 0)) (.seq (.block 1 (.seq (.reg [oX 12 (.iadS 49 (.t 8) (.t 10)) 0, oX 13 (.ld (.many 0 49) (.t 12)) 0, oX 5 (.alloc 70 (.pb [] 49 ff)) 0, oN (.st (.many
 0 49) (.t 5) (.t 13)) 1] 1) (.seq (.reg [oX 14 (.mv (.c (.s (.int .i64 0)))) 0] 0) (.block 2 (.loop (.seq (.reg [oX 15 (.bin .lss (.t 14) (.c (.s (.int .i64
 7)))) 0] 0) (.seq (.cond (.t 15) .skip (.exit 2)) (.seq (.block 3 (.seq (.reg [oM 16 14 0, oM 6 16 0] 0) (.seq (.reg [oX 17 (.mv (.c (.s (.int .i64 0)))) 0] 0)
 (.block 4 (.loop (.seq (.reg [oX 18 (.bin .lss (.t 17) (.c (.s (.int .i64 7)))) 0] 0) (.seq (.cond (.t 18) .skip (.exit 4)) (.seq (.block 5 (.seq (.reg [oM 19
 17 0, oM 7 19 0] 0) (.regD [oM 20 6 0, oM 21 7 0, oM 22 6 0, oM 23 7 0, oX 24 (.iad 7 7 (.t 3) (.t 22)) 0, oX 25 (.iad 7 1 (.t 24) (.t 23)) 0, oX 26 (.ld .one
 (.t 25)) 0, oM 27 26 0, oG 28 27 false (.mv (.t 6)) 0, oG 29 27 false (.mv (.t 7)) 0, oG 30 27 false (.iad 7 7 (.t 5) (.t 28)) 0, oG 31 27 false (.iad 7 1 (.t
 30) (.t 29)) 0, oG 32 27 false (.ld .one (.t 31)) 0, oX 33 (.pick (.t 27) (.c (.s (.bool true))) (.t 32)) 0, oX 34 (.iad 7 7 (.t 3) (.t 20)) 0, oX 35 (.iad 7 1
 (.t 34) (.t 21)) 0, oN (.st .one (.t 35) (.t 33)) 0] 0 []))) (.reg [oX 36 (.bin .add (.t 17) (.c (.s (.int .i64 1)))) 0, oM 17 36 0] 0))))))))) (.reg [oX 37
 (.bin .add (.t 14) (.c (.s (.int .i64 1)))) 0, oM 14 37 0] 0))))))))) (.reg [oX 38 (.bin .add (.t 10) (.c (.s (.int .i64 1)))) 0, oM 10 38 0] 0))))))) (.seq
 (.reg [oX 39 (.ld (.many 0 49) (.t 3)) 0, oN (.st (.many 0 49) (.t 2) (.t 39)) 0] 0) .ret)))), [(.cell 2 (.many 0 49))]⟩
def x81 : XFn := ⟨50, (.seq (.reg [oX 2 (.mv (.c (.s .nilp))) 0] 0) (.seq (.reg [oM 6 0 0, oX 7 (.nck (.t 6)) 0, oX 8 (.fad 0 (.t 7)) 0, oX 9 (.ld .one (.t 8))
 0, oX 10 (.bld (.pb [(.int .i64 0)] 49 ff) [((0, 1), (.t 9))]) 0, oX 11 (.box 115 (.t 10)) 0, oM 3 11 1] 1) (.seq (.seq (.reg [oM 12 0 0, oX 13 (.nck (.t 12))
 0, oX 14 (.fad 0 (.t 13)) 0, oX 15 (.ld .one (.t 14)) 0, oX 16 (.mv (.c (.s (.int .i64 0)))) 0] 0) (.block 0 (.loop (.seq (.reg [oX 17 (.bin .lss (.t 16) (.t
 15)) 0] 0) (.seq (.cond (.t 17) .skip (.exit 0)) (.seq (.block 1 (.seq (.reg [oM 18 16 0, oM 4 18 0] 0) (.seq (.reg [oM 19 0 0, oX 20 (.nck (.t 19)) 0, oX 21
 (.fad 0 (.t 20)) 0, oX 22 (.ld .one (.t 21)) 0, oX 23 (.mv (.c (.s (.int .i64 0)))) 0] 0) (.block 2 (.loop (.seq (.reg [oX 24 (.bin .lss (.t 23) (.t 22)) 0] 0)
 (.seq (.cond (.t 24) .skip (.exit 2)) (.seq (.block 3 (.seq (.reg [oM 25 23 0, oM 5 25 0] 0) (.regD [oM 26 3 0, oM 27 4 0, oM 28 5 0, oM 29 4 0, oM 30 5 0, oX
 31 (.bin .neq (.t 29) (.t 30)) 0, oM 32 31 0, oG 33 32 true (.mv (.t 0)) 0, oG 34 32 true (.mv (.t 4)) 0, oG 35 32 true (.mv (.t 5)) 0, oG 36 32 true (.nck (.t
 33)) 0, oG 37 32 true (.fad 1 (.t 36)) 0, oG 38 32 true (.iad 7 7 (.t 37) (.t 34)) 0, oG 39 32 true (.iad 7 1 (.t 38) (.t 35)) 0, oG 40 32 true (.ld .one (.t
 39)) 0, oG 41 32 true (.not (.t 40)) 0, oX 42 (.pick (.t 32) (.t 41) (.c (.s (.bool false)))) 0, oX 43 (.nck (.t 26)) 0, oX 44 (.fad 1 (.t 43)) 0, oX 45 (.iad 7
 7 (.t 44) (.t 27)) 0, oX 46 (.iad 7 1 (.t 45) (.t 28)) 0, oN (.st .one (.t 46) (.t 42)) 0] 0 []))) (.reg [oX 47 (.bin .add (.t 23) (.c (.s (.int .i64 1)))) 0,
 oM 23 47 0] 0))))))))) (.reg [oX 48 (.bin .add (.t 16) (.c (.s (.int .i64 1)))) 0, oM 16 48 0] 0))))))) (.seq (.reg [oM 49 3 0, oM 2 49 0] 0) .ret)))), [(.t
 2)]⟩
def x82 : XFn := ⟨33, (.seq (.reg [oX 2 (.box 70 (.t 0)) 0, oX 4 (.mv (.c (.s .nils))) 1] 1) (.seq (.reg [oM 9 1 0, oX 10 (.mkS 3 .i64 (.t 9)) 0, oM 5 10 1] 1)
 (.seq (.seq (.reg [oM 11 1 0, oX 12 (.mv (.c (.s (.int .i64 0)))) 0] 0) (.block 0 (.loop (.seq (.reg [oX 13 (.bin .lss (.t 12) (.t 11)) 0] 0) (.seq (.cond (.t
 13) .skip (.exit 0)) (.seq (.block 1 (.seq (.reg [oM 14 12 0, oM 6 14 0] 0) (.seq (.reg [oX 7 (.mv (.c (.s (.int .i64 0)))) 0] 0) (.seq (.seq (.reg [oM 15 1 0,
 oX 16 (.mv (.c (.s (.int .i64 0)))) 0] 0) (.block 2 (.loop (.seq (.reg [oX 17 (.bin .lss (.t 16) (.t 15)) 0] 0) (.seq (.cond (.t 17) .skip (.exit 2)) (.seq
 (.block 3 (.seq (.reg [oM 18 16 0, oM 8 18 0] 0) (.seq (.reg [oM 19 8 0, oM 20 6 0, oX 21 (.iad 7 7 (.t 2) (.t 19)) 0, oX 22 (.iad 7 1 (.t 21) (.t 20)) 0, oX 23
 (.ld .one (.t 22)) 0] 0) (.cond (.t 23) (.reg [oM 24 7 0, oX 25 (.bin .add (.t 24) (.c (.s (.int .i64 1)))) 0, oM 7 25 0] 0) .skip)))) (.reg [oX 26 (.bin .add
 (.t 16) (.c (.s (.int .i64 1)))) 0, oM 16 26 0] 0))))))) (.reg [oM 27 5 0, oM 28 7 0, oM 29 6 0, oX 30 (.iadS 1 (.t 27) (.t 28)) 0, oN (.st .one (.t 30) (.t
 29)) 0] 0))))) (.reg [oX 31 (.bin .add (.t 12) (.c (.s (.int .i64 1)))) 0, oM 12 31 0] 0))))))) (.seq (.reg [oM 32 5 0, oM 4 32 0] 0) .ret)))), [(.t 4)]⟩
def x83 : XFn := ⟨16, (.seq (.reg [oX 6 (.mv (.c (.s (.bool false)))) 0] 0) (.seq (.reg [oM 7 0 0, oM 8 1 0, oM 9 2 0, oX 10 (.mn [(.t 8), (.t 9)]) 0, oM 11 1 0,
 oM 12 2 0, oX 13 (.mx [(.t 11), (.t 12)]) 0, oX 14 (.bld (.pb [(.int .i64 0), (.int .i64 0)] 0 ff) [((0, 1), (.t 10)), ((1, 1), (.t 13))]) 0, oX 15 (.call (.c
 (.s (.fn 78 []))) [(.t 7), (.t 14)]) 0, oM 6 15 8] 8) .ret)), [(.t 6)]⟩
def x84 : XFn := ⟨34, (.seq (.reg [oX 4 (.mv (.c (.s .nils))) 0] 0) (.seq (.reg [oX 5 (.mv (.c (.s .nils))) 0] 0) (.seq (.seq (.reg [oX 6 (.mv (.c (.s (.int .i64
 0)))) 0] 0) (.block 0 (.loop (.seq (.seq (.reg [oM 8 6 0, oM 9 0 0, oX 10 (.bin .lss (.t 8) (.t 9)) 0] 0) (.cond (.t 10) .skip (.exit 0))) (.seq (.block 1 (.seq
 (.reg [oX 7 (.mv (.c (.s (.int .i64 0)))) 0] 0) (.block 2 (.loop (.seq (.seq (.reg [oM 13 7 0, oM 14 0 0, oX 15 (.bin .lss (.t 13) (.t 14)) 0] 0) (.cond (.t 15)
 .skip (.exit 2))) (.seq (.block 3 (.seq (.reg [oM 18 6 0, oM 19 7 0, oX 20 (.bin .neq (.t 18) (.t 19)) 0, oM 21 20 0, oG 22 21 true (.mv (.t 1)) 0, oG 23 21
 true (.mv (.t 6)) 0, oG 24 21 true (.mv (.t 7)) 0, oG 25 21 true (.call (.c (.s (.fn 83 []))) [(.t 22), (.t 23), (.t 24)]) 0, oX 26 (.pick (.t 21) (.t 25) (.c
 (.s (.bool false)))) 8] 8) (.cond (.t 26) (.reg [oM 27 5 0, oM 28 6 0, oM 29 7 0, oX 30 (.bld (.pb [(.int .i64 0), (.int .i64 0)] 0 ff) [((0, 1), (.t 28)), ((1,
 1), (.t 29))]) 0, oX 31 (.bsl 38 .i64 2 1 [(0, (.t 30))]) 0, oX 32 (.app 38 .i64 2 (.t 27) (.t 31)) 1, oM 5 32 2] 2) .skip))) (.reg [oM 16 7 0, oX 17 (.bin .add
 (.t 16) (.c (.s (.int .i64 1)))) 0, oM 7 17 0] 0))))))) (.reg [oM 11 6 0, oX 12 (.bin .add (.t 11) (.c (.s (.int .i64 1)))) 0, oM 6 12 0] 0)))))) (.seq (.reg
 [oM 33 5 0, oM 4 33 0] 0) .ret)))), [(.t 4)]⟩
def x85 : XFn := ⟨111, (.seq (.reg [oX 5 (.box 38 (.t 2)) 0, oX 6 (.mv (.c (.s .nils))) 1, oX 7 (.mv (.c (.s .nils))) 1] 1) (.seq (.reg [oM 20 0 0, oM 21 1 0, oX
 22 (.call (.c (.s (.fn 84 []))) [(.t 20), (.t 21)]) 0, oM 8 22 8] 8) (.seq (.reg [oX 23 (.mmk (.ints 2) .int1) 0, oX 24 (.ld (.many 2 0) (.t 5)) 1, oN (.mupd
 (.ints 2) .int1 (.t 23) (.t 24) (.c (.s (.int .i64 0)))) 1, oM 25 23 1, oM 9 25 1] 1) (.seq (.reg [oX 26 (.ld (.many 2 0) (.t 5)) 0, oX 27 (.bsl 38 .i64 2 1
 [(0, (.t 26))]) 0, oM 10 27 1] 1) (.seq (.seq (.reg [oX 11 (.mv (.c (.s (.int .i64 0)))) 0] 0) (.block 0 (.loop (.seq (.seq (.reg [oM 28 11 0, oM 29 10 0, oX 30
 (.len (.t 29)) 0, oX 31 (.bin .lss (.t 28) (.t 30)) 0] 0) (.cond (.t 31) .skip (.exit 0))) (.seq (.block 1 (.seq (.reg [oX 12 (.mv (.c (.s (.int .i64 0)))) 0]
 0) (.block 2 (.loop (.seq (.seq (.reg [oM 34 12 0, oM 35 8 0, oX 36 (.len (.t 35)) 0, oX 37 (.bin .lss (.t 34) (.t 36)) 0] 0) (.cond (.t 37) .skip (.exit 2)))
 (.seq (.block 3 (.seq (.reg [oM 41 9 0, oM 42 8 0, oM 43 12 0, oX 44 (.iadS 2 (.t 42) (.t 43)) 0, oX 45 (.ld (.many 2 0) (.t 44)) 0, oX 46 (.lkup (.ints 2)
 .int1 true (.t 41) (.t 45)) 0, oM 40 46 0, oX 47 (.extr (.t 40) 0) 0, oX 48 (.extr (.t 40) 1) 0, oM 13 47 0, oM 14 48 0] 0) (.seq (.regD [oM 49 14 0, oX 50
 (.not (.t 49)) 0, oM 51 50 0, oG 52 51 true (.mv (.t 1)) 0, oG 53 51 true (.mv (.t 10)) 0, oG 54 51 true (.mv (.t 11)) 0, oG 55 51 true (.iadS 2 (.t 53) (.t
 54)) 0, oG 56 51 true (.ld (.many 2 0) (.t 55)) 0, oG 57 51 true (.mv (.t 8)) 0, oG 58 51 true (.mv (.t 12)) 0, oG 59 51 true (.iadS 2 (.t 57) (.t 58)) 0, oG 60
 51 true (.ld (.many 2 0) (.t 59)) 0, oG 61 51 true (.call (.c (.s (.fn 108 []))) [(.t 52), (.t 56), (.t 60)]) 0, oX 62 (.pick (.t 51) (.t 61) (.c (.s (.bool
 false)))) 8] 8 []) (.cond (.t 62) (.seq (.regD [oM 63 9 0, oM 64 8 0, oM 65 12 0, oX 66 (.iadS 2 (.t 64) (.t 65)) 0, oX 67 (.ld (.many 2 0) (.t 66)) 0, oM 68 9
 0, oM 69 10 0, oM 70 11 0, oX 71 (.iadS 2 (.t 69) (.t 70)) 0, oX 72 (.ld (.many 2 0) (.t 71)) 0, oX 73 (.lkup (.ints 2) .int1 false (.t 68) (.t 72)) 0, oX 74
 (.bin .add (.t 73) (.c (.s (.int .i64 1)))) 0, oN (.mupd (.ints 2) .int1 (.t 63) (.t 67) (.t 74)) 0] 0 []) (.reg [oM 75 10 0, oM 76 8 0, oM 77 12 0, oX 78
 (.iadS 2 (.t 76) (.t 77)) 0, oX 79 (.ld (.many 2 0) (.t 78)) 0, oX 80 (.bsl 38 .i64 2 1 [(0, (.t 79))]) 0, oX 81 (.app 38 .i64 2 (.t 75) (.t 80)) 1, oM 10 81 2]
 2)) .skip)))) (.reg [oM 38 12 0, oX 39 (.bin .add (.t 38) (.c (.s (.int .i64 1)))) 0, oM 12 39 0] 0))))))) (.reg [oM 32 11 0, oX 33 (.bin .add (.t 32) (.c (.s
 (.int .i64 1)))) 0, oM 11 33 0] 0)))))) (.seq (.reg [oX 15 (.mv (.c (.s .nils))) 0] 0) (.seq (.reg [oX 16 (.mv (.c (.s .nils))) 0] 0) (.seq (.seq (.reg [oX 17
 (.mv (.c (.s (.int .i64 0)))) 0] 0) (.block 4 (.loop (.seq (.seq (.reg [oM 82 17 0, oM 83 8 0, oX 84 (.len (.t 83)) 0, oX 85 (.bin .lss (.t 82) (.t 84)) 0] 0)
 (.cond (.t 85) .skip (.exit 4))) (.seq (.block 5 (.seq (.reg [oM 89 9 0, oM 90 8 0, oM 91 17 0, oX 92 (.iadS 2 (.t 90) (.t 91)) 0, oX 93 (.ld (.many 2 0) (.t
 92)) 0, oX 94 (.lkup (.ints 2) .int1 true (.t 89) (.t 93)) 0, oM 88 94 0, oX 95 (.extr (.t 88) 0) 0, oX 96 (.extr (.t 88) 1) 0, oM 18 95 0, oM 19 96 0] 0) (.seq
 (.reg [oM 97 19 0] 0) (.cond (.t 97) (.seq (.reg [oM 98 15 0, oM 99 8 0, oM 100 17 0, oX 101 (.iadS 2 (.t 99) (.t 100)) 0, oX 102 (.ld (.many 2 0) (.t 101)) 0,
 oX 103 (.bsl 38 .i64 2 1 [(0, (.t 102))]) 0, oX 104 (.app 38 .i64 2 (.t 98) (.t 103)) 1, oM 15 104 2] 2) (.reg [oM 105 16 0, oM 106 18 0, oX 107 (.bsl 3 .i64 1
 1 [(0, (.t 106))]) 0, oX 108 (.app 3 .i64 1 (.t 105) (.t 107)) 1, oM 16 108 2] 2)) .skip)))) (.reg [oM 86 17 0, oX 87 (.bin .add (.t 86) (.c (.s (.int .i64
 1)))) 0, oM 17 87 0] 0)))))) (.seq (.reg [oM 109 15 0, oM 110 16 0, oM 6 109 0, oM 7 110 0] 0) .ret))))))))), [(.t 6), (.t 7)]⟩
def x86 : XFn := ⟨26, (.seq (.reg [oX 6 (.mv (.c (.s (.bool false)))) 0] 0) (.seq (.seq (.reg [oX 7 (.mv (.c (.s (.int .i64 0)))) 0] 0) (.block 0 (.loop (.seq
 (.seq (.reg [oM 8 7 0, oM 9 0 0, oX 10 (.len (.t 9)) 0, oX 11 (.bin .lss (.t 8) (.t 10)) 0] 0) (.cond (.t 11) .skip (.exit 0))) (.seq (.block 1 (.seq (.seq
 (.reg [oM 14 0 0, oM 15 7 0, oX 16 (.iadS 1 (.t 14) (.t 15)) 0, oX 17 (.ld .one (.t 16)) 0, oM 18 1 0, oX 19 (.bin .eql (.t 17) (.t 18)) 0] 0) (.cond (.t 19)
 (.seq (.reg [oX 6 (.mv (.c (.s (.bool true)))) 0] 0) .ret) .skip)) (.seq (.reg [oM 20 0 0, oM 21 7 0, oX 22 (.iadS 1 (.t 20) (.t 21)) 0, oX 23 (.ld .one (.t
 22)) 0, oM 24 2 0, oX 25 (.bin .eql (.t 23) (.t 24)) 0] 0) (.cond (.t 25) (.seq (.reg [oX 6 (.mv (.c (.s (.bool false)))) 0] 0) .ret) .skip)))) (.reg [oM 12 7
 0, oX 13 (.bin .add (.t 12) (.c (.s (.int .i64 1)))) 0, oM 7 13 0] 0)))))) (.seq (.reg [oX 6 (.mv (.c (.s (.bool false)))) 0] 0) .ret))), [(.t 6)]⟩
def x88 : XFn := ⟨6, (.seq (.reg [oX 2 (.box 64 (.t 0)) 0, oX 3 (.box 77 (.t 1)) 1, oX 4 (.mv (.c (.s .nilf))) 2] 2) (.seq (.reg [oX 5 (.mkf 109 [(.t 3), (.t
 2)]) 0, oM 4 5 0] 0) .ret)), [(.t 4)]⟩
def x90 : XFn := ⟨8, (.seq (.reg [oX 1 (.box 77 (.t 0)) 0, oX 2 (.alloc 77 (.pb [(.int .i64 0), (.int .i64 0)] 0 ff)) 1] 2) (.seq (.reg [oX 3 (.fad 1 (.t 1)) 0,
 oX 4 (.ld .one (.t 3)) 0, oX 5 (.fad 0 (.t 1)) 0, oX 6 (.ld .one (.t 5)) 0, oX 7 (.bld (.pb [(.int .i64 0), (.int .i64 0)] 0 ff) [((0, 1), (.t 4)), ((1, 1), (.t
 6))]) 0, oN (.st (.many 2 0) (.t 2) (.t 7)) 0] 0) .ret)), [(.cell 2 (.many 2 0))]⟩
def x91 : XFn := ⟨28, (.seq (.reg [oM 4 0 0, oX 5 (.len (.t 4)) 0, oX 6 (.bin .sub (.t 5) (.c (.s (.int .i64 1)))) 0, oX 2 (.mv (.c (.s (.int .i64 0)))) 0, oM 3
 6 0] 0) (.block 0 (.loop (.seq (.seq (.reg [oM 7 2 0, oM 8 3 0, oX 9 (.bin .lss (.t 7) (.t 8)) 0] 0) (.cond (.t 9) .skip (.exit 0))) (.seq (.block 1 (.regD [oM
 14 0 0, oM 15 2 0, oM 16 0 0, oM 17 3 0, oM 18 0 0, oM 19 3 0, oX 20 (.iadS 2 (.t 18) (.t 19)) 0, oX 21 (.ld (.many 2 0) (.t 20)) 0, oM 22 0 0, oM 23 2 0, oX 24
 (.iadS 2 (.t 22) (.t 23)) 0, oX 25 (.ld (.many 2 0) (.t 24)) 0, oX 26 (.iadS 2 (.t 14) (.t 15)) 0, oN (.st (.many 2 0) (.t 26) (.t 21)) 0, oX 27 (.iadS 2 (.t
 16) (.t 17)) 0, oN (.st (.many 2 0) (.t 27) (.t 25)) 0] 0 [])) (.reg [oM 10 2 0, oX 11 (.bin .add (.t 10) (.c (.s (.int .i64 1)))) 0, oM 12 3 0, oX 13 (.bin
 .sub (.t 12) (.c (.s (.int .i64 1)))) 0, oM 2 11 0, oM 3 13 0] 0)))))), []⟩
def x92 : XFn := ⟨8, (.seq (.reg [oX 1 (.box 77 (.t 0)) 0, oX 2 (.alloc 38 (.pb [(.int .i64 0), (.int .i64 0)] 0 ff)) 1] 2) (.seq (.reg [oX 3 (.fad 0 (.t 1)) 0,
 oX 4 (.ld .one (.t 3)) 0, oX 5 (.fad 1 (.t 1)) 0, oX 6 (.ld .one (.t 5)) 0, oX 7 (.bld (.pb [(.int .i64 0), (.int .i64 0)] 0 ff) [((0, 1), (.t 4)), ((1, 1), (.t
 6))]) 0, oN (.st (.many 2 0) (.t 2) (.t 7)) 0] 0) .ret)), [(.cell 2 (.many 2 0))]⟩
def x93 : XFn := ⟨36, (.seq (.reg [oX 4 (.mv (.c (.s (.int .i64 0)))) 0] 0) (.seq (.seq (.reg [oM 9 0 0, oX 10 (.len (.t 9)) 0, oX 11 (.mv (.c (.s (.int .i64
 0)))) 0] 0) (.block 0 (.loop (.seq (.reg [oX 12 (.bin .lss (.t 11) (.t 10)) 0] 0) (.seq (.cond (.t 12) .skip (.exit 0)) (.seq (.block 1 (.seq (.reg [oM 13 11 0,
 oX 14 (.iadS 1 (.t 9) (.t 11)) 0, oX 15 (.ld .one (.t 14)) 0, oM 5 13 0, oM 6 15 0] 0) (.seq (.seq (.reg [oM 16 5 0, oM 17 1 0, oX 18 (.len (.t 17)) 0, oX 19
 (.bin .geq (.t 16) (.t 18)) 0] 0) (.cond (.t 19) (.seq (.reg [oX 4 (.mv (.c (.s (.int .i64 1)))) 0] 0) .ret) .skip)) (.seq (.reg [oM 20 1 0, oM 21 5 0, oX 22
 (.iadS 1 (.t 20) (.t 21)) 0, oX 23 (.ld .one (.t 22)) 0, oM 7 23 0] 0) (.seq (.reg [oM 24 6 0, oM 25 7 0, oX 26 (.call (.c (.s (.fn 112 []))) [(.t 24), (.t
 25)]) 0, oM 8 26 8] 8) (.seq (.reg [oM 27 8 0, oX 28 (.bin .neq (.t 27) (.c (.s (.int .i64 0)))) 0] 0) (.cond (.t 28) (.seq (.reg [oM 29 8 0, oM 4 29 0] 0)
 .ret) .skip))))))) (.reg [oX 30 (.bin .add (.t 11) (.c (.s (.int .i64 1)))) 0, oM 11 30 0] 0))))))) (.seq (.seq (.reg [oM 31 0 0, oX 32 (.len (.t 31)) 0, oM 33
 1 0, oX 34 (.len (.t 33)) 0, oX 35 (.bin .lss (.t 32) (.t 34)) 0] 0) (.cond (.t 35) (.seq (.reg [oX 4 (.mv (.c (.s (.int .i64 (-1))))) 0] 0) .ret) .skip)) (.seq
 (.reg [oX 4 (.mv (.c (.s (.int .i64 0)))) 0] 0) .ret)))), [(.t 4)]⟩
def x94 : XFn := ⟨76, (.seq (.reg [oX 3 (.box 48 (.t 1)) 0, oX 4 (.alloc 70 (.pb [] 49 ff)) 1, oX 5 (.mv (.c (.s (.int .i64 0)))) 2] 2) (.seq (.reg [oX 6 (.alloc
 70 (.pb [] 49 ff)) 0] 1) (.seq (.seq (.reg [oM 13 0 0, oX 14 (.bin .lss (.t 13) (.c (.s (.int .i64 1)))) 0, oM 15 14 0, oG 16 15 false (.mv (.t 0)) 0, oG 17 15
 false (.bin .gtr (.t 16) (.c (.s (.int .i64 7)))) 0, oX 18 (.pick (.t 15) (.c (.s (.bool true))) (.t 17)) 0] 0) (.cond (.t 18) (.seq (.reg [oX 19 (.ld (.many 0
 49) (.t 6)) 0, oN (.st (.many 0 49) (.t 4) (.t 19)) 0, oX 5 (.mv (.c (.s (.int .i64 1)))) 0] 0) .ret) .skip)) (.seq (.reg [oM 21 0 0, oX 22 (.iad 2 1 (.t 3) (.c
 (.s (.int .i64 0)))) 0, oX 23 (.ld .one (.t 22)) 0, oX 24 (.call (.c (.s (.fn 113 []))) [(.t 21), (.t 23)]) 0, oM 20 24 8, oX 25 (.extr (.t 20) 0) 8, oX 26
 (.extr (.t 20) 1) 8, oM 7 25 8, oM 8 26 8] 8) (.seq (.reg [oM 28 0 0, oX 29 (.iad 2 1 (.t 3) (.c (.s (.int .i64 1)))) 0, oX 30 (.ld .one (.t 29)) 0, oX 31
 (.call (.c (.s (.fn 113 []))) [(.t 28), (.t 30)]) 0, oM 27 31 8, oX 32 (.extr (.t 27) 0) 8, oX 33 (.extr (.t 27) 1) 8, oM 9 32 8, oM 10 33 8] 8) (.seq (.seq
 (.reg [oM 34 8 0, oX 35 (.not (.t 34)) 0, oM 36 35 0, oG 37 36 false (.mv (.t 10)) 0, oG 38 36 false (.not (.t 37)) 0, oX 39 (.pick (.t 36) (.c (.s (.bool
 true))) (.t 38)) 0] 0) (.cond (.t 39) (.seq (.reg [oX 40 (.ld (.many 0 49) (.t 6)) 0, oN (.st (.many 0 49) (.t 4) (.t 40)) 0, oX 5 (.mv (.c (.s (.int .i64 1))))
 0] 0) .ret) .skip)) (.seq (.seq (.reg [oM 41 0 0, oX 42 (.mv (.c (.s (.int .i64 0)))) 0] 0) (.block 0 (.loop (.seq (.reg [oX 43 (.bin .lss (.t 42) (.t 41)) 0]
 0) (.seq (.cond (.t 43) .skip (.exit 0)) (.seq (.block 1 (.seq (.reg [oM 44 42 0, oM 11 44 0] 0) (.seq (.reg [oM 45 0 0, oX 46 (.mv (.c (.s (.int .i64 0)))) 0]
 0) (.block 2 (.loop (.seq (.reg [oX 47 (.bin .lss (.t 46) (.t 45)) 0] 0) (.seq (.cond (.t 47) .skip (.exit 2)) (.seq (.block 3 (.seq (.reg [oM 48 46 0, oM 12 48
 0] 0) (.regD [oM 49 11 0, oM 50 12 0, oM 51 7 0, oM 52 11 0, oX 53 (.iadS 1 (.t 51) (.t 52)) 0, oX 54 (.ld .one (.t 53)) 0, oM 55 7 0, oM 56 12 0, oX 57 (.iadS
 1 (.t 55) (.t 56)) 0, oX 58 (.ld .one (.t 57)) 0, oX 59 (.bin .lss (.t 54) (.t 58)) 0, oM 60 59 0, oG 61 60 true (.mv (.t 9)) 0, oG 62 60 true (.mv (.t 11)) 0,
 oG 63 60 true (.iadS 1 (.t 61) (.t 62)) 0, oG 64 60 true (.ld .one (.t 63)) 0, oG 65 60 true (.mv (.t 9)) 0, oG 66 60 true (.mv (.t 12)) 0, oG 67 60 true (.iadS
 1 (.t 65) (.t 66)) 0, oG 68 60 true (.ld .one (.t 67)) 0, oG 69 60 true (.bin .lss (.t 64) (.t 68)) 0, oX 70 (.pick (.t 60) (.t 69) (.c (.s (.bool false)))) 0,
 oX 71 (.iad 7 7 (.t 6) (.t 49)) 0, oX 72 (.iad 7 1 (.t 71) (.t 50)) 0, oN (.st .one (.t 72) (.t 70)) 0] 0 []))) (.reg [oX 73 (.bin .add (.t 46) (.c (.s (.int
 .i64 1)))) 0, oM 46 73 0] 0))))))))) (.reg [oX 74 (.bin .add (.t 42) (.c (.s (.int .i64 1)))) 0, oM 42 74 0] 0))))))) (.seq (.reg [oX 75 (.ld (.many 0 49) (.t
 6)) 0, oN (.st (.many 0 49) (.t 4) (.t 75)) 0, oX 5 (.mv (.c (.s (.int .i64 0)))) 0] 0) .ret)))))))), [(.cell 4 (.many 0 49)), (.t 5)]⟩
def x95 : XFn := ⟨25, (.seq (.reg [oX 5 (.mv (.c (.s (.int .i64 0)))) 0] 0) (.seq (.reg [oX 6 (.mv (.c (.s (.int .i64 0)))) 0] 0) (.seq (.seq (.reg [oX 8 (.ld
 .one (.t 1)) 0, oX 9 (.mv (.c (.s (.int .i64 0)))) 0] 0) (.block 0 (.loop (.seq (.reg [oX 10 (.bin .lss (.t 9) (.t 8)) 0] 0) (.seq (.cond (.t 10) .skip (.exit
 0)) (.seq (.block 1 (.seq (.reg [oM 11 9 0, oM 7 11 0] 0) (.seq (.reg [oM 12 7 0, oM 13 0 0, oX 14 (.iad 7 7 (.t 2) (.t 12)) 0, oX 15 (.iad 7 1 (.t 14) (.t 13))
 0, oX 16 (.ld .one (.t 15)) 0] 0) (.cond (.t 16) (.reg [oM 17 6 0, oX 18 (.ld .one (.t 3)) 0, oM 19 7 0, oX 20 (.call (.t 18) [(.t 19)]) 0, oX 21 (.bin .add (.t
 20) (.c (.s (.int .i64 1)))) 8, oX 22 (.mx [(.t 17), (.t 21)]) 8, oM 6 22 8] 8) .skip)))) (.reg [oX 23 (.bin .add (.t 9) (.c (.s (.int .i64 1)))) 0, oM 9 23 0]
 0))))))) (.seq (.reg [oM 24 6 0, oM 5 24 0] 0) .ret)))), [(.t 5)]⟩
def x108 : XFn := ⟨36, (.seq (.reg [oX 4 (.box 38 (.t 1)) 0, oX 5 (.box 38 (.t 2)) 1, oX 6 (.mv (.c (.s (.bool false)))) 2] 2) (.seq (.seq (.reg [oX 7 (.ld
 (.many 2 0) (.t 4)) 0, oX 8 (.ld (.many 2 0) (.t 5)) 0, oX 9 (.eqv (.agg 2 0) false (.t 7) (.t 8)) 0] 0) (.cond (.t 9) (.seq (.reg [oX 6 (.mv (.c (.s (.bool
 true)))) 0] 0) .ret) .skip)) (.seq (.seq (.reg [oX 10 (.iad 2 1 (.t 4) (.c (.s (.int .i64 0)))) 0, oX 11 (.ld .one (.t 10)) 0, oX 12 (.iad 2 1 (.t 5) (.c (.s
 (.int .i64 0)))) 0, oX 13 (.ld .one (.t 12)) 0, oX 14 (.bin .eql (.t 11) (.t 13)) 0] 0) (.cond (.t 14) (.seq (.reg [oM 15 0 0, oX 16 (.iad 2 1 (.t 4) (.c (.s
 (.int .i64 1)))) 0, oX 17 (.ld .one (.t 16)) 0, oX 18 (.iad 2 1 (.t 5) (.c (.s (.int .i64 1)))) 0, oX 19 (.ld .one (.t 18)) 0, oX 20 (.call (.c (.s (.fn 83
 []))) [(.t 15), (.t 17), (.t 19)]) 0, oX 21 (.not (.t 20)) 8, oM 6 21 8] 8) .ret) .skip)) (.seq (.reg [oX 22 (.iad 2 1 (.t 4) (.c (.s (.int .i64 1)))) 0, oX 23
 (.ld .one (.t 22)) 0, oX 24 (.iad 2 1 (.t 5) (.c (.s (.int .i64 1)))) 0, oX 25 (.ld .one (.t 24)) 0, oX 26 (.bin .eql (.t 23) (.t 25)) 0, oM 27 26 0, oG 28 27
 true (.mv (.t 0)) 0, oG 29 27 true (.iad 2 1 (.t 4) (.c (.s (.int .i64 0)))) 0, oG 30 27 true (.ld .one (.t 29)) 0, oG 31 27 true (.iad 2 1 (.t 5) (.c (.s (.int
 .i64 0)))) 0, oG 32 27 true (.ld .one (.t 31)) 0, oG 33 27 true (.call (.c (.s (.fn 83 []))) [(.t 28), (.t 30), (.t 32)]) 0, oG 34 27 true (.not (.t 33)) 8, oX
 35 (.pick (.t 27) (.t 34) (.c (.s (.bool false)))) 8, oM 6 35 8] 8) .ret)))), [(.t 6)]⟩
def x109 : XFn := ⟨89, (.seq (.seq (.reg [oM 5 0 0, oX 6 (.ld (.many 2 0) (.t 1)) 0, oX 7 (.call (.t 5) [(.t 6)]) 0, oX 8 (.not (.t 7)) 8] 8) (.cond (.t 8) .ret
 .skip)) (.seq (.reg [oX 9 (.ld .one (.t 2)) 0, oX 10 (.nck (.t 9)) 0, oX 11 (.fad 0 (.t 10)) 0, oX 12 (.ld .one (.t 11)) 0, oX 13 (.mv (.c (.s (.int .i64 0))))
 0] 0) (.block 0 (.loop (.seq (.reg [oX 14 (.bin .lss (.t 13) (.t 12)) 0] 0) (.seq (.cond (.t 14) .skip (.exit 0)) (.seq (.block 1 (.seq (.reg [oM 15 13 0, oM 4
 15 0] 0) (.seq (.seq (.regD [oM 16 4 0, oX 17 (.fad 1 (.t 1)) 0, oX 18 (.ld .one (.t 17)) 0, oX 19 (.bin .neq (.t 16) (.t 18)) 0, oM 20 19 0, oG 21 20 true (.ld
 .one (.t 2)) 0, oG 22 20 true (.fad 0 (.t 1)) 0, oG 23 20 true (.ld .one (.t 22)) 0, oG 24 20 true (.mv (.t 4)) 0, oG 25 20 true (.nck (.t 21)) 0, oG 26 20 true
 (.fad 1 (.t 25)) 0, oG 27 20 true (.iad 7 7 (.t 26) (.t 23)) 0, oG 28 20 true (.iad 7 1 (.t 27) (.t 24)) 0, oG 29 20 true (.ld .one (.t 28)) 0, oX 30 (.pick (.t
 20) (.t 29) (.c (.s (.bool false)))) 0, oM 31 30 0, oG 32 31 true (.ld .one (.t 2)) 0, oG 33 31 true (.fad 1 (.t 1)) 0, oG 34 31 true (.ld .one (.t 33)) 0, oG
 35 31 true (.mv (.t 4)) 0, oG 36 31 true (.nck (.t 32)) 0, oG 37 31 true (.fad 1 (.t 36)) 0, oG 38 31 true (.iad 7 7 (.t 37) (.t 34)) 0, oG 39 31 true (.iad 7 1
 (.t 38) (.t 35)) 0, oG 40 31 true (.ld .one (.t 39)) 0, oG 41 31 true (.not (.t 40)) 0, oX 42 (.pick (.t 31) (.t 41) (.c (.s (.bool false)))) 0, oM 43 42 0, oG
 44 43 true (.mv (.t 0)) 0, oG 45 43 true (.fad 0 (.t 1)) 0, oG 46 43 true (.ld .one (.t 45)) 0, oG 47 43 true (.mv (.t 4)) 0, oG 48 43 true (.bld (.pb [(.int
 .i64 0), (.int .i64 0)] 0 ff) [((0, 1), (.t 46)), ((1, 1), (.t 47))]) 0, oG 49 43 true (.call (.t 44) [(.t 48)]) 0, oG 50 43 true (.not (.t 49)) 8, oX 51 (.pick
 (.t 43) (.t 50) (.c (.s (.bool false)))) 8] 8 []) (.cond (.t 51) .ret .skip)) (.seq (.regD [oM 52 4 0, oX 53 (.fad 0 (.t 1)) 0, oX 54 (.ld .one (.t 53)) 0, oX
 55 (.bin .neq (.t 52) (.t 54)) 0, oM 56 55 0, oG 57 56 true (.ld .one (.t 2)) 0, oG 58 56 true (.mv (.t 4)) 0, oG 59 56 true (.fad 1 (.t 1)) 0, oG 60 56 true
 (.ld .one (.t 59)) 0, oG 61 56 true (.nck (.t 57)) 0, oG 62 56 true (.fad 1 (.t 61)) 0, oG 63 56 true (.iad 7 7 (.t 62) (.t 58)) 0, oG 64 56 true (.iad 7 1 (.t
 63) (.t 60)) 0, oG 65 56 true (.ld .one (.t 64)) 0, oX 66 (.pick (.t 56) (.t 65) (.c (.s (.bool false)))) 0, oM 67 66 0, oG 68 67 true (.ld .one (.t 2)) 0, oG
 69 67 true (.fad 0 (.t 1)) 0, oG 70 67 true (.ld .one (.t 69)) 0, oG 71 67 true (.mv (.t 4)) 0, oG 72 67 true (.nck (.t 68)) 0, oG 73 67 true (.fad 1 (.t 72))
 0, oG 74 67 true (.iad 7 7 (.t 73) (.t 70)) 0, oG 75 67 true (.iad 7 1 (.t 74) (.t 71)) 0, oG 76 67 true (.ld .one (.t 75)) 0, oG 77 67 true (.not (.t 76)) 0,
 oX 78 (.pick (.t 67) (.t 77) (.c (.s (.bool false)))) 0, oM 79 78 0, oG 80 79 true (.mv (.t 0)) 0, oG 81 79 true (.mv (.t 4)) 0, oG 82 79 true (.fad 1 (.t 1))
 0, oG 83 79 true (.ld .one (.t 82)) 0, oG 84 79 true (.bld (.pb [(.int .i64 0), (.int .i64 0)] 0 ff) [((0, 1), (.t 81)), ((1, 1), (.t 83))]) 0, oG 85 79 true
 (.call (.t 80) [(.t 84)]) 0, oG 86 79 true (.not (.t 85)) 8, oX 87 (.pick (.t 79) (.t 86) (.c (.s (.bool false)))) 8] 8 []) (.cond (.t 87) .ret .skip))))) (.reg
 [oX 88 (.bin .add (.t 13) (.c (.s (.int .i64 1)))) 0, oM 13 88 0] 0)))))))), []⟩
def x112 : XFn := ⟨20, (.seq (.reg [oX 4 (.mv (.c (.s (.int .i64 0)))) 0] 0) (.seq (.reg [oM 7 0 0, oX 8 (.call (.c (.s (.fn 122 []))) [(.t 7)]) 0, oM 5 8 8] 8)
 (.seq (.reg [oM 9 1 0, oX 10 (.call (.c (.s (.fn 122 []))) [(.t 9)]) 0, oM 6 10 8] 8) (.seq (.seq (.reg [oM 11 5 0] 0) (.cond (.t 11) (.seq (.seq (.reg [oM 12 6
 0] 0) (.cond (.t 12) (.seq (.reg [oX 4 (.mv (.c (.s (.int .i64 0)))) 0] 0) .ret) .skip)) (.seq (.reg [oX 4 (.mv (.c (.s (.int .i64 (-1))))) 0] 0) .ret)) .skip))
 (.seq (.seq (.reg [oM 13 6 0] 0) (.cond (.t 13) (.seq (.reg [oX 4 (.mv (.c (.s (.int .i64 1)))) 0] 0) .ret) .skip)) (.seq (.seq (.reg [oM 14 0 0, oM 15 1 0, oX
 16 (.bin .lss (.t 14) (.t 15)) 0] 0) (.cond (.t 16) (.seq (.reg [oX 4 (.mv (.c (.s (.int .i64 (-1))))) 0] 0) .ret) .skip)) (.seq (.seq (.reg [oM 17 0 0, oM 18 1
 0, oX 19 (.bin .gtr (.t 17) (.t 18)) 0] 0) (.cond (.t 19) (.seq (.reg [oX 4 (.mv (.c (.s (.int .i64 1)))) 0] 0) .ret) .skip)) (.seq (.reg [oX 4 (.mv (.c (.s
 (.int .i64 0)))) 0] 0) .ret)))))))), [(.t 4)]⟩
def x113 : XFn := ⟨47, (.seq (.reg [oX 4 (.mv (.c (.s .nils))) 0, oX 5 (.mv (.c (.s (.bool false)))) 0] 0) (.seq (.seq (.reg [oM 10 1 0, oX 11 (.len (.t 10)) 0,
 oM 12 0 0, oX 13 (.bin .neq (.t 11) (.t 12)) 0] 0) (.cond (.t 13) (.seq (.reg [oX 4 (.mv (.c (.s .nils))) 0, oX 5 (.mv (.c (.s (.bool false)))) 0] 0) .ret)
 .skip)) (.seq (.reg [oM 14 0 0, oX 15 (.mkS 3 .i64 (.t 14)) 0, oM 6 15 1] 1) (.seq (.reg [oM 16 0 0, oX 17 (.mkSB 4 (.t 16)) 0, oM 7 17 1] 1) (.seq (.seq (.reg
 [oM 18 1 0, oX 19 (.len (.t 18)) 0, oX 20 (.mv (.c (.s (.int .i64 0)))) 0] 0) (.block 0 (.loop (.seq (.reg [oX 21 (.bin .lss (.t 20) (.t 19)) 0] 0) (.seq (.cond
 (.t 21) .skip (.exit 0)) (.seq (.block 1 (.seq (.reg [oM 22 20 0, oX 23 (.iadS 1 (.t 18) (.t 20)) 0, oX 24 (.ld .one (.t 23)) 0, oM 8 22 0, oM 9 24 0] 0) (.seq
 (.seq (.reg [oM 25 9 0, oX 26 (.bin .lss (.t 25) (.c (.s (.int .i64 0)))) 0, oM 27 26 0, oG 28 27 false (.mv (.t 9)) 0, oG 29 27 false (.mv (.t 0)) 0, oG 30 27
 false (.bin .geq (.t 28) (.t 29)) 0, oX 31 (.pick (.t 27) (.c (.s (.bool true))) (.t 30)) 0, oM 32 31 0, oG 33 32 false (.mv (.t 7)) 0, oG 34 32 false (.mv (.t
 9)) 0, oG 35 32 false (.iadS 1 (.t 33) (.t 34)) 0, oG 36 32 false (.ld .one (.t 35)) 0, oX 37 (.pick (.t 32) (.c (.s (.bool true))) (.t 36)) 0] 0) (.cond (.t
 37) (.seq (.reg [oX 4 (.mv (.c (.s .nils))) 0, oX 5 (.mv (.c (.s (.bool false)))) 0] 0) .ret) .skip)) (.reg [oM 38 7 0, oM 39 9 0, oM 40 6 0, oM 41 9 0, oM 42 8
 0, oX 43 (.iadS 1 (.t 38) (.t 39)) 0, oN (.st .one (.t 43) (.c (.s (.bool true)))) 0, oX 44 (.iadS 1 (.t 40) (.t 41)) 0, oN (.st .one (.t 44) (.t 42)) 0] 0))))
 (.reg [oX 45 (.bin .add (.t 20) (.c (.s (.int .i64 1)))) 0, oM 20 45 0] 0))))))) (.seq (.reg [oM 46 6 0, oM 4 46 0, oX 5 (.mv (.c (.s (.bool true)))) 0] 0)
 .ret)))))), [(.t 4), (.t 5)]⟩
def x122 : XFn := ⟨6, (.seq (.reg [oX 2 (.mv (.c (.s (.bool false)))) 0] 0) (.seq (.reg [oM 3 0 0, oM 4 0 0, oX 5 (.bin .neq (.t 3) (.t 4)) 0, oM 2 5 0] 0)
 .ret)), [(.t 2)]⟩
end Go.Proofs.Yteekkjfjpoaihaa.Eng
namespace Go.Proofs.Yteekkjfjpoaihaa.Eng
open Go
def tabL : List (Nat × TI) := [
  (3, ⟨.int .i64, 1, 8, some (.s (.int .i64 0))⟩),
  (4, ⟨.bool, 1, 1, some (.s (.bool false))⟩),
  (5, ⟨.int .u8, 1, 1, some (.s (.int .u8 0))⟩),
  (9, ⟨.string, 1, 16, none⟩),
  (22, ⟨.slice 38, 1, 24, some (.s (.nils))⟩),
  (25, ⟨.int .i64, 1, 8, some (.s (.int .i64 0))⟩),
  (30, ⟨.func #[] #[4] false, 1, 8, some (.s (.nilf))⟩),
  (38, ⟨.array 2 3, 2, 16, some (.pb [.int .i64 0, .int .i64 0] 0 ff)⟩),
  (41, ⟨.slice 3, 1, 24, some (.s (.nils))⟩),
  (48, ⟨.array 2 41, 2, 48, some (.pb [.nils, .nils] 0 ff)⟩),
  (63, ⟨.int .u64, 1, 8, some (.s (.int .u64 0))⟩),
  (64, ⟨.pointer 115, 1, 8, some (.s (.nilp))⟩),
  (68, ⟨.array 7 4, 7, 7, some (.pb [] 7 ff)⟩),
  (70, ⟨.array 7 68, 49, 49, some (.pb [] 49 ff)⟩),
  (71, ⟨.func #[3] #[] false, 1, 8, some (.s (.nilf))⟩),
  (73, ⟨.map 77 4, 1, 8, some (.s (.nilm))⟩),
  (74, ⟨.slice 77, 1, 24, some (.s (.nils))⟩),
  (77, ⟨.struct #[⟨"a", 3, 0, false, "", "girouette/orders", 0⟩, ⟨"b", 3, 1, false, "", "girouette/orders", 8⟩], 2, 16, some (.pb [.int .i64 0, .int .i64 0] 0 ff)⟩),
  (78, ⟨.map 77 77, 1, 8, some (.s (.nilm))⟩),
  (92, ⟨.func #[3] #[4] false, 1, 8, some (.s (.nilf))⟩),
  (95, ⟨.array 64 4, 64, 64, some (.pb [] 64 ff)⟩),
  (101, ⟨.map 95 4, 1, 8, some (.s (.nilm))⟩),
  (103, ⟨.struct #[⟨"n", 3, 0, false, "", "girouette/shells", 0⟩, ⟨"pieces", 41, 1, false, "", "girouette/shells", 8⟩, ⟨"faces", 95, 2, false, "", "girouette/shells", 32⟩], 66, 96, some (.pb [.int .i64 0, .nils] 64 ff)⟩),
  (108, ⟨.struct #[⟨"small", 3, 0, false, "", "girouette/shells", 0⟩, ⟨"great", 3, 1, false, "", "girouette/shells", 8⟩], 2, 16, some (.pb [.int .i64 0, .int .i64 0] 0 ff)⟩),
  (115, ⟨.struct #[⟨"n", 3, 0, false, "", "girouette/orders", 0⟩, ⟨"near", 70, 1, false, "", "girouette/orders", 8⟩], 50, 64, some (.pb [.int .i64 0] 49 ff)⟩),
  (131, ⟨.func #[3] #[3] false, 1, 8, some (.s (.nilf))⟩),
  (140, ⟨.int .u64, 1, 8, some (.s (.int .u64 0))⟩),
  (141, ⟨.slice 140, 1, 24, some (.s (.nils))⟩),
  (143, ⟨.pointer 160, 1, 8, some (.s (.nilp))⟩),
  (149, ⟨.slice 70, 1, 24, some (.s (.nils))⟩),
  (150, ⟨.map 38 3, 1, 8, some (.s (.nilm))⟩),
  (160, ⟨.struct #[⟨"n", 3, 0, false, "", "girouette/labels", 0⟩, ⟨"edges", 22, 1, false, "", "girouette/labels", 8⟩], 2, 32, some (.pb [.int .i64 0, .nils] 0 ff)⟩),
  (161, ⟨.func #[41] #[4] false, 1, 8, some (.s (.nilf))⟩),
  (163, ⟨.array 26 4, 26, 26, some (.pb [] 26 ff)⟩),
  (166, ⟨.slice 4, 1, 24, some (.s (.nils))⟩),
  (168, ⟨.int .u32, 1, 4, some (.s (.int .u32 0))⟩),
  (171, ⟨.int .i64, 1, 8, some (.s (.int .i64 0))⟩),
  (177, ⟨.int .u64, 1, 8, some (.s (.int .u64 0))⟩)]
noncomputable def T : Tab := alGet tabL
end Go.Proofs.Yteekkjfjpoaihaa.Eng
namespace Go.Proofs.Yteekkjfjpoaihaa.Eng
open Go Go.Proofs
def FL : List (Nat × XFn) := [(8, x8), (10, x10), (11, x11), (14, x14), (20, x20), (33, x33), (45, x45), (48, x48), (49, x49), (50, x50), (51, x51), (52, x52), (53, x53), (54, x54), (55, x55), (56, x56), (57, x57), (58, x58), (59, x59), (61, x61), (62, x62), (80, x80), (81, x81), (88, x88), (90, x90), (91, x91), (92, x92), (93, x93), (94, x94), (95, x95), (109, x109), (112, x112), (113, x113), (122, x122)]
noncomputable def F : FuncId → Option XFn := alGet FL
theorem c5 : compFn T Try.f5 = some x5 := by kernel_rfl
theorem c7 : compFn T Try.f7 = some x7 := by kernel_rfl
theorem c8 : compFn T Try.f8 = some x8 := by kernel_rfl
theorem c10 : compFn T Try.f10 = some x10 := by kernel_rfl
theorem c11 : compFn T Try.f11 = some x11 := by kernel_rfl
theorem c12 : compFn T Try.f12 = some x12 := by kernel_rfl
theorem c14 : compFn T Try.f14 = some x14 := by kernel_rfl
theorem c19 : compFn T Try.f19 = some x19 := by kernel_rfl
theorem c20 : compFn T Try.f20 = some x20 := by kernel_rfl
theorem c28 : compFn T Try.f28 = some x28 := by kernel_rfl
theorem c29 : compFn T Try.f29 = some x29 := by kernel_rfl
theorem c30 : compFn T Try.f30 = some x30 := by kernel_rfl
theorem c31 : compFn T Try.f31 = some x31 := by kernel_rfl
theorem c32 : compFn T Try.f32 = some x32 := by kernel_rfl
theorem c33 : compFn T Try.f33 = some x33 := by kernel_rfl
theorem c34 : compFn T Try.f34 = some x34 := by kernel_rfl
theorem c35 : compFn T Try.f35 = some x35 := by kernel_rfl
theorem c36 : compFn T Try.f36 = some x36 := by kernel_rfl
theorem c37 : compFn T Try.f37 = some x37 := by kernel_rfl
theorem c38 : compFn T Try.f38 = some x38 := by kernel_rfl
theorem c45 : compFn T Try.f45 = some x45 := by kernel_rfl
theorem c48 : compFn T Try.f48 = some x48 := by kernel_rfl
theorem c49 : compFn T Try.f49 = some x49 := by kernel_rfl
theorem c50 : compFn T Try.f50 = some x50 := by kernel_rfl
theorem c51 : compFn T Try.f51 = some x51 := by kernel_rfl
theorem c52 : compFn T Try.f52 = some x52 := by kernel_rfl
theorem c53 : compFn T Try.f53 = some x53 := by kernel_rfl
theorem c54 : compFn T Try.f54 = some x54 := by kernel_rfl
theorem c55 : compFn T Try.f55 = some x55 := by kernel_rfl
theorem c56 : compFn T Try.f56 = some x56 := by kernel_rfl
theorem c57 : compFn T Try.f57 = some x57 := by kernel_rfl
theorem c58 : compFn T Try.f58 = some x58 := by kernel_rfl
theorem c59 : compFn T Try.f59 = some x59 := by kernel_rfl
theorem c60 : compFn T Try.f60 = some x60 := by kernel_rfl
theorem c61 : compFn T Try.f61 = some x61 := by kernel_rfl
theorem c62 : compFn T Try.f62 = some x62 := by kernel_rfl
theorem c63 : compFn T Try.f63 = some x63 := by kernel_rfl
theorem c64 : compFn T Try.f64 = some x64 := by kernel_rfl
theorem c65 : compFn T Try.f65 = some x65 := by kernel_rfl
theorem c78 : compFn T Try.f78 = some x78 := by kernel_rfl
theorem c79 : compFn T Try.f79 = some x79 := by kernel_rfl
theorem c80 : compFn T Try.f80 = some x80 := by kernel_rfl
theorem c81 : compFn T Try.f81 = some x81 := by kernel_rfl
theorem c82 : compFn T Try.f82 = some x82 := by kernel_rfl
theorem c83 : compFn T Try.f83 = some x83 := by kernel_rfl
theorem c84 : compFn T Try.f84 = some x84 := by kernel_rfl
theorem c85 : compFn T Try.f85 = some x85 := by kernel_rfl
theorem c86 : compFn T Try.f86 = some x86 := by kernel_rfl
theorem c88 : compFn T Try.f88 = some x88 := by kernel_rfl
theorem c90 : compFn T Try.f90 = some x90 := by kernel_rfl
theorem c91 : compFn T Try.f91 = some x91 := by kernel_rfl
theorem c92 : compFn T Try.f92 = some x92 := by kernel_rfl
theorem c93 : compFn T Try.f93 = some x93 := by kernel_rfl
theorem c94 : compFn T Try.f94 = some x94 := by kernel_rfl
theorem c95 : compFn T Try.f95 = some x95 := by kernel_rfl
theorem c108 : compFn T Try.f108 = some x108 := by kernel_rfl
theorem c109 : compFn T Try.f109 = some x109 := by kernel_rfl
theorem c112 : compFn T Try.f112 = some x112 := by kernel_rfl
theorem c113 : compFn T Try.f113 = some x113 := by kernel_rfl
theorem c122 : compFn T Try.f122 = some x122 := by kernel_rfl
end Go.Proofs.Yteekkjfjpoaihaa.Eng
