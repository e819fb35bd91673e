/- A part of the proof of topChains_holds. -/
import Derived.Test.YteekkjfjpoaihaaOt04
set_option linter.all false
namespace Go.Proofs.Yteekkjfjpoaihaa.Eng
open Go
abbrev oM (d s o : Nat) : XOp := ⟨some d, none, .mv (.t s), o⟩
abbrev oX (d : Nat) (x : XI) (o : Nat) : XOp := ⟨some d, none, x, o⟩
abbrev oG (d g : Nat) (b : Bool) (x : XI) (o : Nat) : XOp := ⟨some d, some (g, b), x, o⟩
abbrev oN (x : XI) (o : Nat) : XOp := ⟨none, none, x, o⟩
def x3 : XFn := ⟨125, (.seq (.reg [oX 4 (.mv (.c (.s (.bool false)))) 0] 0) (.seq (.reg [oM 19 0 0, oM 20 1 0, oX 21 (.call (.c (.s (.fn 7 []))) [(.t 19), (.t
 20), (.c (.s (.int .i64 6)))]) 0, oM 18 21 8, oX 22 (.extr (.t 18) 0) 8, oX 23 (.extr (.t 18) 1) 8, oM 5 22 8, oM 6 23 8] 8) (.seq (.reg [oM 25 5 0, oM 26 6 0,
 oX 27 (.call (.c (.s (.fn 8 []))) [(.t 25), (.t 26)]) 0, oM 24 27 8, oX 28 (.extr (.t 24) 0) 8, oX 29 (.extr (.t 24) 1) 8, oM 7 28 8, oM 8 29 8] 8) (.seq (.reg
 [oM 31 5 0, oM 32 6 0, oX 33 (.call (.c (.s (.fn 9 []))) [(.t 31), (.t 32)]) 0, oM 30 33 8, oX 34 (.extr (.t 30) 0) 8, oX 35 (.extr (.t 30) 1) 8, oM 9 34 8, oM
 10 35 8] 8) (.seq (.reg [oM 37 5 0, oM 38 6 0, oX 39 (.call (.c (.s (.fn 10 []))) [(.t 37), (.t 38)]) 0, oM 36 39 8, oX 40 (.extr (.t 36) 0) 8, oX 41 (.extr (.t
 36) 1) 8, oX 42 (.extr (.t 36) 2) 8, oM 11 40 8, oM 12 41 8, oM 13 42 8] 8) (.seq (.seq (.reg [oM 43 8 0, oX 44 (.bin .neq (.t 43) (.c (.s (.int .i64 0)))) 0,
 oM 45 44 0, oG 46 45 false (.mv (.t 10)) 0, oG 47 45 false (.bin .neq (.t 46) (.c (.s (.int .i64 0)))) 0, oX 48 (.pick (.t 45) (.c (.s (.bool true))) (.t 47))
 0, oM 49 48 0, oG 50 49 false (.mv (.t 13)) 0, oG 51 49 false (.bin .neq (.t 50) (.c (.s (.int .i64 0)))) 0, oX 52 (.pick (.t 49) (.c (.s (.bool true))) (.t
 51)) 0, oM 53 52 0, oG 54 53 false (.mv (.t 12)) 0, oG 55 53 false (.mv (.t 7)) 0, oG 56 53 false (.bin .gtr (.t 55) (.c (.s (.int .i64 0)))) 0, oG 57 53 false
 (.eqv .b true (.t 54) (.t 56)) 0, oX 58 (.pick (.t 53) (.c (.s (.bool true))) (.t 57)) 0, oM 59 58 0, oG 60 59 false (.mv (.t 6)) 0, oG 61 59 false (.len (.t
 60)) 0, oG 62 59 false (.bin .gtr (.t 61) (.c (.s (.int .i64 0)))) 0, oG 63 59 false (.mv (.t 62)) 0, oG 64 63 true (.mv (.t 7)) 0, oG 65 63 true (.bin .rem (.t
 64) (.c (.s (.int .i64 2)))) 0, oG 66 63 true (.bin .neq (.t 65) (.c (.s (.int .i64 0)))) 0, oG 67 59 false (.pick (.t 63) (.t 66) (.c (.s (.bool false)))) 0,
 oX 68 (.pick (.t 59) (.c (.s (.bool true))) (.t 67)) 0, oM 69 68 0, oG 70 69 false (.mv (.t 6)) 0, oG 71 69 false (.len (.t 70)) 0, oG 72 69 false (.bin .eql
 (.t 71) (.c (.s (.int .i64 0)))) 0, oG 73 69 false (.mv (.t 72)) 0, oG 74 73 true (.mv (.t 7)) 0, oG 75 73 true (.bin .neq (.t 74) (.c (.s (.int .i64 1)))) 0,
 oG 76 73 true (.mv (.t 75)) 0, oG 77 76 false (.mv (.t 9)) 0, oG 78 76 false (.bin .neq (.t 77) (.c (.s (.int .i64 0)))) 0, oG 79 73 true (.pick (.t 76) (.c (.s
 (.bool true))) (.t 78)) 0, oG 80 69 false (.pick (.t 73) (.t 79) (.c (.s (.bool false)))) 0, oX 81 (.pick (.t 69) (.c (.s (.bool true))) (.t 80)) 0, oM 82 81 0,
 oG 83 82 false (.mv (.t 9)) 0, oG 84 82 false (.bin .leq (.t 83) (.c (.s (.int .i64 2)))) 0, oG 85 82 false (.mv (.t 84)) 0, oG 86 85 true (.mv (.t 7)) 0, oG 87
 85 true (.bin .gtr (.t 86) (.c (.s (.int .i64 2)))) 0, oG 88 82 false (.pick (.t 85) (.t 87) (.c (.s (.bool false)))) 0, oX 89 (.pick (.t 82) (.c (.s (.bool
 true))) (.t 88)) 0] 0) (.cond (.t 89) (.seq (.reg [oX 4 (.mv (.c (.s (.bool false)))) 0] 0) .ret) .skip)) (.seq (.seq (.reg [oM 90 12 0, oX 91 (.not (.t 90)) 0]
 0) (.cond (.t 91) (.seq (.reg [oX 92 (.call (.c (.s (.fn 11 []))) []) 0, oM 4 92 8] 8) .ret) .skip)) (.seq (.reg [oM 94 5 0, oM 95 11 0, oX 96 (.call (.c (.s
 (.fn 12 []))) [(.t 94), (.t 95)]) 0, oM 93 96 8, oX 97 (.extr (.t 93) 0) 8, oX 98 (.extr (.t 93) 1) 8, oM 14 97 8, oM 15 98 8] 8) (.seq (.reg [oM 100 5 0, oM
 101 14 0, oX 102 (.call (.c (.s (.fn 12 []))) [(.t 100), (.t 101)]) 0, oM 99 102 8, oX 103 (.extr (.t 99) 0) 8, oX 104 (.extr (.t 99) 1) 8, oM 16 103 8, oM 17
 104 8] 8) (.seq (.reg [oM 105 15 0, oX 106 (.bin .eql (.t 105) (.c (.s (.int .i64 0)))) 0, oM 107 106 0, oG 108 107 true (.mv (.t 17)) 0, oG 109 107 true (.bin
 .eql (.t 108) (.c (.s (.int .i64 0)))) 0, oX 110 (.pick (.t 107) (.t 109) (.c (.s (.bool false)))) 0, oM 111 110 0, oG 112 111 true (.mv (.t 5)) 0, oG 113 111
 true (.mv (.t 14)) 0, oG 114 111 true (.call (.c (.s (.fn 13 []))) [(.t 112), (.t 113)]) 0, oG 115 111 true (.bin .eql (.t 114) (.c (.s (.int .i64 0)))) 8, oX
 116 (.pick (.t 111) (.t 115) (.c (.s (.bool false)))) 8, oM 117 116 8, oG 118 117 true (.mv (.t 16)) 8, oG 119 117 true (.mv (.t 11)) 8, oG 120 117 true (.call
 (.c (.s (.fn 14 []))) [(.t 118), (.t 119)]) 8, oX 121 (.pick (.t 117) (.t 120) (.c (.s (.bool false)))) 16, oM 122 121 16, oG 123 122 true (.call (.c (.s (.fn
 11 []))) []) 16, oX 124 (.pick (.t 122) (.t 123) (.c (.s (.bool false)))) 24, oM 4 124 24] 24) .ret)))))))))), [(.t 4)]⟩
def x4 : XFn := ⟨263, (.seq (.reg [oX 4 (.mv (.c (.s (.bool false)))) 0] 0) (.seq (.reg [oM 34 0 0, oX 35 (.call (.c (.s (.fn 15 []))) [(.t 34), (.c (.s (.int
 .i64 4)))]) 0, oX 36 (.bin .add (.c (.s (.int .i64 1))) (.t 35)) 8, oM 0 36 8] 8) (.seq (.reg [oM 37 0 0, oM 38 1 0, oX 39 (.call (.c (.s (.fn 16 []))) [(.t
 37), (.t 38), (.c (.s (.int .i64 10)))]) 0, oM 5 39 8] 8) (.seq (.seq (.reg [oX 6 (.mv (.c (.s (.bool true)))) 0] 0) (.block 0 (.loop (.seq (.seq (.reg [oM 40 6
 0] 0) (.cond (.t 40) .skip (.exit 0))) (.block 1 (.seq (.reg [oX 6 (.mv (.c (.s (.bool false)))) 0] 0) (.seq (.reg [oX 7 (.mv (.c (.s (.int .i64 0)))) 0] 0)
 (.block 2 (.loop (.seq (.seq (.reg [oM 41 7 0, oM 42 5 0, oX 43 (.len (.t 42)) 0, oX 44 (.bin .lss (.t 41) (.t 43)) 0] 0) (.cond (.t 44) .skip (.exit 2))) (.seq
 (.block 3 (.seq (.reg [oX 8 (.mv (.c (.s (.int .i64 0)))) 0] 0) (.block 4 (.loop (.seq (.seq (.reg [oM 47 8 0, oM 48 5 0, oX 49 (.len (.t 48)) 0, oX 50 (.bin
 .lss (.t 47) (.t 49)) 0] 0) (.cond (.t 50) .skip (.exit 4))) (.seq (.block 5 (.seq (.regD [oM 53 5 0, oM 54 7 0, oX 55 (.iadS 2 (.t 53) (.t 54)) 0, oX 56 (.iad
 2 1 (.t 55) (.c (.s (.int .i64 0)))) 0, oX 57 (.ld .one (.t 56)) 0, oM 58 5 0, oM 59 8 0, oX 60 (.iadS 2 (.t 58) (.t 59)) 0, oX 61 (.iad 2 1 (.t 60) (.c (.s
 (.int .i64 1)))) 0, oX 62 (.ld .one (.t 61)) 0, oX 63 (.bld (.pb [(.int .i64 0), (.int .i64 0)] 0 ff) [((0, 1), (.t 57)), ((1, 1), (.t 62))]) 0, oX 9 (.alloc 38
 (.pb [(.int .i64 0), (.int .i64 0)] 0 ff)) 0, oN (.st (.many 2 0) (.t 9) (.t 63)) 1] 1 [(4, 11), (9, 11)]) (.seq (.regD [oM 64 5 0, oM 65 7 0, oX 66 (.iadS 2
 (.t 64) (.t 65)) 0, oX 67 (.iad 2 1 (.t 66) (.c (.s (.int .i64 1)))) 0, oX 68 (.ld .one (.t 67)) 0, oM 69 5 0, oM 70 8 0, oX 71 (.iadS 2 (.t 69) (.t 70)) 0, oX
 72 (.iad 2 1 (.t 71) (.c (.s (.int .i64 0)))) 0, oX 73 (.ld .one (.t 72)) 0, oX 74 (.bin .eql (.t 68) (.t 73)) 0, oM 75 74 0, oG 76 75 true (.mv (.t 5)) 0, oG
 77 75 true (.iad 2 1 (.t 9) (.c (.s (.int .i64 0)))) 0, oG 78 75 true (.ld .one (.t 77)) 0, oG 79 75 true (.iad 2 1 (.t 9) (.c (.s (.int .i64 1)))) 0, oG 80 75
 true (.ld .one (.t 79)) 0, oG 81 75 true (.call (.c (.s (.fn 17 []))) [(.t 76), (.t 78), (.t 80)]) 0, oG 82 75 true (.not (.t 81)) 8, oX 83 (.pick (.t 75) (.t
 82) (.c (.s (.bool false)))) 8] 8 []) (.cond (.t 83) (.seq (.reg [oX 10 (.mv (.c (.s .nils))) 0] 0) (.seq (.reg [oM 84 10 0, oM 85 5 0, oX 86 (.app 38 .i64 2
 (.t 84) (.t 85)) 0, oM 10 86 1] 1) (.seq (.reg [oM 87 10 0, oX 88 (.ld (.many 2 0) (.t 9)) 0, oX 89 (.bsl 38 .i64 2 1 [(0, (.t 88))]) 0, oX 90 (.app 38 .i64 2
 (.t 87) (.t 89)) 1, oM 5 90 2] 2) (.reg [oX 6 (.mv (.c (.s (.bool true)))) 0] 0)))) .skip)))) (.reg [oM 51 8 0, oX 52 (.bin .add (.t 51) (.c (.s (.int .i64
 1)))) 0, oM 8 52 0] 0))))))) (.reg [oM 45 7 0, oX 46 (.bin .add (.t 45) (.c (.s (.int .i64 1)))) 0, oM 7 46 0] 0)))))))))))) (.seq (.reg [oM 91 5 0, oX 92
 (.call (.c (.s (.fn 18 []))) [(.t 91)]) 0, oM 5 92 8] 8) (.seq (.reg [oM 94 0 0, oM 95 5 0, oX 96 (.call (.c (.s (.fn 19 []))) [(.t 94), (.t 95)]) 0, oM 93 96
 8, oX 97 (.extr (.t 93) 0) 8, oX 98 (.extr (.t 93) 1) 8, oM 11 97 8, oM 12 98 8] 8) (.seq (.reg [oM 100 0 0, oM 101 5 0, oX 102 (.call (.c (.s (.fn 20 [])))
 [(.t 100), (.t 101)]) 0, oM 99 102 8, oX 103 (.extr (.t 99) 0) 8, oX 104 (.extr (.t 99) 1) 8, oM 13 103 8, oM 14 104 8] 8) (.seq (.reg [oM 106 0 0, oM 107 5 0,
 oX 108 (.call (.c (.s (.fn 12 []))) [(.t 106), (.t 107)]) 0, oM 105 108 8, oX 109 (.extr (.t 105) 0) 8, oX 110 (.extr (.t 105) 1) 8, oM 15 109 8, oM 16 110 8]
 8) (.seq (.reg [oM 112 0 0, oM 113 0 0, oM 114 5 0, oX 115 (.call (.c (.s (.fn 22 []))) [(.t 113), (.t 114)]) 0, oX 116 (.call (.c (.s (.fn 21 []))) [(.t 112),
 (.t 115)]) 8, oM 111 116 16, oX 117 (.extr (.t 111) 0) 16, oX 118 (.extr (.t 111) 1) 16, oM 17 117 16, oM 18 118 16] 16) (.seq (.reg [oM 120 0 0, oM 121 0 0, oM
 122 15 0, oX 123 (.call (.c (.s (.fn 22 []))) [(.t 121), (.t 122)]) 0, oX 124 (.call (.c (.s (.fn 21 []))) [(.t 120), (.t 123)]) 8, oM 119 124 16, oX 125 (.extr
 (.t 119) 0) 16, oX 126 (.extr (.t 119) 1) 16, oM 19 125 16, oM 20 126 16] 16) (.seq (.seq (.reg [oM 127 0 0, oM 128 5 0, oX 129 (.call (.c (.s (.fn 13 [])))
 [(.t 127), (.t 128)]) 0, oX 130 (.bin .neq (.t 129) (.c (.s (.int .i64 0)))) 8, oM 131 130 8, oG 132 131 false (.mv (.t 12)) 8, oG 133 131 false (.bin .neq (.t
 132) (.c (.s (.int .i64 0)))) 8, oX 134 (.pick (.t 131) (.c (.s (.bool true))) (.t 133)) 8, oM 135 134 8, oG 136 135 false (.mv (.t 14)) 8, oG 137 135 false
 (.bin .neq (.t 136) (.c (.s (.int .i64 0)))) 8, oX 138 (.pick (.t 135) (.c (.s (.bool true))) (.t 137)) 8, oM 139 138 8, oG 140 139 false (.mv (.t 16)) 8, oG
 141 139 false (.bin .neq (.t 140) (.c (.s (.int .i64 0)))) 8, oX 142 (.pick (.t 139) (.c (.s (.bool true))) (.t 141)) 8, oM 143 142 8, oG 144 143 false (.mv (.t
 18)) 8, oG 145 143 false (.bin .neq (.t 144) (.c (.s (.int .i64 0)))) 8, oX 146 (.pick (.t 143) (.c (.s (.bool true))) (.t 145)) 8, oM 147 146 8, oG 148 147
 false (.mv (.t 20)) 8, oG 149 147 false (.bin .neq (.t 148) (.c (.s (.int .i64 0)))) 8, oX 150 (.pick (.t 147) (.c (.s (.bool true))) (.t 149)) 8, oM 151 150 8,
 oG 152 151 false (.mv (.t 13)) 8, oG 153 151 false (.len (.t 152)) 8, oG 154 151 false (.mv (.t 0)) 8, oG 155 151 false (.bin .neq (.t 153) (.t 154)) 8, oX 156
 (.pick (.t 151) (.c (.s (.bool true))) (.t 155)) 8] 8) (.cond (.t 156) (.seq (.reg [oX 4 (.mv (.c (.s (.bool false)))) 0] 0) .ret) .skip)) (.seq (.reg [oM 158 0
 0, oM 159 17 0, oX 160 (.call (.c (.s (.fn 23 []))) [(.t 158), (.t 159)]) 0, oM 157 160 8, oX 161 (.extr (.t 157) 0) 8, oX 162 (.extr (.t 157) 1) 8, oM 21 161
 8, oM 22 162 8] 8) (.seq (.reg [oX 23 (.mv (.c (.s (.int .i64 0)))) 0] 0) (.seq (.seq (.reg [oX 24 (.mv (.c (.s (.int .i64 0)))) 0] 0) (.block 6 (.loop (.seq
 (.seq (.reg [oM 163 24 0, oM 164 0 0, oX 165 (.bin .lss (.t 163) (.t 164)) 0] 0) (.cond (.t 165) .skip (.exit 6))) (.seq (.block 7 (.reg [oM 168 23 0, oM 169 13
 0, oM 170 24 0, oX 171 (.iadS 1 (.t 169) (.t 170)) 0, oX 172 (.ld .one (.t 171)) 0, oX 173 (.mx [(.t 168), (.t 172)]) 0, oM 23 173 0] 0)) (.reg [oM 166 24 0, oX
 167 (.bin .add (.t 166) (.c (.s (.int .i64 1)))) 0, oM 24 167 0] 0)))))) (.seq (.seq (.reg [oM 174 22 0, oX 175 (.bin .neq (.t 174) (.c (.s (.int .i64 0)))) 0,
 oM 176 175 0, oG 177 176 false (.mv (.t 21)) 0, oG 178 176 false (.len (.t 177)) 0, oG 179 176 false (.mv (.t 11)) 0, oG 180 176 false (.len (.t 179)) 0, oG 181
 176 false (.bin .add (.t 180) (.c (.s (.int .i64 1)))) 0, oG 182 176 false (.bin .neq (.t 178) (.t 181)) 0, oX 183 (.pick (.t 176) (.c (.s (.bool true))) (.t
 182)) 0, oM 184 183 0, oG 185 184 false (.mv (.t 23)) 0, oG 186 184 false (.mv (.t 11)) 0, oG 187 184 false (.len (.t 186)) 0, oG 188 184 false (.bin .sub (.t
 187) (.c (.s (.int .i64 1)))) 0, oG 189 184 false (.bin .neq (.t 185) (.t 188)) 0, oX 190 (.pick (.t 184) (.c (.s (.bool true))) (.t 189)) 0, oM 191 190 0, oG
 192 191 false (.mv (.t 17)) 0, oG 193 191 false (.mv (.t 19)) 0, oG 194 191 false (.call (.c (.s (.fn 24 []))) [(.t 192), (.t 193)]) 0, oG 195 191 false (.not
 (.t 194)) 8, oX 196 (.pick (.t 191) (.c (.s (.bool true))) (.t 195)) 8] 8) (.cond (.t 196) (.seq (.reg [oX 4 (.mv (.c (.s (.bool false)))) 0] 0) .ret) .skip))
 (.seq (.seq (.reg [oX 25 (.mv (.c (.s (.int .i64 0)))) 0] 0) (.block 8 (.loop (.seq (.seq (.reg [oM 197 25 0, oM 198 0 0, oX 199 (.bin .lss (.t 197) (.t 198))
 0] 0) (.cond (.t 199) .skip (.exit 8))) (.seq (.block 9 (.seq (.reg [oX 26 (.mv (.c (.s (.bool true)))) 0] 0) (.seq (.seq (.reg [oX 27 (.mv (.c (.s (.int .i64
 0)))) 0] 0) (.block 10 (.loop (.seq (.seq (.reg [oM 202 27 0, oM 203 0 0, oX 204 (.bin .lss (.t 202) (.t 203)) 0] 0) (.cond (.t 204) .skip (.exit 10))) (.seq
 (.block 11 (.reg [oM 207 26 0, oM 208 207 0, oG 209 208 true (.mv (.t 25)) 0, oG 210 208 true (.mv (.t 27)) 0, oG 211 208 true (.bin .eql (.t 209) (.t 210)) 0,
 oG 212 208 true (.mv (.t 211)) 0, oG 213 212 false (.mv (.t 5)) 0, oG 214 212 false (.mv (.t 25)) 0, oG 215 212 false (.mv (.t 27)) 0, oG 216 212 false (.call
 (.c (.s (.fn 17 []))) [(.t 213), (.t 214), (.t 215)]) 0, oG 217 208 true (.pick (.t 212) (.c (.s (.bool true))) (.t 216)) 8, oX 218 (.pick (.t 208) (.t 217) (.c
 (.s (.bool false)))) 8, oM 26 218 8] 8)) (.reg [oM 205 27 0, oX 206 (.bin .add (.t 205) (.c (.s (.int .i64 1)))) 0, oM 27 206 0] 0)))))) (.seq (.seq (.reg [oM
 219 26 0, oX 220 (.not (.t 219)) 0] 0) (.cond (.t 220) (.exit 9) .skip)) (.seq (.reg [oM 222 0 0, oM 223 17 0, oX 224 (.call (.c (.s (.fn 25 []))) [(.t 222),
 (.t 223)]) 0, oM 221 224 8, oX 225 (.extr (.t 221) 0) 8, oX 226 (.extr (.t 221) 1) 8, oX 227 (.extr (.t 221) 2) 8, oM 28 225 8, oM 29 226 8, oM 30 227 8] 8)
 (.seq (.reg [oM 229 0 0, oM 230 17 0, oX 231 (.call (.c (.s (.fn 26 []))) [(.t 229), (.t 230)]) 0, oM 228 231 8, oX 232 (.extr (.t 228) 0) 8, oX 233 (.extr (.t
 228) 1) 8, oM 31 232 8, oM 32 233 8] 8) (.seq (.seq (.reg [oM 234 30 0, oX 235 (.bin .neq (.t 234) (.c (.s (.int .i64 0)))) 0, oM 236 235 0, oG 237 236 false
 (.mv (.t 32)) 0, oG 238 236 false (.bin .neq (.t 237) (.c (.s (.int .i64 0)))) 0, oX 239 (.pick (.t 236) (.c (.s (.bool true))) (.t 238)) 0, oM 240 239 0, oG
 241 240 false (.mv (.t 29)) 0, oG 242 240 false (.not (.t 241)) 0, oX 243 (.pick (.t 240) (.c (.s (.bool true))) (.t 242)) 0, oM 244 243 0, oG 245 244 false
 (.mv (.t 31)) 0, oG 246 244 false (.len (.t 245)) 0, oG 247 244 false (.mv (.t 11)) 0, oG 248 244 false (.len (.t 247)) 0, oG 249 244 false (.bin .neq (.t 246)
 (.t 248)) 0, oX 250 (.pick (.t 244) (.c (.s (.bool true))) (.t 249)) 0] 0) (.cond (.t 250) (.seq (.reg [oX 4 (.mv (.c (.s (.bool false)))) 0] 0) .ret) .skip))
 (.seq (.reg [oX 33 (.mv (.c (.s (.int .i64 0)))) 0] 0) (.block 12 (.loop (.seq (.seq (.reg [oM 251 33 0, oM 252 31 0, oX 253 (.len (.t 252)) 0, oX 254 (.bin
 .lss (.t 251) (.t 253)) 0] 0) (.cond (.t 254) .skip (.exit 12))) (.seq (.block 13 (.seq (.reg [oM 257 31 0, oM 258 33 0, oX 259 (.iadS 1 (.t 257) (.t 258)) 0,
 oX 260 (.ld .one (.t 259)) 0, oX 261 (.bin .neq (.t 260) (.c (.s (.int .i64 0)))) 0] 0) (.cond (.t 261) (.seq (.reg [oX 4 (.mv (.c (.s (.bool false)))) 0] 0)
 .ret) .skip))) (.reg [oM 255 33 0, oX 256 (.bin .add (.t 255) (.c (.s (.int .i64 1)))) 0, oM 33 256 0] 0))))))))))))) (.reg [oM 200 25 0, oX 201 (.bin .add (.t
 200) (.c (.s (.int .i64 1)))) 0, oM 25 201 0] 0)))))) (.seq (.reg [oX 262 (.call (.c (.s (.fn 27 []))) []) 0, oM 4 262 8] 8) .ret))))))))))))))))), [(.t 4)]⟩
def x5 : XFn := ⟨191, (.seq (.reg [oX 6 (.mv (.c (.s (.bool false)))) 0] 0) (.seq (.reg [oM 28 0 0, oM 29 1 0, oX 30 (.call (.c (.s (.fn 7 []))) [(.t 28), (.t
 29), (.c (.s (.int .i64 7)))]) 0, oM 27 30 8, oX 31 (.extr (.t 27) 0) 8, oX 32 (.extr (.t 27) 1) 8, oM 7 31 8, oM 8 32 8] 8) (.seq (.reg [oM 34 7 0, oM 35 8 0,
 oX 36 (.call (.c (.s (.fn 10 []))) [(.t 34), (.t 35)]) 0, oM 33 36 8, oX 37 (.extr (.t 33) 0) 8, oX 38 (.extr (.t 33) 1) 8, oX 39 (.extr (.t 33) 2) 8, oM 9 37
 8, oM 10 38 8, oM 11 39 8] 8) (.seq (.seq (.reg [oM 40 11 0, oX 41 (.bin .neq (.t 40) (.c (.s (.int .i64 0)))) 0] 0) (.cond (.t 41) (.seq (.reg [oX 6 (.mv (.c
 (.s (.bool false)))) 0] 0) .ret) .skip)) (.seq (.seq (.reg [oM 42 10 0, oX 43 (.not (.t 42)) 0] 0) (.cond (.t 43) (.seq (.reg [oM 44 7 0, oX 45 (.bin .rem (.t
 44) (.c (.s (.int .i64 5)))) 0, oX 46 (.bin .add (.c (.s (.int .i64 1))) (.t 45)) 0, oM 7 46 0, oX 9 (.mv (.c (.s .nils))) 0] 0) (.seq (.reg [oX 12 (.mv (.c (.s
 (.int .i64 0)))) 0] 0) (.block 0 (.loop (.seq (.seq (.reg [oM 47 12 0, oM 48 7 0, oX 49 (.bin .lss (.t 47) (.t 48)) 0] 0) (.cond (.t 49) .skip (.exit 0))) (.seq
 (.block 1 (.seq (.reg [oM 52 12 0, oX 53 (.bin .add (.t 52) (.c (.s (.int .i64 1)))) 0, oM 13 53 0] 0) (.block 2 (.loop (.seq (.seq (.reg [oM 54 13 0, oM 55 7
 0, oX 56 (.bin .lss (.t 54) (.t 55)) 0] 0) (.cond (.t 56) .skip (.exit 2))) (.seq (.block 3 (.reg [oM 59 9 0, oM 60 12 0, oM 61 13 0, oX 62 (.bld (.pb [(.int
 .i64 0), (.int .i64 0)] 0 ff) [((0, 1), (.t 60)), ((1, 1), (.t 61))]) 0, oX 63 (.bsl 38 .i64 2 1 [(0, (.t 62))]) 0, oX 64 (.app 38 .i64 2 (.t 59) (.t 63)) 1, oM
 9 64 2] 2)) (.reg [oM 57 13 0, oX 58 (.bin .add (.t 57) (.c (.s (.int .i64 1)))) 0, oM 13 58 0] 0))))))) (.reg [oM 50 12 0, oX 51 (.bin .add (.t 50) (.c (.s
 (.int .i64 1)))) 0, oM 12 51 0] 0))))))) .skip)) (.seq (.seq (.reg [oM 65 7 0, oM 66 9 0, oX 67 (.call (.c (.s (.fn 28 []))) [(.t 65), (.t 66)]) 0, oX 68 (.not
 (.t 67)) 8] 8) (.cond (.t 68) (.seq (.reg [oX 6 (.mv (.c (.s (.bool false)))) 0] 0) .ret) .skip)) (.seq (.reg [oM 70 7 0, oM 71 9 0, oX 72 (.call (.c (.s (.fn
 12 []))) [(.t 70), (.t 71)]) 0, oM 69 72 8, oX 73 (.extr (.t 69) 0) 8, oX 74 (.extr (.t 69) 1) 8, oM 14 73 8, oM 15 74 8] 8) (.seq (.reg [oM 76 7 0, oM 77 9 0,
 oX 78 (.call (.c (.s (.fn 19 []))) [(.t 76), (.t 77)]) 0, oM 75 78 8, oX 79 (.extr (.t 75) 0) 8, oX 80 (.extr (.t 75) 1) 8, oM 16 79 8, oM 17 80 8] 8) (.seq
 (.reg [oM 82 7 0, oM 83 9 0, oX 84 (.call (.c (.s (.fn 20 []))) [(.t 82), (.t 83)]) 0, oM 81 84 8, oX 85 (.extr (.t 81) 0) 8, oX 86 (.extr (.t 81) 1) 8, oM 18
 85 8, oM 19 86 8] 8) (.seq (.reg [oM 88 7 0, oM 89 9 0, oX 90 (.call (.c (.s (.fn 29 []))) [(.t 88), (.t 89)]) 0, oM 87 90 8, oX 91 (.extr (.t 87) 0) 8, oX 92
 (.extr (.t 87) 1) 8, oX 93 (.extr (.t 87) 2) 8, oX 20 (.alloc 48 (.pb [.nils, .nils] 0 ff)) 8, oN (.st (.many 2 0) (.t 20) (.t 91)) 9, oM 21 92 9, oM 22 93 9]
 9) (.seq (.reg [oM 94 7 0, oM 95 9 0, oX 96 (.call (.c (.s (.fn 30 []))) [(.t 94), (.t 95)]) 0, oM 23 96 8] 8) (.seq (.reg [oX 24 (.mv (.c (.s (.int .i64 0))))
 0] 0) (.seq (.seq (.reg [oX 25 (.mv (.c (.s (.int .i64 0)))) 0] 0) (.block 4 (.loop (.seq (.seq (.reg [oM 97 25 0, oM 98 7 0, oX 99 (.bin .lss (.t 97) (.t 98))
 0] 0) (.cond (.t 99) .skip (.exit 4))) (.seq (.block 5 (.reg [oM 102 24 0, oM 103 23 0, oM 104 25 0, oX 105 (.iadS 1 (.t 103) (.t 104)) 0, oX 106 (.ld .one (.t
 105)) 0, oX 107 (.bin .add (.t 106) (.c (.s (.int .i64 1)))) 0, oX 108 (.mx [(.t 102), (.t 107)]) 0, oM 24 108 0] 0)) (.reg [oM 100 25 0, oX 101 (.bin .add (.t
 100) (.c (.s (.int .i64 1)))) 0, oM 25 101 0] 0)))))) (.seq (.seq (.reg [oM 109 15 0, oX 110 (.bin .neq (.t 109) (.c (.s (.int .i64 0)))) 0, oM 111 110 0, oG
 112 111 false (.mv (.t 14)) 0, oG 113 111 false (.mv (.t 7)) 0, oG 114 111 false (.mv (.t 9)) 0, oG 115 111 false (.call (.c (.s (.fn 31 []))) [(.t 113), (.t
 114)]) 0, oG 116 111 false (.call (.c (.s (.fn 14 []))) [(.t 112), (.t 115)]) 8, oG 117 111 false (.not (.t 116)) 16, oX 118 (.pick (.t 111) (.c (.s (.bool
 true))) (.t 117)) 16, oM 119 118 16, oG 120 119 false (.mv (.t 17)) 16, oG 121 119 false (.bin .neq (.t 120) (.c (.s (.int .i64 0)))) 16, oX 122 (.pick (.t 119)
 (.c (.s (.bool true))) (.t 121)) 16, oM 123 122 16, oG 124 123 false (.mv (.t 16)) 16, oG 125 123 false (.len (.t 124)) 16, oG 126 123 false (.mv (.t 24)) 16,
 oG 127 123 false (.bin .neq (.t 125) (.t 126)) 16, oX 128 (.pick (.t 123) (.c (.s (.bool true))) (.t 127)) 16, oM 129 128 16, oG 130 129 false (.mv (.t 7)) 16,
 oG 131 129 false (.mv (.t 9)) 16, oG 132 129 false (.mv (.t 16)) 16, oG 133 129 false (.call (.c (.s (.fn 32 []))) [(.t 130), (.t 131), (.t 132)]) 16, oG 134
 129 false (.not (.t 133)) 24, oX 135 (.pick (.t 129) (.c (.s (.bool true))) (.t 134)) 24, oM 136 135 24, oG 137 136 false (.mv (.t 19)) 24, oG 138 136 false
 (.bin .neq (.t 137) (.c (.s (.int .i64 0)))) 24, oX 139 (.pick (.t 136) (.c (.s (.bool true))) (.t 138)) 24, oM 140 139 24, oG 141 140 false (.mv (.t 18)) 24,
 oG 142 140 false (.mv (.t 23)) 24, oG 143 140 false (.call (.c (.s (.fn 33 []))) [(.t 141), (.t 142)]) 24, oG 144 140 false (.not (.t 143)) 32, oX 145 (.pick
 (.t 140) (.c (.s (.bool true))) (.t 144)) 32, oM 146 145 32, oG 147 146 false (.mv (.t 22)) 32, oG 148 146 false (.bin .neq (.t 147) (.c (.s (.int .i64 0))))
 32, oX 149 (.pick (.t 146) (.c (.s (.bool true))) (.t 148)) 32] 32) (.cond (.t 149) (.seq (.reg [oX 6 (.mv (.c (.s (.bool false)))) 0] 0) .ret) .skip)) (.seq
 (.reg [oM 150 7 0, oM 151 7 0, oM 152 9 0, oX 153 (.call (.c (.s (.fn 35 []))) [(.t 151), (.t 152)]) 0, oX 154 (.call (.c (.s (.fn 34 []))) [(.t 150), (.t
 153)]) 8, oM 26 154 16] 16) (.seq (.seq (.reg [oM 155 21 0, oM 156 7 0, oM 157 26 0, oX 158 (.call (.c (.s (.fn 36 []))) [(.t 156), (.t 157)]) 0, oX 159 (.bin
 .eql (.t 158) (.c (.s (.int .i64 0)))) 8, oX 160 (.eqv .b true (.t 155) (.t 159)) 8] 8) (.cond (.t 160) (.seq (.reg [oX 6 (.mv (.c (.s (.bool false)))) 0] 0)
 .ret) .skip)) (.seq (.reg [oM 161 21 0, oM 162 161 0, oG 163 162 true (.mv (.t 7)) 0, oG 164 162 true (.ld (.many 2 0) (.t 20)) 0, oG 165 162 true (.call (.c
 (.s (.fn 37 []))) [(.t 163), (.t 164)]) 0, oX 166 (.pick (.t 162) (.t 165) (.c (.s (.bool false)))) 8, oM 167 166 8, oG 168 167 true (.mv (.t 7)) 8, oG 169 167
 true (.ld (.many 2 0) (.t 20)) 8, oG 170 167 true (.call (.c (.s (.fn 38 []))) [(.t 168), (.t 169)]) 8, oG 171 167 true (.mv (.t 9)) 16, oG 172 167 true (.call
 (.c (.s (.fn 14 []))) [(.t 170), (.t 171)]) 16, oX 173 (.pick (.t 167) (.t 172) (.c (.s (.bool false)))) 24, oM 174 173 24, oG 175 174 false (.mv (.t 21)) 24,
 oG 176 174 false (.not (.t 175)) 24, oG 177 174 false (.mv (.t 176)) 24, oG 178 177 true (.iad 2 1 (.t 20) (.c (.s (.int .i64 0)))) 24, oG 179 177 true (.ld
 .one (.t 178)) 24, oG 180 177 true (.len (.t 179)) 24, oG 181 177 true (.iad 2 1 (.t 20) (.c (.s (.int .i64 1)))) 24, oG 182 177 true (.ld .one (.t 181)) 24, oG
 183 177 true (.len (.t 182)) 24, oG 184 177 true (.bin .add (.t 180) (.t 183)) 24, oG 185 177 true (.bin .eql (.t 184) (.c (.s (.int .i64 0)))) 24, oG 186 174
 false (.pick (.t 177) (.t 185) (.c (.s (.bool false)))) 24, oX 187 (.pick (.t 174) (.c (.s (.bool true))) (.t 186)) 24, oM 188 187 24, oG 189 188 true (.call
 (.c (.s (.fn 11 []))) []) 24, oX 190 (.pick (.t 188) (.t 189) (.c (.s (.bool false)))) 32, oM 6 190 32] 32) .ret))))))))))))))))), [(.t 6)]⟩
def x12 : XFn := ⟨25, (.seq (.reg [oX 4 (.mv (.c (.s .nils))) 0, oX 5 (.mv (.c (.s (.int .i64 0)))) 0] 0) (.seq (.reg [oM 9 0 0, oM 10 1 0, oX 11 (.call (.c (.s
 (.fn 59 []))) [(.t 9), (.t 10)]) 0, oM 8 11 8, oX 12 (.extr (.t 8) 0) 8, oX 13 (.extr (.t 8) 1) 8, oX 6 (.alloc 70 (.pb [] 49 ff)) 8, oN (.st (.many 0 49) (.t
 6) (.t 12)) 9, oM 7 13 9] 9) (.seq (.seq (.regD [oM 14 7 0, oX 15 (.bin .neq (.t 14) (.c (.s (.int .i64 0)))) 0, oM 16 15 0, oG 17 16 false (.ld (.many 0 49)
 (.t 6)) 0, oG 18 16 false (.call (.c (.s (.fn 60 []))) []) 0, oG 19 16 false (.eqv (.agg 0 49) false (.t 17) (.t 18)) 8, oX 20 (.pick (.t 16) (.c (.s (.bool
 true))) (.t 19)) 8] 8 [(3, 4)]) (.cond (.t 20) (.seq (.reg [oM 21 7 0, oX 4 (.mv (.c (.s .nils))) 0, oM 5 21 0] 0) .ret) .skip)) (.seq (.reg [oX 22 (.ld (.many
 0 49) (.t 6)) 0, oX 23 (.call (.c (.s (.fn 61 []))) [(.t 22)]) 0, oX 24 (.call (.c (.s (.fn 56 []))) [(.t 23)]) 8, oM 4 24 16, oX 5 (.mv (.c (.s (.int .i64
 0)))) 16] 16) .ret)))), [(.t 4), (.t 5)]⟩
def x13 : XFn := ⟨14, (.seq (.reg [oX 4 (.mv (.c (.s (.int .i64 0)))) 0] 0) (.seq (.reg [oM 8 0 0, oM 9 1 0, oX 10 (.call (.c (.s (.fn 59 []))) [(.t 8), (.t 9)])
 0, oM 7 10 8, oX 11 (.extr (.t 7) 0) 8, oX 12 (.extr (.t 7) 1) 8, oX 5 (.alloc 70 (.pb [] 49 ff)) 8, oN (.st (.many 0 49) (.t 5) (.t 11)) 9, oM 6 12 9] 9) (.seq
 (.reg [oM 13 6 0, oM 4 13 0] 0) .ret))), [(.t 4)]⟩
def x15 : XFn := ⟨12, (.seq (.reg [oX 4 (.mv (.c (.s (.int .i64 0)))) 0] 0) (.seq (.reg [oM 5 0 0, oX 6 (.conv .u64 (.t 5)) 0, oM 7 1 0, oX 8 (.bin .add (.t 7)
 (.c (.s (.int .i64 1)))) 0, oX 9 (.conv .u64 (.t 8)) 0, oX 10 (.bin .rem (.t 6) (.t 9)) 0, oX 11 (.conv .i64 (.t 10)) 0, oM 4 11 0] 0) .ret)), [(.t 4)]⟩
def x16 : XFn := ⟨47, (.seq (.reg [oX 6 (.mv (.c (.s .nils))) 0] 0) (.seq (.reg [oX 7 (.mv (.c (.s .nils))) 0] 0) (.seq (.seq (.reg [oX 8 (.mv (.c (.s (.int .i64
 0)))) 0] 0) (.block 0 (.loop (.seq (.seq (.reg [oM 9 8 0, oM 10 1 0, oX 11 (.len (.t 10)) 0, oX 12 (.bin .lss (.t 9) (.t 11)) 0, oM 13 12 0, oG 14 13 true (.mv
 (.t 8)) 0, oG 15 13 true (.bin .lss (.t 14) (.c (.s (.int .i64 40)))) 0, oX 16 (.pick (.t 13) (.t 15) (.c (.s (.bool false)))) 0] 0) (.cond (.t 16) .skip (.exit
 0))) (.seq (.block 1 (.regD [oM 19 7 0, oM 20 1 0, oM 21 8 0, oX 22 (.iadS 2 (.t 20) (.t 21)) 0, oX 23 (.iad 2 1 (.t 22) (.c (.s (.int .i64 0)))) 0, oX 24 (.ld
 .one (.t 23)) 0, oM 25 0 0, oX 26 (.bin .sub (.t 25) (.c (.s (.int .i64 1)))) 0, oX 27 (.call (.c (.s (.fn 15 []))) [(.t 24), (.t 26)]) 0, oM 28 1 8, oM 29 8 8,
 oX 30 (.iadS 2 (.t 28) (.t 29)) 8, oX 31 (.iad 2 1 (.t 30) (.c (.s (.int .i64 1)))) 8, oX 32 (.ld .one (.t 31)) 8, oM 33 0 8, oX 34 (.bin .sub (.t 33) (.c (.s
 (.int .i64 1)))) 8, oX 35 (.call (.c (.s (.fn 15 []))) [(.t 32), (.t 34)]) 8, oX 36 (.bld (.pb [(.int .i64 0), (.int .i64 0)] 0 ff) [((0, 1), (.t 27)), ((1, 1),
 (.t 35))]) 16, oX 37 (.bsl 38 .i64 2 1 [(0, (.t 36))]) 16, oX 38 (.app 38 .i64 2 (.t 19) (.t 37)) 17, oM 7 38 18] 18 [(8, 13)])) (.reg [oM 17 8 0, oX 18 (.bin
 .add (.t 17) (.c (.s (.int .i64 1)))) 0, oM 8 18 0] 0)))))) (.seq (.reg [oM 39 7 0, oX 40 (.call (.c (.s (.fn 18 []))) [(.t 39)]) 0, oM 7 40 8] 8) (.seq (.reg
 [oM 41 7 0, oM 42 7 0, oX 43 (.len (.t 42)) 0, oM 44 2 0, oX 45 (.mn [(.t 43), (.t 44)]) 0, oX 46 (.slc 2 (.t 41) none (some (.t 45))) 0, oM 6 46 0] 0)
 .ret))))), [(.t 6)]⟩
def x17 : XFn := ⟨32, (.seq (.reg [oX 6 (.mv (.c (.s (.bool false)))) 0] 0) (.seq (.seq (.reg [oX 7 (.mv (.c (.s (.int .i64 0)))) 0] 0) (.block 0 (.loop (.seq
 (.seq (.reg [oM 8 7 0, oM 9 0 0, oX 10 (.len (.t 9)) 0, oX 11 (.bin .lss (.t 8) (.t 10)) 0] 0) (.cond (.t 11) .skip (.exit 0))) (.seq (.block 1 (.seq (.reg [oM
 14 0 0, oM 15 7 0, oX 16 (.iadS 2 (.t 14) (.t 15)) 0, oX 17 (.ld (.many 2 0) (.t 16)) 0, oM 18 1 0, oM 19 2 0, oX 20 (.bld (.pb [(.int .i64 0), (.int .i64 0)] 0
 ff) [((0, 1), (.t 18)), ((1, 1), (.t 19))]) 0, oX 21 (.eqv (.agg 2 0) false (.t 17) (.t 20)) 0, oM 22 21 0, oG 23 22 false (.mv (.t 0)) 0, oG 24 22 false (.mv
 (.t 7)) 0, oG 25 22 false (.iadS 2 (.t 23) (.t 24)) 0, oG 26 22 false (.ld (.many 2 0) (.t 25)) 0, oG 27 22 false (.mv (.t 2)) 0, oG 28 22 false (.mv (.t 1)) 0,
 oG 29 22 false (.bld (.pb [(.int .i64 0), (.int .i64 0)] 0 ff) [((0, 1), (.t 27)), ((1, 1), (.t 28))]) 0, oG 30 22 false (.eqv (.agg 2 0) false (.t 26) (.t 29))
 0, oX 31 (.pick (.t 22) (.c (.s (.bool true))) (.t 30)) 0] 0) (.cond (.t 31) (.seq (.reg [oX 6 (.mv (.c (.s (.bool true)))) 0] 0) .ret) .skip))) (.reg [oM 12 7
 0, oX 13 (.bin .add (.t 12) (.c (.s (.int .i64 1)))) 0, oM 7 13 0] 0)))))) (.seq (.reg [oX 6 (.mv (.c (.s (.bool false)))) 0] 0) .ret))), [(.t 6)]⟩
def x18 : XFn := ⟨109, (.seq (.reg [oX 2 (.mv (.c (.s .nils))) 0] 0) (.seq (.reg [oX 3 (.mv (.c (.s .nils))) 0] 0) (.seq (.seq (.reg [oX 4 (.mv (.c (.s (.int
 .i64 0)))) 0] 0) (.block 0 (.loop (.seq (.seq (.reg [oM 9 4 0, oM 10 0 0, oX 11 (.len (.t 10)) 0, oX 12 (.bin .lss (.t 9) (.t 11)) 0] 0) (.cond (.t 12) .skip
 (.exit 0))) (.seq (.block 1 (.seq (.regD [oM 15 0 0, oM 16 4 0, oX 17 (.iadS 2 (.t 15) (.t 16)) 0, oX 18 (.iad 2 1 (.t 17) (.c (.s (.int .i64 0)))) 0, oX 19
 (.ld .one (.t 18)) 0, oM 20 0 0, oM 21 4 0, oX 22 (.iadS 2 (.t 20) (.t 21)) 0, oX 23 (.iad 2 1 (.t 22) (.c (.s (.int .i64 1)))) 0, oX 24 (.ld .one (.t 23)) 0,
 oX 25 (.mn [(.t 19), (.t 24)]) 0, oM 26 0 0, oM 27 4 0, oX 28 (.iadS 2 (.t 26) (.t 27)) 0, oX 29 (.iad 2 1 (.t 28) (.c (.s (.int .i64 0)))) 0, oX 30 (.ld .one
 (.t 29)) 0, oM 31 0 0, oM 32 4 0, oX 33 (.iadS 2 (.t 31) (.t 32)) 0, oX 34 (.iad 2 1 (.t 33) (.c (.s (.int .i64 1)))) 0, oX 35 (.ld .one (.t 34)) 0, oX 36 (.mx
 [(.t 30), (.t 35)]) 0, oX 37 (.bld (.pb [(.int .i64 0), (.int .i64 0)] 0 ff) [((0, 1), (.t 25)), ((1, 1), (.t 36))]) 0, oX 5 (.alloc 38 (.pb [(.int .i64 0),
 (.int .i64 0)] 0 ff)) 0, oN (.st (.many 2 0) (.t 5) (.t 37)) 1] 1 [(4, 23), (9, 23), (15, 23), (20, 23)]) (.seq (.regD [oX 38 (.iad 2 1 (.t 5) (.c (.s (.int
 .i64 0)))) 0, oX 39 (.ld .one (.t 38)) 0, oX 40 (.iad 2 1 (.t 5) (.c (.s (.int .i64 1)))) 0, oX 41 (.ld .one (.t 40)) 0, oX 42 (.bin .eql (.t 39) (.t 41)) 0, oX
 6 (.mv (.c (.s (.int .i64 0)))) 0, oM 7 42 0] 0 []) (.seq (.block 2 (.loop (.seq (.seq (.regD [oM 43 6 0, oM 44 3 0, oX 45 (.len (.t 44)) 0, oX 46 (.bin .lss
 (.t 43) (.t 45)) 0, oM 47 46 0, oG 48 47 true (.mv (.t 3)) 0, oG 49 47 true (.mv (.t 6)) 0, oG 50 47 true (.iadS 2 (.t 48) (.t 49)) 0, oG 51 47 true (.iad 2 1
 (.t 50) (.c (.s (.int .i64 0)))) 0, oG 52 47 true (.ld .one (.t 51)) 0, oG 53 47 true (.iad 2 1 (.t 5) (.c (.s (.int .i64 0)))) 0, oG 54 47 true (.ld .one (.t
 53)) 0, oG 55 47 true (.bin .lss (.t 52) (.t 54)) 0, oG 56 47 true (.mv (.t 55)) 0, oG 57 56 false (.mv (.t 3)) 0, oG 58 56 false (.mv (.t 6)) 0, oG 59 56 false
 (.iadS 2 (.t 57) (.t 58)) 0, oG 60 56 false (.iad 2 1 (.t 59) (.c (.s (.int .i64 0)))) 0, oG 61 56 false (.ld .one (.t 60)) 0, oG 62 56 false (.iad 2 1 (.t 5)
 (.c (.s (.int .i64 0)))) 0, oG 63 56 false (.ld .one (.t 62)) 0, oG 64 56 false (.bin .eql (.t 61) (.t 63)) 0, oG 65 56 false (.mv (.t 64)) 0, oG 66 65 true
 (.mv (.t 3)) 0, oG 67 65 true (.mv (.t 6)) 0, oG 68 65 true (.iadS 2 (.t 66) (.t 67)) 0, oG 69 65 true (.iad 2 1 (.t 68) (.c (.s (.int .i64 1)))) 0, oG 70 65
 true (.ld .one (.t 69)) 0, oG 71 65 true (.iad 2 1 (.t 5) (.c (.s (.int .i64 1)))) 0, oG 72 65 true (.ld .one (.t 71)) 0, oG 73 65 true (.bin .lss (.t 70) (.t
 72)) 0, oG 74 56 false (.pick (.t 65) (.t 73) (.c (.s (.bool false)))) 0, oG 75 47 true (.pick (.t 56) (.c (.s (.bool true))) (.t 74)) 0, oX 76 (.pick (.t 47)
 (.t 75) (.c (.s (.bool false)))) 0] 0 []) (.cond (.t 76) .skip (.exit 2))) (.block 3 (.reg [oM 77 6 0, oX 78 (.bin .add (.t 77) (.c (.s (.int .i64 1)))) 0, oM 6
 78 0] 0))))) (.seq (.seq (.regD [oM 79 7 0, oM 80 79 0, oG 81 80 false (.mv (.t 6)) 0, oG 82 80 false (.mv (.t 3)) 0, oG 83 80 false (.len (.t 82)) 0, oG 84 80
 false (.bin .lss (.t 81) (.t 83)) 0, oG 85 80 false (.mv (.t 84)) 0, oG 86 85 true (.mv (.t 3)) 0, oG 87 85 true (.mv (.t 6)) 0, oG 88 85 true (.iadS 2 (.t 86)
 (.t 87)) 0, oG 89 85 true (.ld (.many 2 0) (.t 88)) 0, oG 90 85 true (.ld (.many 2 0) (.t 5)) 0, oG 91 85 true (.eqv (.agg 2 0) false (.t 89) (.t 90)) 0, oG 92
 80 false (.pick (.t 85) (.t 91) (.c (.s (.bool false)))) 0, oX 93 (.pick (.t 80) (.c (.s (.bool true))) (.t 92)) 0] 0 []) (.cond (.t 93) (.exit 1) .skip)) (.seq
 (.reg [oX 8 (.mv (.c (.s .nils))) 0] 0) (.seq (.reg [oM 94 8 0, oM 95 3 0, oM 96 6 0, oX 97 (.slc 2 (.t 95) none (some (.t 96))) 0, oX 98 (.app 38 .i64 2 (.t
 94) (.t 97)) 0, oM 8 98 1] 1) (.seq (.reg [oM 99 8 0, oX 100 (.ld (.many 2 0) (.t 5)) 0, oX 101 (.bsl 38 .i64 2 1 [(0, (.t 100))]) 0, oX 102 (.app 38 .i64 2 (.t
 99) (.t 101)) 1, oM 8 102 2] 2) (.reg [oM 103 8 0, oM 104 3 0, oM 105 6 0, oX 106 (.slc 2 (.t 104) (some (.t 105)) none) 0, oX 107 (.app 38 .i64 2 (.t 103) (.t
 106)) 0, oM 3 107 1] 1))))))))) (.reg [oM 13 4 0, oX 14 (.bin .add (.t 13) (.c (.s (.int .i64 1)))) 0, oM 4 14 0] 0)))))) (.seq (.reg [oM 108 3 0, oM 2 108 0]
 0) .ret)))), [(.t 2)]⟩
def x19 : XFn := ⟨65, (.seq (.reg [oX 4 (.mv (.c (.s .nils))) 0, oX 5 (.mv (.c (.s (.int .i64 0)))) 0] 0) (.seq (.reg [oM 13 0 0, oM 14 1 0, oX 15 (.call (.c (.s
 (.fn 59 []))) [(.t 13), (.t 14)]) 0, oM 12 15 8, oX 16 (.extr (.t 12) 0) 8, oX 17 (.extr (.t 12) 1) 8, oX 6 (.alloc 70 (.pb [] 49 ff)) 8, oN (.st (.many 0 49)
 (.t 6) (.t 16)) 9, oM 7 17 9] 9) (.seq (.seq (.reg [oM 18 7 0, oX 19 (.bin .neq (.t 18) (.c (.s (.int .i64 0)))) 0] 0) (.cond (.t 19) (.seq (.reg [oM 20 7 0, oX
 4 (.mv (.c (.s .nils))) 0, oM 5 20 0] 0) .ret) .skip)) (.seq (.reg [oX 21 (.ld (.many 0 49) (.t 6)) 0, oM 22 0 0, oX 23 (.call (.c (.s (.fn 62 []))) [(.t 21),
 (.t 22)]) 0, oM 8 23 8] 8) (.seq (.reg [oM 24 8 0, oM 25 8 0, oX 26 (.call (.c (.s (.fn 64 []))) [(.t 25)]) 0, oX 27 (.call (.c (.s (.fn 63 []))) [(.t 24), (.t
 26)]) 8, oM 9 27 16] 16) (.seq (.reg [oM 28 9 0, oX 29 (.bsl 3 .i64 1 1 [(0, (.t 28))]) 0, oM 10 29 1] 1) (.seq (.block 0 (.loop (.seq (.seq (.reg [oM 30 8 0,
 oM 31 9 0, oX 32 (.iadS 1 (.t 30) (.t 31)) 0, oX 33 (.ld .one (.t 32)) 0, oX 34 (.bin .gtr (.t 33) (.c (.s (.int .i64 0)))) 0] 0) (.cond (.t 34) .skip (.exit
 0))) (.block 1 (.seq (.seq (.reg [oM 35 0 0, oX 36 (.mv (.c (.s (.int .i64 0)))) 0] 0) (.block 2 (.loop (.seq (.reg [oX 37 (.bin .lss (.t 36) (.t 35)) 0] 0)
 (.seq (.cond (.t 37) .skip (.exit 2)) (.seq (.block 3 (.seq (.reg [oM 38 36 0, oM 11 38 0] 0) (.seq (.regD [oM 39 11 0, oM 40 9 0, oX 41 (.iad 7 7 (.t 6) (.t
 39)) 0, oX 42 (.iad 7 1 (.t 41) (.t 40)) 0, oX 43 (.ld .one (.t 42)) 0, oM 44 43 0, oG 45 44 true (.mv (.t 8)) 0, oG 46 44 true (.mv (.t 11)) 0, oG 47 44 true
 (.iadS 1 (.t 45) (.t 46)) 0, oG 48 44 true (.ld .one (.t 47)) 0, oG 49 44 true (.mv (.t 8)) 0, oG 50 44 true (.mv (.t 9)) 0, oG 51 44 true (.iadS 1 (.t 49) (.t
 50)) 0, oG 52 44 true (.ld .one (.t 51)) 0, oG 53 44 true (.bin .sub (.t 52) (.c (.s (.int .i64 1)))) 0, oG 54 44 true (.bin .eql (.t 48) (.t 53)) 0, oX 55
 (.pick (.t 44) (.t 54) (.c (.s (.bool false)))) 0] 0 []) (.cond (.t 55) (.seq (.reg [oM 56 11 0, oM 9 56 0] 0) (.exit 2)) .skip)))) (.reg [oX 57 (.bin .add (.t
 36) (.c (.s (.int .i64 1)))) 0, oM 36 57 0] 0))))))) (.reg [oM 58 10 0, oM 59 9 0, oX 60 (.bsl 3 .i64 1 1 [(0, (.t 59))]) 0, oX 61 (.app 3 .i64 1 (.t 58) (.t
 60)) 1, oM 10 61 2] 2)))))) (.seq (.reg [oM 62 10 0, oX 63 (.call (.c (.s (.fn 65 []))) [(.t 62)]) 0] 8) (.seq (.reg [oM 64 10 0, oM 4 64 0, oX 5 (.mv (.c (.s
 (.int .i64 0)))) 0] 0) .ret))))))))), [(.t 4), (.t 5)]⟩
def x20 : XFn := ⟨20, (.seq (.reg [oX 4 (.mv (.c (.s .nils))) 0, oX 5 (.mv (.c (.s (.int .i64 0)))) 0] 0) (.seq (.reg [oM 9 0 0, oM 10 1 0, oX 11 (.call (.c (.s
 (.fn 59 []))) [(.t 9), (.t 10)]) 0, oM 8 11 8, oX 12 (.extr (.t 8) 0) 8, oX 13 (.extr (.t 8) 1) 8, oX 6 (.alloc 70 (.pb [] 49 ff)) 8, oN (.st (.many 0 49) (.t
 6) (.t 12)) 9, oM 7 13 9] 9) (.seq (.seq (.reg [oM 14 7 0, oX 15 (.bin .neq (.t 14) (.c (.s (.int .i64 0)))) 0] 0) (.cond (.t 15) (.seq (.reg [oM 16 7 0, oX 4
 (.mv (.c (.s .nils))) 0, oM 5 16 0] 0) .ret) .skip)) (.seq (.reg [oX 17 (.ld (.many 0 49) (.t 6)) 0, oM 18 0 0, oX 19 (.call (.c (.s (.fn 62 []))) [(.t 17), (.t
 18)]) 0, oM 4 19 8, oX 5 (.mv (.c (.s (.int .i64 0)))) 8] 8) .ret)))), [(.t 4), (.t 5)]⟩
def x21 : XFn := ⟨27, (.seq (.reg [oX 2 (.box 3 (.t 0)) 0, oX 4 (.mv (.c (.s .nils))) 1, oX 5 (.mv (.c (.s (.int .i64 0)))) 1] 1) (.seq (.seq (.reg [oX 6 (.ld
 .one (.t 2)) 0, oX 7 (.bin .lss (.t 6) (.c (.s (.int .i64 1)))) 0, oM 8 7 0, oG 9 8 false (.ld .one (.t 2)) 0, oG 10 8 false (.bin .gtr (.t 9) (.c (.s (.int
 .i64 6)))) 0, oX 11 (.pick (.t 8) (.c (.s (.bool true))) (.t 10)) 0, oM 12 11 0, oG 13 12 false (.mv (.t 1)) 0, oG 14 12 false (.len (.t 13)) 0, oG 15 12 false
 (.bin .gtr (.t 14) (.c (.s (.int .i64 64)))) 0, oX 16 (.pick (.t 12) (.c (.s (.bool true))) (.t 15)) 0, oM 17 16 0, oG 18 17 false (.mv (.t 1)) 0, oG 19 17
 false (.mkf 67 [(.t 2)]) 0, oG 20 17 false (.call (.c (.s (.fn 66 []))) [(.t 18), (.t 19)]) 0, oX 21 (.pick (.t 17) (.c (.s (.bool true))) (.t 20)) 8] 8) (.cond
 (.t 21) (.seq (.reg [oX 4 (.mv (.c (.s .nils))) 0, oX 5 (.mv (.c (.s (.int .i64 1)))) 0] 0) .ret) .skip)) (.seq (.reg [oM 22 1 0, oX 23 (.call (.c (.s (.fn 69
 []))) [(.t 22)]) 0, oX 24 (.call (.c (.s (.fn 68 []))) [(.t 23)]) 8, oX 25 (.extr (.t 24) 0) 16, oX 26 (.extr (.t 24) 1) 16, oM 4 25 16, oM 5 26 16] 16)
 .ret))), [(.t 4), (.t 5)]⟩
def x22 : XFn := ⟨55, (.seq (.reg [oX 4 (.mv (.c (.s .nils))) 0] 0) (.seq (.reg [oX 5 (.mv (.c (.s .nils))) 0] 0) (.seq (.seq (.reg [oX 6 (.mv (.c (.s (.int .i64
 1)))) 0] 0) (.block 0 (.loop (.seq (.seq (.reg [oM 10 6 0, oM 11 0 0, oX 12 (.bin .shl (.c (.s (.int .i64 1))) (.t 11)) 0, oX 13 (.bin .lss (.t 10) (.t 12)) 0]
 0) (.cond (.t 13) .skip (.exit 0))) (.seq (.block 1 (.seq (.reg [oX 7 (.mv (.c (.s (.bool true)))) 0] 0) (.seq (.seq (.reg [oX 8 (.mv (.c (.s (.int .i64 0))))
 0] 0) (.block 2 (.loop (.seq (.seq (.reg [oM 16 8 0, oM 17 0 0, oX 18 (.bin .lss (.t 16) (.t 17)) 0] 0) (.cond (.t 18) .skip (.exit 2))) (.seq (.block 3 (.seq
 (.reg [oM 21 8 0, oX 22 (.bin .add (.t 21) (.c (.s (.int .i64 1)))) 0, oM 9 22 0] 0) (.block 4 (.loop (.seq (.seq (.reg [oM 23 9 0, oM 24 0 0, oX 25 (.bin .lss
 (.t 23) (.t 24)) 0] 0) (.cond (.t 25) .skip (.exit 4))) (.seq (.block 5 (.reg [oM 28 7 0, oM 29 28 0, oG 30 29 true (.mv (.t 6)) 0, oG 31 29 true (.mv (.t 8))
 0, oG 32 29 true (.bin .shr (.t 30) (.t 31)) 0, oG 33 29 true (.bin .rem (.t 32) (.c (.s (.int .i64 2)))) 0, oG 34 29 true (.bin .eql (.t 33) (.c (.s (.int .i64
 0)))) 0, oG 35 29 true (.mv (.t 34)) 0, oG 36 35 false (.mv (.t 6)) 0, oG 37 35 false (.mv (.t 9)) 0, oG 38 35 false (.bin .shr (.t 36) (.t 37)) 0, oG 39 35
 false (.bin .rem (.t 38) (.c (.s (.int .i64 2)))) 0, oG 40 35 false (.bin .eql (.t 39) (.c (.s (.int .i64 0)))) 0, oG 41 29 true (.pick (.t 35) (.c (.s (.bool
 true))) (.t 40)) 0, oG 42 29 true (.mv (.t 41)) 0, oG 43 42 false (.mv (.t 1)) 0, oG 44 42 false (.mv (.t 8)) 0, oG 45 42 false (.mv (.t 9)) 0, oG 46 42 false
 (.call (.c (.s (.fn 17 []))) [(.t 43), (.t 44), (.t 45)]) 0, oG 47 29 true (.pick (.t 42) (.c (.s (.bool true))) (.t 46)) 8, oX 48 (.pick (.t 29) (.t 47) (.c
 (.s (.bool false)))) 8, oM 7 48 8] 8)) (.reg [oM 26 9 0, oX 27 (.bin .add (.t 26) (.c (.s (.int .i64 1)))) 0, oM 9 27 0] 0))))))) (.reg [oM 19 8 0, oX 20 (.bin
 .add (.t 19) (.c (.s (.int .i64 1)))) 0, oM 8 20 0] 0)))))) (.seq (.reg [oM 49 7 0] 0) (.cond (.t 49) (.reg [oM 50 5 0, oM 51 6 0, oX 52 (.bsl 3 .i64 1 1 [(0,
 (.t 51))]) 0, oX 53 (.app 3 .i64 1 (.t 50) (.t 52)) 1, oM 5 53 2] 2) .skip))))) (.reg [oM 14 6 0, oX 15 (.bin .add (.t 14) (.c (.s (.int .i64 1)))) 0, oM 6 15
 0] 0)))))) (.seq (.reg [oM 54 5 0, oM 4 54 0] 0) .ret)))), [(.t 4)]⟩
def x23 : XFn := ⟨19, (.seq (.reg [oX 4 (.mv (.c (.s .nils))) 0, oX 5 (.mv (.c (.s (.int .i64 0)))) 0] 0) (.seq (.reg [oM 9 0 0, oM 10 1 0, oX 11 (.call (.c (.s
 (.fn 70 []))) [(.t 9), (.t 10)]) 0, oM 8 11 8, oX 12 (.extr (.t 8) 0) 8, oX 13 (.extr (.t 8) 1) 8, oM 6 12 8, oM 7 13 8] 8) (.seq (.seq (.reg [oM 14 7 0, oX 15
 (.bin .neq (.t 14) (.c (.s (.int .i64 0)))) 0] 0) (.cond (.t 15) (.seq (.reg [oM 16 7 0, oX 4 (.mv (.c (.s .nils))) 0, oM 5 16 0] 0) .ret) .skip)) (.seq (.reg
 [oM 17 6 0, oX 18 (.call (.c (.s (.fn 71 []))) [(.t 17)]) 0, oM 4 18 8, oX 5 (.mv (.c (.s (.int .i64 0)))) 8] 8) .ret)))), [(.t 4), (.t 5)]⟩
def x24 : XFn := ⟨26, (.seq (.reg [oX 4 (.mv (.c (.s (.bool false)))) 0] 0) (.seq (.seq (.reg [oM 6 0 0, oX 7 (.len (.t 6)) 0, oM 8 1 0, oX 9 (.len (.t 8)) 0, oX
 10 (.bin .neq (.t 7) (.t 9)) 0] 0) (.cond (.t 10) (.seq (.reg [oX 4 (.mv (.c (.s (.bool false)))) 0] 0) .ret) .skip)) (.seq (.seq (.reg [oX 5 (.mv (.c (.s (.int
 .i64 0)))) 0] 0) (.block 0 (.loop (.seq (.seq (.reg [oM 11 5 0, oM 12 0 0, oX 13 (.len (.t 12)) 0, oX 14 (.bin .lss (.t 11) (.t 13)) 0] 0) (.cond (.t 14) .skip
 (.exit 0))) (.seq (.block 1 (.seq (.regD [oM 17 0 0, oM 18 5 0, oX 19 (.iadS 1 (.t 17) (.t 18)) 0, oX 20 (.ld .one (.t 19)) 0, oM 21 1 0, oM 22 5 0, oX 23
 (.iadS 1 (.t 21) (.t 22)) 0, oX 24 (.ld .one (.t 23)) 0, oX 25 (.bin .neq (.t 20) (.t 24)) 0] 0 []) (.cond (.t 25) (.seq (.reg [oX 4 (.mv (.c (.s (.bool
 false)))) 0] 0) .ret) .skip))) (.reg [oM 15 5 0, oX 16 (.bin .add (.t 15) (.c (.s (.int .i64 1)))) 0, oM 5 16 0] 0)))))) (.seq (.reg [oX 4 (.mv (.c (.s (.bool
 true)))) 0] 0) .ret)))), [(.t 4)]⟩
def x25 : XFn := ⟨37, (.seq (.reg [oX 4 (.mv (.c (.s .nils))) 0, oX 5 (.mv (.c (.s (.bool false)))) 0, oX 6 (.mv (.c (.s (.int .i64 0)))) 0] 0) (.seq (.reg [oM
 14 0 0, oM 15 1 0, oX 16 (.call (.c (.s (.fn 70 []))) [(.t 14), (.t 15)]) 0, oM 13 16 8, oX 17 (.extr (.t 13) 0) 8, oX 18 (.extr (.t 13) 1) 8, oM 7 17 8, oM 8
 18 8] 8) (.seq (.seq (.reg [oM 19 8 0, oX 20 (.bin .neq (.t 19) (.c (.s (.int .i64 0)))) 0] 0) (.cond (.t 20) (.seq (.reg [oM 21 8 0, oX 4 (.mv (.c (.s .nils)))
 0, oX 5 (.mv (.c (.s (.bool false)))) 0, oM 6 21 0] 0) .ret) .skip)) (.seq (.reg [oX 9 (.alloc 22 (.s .nils)) 0] 1) (.seq (.reg [oX 22 (.mmk (.bools 64) .bool1)
 0, oX 10 (.alloc 101 (.s .nilm)) 1, oN (.st .one (.t 10) (.t 22)) 2] 2) (.seq (.reg [oM 23 7 0, oX 24 (.nck (.t 23)) 0, oX 25 (.fad 2 (.t 24)) 0, oX 26 (.ld
 (.many 0 64) (.t 25)) 0, oX 11 (.alloc 95 (.pb [] 64 ff)) 0, oN (.st (.many 0 64) (.t 11) (.t 26)) 1] 1) (.seq (.reg [oX 12 (.alloc 30 (.s .nilf)) 0] 1) (.seq
 (.reg [oX 27 (.mkf 72 [(.t 11), (.t 10), (.t 9), (.t 12)]) 0, oN (.st .one (.t 12) (.t 27)) 0] 0) (.seq (.seq (.reg [oM 28 7 0, oX 29 (.call (.c (.s (.fn 75
 []))) [(.t 28)]) 0, oX 30 (.call (.c (.s (.fn 66 []))) [(.t 29), (.c (.s (.fn 76 [])))]) 8, oM 31 30 16, oG 32 31 false (.ld .one (.t 12)) 16, oG 33 31 false
 (.call (.t 32) []) 16, oG 34 31 false (.not (.t 33)) 24, oX 35 (.pick (.t 31) (.c (.s (.bool true))) (.t 34)) 24] 24) (.cond (.t 35) (.seq (.reg [oX 4 (.mv (.c
 (.s .nils))) 0, oX 5 (.mv (.c (.s (.bool false)))) 0, oX 6 (.mv (.c (.s (.int .i64 0)))) 0] 0) .ret) .skip)) (.seq (.reg [oX 36 (.ld .one (.t 9)) 0, oM 4 36 0,
 oX 5 (.mv (.c (.s (.bool true)))) 0, oX 6 (.mv (.c (.s (.int .i64 0)))) 0] 0) .ret)))))))))), [(.t 4), (.t 5), (.t 6)]⟩
def x26 : XFn := ⟨19, (.seq (.reg [oX 4 (.mv (.c (.s .nils))) 0, oX 5 (.mv (.c (.s (.int .i64 0)))) 0] 0) (.seq (.reg [oM 9 0 0, oM 10 1 0, oX 11 (.call (.c (.s
 (.fn 70 []))) [(.t 9), (.t 10)]) 0, oM 8 11 8, oX 12 (.extr (.t 8) 0) 8, oX 13 (.extr (.t 8) 1) 8, oM 6 12 8, oM 7 13 8] 8) (.seq (.seq (.reg [oM 14 7 0, oX 15
 (.bin .neq (.t 14) (.c (.s (.int .i64 0)))) 0] 0) (.cond (.t 15) (.seq (.reg [oM 16 7 0, oX 4 (.mv (.c (.s .nils))) 0, oM 5 16 0] 0) .ret) .skip)) (.seq (.reg
 [oM 17 6 0, oX 18 (.call (.c (.s (.fn 75 []))) [(.t 17)]) 0, oM 4 18 8, oX 5 (.mv (.c (.s (.int .i64 0)))) 8] 8) .ret)))), [(.t 4), (.t 5)]⟩
def x27 : XFn := ⟨57, (.seq (.reg [oX 0 (.mv (.c (.s (.bool false)))) 0] 0) (.seq (.reg [oX 9 (.bld (.pb [(.int .i64 0), (.int .i64 0)] 0 ff) [((0, 1), (.c (.s
 (.int .i64 0)))), ((1, 1), (.c (.s (.int .i64 1))))]) 0, oX 10 (.bld (.pb [(.int .i64 0), (.int .i64 0)] 0 ff) [((0, 1), (.c (.s (.int .i64 0)))), ((1, 1), (.c
 (.s (.int .i64 2))))]) 0, oX 11 (.bld (.pb [(.int .i64 0), (.int .i64 0)] 0 ff) [((0, 1), (.c (.s (.int .i64 1)))), ((1, 1), (.c (.s (.int .i64 2))))]) 0, oX 12
 (.bsl 38 .i64 2 3 [(0, (.t 9)), (1, (.t 10)), (2, (.t 11))]) 0, oM 1 12 1] 1) (.seq (.reg [oX 14 (.bsl 3 .i64 1 3 [(0, (.c (.s (.int .i64 3)))), (1, (.c (.s
 (.int .i64 5)))), (2, (.c (.s (.int .i64 6))))]) 0, oX 15 (.call (.c (.s (.fn 26 []))) [(.c (.s (.int .i64 3))), (.t 14)]) 1, oM 13 15 9, oX 16 (.extr (.t 13)
 0) 9, oX 17 (.extr (.t 13) 1) 9, oM 2 16 9, oM 3 17 9] 9) (.seq (.reg [oM 19 1 0, oX 20 (.call (.c (.s (.fn 77 []))) [(.c (.s (.int .i64 3))), (.t 19)]) 0, oM
 18 20 8, oX 21 (.extr (.t 18) 0) 8, oX 22 (.extr (.t 18) 1) 8, oX 23 (.extr (.t 18) 2) 8, oM 4 21 8, oM 5 22 8, oM 6 23 8] 8) (.seq (.reg [oM 25 1 0, oX 26
 (.call (.c (.s (.fn 19 []))) [(.c (.s (.int .i64 3))), (.t 25)]) 0, oM 24 26 8, oX 27 (.extr (.t 24) 0) 8, oX 28 (.extr (.t 24) 1) 8, oM 7 27 8, oM 8 28 8] 8)
 (.seq (.reg [oM 29 3 0, oX 30 (.bin .eql (.t 29) (.c (.s (.int .i64 0)))) 0, oM 31 30 0, oG 32 31 true (.mv (.t 2)) 0, oG 33 31 true (.bsl 3 .i64 1 2 [(0, (.c
 (.s (.int .i64 0)))), (1, (.c (.s (.int .i64 1))))]) 0, oG 34 31 true (.call (.c (.s (.fn 24 []))) [(.t 32), (.t 33)]) 1, oX 35 (.pick (.t 31) (.t 34) (.c (.s
 (.bool false)))) 9, oM 36 35 9, oG 37 36 true (.mv (.t 6)) 9, oG 38 36 true (.bin .eql (.t 37) (.c (.s (.int .i64 0)))) 9, oX 39 (.pick (.t 36) (.t 38) (.c (.s
 (.bool false)))) 9, oM 40 39 9, oG 41 40 true (.mv (.t 5)) 9, oX 42 (.pick (.t 40) (.t 41) (.c (.s (.bool false)))) 9, oM 43 42 9, oG 44 43 true (.mv (.t 4)) 9,
 oG 45 43 true (.bsl 3 .i64 1 3 [(0, (.c (.s (.int .i64 0)))), (1, (.c (.s (.int .i64 1)))), (2, (.c (.s (.int .i64 3))))]) 9, oG 46 43 true (.call (.c (.s (.fn
 24 []))) [(.t 44), (.t 45)]) 10, oX 47 (.pick (.t 43) (.t 46) (.c (.s (.bool false)))) 18, oM 48 47 18, oG 49 48 true (.mv (.t 8)) 18, oG 50 48 true (.bin .eql
 (.t 49) (.c (.s (.int .i64 0)))) 18, oX 51 (.pick (.t 48) (.t 50) (.c (.s (.bool false)))) 18, oM 52 51 18, oG 53 52 true (.mv (.t 7)) 18, oG 54 52 true (.bsl 3
 .i64 1 3 [(0, (.c (.s (.int .i64 0)))), (1, (.c (.s (.int .i64 1)))), (2, (.c (.s (.int .i64 2))))]) 18, oG 55 52 true (.call (.c (.s (.fn 24 []))) [(.t 53),
 (.t 54)]) 19, oX 56 (.pick (.t 52) (.t 55) (.c (.s (.bool false)))) 27, oM 0 56 27] 27) .ret)))))), [(.t 0)]⟩
def x48 : XFn := ⟨75, (.seq (.reg [oX 4 (.mv (.c (.s .nilp))) 0, oX 5 (.mv (.c (.s (.int .i64 0)))) 0] 0) (.seq (.seq (.reg [oM 9 0 0, oX 10 (.bin .lss (.t 9)
 (.c (.s (.int .i64 1)))) 0, oM 11 10 0, oG 12 11 false (.mv (.t 0)) 0, oG 13 11 false (.bin .gtr (.t 12) (.c (.s (.int .i64 7)))) 0, oX 14 (.pick (.t 11) (.c
 (.s (.bool true))) (.t 13)) 0] 0) (.cond (.t 14) (.seq (.reg [oX 4 (.mv (.c (.s .nilp))) 0, oX 5 (.mv (.c (.s (.int .i64 1)))) 0] 0) .ret) .skip)) (.seq (.reg
 [oM 15 0 0, oX 16 (.bld (.pb [(.int .i64 0)] 49 ff) [((0, 1), (.t 15))]) 0, oX 17 (.box 115 (.t 16)) 0, oM 6 17 1] 1) (.seq (.seq (.reg [oM 18 1 0, oX 19 (.len
 (.t 18)) 0, oX 20 (.mv (.c (.s (.int .i64 0)))) 0] 0) (.block 0 (.loop (.seq (.reg [oX 21 (.bin .lss (.t 20) (.t 19)) 0] 0) (.seq (.cond (.t 21) .skip (.exit
 0)) (.seq (.block 1 (.seq (.reg [oM 22 20 0, oX 23 (.iadS 2 (.t 18) (.t 20)) 0, oX 24 (.ld (.many 2 0) (.t 23)) 0, oX 8 (.alloc 38 (.pb [(.int .i64 0), (.int
 .i64 0)] 0 ff)) 0, oM 7 22 1, oN (.st (.many 2 0) (.t 8) (.t 24)) 1] 1) (.seq (.seq (.regD [oX 25 (.iad 2 1 (.t 8) (.c (.s (.int .i64 0)))) 0, oX 26 (.ld .one
 (.t 25)) 0, oX 27 (.bin .lss (.t 26) (.c (.s (.int .i64 0)))) 0, oM 28 27 0, oG 29 28 false (.iad 2 1 (.t 8) (.c (.s (.int .i64 0)))) 0, oG 30 28 false (.ld
 .one (.t 29)) 0, oG 31 28 false (.iad 2 1 (.t 8) (.c (.s (.int .i64 1)))) 0, oG 32 28 false (.ld .one (.t 31)) 0, oG 33 28 false (.bin .geq (.t 30) (.t 32)) 0,
 oX 34 (.pick (.t 28) (.c (.s (.bool true))) (.t 33)) 0, oM 35 34 0, oG 36 35 false (.iad 2 1 (.t 8) (.c (.s (.int .i64 1)))) 0, oG 37 35 false (.ld .one (.t
 36)) 0, oG 38 35 false (.mv (.t 0)) 0, oG 39 35 false (.bin .geq (.t 37) (.t 38)) 0, oX 40 (.pick (.t 35) (.c (.s (.bool true))) (.t 39)) 0, oM 41 40 0, oG 42
 41 false (.mv (.t 7)) 0, oG 43 41 false (.bin .gtr (.t 42) (.c (.s (.int .i64 0)))) 0, oG 44 41 false (.mv (.t 43)) 0, oG 45 44 true (.mv (.t 1)) 0, oG 46 44
 true (.mv (.t 7)) 0, oG 47 44 true (.bin .sub (.t 46) (.c (.s (.int .i64 1)))) 0, oG 48 44 true (.iadS 2 (.t 45) (.t 47)) 0, oG 49 44 true (.slcA 2 1 (.t 48)
 none none) 0, oG 50 44 true (.slcA 2 1 (.t 8) none none) 0, oG 51 44 true (.call (.c (.s (.fn 93 []))) [(.t 49), (.t 50)]) 0, oG 52 44 true (.bin .geq (.t 51)
 (.c (.s (.int .i64 0)))) 8, oG 53 41 false (.pick (.t 44) (.t 52) (.c (.s (.bool false)))) 8, oX 54 (.pick (.t 41) (.c (.s (.bool true))) (.t 53)) 8] 8 [])
 (.cond (.t 54) (.seq (.reg [oX 4 (.mv (.c (.s .nilp))) 0, oX 5 (.mv (.c (.s (.int .i64 20)))) 0] 0) .ret) .skip)) (.regD [oM 55 6 0, oX 56 (.iad 2 1 (.t 8) (.c
 (.s (.int .i64 0)))) 0, oX 57 (.ld .one (.t 56)) 0, oX 58 (.iad 2 1 (.t 8) (.c (.s (.int .i64 1)))) 0, oX 59 (.ld .one (.t 58)) 0, oM 60 6 0, oX 61 (.iad 2 1
 (.t 8) (.c (.s (.int .i64 1)))) 0, oX 62 (.ld .one (.t 61)) 0, oX 63 (.iad 2 1 (.t 8) (.c (.s (.int .i64 0)))) 0, oX 64 (.ld .one (.t 63)) 0, oX 65 (.nck (.t
 55)) 0, oX 66 (.fad 1 (.t 65)) 0, oX 67 (.iad 7 7 (.t 66) (.t 57)) 0, oX 68 (.iad 7 1 (.t 67) (.t 59)) 0, oN (.st .one (.t 68) (.c (.s (.bool true)))) 0, oX 69
 (.nck (.t 60)) 0, oX 70 (.fad 1 (.t 69)) 0, oX 71 (.iad 7 7 (.t 70) (.t 62)) 0, oX 72 (.iad 7 1 (.t 71) (.t 64)) 0, oN (.st .one (.t 72) (.c (.s (.bool true))))
 0] 0 [])))) (.reg [oX 73 (.bin .add (.t 20) (.c (.s (.int .i64 1)))) 0, oM 20 73 0] 0))))))) (.seq (.reg [oM 74 6 0, oM 4 74 0, oX 5 (.mv (.c (.s (.int .i64
 0)))) 0] 0) .ret))))), [(.t 4), (.t 5)]⟩
def x51 : XFn := ⟨42, (.seq (.reg [oX 1 (.box 70 (.t 0)) 0, oX 2 (.mv (.c (.s (.bool false)))) 1] 1) (.seq (.seq (.reg [oX 6 (.mv (.c (.s (.int .i64 0)))) 0] 0)
 (.block 0 (.loop (.seq (.reg [oX 7 (.bin .lss (.t 6) (.c (.s (.int .i64 7)))) 0] 0) (.seq (.cond (.t 7) .skip (.exit 0)) (.seq (.block 1 (.seq (.reg [oM 8 6 0,
 oM 3 8 0] 0) (.seq (.reg [oX 9 (.mv (.c (.s (.int .i64 0)))) 0] 0) (.block 2 (.loop (.seq (.reg [oX 10 (.bin .lss (.t 9) (.c (.s (.int .i64 7)))) 0] 0) (.seq
 (.cond (.t 10) .skip (.exit 2)) (.seq (.block 3 (.seq (.reg [oM 11 9 0, oM 4 11 0] 0) (.seq (.seq (.reg [oM 12 3 0, oM 13 4 0, oX 14 (.iad 7 7 (.t 1) (.t 12))
 0, oX 15 (.iad 7 1 (.t 14) (.t 13)) 0, oX 16 (.ld .one (.t 15)) 0, oX 17 (.not (.t 16)) 0] 0) (.cond (.t 17) (.exit 3) .skip)) (.seq (.seq (.reg [oM 18 4 0, oM
 19 3 0, oX 20 (.iad 7 7 (.t 1) (.t 18)) 0, oX 21 (.iad 7 1 (.t 20) (.t 19)) 0, oX 22 (.ld .one (.t 21)) 0] 0) (.cond (.t 22) (.seq (.reg [oX 2 (.mv (.c (.s
 (.bool false)))) 0] 0) .ret) .skip)) (.seq (.reg [oX 23 (.mv (.c (.s (.int .i64 0)))) 0] 0) (.block 4 (.loop (.seq (.reg [oX 24 (.bin .lss (.t 23) (.c (.s (.int
 .i64 7)))) 0] 0) (.seq (.cond (.t 24) .skip (.exit 4)) (.seq (.block 5 (.seq (.reg [oM 25 23 0, oM 5 25 0] 0) (.seq (.reg [oM 26 4 0, oM 27 5 0, oX 28 (.iad 7 7
 (.t 1) (.t 26)) 0, oX 29 (.iad 7 1 (.t 28) (.t 27)) 0, oX 30 (.ld .one (.t 29)) 0, oM 31 30 0, oG 32 31 true (.mv (.t 3)) 0, oG 33 31 true (.mv (.t 5)) 0, oG 34
 31 true (.iad 7 7 (.t 1) (.t 32)) 0, oG 35 31 true (.iad 7 1 (.t 34) (.t 33)) 0, oG 36 31 true (.ld .one (.t 35)) 0, oG 37 31 true (.not (.t 36)) 0, oX 38
 (.pick (.t 31) (.t 37) (.c (.s (.bool false)))) 0] 0) (.cond (.t 38) (.seq (.reg [oX 2 (.mv (.c (.s (.bool false)))) 0] 0) .ret) .skip)))) (.reg [oX 39 (.bin
 .add (.t 23) (.c (.s (.int .i64 1)))) 0, oM 23 39 0] 0))))))))))) (.reg [oX 40 (.bin .add (.t 9) (.c (.s (.int .i64 1)))) 0, oM 9 40 0] 0))))))))) (.reg [oX 41
 (.bin .add (.t 6) (.c (.s (.int .i64 1)))) 0, oM 6 41 0] 0))))))) (.seq (.reg [oX 2 (.mv (.c (.s (.bool true)))) 0] 0) .ret))), [(.t 2)]⟩
def x56 : XFn := ⟨26, (.seq (.reg [oX 1 (.box 70 (.t 0)) 0, oX 2 (.mv (.c (.s .nils))) 1] 1) (.seq (.reg [oX 3 (.mv (.c (.s .nils))) 0] 0) (.seq (.seq (.reg [oX
 6 (.mv (.c (.s (.int .i64 0)))) 0] 0) (.block 0 (.loop (.seq (.reg [oX 7 (.bin .lss (.t 6) (.c (.s (.int .i64 7)))) 0] 0) (.seq (.cond (.t 7) .skip (.exit 0))
 (.seq (.block 1 (.seq (.reg [oM 8 6 0, oM 4 8 0] 0) (.seq (.reg [oX 9 (.mv (.c (.s (.int .i64 0)))) 0] 0) (.block 2 (.loop (.seq (.reg [oX 10 (.bin .lss (.t 9)
 (.c (.s (.int .i64 7)))) 0] 0) (.seq (.cond (.t 10) .skip (.exit 2)) (.seq (.block 3 (.seq (.reg [oM 11 9 0, oM 5 11 0] 0) (.seq (.reg [oM 12 4 0, oM 13 5 0, oX
 14 (.iad 7 7 (.t 1) (.t 12)) 0, oX 15 (.iad 7 1 (.t 14) (.t 13)) 0, oX 16 (.ld .one (.t 15)) 0] 0) (.cond (.t 16) (.reg [oM 17 3 0, oM 18 4 0, oM 19 5 0, oX 20
 (.bld (.pb [(.int .i64 0), (.int .i64 0)] 0 ff) [((0, 1), (.t 18)), ((1, 1), (.t 19))]) 0, oX 21 (.bsl 38 .i64 2 1 [(0, (.t 20))]) 0, oX 22 (.app 38 .i64 2 (.t
 17) (.t 21)) 1, oM 3 22 2] 2) .skip)))) (.reg [oX 23 (.bin .add (.t 9) (.c (.s (.int .i64 1)))) 0, oM 9 23 0] 0))))))))) (.reg [oX 24 (.bin .add (.t 6) (.c (.s
 (.int .i64 1)))) 0, oM 6 24 0] 0))))))) (.seq (.reg [oM 25 3 0, oM 2 25 0] 0) .ret)))), [(.t 2)]⟩
def x59 : XFn := ⟨72, (.seq (.reg [oX 4 (.alloc 70 (.pb [] 49 ff)) 0, oX 5 (.mv (.c (.s (.int .i64 0)))) 1] 1) (.seq (.reg [oX 6 (.alloc 70 (.pb [] 49 ff)) 0] 1)
 (.seq (.seq (.reg [oM 9 0 0, oX 10 (.bin .lss (.t 9) (.c (.s (.int .i64 1)))) 0, oM 11 10 0, oG 12 11 false (.mv (.t 0)) 0, oG 13 11 false (.bin .gtr (.t 12)
 (.c (.s (.int .i64 7)))) 0, oX 14 (.pick (.t 11) (.c (.s (.bool true))) (.t 13)) 0] 0) (.cond (.t 14) (.seq (.reg [oX 15 (.ld (.many 0 49) (.t 6)) 0, oN (.st
 (.many 0 49) (.t 4) (.t 15)) 0, oX 5 (.mv (.c (.s (.int .i64 1)))) 0] 0) .ret) .skip)) (.seq (.seq (.reg [oM 16 1 0, oX 17 (.len (.t 16)) 0, oX 18 (.mv (.c (.s
 (.int .i64 0)))) 0] 0) (.block 0 (.loop (.seq (.reg [oX 19 (.bin .lss (.t 18) (.t 17)) 0] 0) (.seq (.cond (.t 19) .skip (.exit 0)) (.seq (.block 1 (.seq (.reg
 [oM 20 18 0, oX 21 (.iadS 2 (.t 16) (.t 18)) 0, oX 22 (.ld (.many 2 0) (.t 21)) 0, oX 8 (.alloc 38 (.pb [(.int .i64 0), (.int .i64 0)] 0 ff)) 0, oM 7 20 1, oN
 (.st (.many 2 0) (.t 8) (.t 22)) 1] 1) (.seq (.seq (.regD [oX 23 (.iad 2 1 (.t 8) (.c (.s (.int .i64 0)))) 0, oX 24 (.ld .one (.t 23)) 0, oX 25 (.iad 2 1 (.t 8)
 (.c (.s (.int .i64 1)))) 0, oX 26 (.ld .one (.t 25)) 0, oX 27 (.mn [(.t 24), (.t 26)]) 0, oX 28 (.bin .lss (.t 27) (.c (.s (.int .i64 0)))) 0, oM 29 28 0, oG 30
 29 false (.iad 2 1 (.t 8) (.c (.s (.int .i64 0)))) 0, oG 31 29 false (.ld .one (.t 30)) 0, oG 32 29 false (.iad 2 1 (.t 8) (.c (.s (.int .i64 1)))) 0, oG 33 29
 false (.ld .one (.t 32)) 0, oG 34 29 false (.mx [(.t 31), (.t 33)]) 0, oG 35 29 false (.mv (.t 0)) 0, oG 36 29 false (.bin .geq (.t 34) (.t 35)) 0, oX 37 (.pick
 (.t 29) (.c (.s (.bool true))) (.t 36)) 0, oM 38 37 0, oG 39 38 false (.iad 2 1 (.t 8) (.c (.s (.int .i64 0)))) 0, oG 40 38 false (.ld .one (.t 39)) 0, oG 41 38
 false (.iad 2 1 (.t 8) (.c (.s (.int .i64 1)))) 0, oG 42 38 false (.ld .one (.t 41)) 0, oG 43 38 false (.bin .eql (.t 40) (.t 42)) 0, oX 44 (.pick (.t 38) (.c
 (.s (.bool true))) (.t 43)) 0, oM 45 44 0, oG 46 45 false (.mv (.t 7)) 0, oG 47 45 false (.bin .gtr (.t 46) (.c (.s (.int .i64 0)))) 0, oG 48 45 false (.mv (.t
 47)) 0, oG 49 48 true (.mv (.t 1)) 0, oG 50 48 true (.mv (.t 7)) 0, oG 51 48 true (.bin .sub (.t 50) (.c (.s (.int .i64 1)))) 0, oG 52 48 true (.iadS 2 (.t 49)
 (.t 51)) 0, oG 53 48 true (.slcA 2 1 (.t 52) none none) 0, oG 54 48 true (.slcA 2 1 (.t 8) none none) 0, oG 55 48 true (.call (.c (.s (.fn 93 []))) [(.t 53),
 (.t 54)]) 0, oG 56 48 true (.bin .geq (.t 55) (.c (.s (.int .i64 0)))) 8, oG 57 45 false (.pick (.t 48) (.t 56) (.c (.s (.bool false)))) 8, oX 58 (.pick (.t 45)
 (.c (.s (.bool true))) (.t 57)) 8] 8 []) (.cond (.t 58) (.seq (.reg [oX 59 (.ld (.many 0 49) (.t 6)) 0, oN (.st (.many 0 49) (.t 4) (.t 59)) 0, oX 5 (.mv (.c
 (.s (.int .i64 30)))) 0] 0) .ret) .skip)) (.regD [oX 60 (.iad 2 1 (.t 8) (.c (.s (.int .i64 0)))) 0, oX 61 (.ld .one (.t 60)) 0, oX 62 (.iad 2 1 (.t 8) (.c (.s
 (.int .i64 1)))) 0, oX 63 (.ld .one (.t 62)) 0, oX 64 (.iad 7 7 (.t 6) (.t 61)) 0, oX 65 (.iad 7 1 (.t 64) (.t 63)) 0, oN (.st .one (.t 65) (.c (.s (.bool
 true)))) 0] 0 [])))) (.reg [oX 66 (.bin .add (.t 18) (.c (.s (.int .i64 1)))) 0, oM 18 66 0] 0))))))) (.seq (.seq (.reg [oX 67 (.ld (.many 0 49) (.t 6)) 0, oX
 68 (.call (.c (.s (.fn 51 []))) [(.t 67)]) 0, oX 69 (.not (.t 68)) 8] 8) (.cond (.t 69) (.seq (.reg [oX 70 (.ld (.many 0 49) (.t 6)) 0, oN (.st (.many 0 49) (.t
 4) (.t 70)) 0, oX 5 (.mv (.c (.s (.int .i64 30)))) 0] 0) .ret) .skip)) (.seq (.reg [oX 71 (.ld (.many 0 49) (.t 6)) 0, oN (.st (.many 0 49) (.t 4) (.t 71)) 0,
 oX 5 (.mv (.c (.s (.int .i64 0)))) 0] 0) .ret)))))), [(.cell 4 (.many 0 49)), (.t 5)]⟩
def x60 : XFn := ⟨3, (.seq (.reg [oX 0 (.alloc 70 (.pb [] 49 ff)) 0] 1) (.seq (.reg [oX 1 (.alloc 70 (.pb [] 49 ff)) 0] 1) (.seq (.reg [oX 2 (.ld (.many 0 49)
 (.t 1)) 0, oN (.st (.many 0 49) (.t 0) (.t 2)) 0] 0) .ret))), [(.cell 0 (.many 0 49))]⟩
def x61 : XFn := ⟨24, (.seq (.reg [oX 1 (.box 70 (.t 0)) 0, oX 2 (.alloc 70 (.pb [] 49 ff)) 1] 2) (.seq (.reg [oX 3 (.alloc 70 (.pb [] 49 ff)) 0] 1) (.seq (.seq
 (.reg [oX 6 (.mv (.c (.s (.int .i64 0)))) 0] 0) (.block 0 (.loop (.seq (.reg [oX 7 (.bin .lss (.t 6) (.c (.s (.int .i64 7)))) 0] 0) (.seq (.cond (.t 7) .skip
 (.exit 0)) (.seq (.block 1 (.seq (.reg [oM 8 6 0, oM 4 8 0] 0) (.seq (.reg [oX 9 (.mv (.c (.s (.int .i64 0)))) 0] 0) (.block 2 (.loop (.seq (.reg [oX 10 (.bin
 .lss (.t 9) (.c (.s (.int .i64 7)))) 0] 0) (.seq (.cond (.t 10) .skip (.exit 2)) (.seq (.block 3 (.seq (.reg [oM 11 9 0, oM 5 11 0] 0) (.regD [oM 12 5 0, oM 13
 4 0, oM 14 4 0, oM 15 5 0, oX 16 (.iad 7 7 (.t 1) (.t 14)) 0, oX 17 (.iad 7 1 (.t 16) (.t 15)) 0, oX 18 (.ld .one (.t 17)) 0, oX 19 (.iad 7 7 (.t 3) (.t 12)) 0,
 oX 20 (.iad 7 1 (.t 19) (.t 13)) 0, oN (.st .one (.t 20) (.t 18)) 0] 0 []))) (.reg [oX 21 (.bin .add (.t 9) (.c (.s (.int .i64 1)))) 0, oM 9 21 0] 0)))))))))
 (.reg [oX 22 (.bin .add (.t 6) (.c (.s (.int .i64 1)))) 0, oM 6 22 0] 0))))))) (.seq (.reg [oX 23 (.ld (.many 0 49) (.t 3)) 0, oN (.st (.many 0 49) (.t 2) (.t
 23)) 0] 0) .ret)))), [(.cell 2 (.many 0 49))]⟩
def x62 : XFn := ⟨23, (.seq (.reg [oX 2 (.box 70 (.t 0)) 0, oX 3 (.box 3 (.t 1)) 1, oX 4 (.mv (.c (.s .nils))) 2] 2) (.seq (.reg [oX 8 (.ld .one (.t 3)) 0, oX 9
 (.mkS 3 .i64 (.t 8)) 0, oM 5 9 1] 1) (.seq (.reg [oX 6 (.alloc 131 (.s .nilf)) 0] 1) (.seq (.reg [oX 10 (.mkf 95 [(.t 3), (.t 2), (.t 6)]) 0, oN (.st .one (.t
 6) (.t 10)) 0] 0) (.seq (.seq (.reg [oX 11 (.ld .one (.t 3)) 0, oX 12 (.mv (.c (.s (.int .i64 0)))) 0] 0) (.block 0 (.loop (.seq (.reg [oX 13 (.bin .lss (.t 12)
 (.t 11)) 0] 0) (.seq (.cond (.t 13) .skip (.exit 0)) (.seq (.block 1 (.seq (.reg [oM 14 12 0, oM 7 14 0] 0) (.reg [oM 15 5 0, oM 16 7 0, oX 17 (.ld .one (.t 6))
 0, oM 18 7 0, oX 19 (.call (.t 17) [(.t 18)]) 0, oX 20 (.iadS 1 (.t 15) (.t 16)) 8, oN (.st .one (.t 20) (.t 19)) 8] 8))) (.reg [oX 21 (.bin .add (.t 12) (.c
 (.s (.int .i64 1)))) 0, oM 12 21 0] 0))))))) (.seq (.reg [oM 22 5 0, oM 4 22 0] 0) .ret)))))), [(.t 4)]⟩
end Go.Proofs.Yteekkjfjpoaihaa.Eng
namespace Go.Proofs.Yteekkjfjpoaihaa.Eng
open Go
def x63 : XFn := ⟨19, (.seq (.reg [oX 4 (.mv (.c (.s (.int .i64 0)))) 0] 0) (.seq (.seq (.reg [oM 6 0 0, oX 7 (.len (.t 6)) 0, oX 8 (.mv (.c (.s (.int .i64 0))))
 0] 0) (.block 0 (.loop (.seq (.reg [oX 9 (.bin .lss (.t 8) (.t 7)) 0] 0) (.seq (.cond (.t 9) .skip (.exit 0)) (.seq (.block 1 (.seq (.reg [oM 10 8 0, oM 5 10 0]
 0) (.seq (.reg [oM 11 1 0, oM 12 0 0, oM 13 5 0, oX 14 (.iadS 1 (.t 12) (.t 13)) 0, oX 15 (.ld .one (.t 14)) 0, oX 16 (.bin .eql (.t 11) (.t 15)) 0] 0) (.cond
 (.t 16) (.seq (.reg [oM 17 5 0, oM 4 17 0] 0) .ret) .skip)))) (.reg [oX 18 (.bin .add (.t 8) (.c (.s (.int .i64 1)))) 0, oM 8 18 0] 0))))))) (.seq (.reg [oX 4
 (.mv (.c (.s (.int .i64 (-1))))) 0] 0) .ret))), [(.t 4)]⟩
def x64 : XFn := ⟨25, (.seq (.reg [oX 2 (.mv (.c (.s (.int .i64 0)))) 0] 0) (.seq (.seq (.reg [oM 5 0 0, oX 6 (.len (.t 5)) 0, oX 7 (.bin .lss (.t 6) (.c (.s
 (.int .i64 1)))) 0] 0) (.cond (.t 7) (.reg [oX 8 .bad 0, oN .bad 0] 0) .skip)) (.seq (.reg [oM 9 0 0, oX 10 (.iadS 1 (.t 9) (.c (.s (.int .i64 0)))) 0, oX 11
 (.ld .one (.t 10)) 0, oM 3 11 0] 0) (.seq (.seq (.reg [oX 4 (.mv (.c (.s (.int .i64 1)))) 0] 0) (.block 0 (.loop (.seq (.seq (.reg [oM 12 4 0, oM 13 0 0, oX 14
 (.len (.t 13)) 0, oX 15 (.bin .lss (.t 12) (.t 14)) 0] 0) (.cond (.t 15) .skip (.exit 0))) (.seq (.block 1 (.reg [oM 18 3 0, oM 19 0 0, oM 20 4 0, oX 21 (.iadS
 1 (.t 19) (.t 20)) 0, oX 22 (.ld .one (.t 21)) 0, oX 23 (.mx [(.t 18), (.t 22)]) 0, oM 3 23 0] 0)) (.reg [oM 16 4 0, oX 17 (.bin .add (.t 16) (.c (.s (.int .i64
 1)))) 0, oM 4 17 0] 0)))))) (.seq (.reg [oM 24 3 0, oM 2 24 0] 0) .ret))))), [(.t 2)]⟩
def x65 : XFn := ⟨28, (.seq (.reg [oM 4 0 0, oX 5 (.len (.t 4)) 0, oX 6 (.bin .sub (.t 5) (.c (.s (.int .i64 1)))) 0, oX 2 (.mv (.c (.s (.int .i64 0)))) 0, oM 3
 6 0] 0) (.block 0 (.loop (.seq (.seq (.reg [oM 7 2 0, oM 8 3 0, oX 9 (.bin .lss (.t 7) (.t 8)) 0] 0) (.cond (.t 9) .skip (.exit 0))) (.seq (.block 1 (.regD [oM
 14 0 0, oM 15 2 0, oM 16 0 0, oM 17 3 0, oM 18 0 0, oM 19 3 0, oX 20 (.iadS 1 (.t 18) (.t 19)) 0, oX 21 (.ld .one (.t 20)) 0, oM 22 0 0, oM 23 2 0, oX 24 (.iadS
 1 (.t 22) (.t 23)) 0, oX 25 (.ld .one (.t 24)) 0, oX 26 (.iadS 1 (.t 14) (.t 15)) 0, oN (.st .one (.t 26) (.t 21)) 0, oX 27 (.iadS 1 (.t 16) (.t 17)) 0, oN (.st
 .one (.t 27) (.t 25)) 0] 0 [])) (.reg [oM 10 2 0, oX 11 (.bin .add (.t 10) (.c (.s (.int .i64 1)))) 0, oM 12 3 0, oX 13 (.bin .sub (.t 12) (.c (.s (.int .i64
 1)))) 0, oM 2 11 0, oM 3 13 0] 0)))))), []⟩
def x66 : XFn := ⟨9, (.seq (.reg [oX 4 (.mv (.c (.s (.bool false)))) 0] 0) (.seq (.reg [oM 5 0 0, oM 6 1 0, oX 7 (.call (.c (.s (.fn 96 []))) [(.t 5), (.t 6)])
 0, oX 8 (.bin .geq (.t 7) (.c (.s (.int .i64 0)))) 8, oM 4 8 8] 8) .ret)), [(.t 4)]⟩
def x67 : XFn := ⟨13, (.seq (.reg [oX 3 (.mv (.c (.s (.bool false)))) 0] 0) (.seq (.reg [oM 4 0 0, oX 5 (.bin .lss (.t 4) (.c (.s (.int .i64 0)))) 0, oM 6 5 0,
 oG 7 6 false (.mv (.t 0)) 0, oG 8 6 false (.ld .one (.t 1)) 0, oG 9 6 false (.conv .u64 (.t 8)) 0, oG 10 6 false (.bin .shl (.c (.s (.int .i64 1))) (.t 9)) 0,
 oG 11 6 false (.bin .geq (.t 7) (.t 10)) 0, oX 12 (.pick (.t 6) (.c (.s (.bool true))) (.t 11)) 0, oM 3 12 0] 0) .ret)), [(.t 3)]⟩
def x68 : XFn := ⟨22, (.seq (.reg [oX 1 (.box 95 (.t 0)) 0, oX 2 (.mv (.c (.s .nils))) 1, oX 3 (.mv (.c (.s (.int .i64 0)))) 1] 1) (.seq (.reg [oX 5 (.ld (.many
 0 64) (.t 1)) 0, oX 6 (.call (.c (.s (.fn 97 []))) [(.t 5)]) 0, oM 4 6 8] 8) (.seq (.block 0 (.seq (.reg [oM 8 4 0, oX 9 (.len (.t 8)) 0, oX 10 (.bin .eql (.t
 9) (.c (.s (.int .i64 0)))) 0, oM 11 10 0, oG 12 11 false (.mv (.t 4)) 0, oG 13 11 false (.iadS 1 (.t 12) (.c (.s (.int .i64 0)))) 0, oG 14 11 false (.ld .one
 (.t 13)) 0, oG 15 11 false (.bin .eql (.t 14) (.c (.s (.int .i64 0)))) 0, oX 16 (.pick (.t 11) (.c (.s (.bool true))) (.t 15)) 0, oM 7 16 0] 0) (.cond (.t 7)
 (.seq (.reg [oX 2 (.mv (.c (.s .nils))) 0, oX 3 (.mv (.c (.s (.int .i64 4)))) 0] 0) .ret) (.seq (.reg [oM 18 4 0, oX 19 (.len (.t 18)) 0, oX 20 (.bin .gtr (.t
 19) (.c (.s (.int .i64 10)))) 0, oM 17 20 0] 0) (.cond (.t 17) (.seq (.reg [oX 2 (.mv (.c (.s .nils))) 0, oX 3 (.mv (.c (.s (.int .i64 8)))) 0] 0) .ret)
 .skip))))) (.seq (.reg [oM 21 4 0, oM 2 21 0, oX 3 (.mv (.c (.s (.int .i64 0)))) 0] 0) .ret)))), [(.t 2), (.t 3)]⟩
def x69 : XFn := ⟨20, (.seq (.reg [oX 2 (.alloc 95 (.pb [] 64 ff)) 0] 1) (.seq (.reg [oX 3 (.alloc 95 (.pb [] 64 ff)) 0] 1) (.seq (.seq (.reg [oM 7 0 0, oX 8
 (.len (.t 7)) 0, oX 9 (.mv (.c (.s (.int .i64 0)))) 0] 0) (.block 0 (.loop (.seq (.reg [oX 10 (.bin .lss (.t 9) (.t 8)) 0] 0) (.seq (.cond (.t 10) .skip (.exit
 0)) (.seq (.block 1 (.seq (.reg [oX 11 (.iadS 1 (.t 7) (.t 9)) 0, oX 12 (.ld .one (.t 11)) 0, oM 5 12 0] 0) (.seq (.reg [oM 13 5 0, oX 14 (.call (.c (.s (.fn 98
 []))) [(.t 13)]) 0] 8) (.block 2 (.rf (.t 14) [15] (.reg [oM 6 15 0] 0) (.block 3 (.reg [oM 16 6 0, oX 17 (.iad 64 1 (.t 3) (.t 16)) 0, oN (.st .one (.t 17) (.c
 (.s (.bool true)))) 0] 0))))))) (.reg [oX 18 (.bin .add (.t 9) (.c (.s (.int .i64 1)))) 0, oM 9 18 0] 0))))))) (.seq (.reg [oX 19 (.ld (.many 0 64) (.t 3)) 0,
 oN (.st (.many 0 64) (.t 2) (.t 19)) 0] 0) .ret)))), [(.cell 2 (.many 0 64))]⟩
def x70 : XFn := ⟨84, (.seq (.reg [oX 4 (.mv (.c (.s .nilp))) 0, oX 5 (.mv (.c (.s (.int .i64 0)))) 0] 0) (.seq (.seq (.reg [oM 11 0 0, oX 12 (.bin .lss (.t 11)
 (.c (.s (.int .i64 1)))) 0, oM 13 12 0, oG 14 13 false (.mv (.t 0)) 0, oG 15 13 false (.bin .gtr (.t 14) (.c (.s (.int .i64 6)))) 0, oX 16 (.pick (.t 13) (.c
 (.s (.bool true))) (.t 15)) 0] 0) (.cond (.t 16) (.seq (.reg [oX 4 (.mv (.c (.s .nilp))) 0, oX 5 (.mv (.c (.s (.int .i64 1)))) 0] 0) .ret) .skip)) (.seq (.seq
 (.reg [oM 17 1 0, oX 18 (.len (.t 17)) 0, oX 19 (.bin .lss (.t 18) (.c (.s (.int .i64 1)))) 0, oM 20 19 0, oG 21 20 false (.mv (.t 1)) 0, oG 22 20 false (.len
 (.t 21)) 0, oG 23 20 false (.bin .gtr (.t 22) (.c (.s (.int .i64 10)))) 0, oX 24 (.pick (.t 20) (.c (.s (.bool true))) (.t 23)) 0] 0) (.cond (.t 24) (.seq (.reg
 [oX 4 (.mv (.c (.s .nilp))) 0, oX 5 (.mv (.c (.s (.int .i64 10)))) 0] 0) .ret) .skip)) (.seq (.seq (.reg [oM 25 1 0, oX 26 (.len (.t 25)) 0, oX 27 (.mv (.c (.s
 (.int .i64 0)))) 0] 0) (.block 0 (.loop (.seq (.reg [oX 28 (.bin .lss (.t 27) (.t 26)) 0] 0) (.seq (.cond (.t 28) .skip (.exit 0)) (.seq (.block 1 (.seq (.reg
 [oM 29 27 0, oX 30 (.iadS 1 (.t 25) (.t 27)) 0, oX 31 (.ld .one (.t 30)) 0, oM 6 29 0, oM 7 31 0] 0) (.seq (.seq (.reg [oM 32 7 0, oX 33 (.bin .lss (.t 32) (.c
 (.s (.int .i64 1)))) 0, oM 34 33 0, oG 35 34 false (.mv (.t 7)) 0, oG 36 34 false (.mv (.t 0)) 0, oG 37 34 false (.conv .u64 (.t 36)) 0, oG 38 34 false (.bin
 .shl (.c (.s (.int .i64 1))) (.t 37)) 0, oG 39 34 false (.bin .geq (.t 35) (.t 38)) 0, oX 40 (.pick (.t 34) (.c (.s (.bool true))) (.t 39)) 0, oM 41 40 0, oG 42
 41 false (.mv (.t 6)) 0, oG 43 41 false (.bin .gtr (.t 42) (.c (.s (.int .i64 0)))) 0, oG 44 41 false (.mv (.t 43)) 0, oG 45 44 true (.mv (.t 1)) 0, oG 46 44
 true (.mv (.t 6)) 0, oG 47 44 true (.bin .sub (.t 46) (.c (.s (.int .i64 1)))) 0, oG 48 44 true (.iadS 1 (.t 45) (.t 47)) 0, oG 49 44 true (.ld .one (.t 48)) 0,
 oG 50 44 true (.mv (.t 7)) 0, oG 51 44 true (.bin .geq (.t 49) (.t 50)) 0, oG 52 41 false (.pick (.t 44) (.t 51) (.c (.s (.bool false)))) 0, oX 53 (.pick (.t
 41) (.c (.s (.bool true))) (.t 52)) 0] 0) (.cond (.t 53) (.seq (.reg [oX 4 (.mv (.c (.s .nilp))) 0, oX 5 (.mv (.c (.s (.int .i64 10)))) 0] 0) .ret) .skip))
 (.seq (.reg [oM 54 1 0, oX 55 (.len (.t 54)) 0, oX 56 (.mv (.c (.s (.int .i64 0)))) 0] 0) (.block 2 (.loop (.seq (.reg [oX 57 (.bin .lss (.t 56) (.t 55)) 0] 0)
 (.seq (.cond (.t 57) .skip (.exit 2)) (.seq (.block 3 (.seq (.reg [oM 58 56 0, oX 59 (.iadS 1 (.t 54) (.t 56)) 0, oX 60 (.ld .one (.t 59)) 0, oM 8 58 0, oM 9 60
 0] 0) (.seq (.reg [oM 61 8 0, oM 62 6 0, oX 63 (.bin .neq (.t 61) (.t 62)) 0, oM 64 63 0, oG 65 64 true (.mv (.t 7)) 0, oG 66 64 true (.mv (.t 9)) 0, oG 67 64
 true (.bin .and (.t 65) (.t 66)) 0, oG 68 64 true (.mv (.t 7)) 0, oG 69 64 true (.bin .eql (.t 67) (.t 68)) 0, oX 70 (.pick (.t 64) (.t 69) (.c (.s (.bool
 false)))) 0] 0) (.cond (.t 70) (.seq (.reg [oX 4 (.mv (.c (.s .nilp))) 0, oX 5 (.mv (.c (.s (.int .i64 10)))) 0] 0) .ret) .skip)))) (.reg [oX 71 (.bin .add (.t
 56) (.c (.s (.int .i64 1)))) 0, oM 56 71 0] 0)))))))))) (.reg [oX 72 (.bin .add (.t 27) (.c (.s (.int .i64 1)))) 0, oM 27 72 0] 0))))))) (.seq (.reg [oM 73 0 0,
 oM 74 1 0, oX 75 (.call (.c (.s (.fn 99 []))) [(.t 74)]) 0, oX 76 (.bld (.pb [(.int .i64 0), .nils] 64 ff) [((0, 1), (.t 73)), ((1, 1), (.t 75))]) 8, oX 77
 (.box 103 (.t 76)) 8, oM 10 77 9] 9) (.seq (.reg [oM 78 10 0, oM 79 1 0, oX 80 (.call (.c (.s (.fn 69 []))) [(.t 79)]) 0, oX 81 (.nck (.t 78)) 8, oX 82 (.fad 2
 (.t 81)) 8, oN (.st (.many 0 64) (.t 82) (.t 80)) 8] 8) (.seq (.reg [oM 83 10 0, oM 4 83 0, oX 5 (.mv (.c (.s (.int .i64 0)))) 0] 0) .ret))))))), [(.t 4), (.t
 5)]⟩
def x71 : XFn := ⟨29, (.seq (.reg [oX 2 (.mv (.c (.s .nils))) 0] 0) (.seq (.reg [oM 6 0 0, oX 7 (.call (.c (.s (.fn 100 []))) [(.t 6)]) 0, oX 8 (.bin .add (.t 7)
 (.c (.s (.int .i64 1)))) 8, oX 9 (.mkS 3 .i64 (.t 8)) 8, oM 3 9 9] 9) (.seq (.seq (.reg [oM 10 0 0, oX 11 (.nck (.t 10)) 0, oX 12 (.fad 2 (.t 11)) 0, oX 13 (.ld
 (.many 0 64) (.t 12)) 0, oX 14 (.call (.c (.s (.fn 73 []))) [(.t 13)]) 0, oX 15 (.len (.t 14)) 8, oX 16 (.mv (.c (.s (.int .i64 0)))) 8] 8) (.block 0 (.loop
 (.seq (.reg [oX 17 (.bin .lss (.t 16) (.t 15)) 0] 0) (.seq (.cond (.t 17) .skip (.exit 0)) (.seq (.block 1 (.seq (.reg [oX 18 (.iadS 1 (.t 14) (.t 16)) 0, oX 19
 (.ld .one (.t 18)) 0, oM 5 19 0] 0) (.reg [oM 20 3 0, oM 21 5 0, oX 22 (.call (.c (.s (.fn 101 []))) [(.t 21)]) 0, oX 23 (.iadS 1 (.t 20) (.t 22)) 8, oX 24 (.ld
 .one (.t 23)) 8, oX 25 (.bin .add (.t 24) (.c (.s (.int .i64 1)))) 8, oX 26 (.iadS 1 (.t 20) (.t 22)) 8, oN (.st .one (.t 26) (.t 25)) 8] 8))) (.reg [oX 27
 (.bin .add (.t 16) (.c (.s (.int .i64 1)))) 0, oM 16 27 0] 0))))))) (.seq (.reg [oM 28 3 0, oM 2 28 0] 0) .ret)))), [(.t 2)]⟩
def x72 : XFn := ⟨42, (.seq (.reg [oX 4 (.alloc 4 (.s (.bool false))) 0] 1) (.seq (.seq (.reg [oX 7 (.ld (.many 0 64) (.t 0)) 0, oX 8 (.call (.c (.s (.fn 73
 []))) [(.t 7)]) 0, oX 9 (.len (.t 8)) 8, oX 10 (.bin .eql (.t 9) (.c (.s (.int .i64 2)))) 8] 8) (.cond (.t 10) (.seq (.reg [oN (.st .one (.t 4) (.c (.s (.bool
 true)))) 0] 0) .ret) .skip)) (.seq (.seq (.reg [oX 11 (.ld .one (.t 1)) 0, oX 12 (.ld (.many 0 64) (.t 0)) 0, oX 13 (.lkup (.bools 64) .bool1 false (.t 11) (.t
 12)) 0] 0) (.cond (.t 13) (.seq (.reg [oN (.st .one (.t 4) (.c (.s (.bool false)))) 0] 0) .ret) .skip)) (.seq (.seq (.reg [oX 14 (.ld (.many 0 64) (.t 0)) 0, oX
 15 (.call (.c (.s (.fn 74 []))) [(.t 14)]) 0] 8) (.block 0 (.rf (.t 15) [16] (.reg [oX 5 (.alloc 108 (.pb [(.int .i64 0), (.int .i64 0)] 0 ff)) 0, oN (.st
 (.many 2 0) (.t 5) (.t 16)) 1] 1) (.block 1 (.seq (.reg [oX 17 (.ld (.many 0 64) (.t 0)) 0, oX 6 (.alloc 95 (.pb [] 64 ff)) 0, oN (.st (.many 0 64) (.t 6) (.t
 17)) 1] 1) (.seq (.regD [oX 18 (.fad 0 (.t 5)) 0, oX 19 (.ld .one (.t 18)) 0, oX 20 (.fad 1 (.t 5)) 0, oX 21 (.ld .one (.t 20)) 0, oX 22 (.iad 64 1 (.t 0) (.t
 19)) 0, oN (.st .one (.t 22) (.c (.s (.bool false)))) 0, oX 23 (.iad 64 1 (.t 0) (.t 21)) 0, oN (.st .one (.t 23) (.c (.s (.bool false)))) 0] 0 [(3, 5)]) (.seq
 (.reg [oX 24 (.ld .one (.t 2)) 0, oX 25 (.fad 0 (.t 5)) 0, oX 26 (.ld .one (.t 25)) 0, oX 27 (.fad 1 (.t 5)) 0, oX 28 (.ld .one (.t 27)) 0, oX 29 (.bld (.pb
 [(.int .i64 0), (.int .i64 0)] 0 ff) [((0, 1), (.t 26)), ((1, 1), (.t 28))]) 0, oX 30 (.bsl 38 .i64 2 1 [(0, (.t 29))]) 0, oX 31 (.app 38 .i64 2 (.t 24) (.t
 30)) 1, oN (.st .one (.t 2) (.t 31)) 2] 2) (.seq (.seq (.reg [oX 32 (.ld .one (.t 3)) 0, oX 33 (.call (.t 32) []) 0] 8) (.cond (.t 33) (.seq (.reg [oN (.st .one
 (.t 4) (.c (.s (.bool true)))) 0] 0) .ret) .skip)) (.seq (.reg [oX 34 (.ld (.many 0 64) (.t 6)) 0, oN (.st (.many 0 64) (.t 0) (.t 34)) 0] 0) (.reg [oX 35 (.ld
 .one (.t 2)) 0, oX 36 (.ld .one (.t 2)) 0, oX 37 (.len (.t 36)) 0, oX 38 (.bin .sub (.t 37) (.c (.s (.int .i64 1)))) 0, oX 39 (.slc 2 (.t 35) none (some (.t
 38))) 0, oN (.st .one (.t 2) (.t 39)) 0] 0)))))))))) (.seq (.reg [oX 40 (.ld .one (.t 1)) 0, oX 41 (.ld (.many 0 64) (.t 0)) 0, oN (.mupd (.bools 64) .bool1 (.t
 40) (.t 41) (.c (.s (.bool true)))) 0] 0) (.seq (.reg [oN (.st .one (.t 4) (.c (.s (.bool false)))) 0] 0) .ret)))))), [(.cell 4 .one)]⟩
def x73 : XFn := ⟨18, (.seq (.reg [oX 1 (.box 95 (.t 0)) 0, oX 2 (.mv (.c (.s .nils))) 1] 1) (.seq (.reg [oX 3 (.mv (.c (.s .nils))) 0] 0) (.seq (.seq (.reg [oX
 6 (.ld (.many 0 64) (.t 1)) 0, oX 7 (.mv (.c (.s (.int .i64 0)))) 0] 0) (.block 0 (.loop (.seq (.reg [oX 8 (.bin .lss (.t 7) (.c (.s (.int .i64 64)))) 0] 0)
 (.seq (.cond (.t 8) .skip (.exit 0)) (.seq (.block 1 (.seq (.reg [oM 9 7 0, oX 10 (.idx 64 1 .one (.t 6) (.t 7)) 0, oM 4 9 0, oM 5 10 0] 0) (.seq (.reg [oM 11 5
 0] 0) (.cond (.t 11) (.reg [oM 12 3 0, oM 13 4 0, oX 14 (.bsl 3 .i64 1 1 [(0, (.t 13))]) 0, oX 15 (.app 3 .i64 1 (.t 12) (.t 14)) 1, oM 3 15 2] 2) .skip))))
 (.reg [oX 16 (.bin .add (.t 7) (.c (.s (.int .i64 1)))) 0, oM 7 16 0] 0))))))) (.seq (.reg [oM 17 3 0, oM 2 17 0] 0) .ret)))), [(.t 2)]⟩
def x74 : XFn := ⟨4, (.seq (.reg [oX 1 (.box 95 (.t 0)) 0, oX 2 (.mv (.c (.s .nilf))) 1] 1) (.seq (.reg [oX 3 (.mkf 102 [(.t 1)]) 0, oM 2 3 0] 0) .ret)), [(.t
 2)]⟩
def x75 : XFn := ⟨37, (.seq (.reg [oX 2 (.mv (.c (.s .nils))) 0] 0) (.seq (.reg [oX 3 (.mv (.c (.s .nils))) 0] 0) (.seq (.reg [oM 8 0 0, oX 9 (.call (.c (.s (.fn
 71 []))) [(.t 8)]) 0, oM 4 9 8] 8) (.seq (.seq (.reg [oX 5 (.mv (.c (.s (.int .i64 1)))) 0] 0) (.block 0 (.loop (.seq (.seq (.reg [oM 10 5 0, oM 11 4 0, oX 12
 (.len (.t 11)) 0, oX 13 (.bin .lss (.t 10) (.t 12)) 0] 0) (.cond (.t 13) .skip (.exit 0))) (.seq (.block 1 (.seq (.reg [oM 16 0 0, oM 17 5 0, oX 18 (.call (.c
 (.s (.fn 105 []))) [(.t 16), (.t 17)]) 0, oX 19 (.call (.c (.s (.fn 104 []))) [(.t 18)]) 8, oM 20 0 16, oM 21 5 16, oX 22 (.bin .add (.t 21) (.c (.s (.int .i64
 1)))) 16, oX 23 (.call (.c (.s (.fn 105 []))) [(.t 20), (.t 22)]) 16, oX 24 (.call (.c (.s (.fn 104 []))) [(.t 23)]) 24, oM 6 19 32, oM 7 24 32] 32) (.reg [oM
 25 3 0, oM 26 4 0, oM 27 5 0, oX 28 (.iadS 1 (.t 26) (.t 27)) 0, oX 29 (.ld .one (.t 28)) 0, oM 30 6 0, oX 31 (.bin .sub (.t 29) (.t 30)) 0, oM 32 7 0, oX 33
 (.bin .sub (.t 31) (.t 32)) 0, oX 34 (.bsl 3 .i64 1 1 [(0, (.t 33))]) 0, oX 35 (.app 3 .i64 1 (.t 25) (.t 34)) 1, oM 3 35 2] 2))) (.reg [oM 14 5 0, oX 15 (.bin
 .add (.t 14) (.c (.s (.int .i64 1)))) 0, oM 5 15 0] 0)))))) (.seq (.reg [oM 36 3 0, oM 2 36 0] 0) .ret))))), [(.t 2)]⟩
def x76 : XFn := ⟨5, (.seq (.reg [oX 2 (.mv (.c (.s (.bool false)))) 0] 0) (.seq (.reg [oM 3 0 0, oX 4 (.bin .gtr (.t 3) (.c (.s (.int .i64 0)))) 0, oM 2 4 0] 0)
 .ret)), [(.t 2)]⟩
def x77 : XFn := ⟨24, (.seq (.reg [oX 4 (.alloc 41 (.s .nils)) 0, oX 5 (.alloc 4 (.s (.bool false))) 1, oX 6 (.alloc 25 (.s (.int .i64 0))) 2] 3) (.seq (.reg [oM
 11 0 0, oM 12 1 0, oX 13 (.call (.c (.s (.fn 106 []))) [(.t 11), (.t 12)]) 0, oM 10 13 8, oX 14 (.extr (.t 10) 0) 8, oX 15 (.extr (.t 10) 1) 8, oM 7 14 8, oM 8
 15 8] 8) (.seq (.seq (.reg [oM 16 8 0, oX 17 (.bin .neq (.t 16) (.c (.s (.int .i64 0)))) 0] 0) (.cond (.t 17) (.seq (.reg [oM 18 8 0, oN (.st .one (.t 4) (.c
 (.s .nils))) 0, oN (.st .one (.t 5) (.c (.s (.bool false)))) 0, oN (.st .one (.t 6) (.t 18)) 0] 0) .ret) .skip)) (.seq (.seq (.reg [oM 19 7 0, oX 20 (.call (.c
 (.s (.fn 107 []))) [(.t 19)]) 0] 8) (.block 0 (.rf (.t 20) [21] (.reg [oM 9 21 0] 0) (.block 1 (.seq (.reg [oM 22 9 0, oX 23 (.call (.c (.s (.fn 99 []))) [(.t
 22)]) 0, oN (.st .one (.t 4) (.t 23)) 8, oN (.st .one (.t 5) (.c (.s (.bool true)))) 8, oN (.st .one (.t 6) (.c (.s (.int .i64 0)))) 8] 8) .ret))))) (.seq (.reg
 [oN (.st .one (.t 4) (.c (.s .nils))) 0, oN (.st .one (.t 5) (.c (.s (.bool false)))) 0, oN (.st .one (.t 6) (.c (.s (.int .i64 0)))) 0] 0) .ret))))), [(.cell 4
 .one), (.cell 5 .one), (.cell 6 .one)]⟩
def x78 : XFn := ⟨18, (.seq (.reg [oX 3 (.box 38 (.t 1)) 0, oX 4 (.mv (.c (.s (.bool false)))) 1] 1) (.seq (.seq (.reg [oX 5 (.mv (.c (.s (.int .i64 0)))) 0] 0)
 (.block 0 (.loop (.seq (.seq (.reg [oM 6 5 0, oM 7 0 0, oX 8 (.len (.t 7)) 0, oX 9 (.bin .lss (.t 6) (.t 8)) 0] 0) (.cond (.t 9) .skip (.exit 0))) (.seq (.block
 1 (.seq (.regD [oM 12 0 0, oM 13 5 0, oX 14 (.iadS 2 (.t 12) (.t 13)) 0, oX 15 (.ld (.many 2 0) (.t 14)) 0, oX 16 (.ld (.many 2 0) (.t 3)) 0, oX 17 (.eqv (.agg
 2 0) false (.t 15) (.t 16)) 0] 0 []) (.cond (.t 17) (.seq (.reg [oX 4 (.mv (.c (.s (.bool true)))) 0] 0) .ret) .skip))) (.reg [oM 10 5 0, oX 11 (.bin .add (.t
 10) (.c (.s (.int .i64 1)))) 0, oM 5 11 0] 0)))))) (.seq (.reg [oX 4 (.mv (.c (.s (.bool false)))) 0] 0) .ret))), [(.t 4)]⟩
def x79 : XFn := ⟨24, (.seq (.reg [oX 2 (.box 38 (.t 0)) 0, oX 3 (.box 38 (.t 1)) 1, oX 4 (.mv (.c (.s (.bool false)))) 2] 2) (.seq (.reg [oX 5 (.iad 2 1 (.t 2)
 (.c (.s (.int .i64 0)))) 0, oX 6 (.ld .one (.t 5)) 0, oX 7 (.iad 2 1 (.t 3) (.c (.s (.int .i64 0)))) 0, oX 8 (.ld .one (.t 7)) 0, oX 9 (.bin .lss (.t 6) (.t 8))
 0, oM 10 9 0, oG 11 10 false (.iad 2 1 (.t 2) (.c (.s (.int .i64 0)))) 0, oG 12 10 false (.ld .one (.t 11)) 0, oG 13 10 false (.iad 2 1 (.t 3) (.c (.s (.int
 .i64 0)))) 0, oG 14 10 false (.ld .one (.t 13)) 0, oG 15 10 false (.bin .eql (.t 12) (.t 14)) 0, oG 16 10 false (.mv (.t 15)) 0, oG 17 16 true (.iad 2 1 (.t 2)
 (.c (.s (.int .i64 1)))) 0, oG 18 16 true (.ld .one (.t 17)) 0, oG 19 16 true (.iad 2 1 (.t 3) (.c (.s (.int .i64 1)))) 0, oG 20 16 true (.ld .one (.t 19)) 0,
 oG 21 16 true (.bin .lss (.t 18) (.t 20)) 0, oG 22 10 false (.pick (.t 16) (.t 21) (.c (.s (.bool false)))) 0, oX 23 (.pick (.t 10) (.c (.s (.bool true))) (.t
 22)) 0, oM 4 23 0] 0) .ret)), [(.t 4)]⟩
def x93 : XFn := ⟨36, (.seq (.reg [oX 4 (.mv (.c (.s (.int .i64 0)))) 0] 0) (.seq (.seq (.reg [oM 9 0 0, oX 10 (.len (.t 9)) 0, oX 11 (.mv (.c (.s (.int .i64
 0)))) 0] 0) (.block 0 (.loop (.seq (.reg [oX 12 (.bin .lss (.t 11) (.t 10)) 0] 0) (.seq (.cond (.t 12) .skip (.exit 0)) (.seq (.block 1 (.seq (.reg [oM 13 11 0,
 oX 14 (.iadS 1 (.t 9) (.t 11)) 0, oX 15 (.ld .one (.t 14)) 0, oM 5 13 0, oM 6 15 0] 0) (.seq (.seq (.reg [oM 16 5 0, oM 17 1 0, oX 18 (.len (.t 17)) 0, oX 19
 (.bin .geq (.t 16) (.t 18)) 0] 0) (.cond (.t 19) (.seq (.reg [oX 4 (.mv (.c (.s (.int .i64 1)))) 0] 0) .ret) .skip)) (.seq (.reg [oM 20 1 0, oM 21 5 0, oX 22
 (.iadS 1 (.t 20) (.t 21)) 0, oX 23 (.ld .one (.t 22)) 0, oM 7 23 0] 0) (.seq (.reg [oM 24 6 0, oM 25 7 0, oX 26 (.call (.c (.s (.fn 112 []))) [(.t 24), (.t
 25)]) 0, oM 8 26 8] 8) (.seq (.reg [oM 27 8 0, oX 28 (.bin .neq (.t 27) (.c (.s (.int .i64 0)))) 0] 0) (.cond (.t 28) (.seq (.reg [oM 29 8 0, oM 4 29 0] 0)
 .ret) .skip))))))) (.reg [oX 30 (.bin .add (.t 11) (.c (.s (.int .i64 1)))) 0, oM 11 30 0] 0))))))) (.seq (.seq (.reg [oM 31 0 0, oX 32 (.len (.t 31)) 0, oM 33
 1 0, oX 34 (.len (.t 33)) 0, oX 35 (.bin .lss (.t 32) (.t 34)) 0] 0) (.cond (.t 35) (.seq (.reg [oX 4 (.mv (.c (.s (.int .i64 (-1))))) 0] 0) .ret) .skip)) (.seq
 (.reg [oX 4 (.mv (.c (.s (.int .i64 0)))) 0] 0) .ret)))), [(.t 4)]⟩
def x95 : XFn := ⟨25, (.seq (.reg [oX 5 (.mv (.c (.s (.int .i64 0)))) 0] 0) (.seq (.reg [oX 6 (.mv (.c (.s (.int .i64 0)))) 0] 0) (.seq (.seq (.reg [oX 8 (.ld
 .one (.t 1)) 0, oX 9 (.mv (.c (.s (.int .i64 0)))) 0] 0) (.block 0 (.loop (.seq (.reg [oX 10 (.bin .lss (.t 9) (.t 8)) 0] 0) (.seq (.cond (.t 10) .skip (.exit
 0)) (.seq (.block 1 (.seq (.reg [oM 11 9 0, oM 7 11 0] 0) (.seq (.reg [oM 12 7 0, oM 13 0 0, oX 14 (.iad 7 7 (.t 2) (.t 12)) 0, oX 15 (.iad 7 1 (.t 14) (.t 13))
 0, oX 16 (.ld .one (.t 15)) 0] 0) (.cond (.t 16) (.reg [oM 17 6 0, oX 18 (.ld .one (.t 3)) 0, oM 19 7 0, oX 20 (.call (.t 18) [(.t 19)]) 0, oX 21 (.bin .add (.t
 20) (.c (.s (.int .i64 1)))) 8, oX 22 (.mx [(.t 17), (.t 21)]) 8, oM 6 22 8] 8) .skip)))) (.reg [oX 23 (.bin .add (.t 9) (.c (.s (.int .i64 1)))) 0, oM 9 23 0]
 0))))))) (.seq (.reg [oM 24 6 0, oM 5 24 0] 0) .ret)))), [(.t 5)]⟩
def x96 : XFn := ⟨19, (.seq (.reg [oX 4 (.mv (.c (.s (.int .i64 0)))) 0] 0) (.seq (.seq (.reg [oM 6 0 0, oX 7 (.len (.t 6)) 0, oX 8 (.mv (.c (.s (.int .i64 0))))
 0] 0) (.block 0 (.loop (.seq (.reg [oX 9 (.bin .lss (.t 8) (.t 7)) 0] 0) (.seq (.cond (.t 9) .skip (.exit 0)) (.seq (.block 1 (.seq (.reg [oM 10 8 0, oM 5 10 0]
 0) (.seq (.reg [oM 11 1 0, oM 12 0 0, oM 13 5 0, oX 14 (.iadS 1 (.t 12) (.t 13)) 0, oX 15 (.ld .one (.t 14)) 0, oX 16 (.call (.t 11) [(.t 15)]) 0] 8) (.cond (.t
 16) (.seq (.reg [oM 17 5 0, oM 4 17 0] 0) .ret) .skip)))) (.reg [oX 18 (.bin .add (.t 8) (.c (.s (.int .i64 1)))) 0, oM 8 18 0] 0))))))) (.seq (.reg [oX 4 (.mv
 (.c (.s (.int .i64 (-1))))) 0] 0) .ret))), [(.t 4)]⟩
def x97 : XFn := ⟨38, (.seq (.reg [oX 1 (.box 95 (.t 0)) 0, oX 2 (.mv (.c (.s .nils))) 1] 1) (.scope (.seq (.reg [oX 3 (.mv (.c (.s .nils))) 0] 0) (.seq (.label
 0) (.seq (.seq (.reg [oX 8 (.ld (.many 0 64) (.t 1)) 0, oX 9 (.mv (.c (.s (.int .i64 0)))) 0] 0) (.block 0 (.loop (.seq (.reg [oX 10 (.bin .lss (.t 9) (.c (.s
 (.int .i64 64)))) 0] 0) (.seq (.cond (.t 10) .skip (.exit 0)) (.seq (.block 1 (.seq (.reg [oM 11 9 0, oX 12 (.idx 64 1 .one (.t 8) (.t 9)) 0, oM 4 11 0, oM 5 12
 0] 0) (.seq (.seq (.reg [oM 13 5 0, oX 14 (.not (.t 13)) 0] 0) (.cond (.t 14) (.exit 1) .skip)) (.seq (.seq (.reg [oX 15 (.mv (.c (.s (.int .i64 0)))) 0] 0)
 (.block 2 (.loop (.seq (.reg [oX 16 (.bin .lss (.t 15) (.c (.s (.int .i64 6)))) 0] 0) (.seq (.cond (.t 16) .skip (.exit 2)) (.seq (.block 3 (.seq (.reg [oM 17
 15 0, oM 6 17 0] 0) (.seq (.reg [oM 18 4 0, oM 19 6 0, oX 20 (.conv .u64 (.t 19)) 0, oX 21 (.bin .shl (.c (.s (.int .i64 1))) (.t 20)) 0, oX 22 (.bin .or (.t
 18) (.t 21)) 0, oM 7 22 0] 0) (.seq (.reg [oM 23 7 0, oM 24 4 0, oX 25 (.bin .neq (.t 23) (.t 24)) 0, oM 26 25 0, oG 27 26 true (.mv (.t 7)) 0, oG 28 26 true
 (.iad 64 1 (.t 1) (.t 27)) 0, oG 29 26 true (.ld .one (.t 28)) 0, oX 30 (.pick (.t 26) (.t 29) (.c (.s (.bool false)))) 0] 0) (.cond (.t 30) (.exit 1)
 .skip))))) (.reg [oX 31 (.bin .add (.t 15) (.c (.s (.int .i64 1)))) 0, oM 15 31 0] 0))))))) (.reg [oM 32 3 0, oM 33 4 0, oX 34 (.bsl 3 .i64 1 1 [(0, (.t 33))])
 0, oX 35 (.app 3 .i64 1 (.t 32) (.t 34)) 1, oM 3 35 2] 2))))) (.reg [oX 36 (.bin .add (.t 9) (.c (.s (.int .i64 1)))) 0, oM 9 36 0] 0))))))) (.seq (.reg [oM 37
 3 0, oM 2 37 0] 0) .ret)))))), [(.t 2)]⟩
def x98 : XFn := ⟨4, (.seq (.reg [oX 1 (.box 3 (.t 0)) 0, oX 2 (.mv (.c (.s .nilf))) 1] 1) (.seq (.reg [oX 3 (.mkf 114 [(.t 1)]) 0, oM 2 3 0] 0) .ret)), [(.t
 2)]⟩
def x99 : XFn := ⟨8, (.seq (.reg [oX 2 (.mv (.c (.s .nils))) 0] 0) (.seq (.seq (.reg [oM 3 0 0, oX 4 (.eqv .nil false (.t 3) (.c (.s .nils))) 0] 0) (.cond (.t 4)
 (.seq (.reg [oX 2 (.mv (.c (.s .nils))) 0] 0) .ret) .skip)) (.seq (.reg [oX 5 (.bsl 3 .i64 1 0 []) 0, oM 6 0 1, oX 7 (.app 3 .i64 1 (.t 5) (.t 6)) 1, oM 2 7 2]
 2) .ret))), [(.t 2)]⟩
def x100 : XFn := ⟨21, (.seq (.reg [oX 2 (.mv (.c (.s (.int .i64 0)))) 0] 0) (.seq (.reg [oX 3 (.mv (.c (.s (.int .i64 0)))) 0] 0) (.seq (.seq (.reg [oM 6 0 0,
 oX 7 (.nck (.t 6)) 0, oX 8 (.fad 1 (.t 7)) 0, oX 9 (.ld .one (.t 8)) 0, oX 10 (.len (.t 9)) 0, oX 11 (.mv (.c (.s (.int .i64 0)))) 0] 0) (.block 0 (.loop (.seq
 (.reg [oX 12 (.bin .lss (.t 11) (.t 10)) 0] 0) (.seq (.cond (.t 12) .skip (.exit 0)) (.seq (.block 1 (.seq (.reg [oX 13 (.iadS 1 (.t 9) (.t 11)) 0, oX 14 (.ld
 .one (.t 13)) 0, oM 5 14 0] 0) (.reg [oM 15 3 0, oM 16 5 0, oX 17 (.call (.c (.s (.fn 101 []))) [(.t 16)]) 0, oX 18 (.mx [(.t 15), (.t 17)]) 8, oM 3 18 8] 8)))
 (.reg [oX 19 (.bin .add (.t 11) (.c (.s (.int .i64 1)))) 0, oM 11 19 0] 0))))))) (.seq (.reg [oM 20 3 0, oM 2 20 0] 0) .ret)))), [(.t 2)]⟩
def x101 : XFn := ⟨6, (.seq (.reg [oX 2 (.mv (.c (.s (.int .i64 0)))) 0] 0) (.seq (.reg [oM 3 0 0, oX 4 (.conv .u64 (.t 3)) 0, oX 5 (.call (.c (.s (.fn 115 [])))
 [(.t 4)]) 0, oM 2 5 8] 8) .ret)), [(.t 2)]⟩
def x102 : XFn := ⟨43, (.seq (.reg [oX 7 (.ld (.many 0 64) (.t 1)) 0, oX 8 (.mv (.c (.s (.int .i64 0)))) 0] 0) (.block 0 (.loop (.seq (.reg [oX 9 (.bin .lss (.t
 8) (.c (.s (.int .i64 64)))) 0] 0) (.seq (.cond (.t 9) .skip (.exit 0)) (.seq (.block 1 (.seq (.reg [oM 10 8 0, oX 11 (.idx 64 1 .one (.t 7) (.t 8)) 0, oM 3 10
 0, oM 4 11 0] 0) (.seq (.reg [oX 12 (.mv (.c (.s (.int .i64 0)))) 0] 0) (.block 2 (.loop (.seq (.reg [oX 13 (.bin .lss (.t 12) (.c (.s (.int .i64 6)))) 0] 0)
 (.seq (.cond (.t 13) .skip (.exit 2)) (.seq (.block 3 (.seq (.reg [oM 14 12 0, oM 5 14 0] 0) (.seq (.reg [oM 15 3 0, oM 16 3 0, oM 17 5 0, oX 18 (.conv .u64 (.t
 17)) 0, oX 19 (.bin .shl (.c (.s (.int .i64 1))) (.t 18)) 0, oX 20 (.bin .or (.t 16) (.t 19)) 0, oX 21 (.bld (.pb [(.int .i64 0), (.int .i64 0)] 0 ff) [((0, 1),
 (.t 15)), ((1, 1), (.t 20))]) 0, oX 6 (.alloc 108 (.pb [(.int .i64 0), (.int .i64 0)] 0 ff)) 0, oN (.st (.many 2 0) (.t 6) (.t 21)) 1] 1) (.seq (.reg [oM 22 4
 0, oM 23 22 0, oG 24 23 true (.ld (.many 2 0) (.t 6)) 0, oG 25 23 true (.mv (.t 3)) 0, oG 26 23 true (.mv (.t 3)) 0, oG 27 23 true (.bld (.pb [(.int .i64 0),
 (.int .i64 0)] 0 ff) [((0, 1), (.t 25)), ((1, 1), (.t 26))]) 0, oG 28 23 true (.eqv (.agg 2 0) true (.t 24) (.t 27)) 0, oX 29 (.pick (.t 23) (.t 28) (.c (.s
 (.bool false)))) 0, oM 30 29 0, oG 31 30 true (.ld (.many 0 64) (.t 1)) 0, oG 32 30 true (.ld (.many 2 0) (.t 6)) 0, oG 33 30 true (.call (.c (.s (.fn 103 [])))
 [(.t 31), (.t 32)]) 0, oX 34 (.pick (.t 30) (.t 33) (.c (.s (.bool false)))) 8, oM 35 34 8, oG 36 35 true (.mv (.t 0)) 8, oG 37 35 true (.ld (.many 2 0) (.t 6))
 8, oG 38 35 true (.call (.t 36) [(.t 37)]) 8, oG 39 35 true (.not (.t 38)) 16, oX 40 (.pick (.t 35) (.t 39) (.c (.s (.bool false)))) 16] 16) (.cond (.t 40) .ret
 .skip))))) (.reg [oX 41 (.bin .add (.t 12) (.c (.s (.int .i64 1)))) 0, oM 12 41 0] 0))))))))) (.reg [oX 42 (.bin .add (.t 8) (.c (.s (.int .i64 1)))) 0, oM 8 42
 0] 0))))))), []⟩
def x103 : XFn := ⟨83, (.seq (.reg [oX 2 (.box 95 (.t 0)) 0, oX 3 (.box 108 (.t 1)) 1, oX 4 (.mv (.c (.s (.bool false)))) 2] 2) (.seq (.seq (.regD [oX 7 (.fad 0
 (.t 3)) 0, oX 8 (.ld .one (.t 7)) 0, oX 9 (.bin .lss (.t 8) (.c (.s (.int .i64 1)))) 0, oM 10 9 0, oG 11 10 false (.fad 0 (.t 3)) 0, oG 12 10 false (.ld .one
 (.t 11)) 0, oG 13 10 false (.bin .geq (.t 12) (.c (.s (.int .i64 64)))) 0, oX 14 (.pick (.t 10) (.c (.s (.bool true))) (.t 13)) 0, oM 15 14 0, oG 16 15 false
 (.fad 1 (.t 3)) 0, oG 17 15 false (.ld .one (.t 16)) 0, oG 18 15 false (.bin .geq (.t 17) (.c (.s (.int .i64 64)))) 0, oX 19 (.pick (.t 15) (.c (.s (.bool
 true))) (.t 18)) 0, oM 20 19 0, oG 21 20 false (.fad 1 (.t 3)) 0, oG 22 20 false (.ld .one (.t 21)) 0, oG 23 20 false (.bin .lss (.t 22) (.c (.s (.int .i64
 1)))) 0, oX 24 (.pick (.t 20) (.c (.s (.bool true))) (.t 23)) 0, oM 25 24 0, oG 26 25 false (.fad 0 (.t 3)) 0, oG 27 25 false (.ld .one (.t 26)) 0, oG 28 25
 false (.iad 64 1 (.t 2) (.t 27)) 0, oG 29 25 false (.ld .one (.t 28)) 0, oG 30 25 false (.not (.t 29)) 0, oX 31 (.pick (.t 25) (.c (.s (.bool true))) (.t 30))
 0, oM 32 31 0, oG 33 32 false (.fad 1 (.t 3)) 0, oG 34 32 false (.ld .one (.t 33)) 0, oG 35 32 false (.iad 64 1 (.t 2) (.t 34)) 0, oG 36 32 false (.ld .one (.t
 35)) 0, oG 37 32 false (.not (.t 36)) 0, oX 38 (.pick (.t 32) (.c (.s (.bool true))) (.t 37)) 0, oM 39 38 0, oG 40 39 false (.fad 0 (.t 3)) 0, oG 41 39 false
 (.ld .one (.t 40)) 0, oG 42 39 false (.fad 1 (.t 3)) 0, oG 43 39 false (.ld .one (.t 42)) 0, oG 44 39 false (.bin .andNot (.t 41) (.t 43)) 0, oG 45 39 false
 (.bin .neq (.t 44) (.c (.s (.int .i64 0)))) 0, oX 46 (.pick (.t 39) (.c (.s (.bool true))) (.t 45)) 0, oM 47 46 0, oG 48 47 false (.fad 1 (.t 3)) 0, oG 49 47
 false (.ld .one (.t 48)) 0, oG 50 47 false (.call (.c (.s (.fn 101 []))) [(.t 49)]) 0, oG 51 47 false (.fad 0 (.t 3)) 8, oG 52 47 false (.ld .one (.t 51)) 8, oG
 53 47 false (.call (.c (.s (.fn 101 []))) [(.t 52)]) 8, oG 54 47 false (.bin .add (.t 53) (.c (.s (.int .i64 1)))) 16, oG 55 47 false (.bin .neq (.t 50) (.t
 54)) 16, oX 56 (.pick (.t 47) (.c (.s (.bool true))) (.t 55)) 16] 16 [(43, 45)]) (.cond (.t 56) (.seq (.reg [oX 4 (.mv (.c (.s (.bool false)))) 0] 0) .ret)
 .skip)) (.seq (.seq (.reg [oX 57 (.ld (.many 0 64) (.t 2)) 0, oX 58 (.mv (.c (.s (.int .i64 0)))) 0] 0) (.block 0 (.loop (.seq (.reg [oX 59 (.bin .lss (.t 58)
 (.c (.s (.int .i64 64)))) 0] 0) (.seq (.cond (.t 59) .skip (.exit 0)) (.seq (.block 1 (.seq (.reg [oM 60 58 0, oX 61 (.idx 64 1 .one (.t 57) (.t 58)) 0, oM 5 60
 0, oM 6 61 0] 0) (.seq (.reg [oM 62 6 0, oM 63 62 0, oG 64 63 true (.mv (.t 5)) 0, oG 65 63 true (.fad 0 (.t 3)) 0, oG 66 63 true (.ld .one (.t 65)) 0, oG 67 63
 true (.bin .neq (.t 64) (.t 66)) 0, oX 68 (.pick (.t 63) (.t 67) (.c (.s (.bool false)))) 0, oM 69 68 0, oG 70 69 true (.mv (.t 5)) 0, oG 71 69 true (.fad 1 (.t
 3)) 0, oG 72 69 true (.ld .one (.t 71)) 0, oG 73 69 true (.bin .neq (.t 70) (.t 72)) 0, oX 74 (.pick (.t 69) (.t 73) (.c (.s (.bool false)))) 0, oM 75 74 0, oG
 76 75 true (.fad 0 (.t 3)) 0, oG 77 75 true (.ld .one (.t 76)) 0, oG 78 75 true (.mv (.t 5)) 0, oG 79 75 true (.bin .andNot (.t 77) (.t 78)) 0, oG 80 75 true
 (.bin .eql (.t 79) (.c (.s (.int .i64 0)))) 0, oX 81 (.pick (.t 75) (.t 80) (.c (.s (.bool false)))) 0] 0) (.cond (.t 81) (.seq (.reg [oX 4 (.mv (.c (.s (.bool
 false)))) 0] 0) .ret) .skip)))) (.reg [oX 82 (.bin .add (.t 58) (.c (.s (.int .i64 1)))) 0, oM 58 82 0] 0))))))) (.seq (.reg [oX 4 (.mv (.c (.s (.bool true))))
 0] 0) .ret)))), [(.t 4)]⟩
def x104 : XFn := ⟨58, (.seq (.reg [oX 2 (.mv (.c (.s (.int .i64 0)))) 0] 0) (.seq (.reg [oX 3 (.mv (.c (.s (.int .i64 0)))) 0] 0) (.seq (.reg [oM 7 0 0, oX 8
 (.call (.c (.s (.fn 116 []))) [(.t 7)]) 0, oM 0 8 8] 8) (.seq (.seq (.reg [oM 9 0 0, oX 10 (.len (.t 9)) 0, oX 11 (.mv (.c (.s (.int .i64 0)))) 0] 0) (.block 0
 (.loop (.seq (.reg [oX 12 (.bin .lss (.t 11) (.t 10)) 0] 0) (.seq (.cond (.t 12) .skip (.exit 0)) (.seq (.block 1 (.seq (.reg [oM 13 11 0, oM 4 13 0] 0) (.seq
 (.seq (.reg [oM 14 0 0, oM 15 4 0, oX 16 (.iadS 1 (.t 14) (.t 15)) 0, oX 17 (.ld .one (.t 16)) 0, oX 18 (.bin .eql (.t 17) (.c (.s (.int .u64 0)))) 0] 0) (.cond
 (.t 18) (.exit 1) .skip)) (.seq (.reg [oM 19 3 0, oX 20 (.bin .add (.t 19) (.c (.s (.int .i64 1)))) 0, oM 3 20 0] 0) (.seq (.regD [oM 21 0 0, oM 22 4 0, oX 23
 (.iadS 1 (.t 21) (.t 22)) 0, oX 24 (.ld .one (.t 23)) 0, oM 25 0 0, oM 26 4 0, oX 27 (.iadS 1 (.t 25) (.t 26)) 0, oX 28 (.ld .one (.t 27)) 0, oX 29 (.neg (.t
 28)) 0, oX 30 (.bin .and (.t 24) (.t 29)) 0, oM 5 30 0] 0 []) (.seq (.reg [oM 31 4 0, oX 32 (.bin .add (.t 31) (.c (.s (.int .i64 1)))) 0, oM 6 32 0] 0) (.block
 2 (.loop (.seq (.seq (.reg [oM 33 6 0, oM 34 0 0, oX 35 (.len (.t 34)) 0, oX 36 (.bin .lss (.t 33) (.t 35)) 0] 0) (.cond (.t 36) .skip (.exit 2))) (.seq (.block
 3 (.seq (.reg [oM 39 0 0, oM 40 6 0, oX 41 (.iadS 1 (.t 39) (.t 40)) 0, oX 42 (.ld .one (.t 41)) 0, oM 43 5 0, oX 44 (.bin .and (.t 42) (.t 43)) 0, oX 45 (.bin
 .neq (.t 44) (.c (.s (.int .u64 0)))) 0] 0) (.cond (.t 45) (.regD [oM 46 0 0, oM 47 6 0, oX 48 (.iadS 1 (.t 46) (.t 47)) 0, oX 49 (.ld .one (.t 48)) 0, oM 50 0
 0, oM 51 4 0, oX 52 (.iadS 1 (.t 50) (.t 51)) 0, oX 53 (.ld .one (.t 52)) 0, oX 54 (.bin .xor (.t 49) (.t 53)) 0, oX 55 (.iadS 1 (.t 46) (.t 47)) 0, oN (.st
 .one (.t 55) (.t 54)) 0] 0 []) .skip))) (.reg [oM 37 6 0, oX 38 (.bin .add (.t 37) (.c (.s (.int .i64 1)))) 0, oM 6 38 0] 0))))))))))) (.reg [oX 56 (.bin .add
 (.t 11) (.c (.s (.int .i64 1)))) 0, oM 11 56 0] 0))))))) (.seq (.reg [oM 57 3 0, oM 2 57 0] 0) .ret))))), [(.t 2)]⟩
def x105 : XFn := ⟨53, (.seq (.reg [oX 4 (.mv (.c (.s .nils))) 0] 0) (.seq (.reg [oX 5 (.mv (.c (.s .nils))) 0] 0) (.seq (.seq (.reg [oM 10 0 0, oX 11 (.nck (.t
 10)) 0, oX 12 (.fad 2 (.t 11)) 0, oX 13 (.ld (.many 0 64) (.t 12)) 0, oX 14 (.call (.c (.s (.fn 73 []))) [(.t 13)]) 0, oX 15 (.len (.t 14)) 8, oX 16 (.mv (.c
 (.s (.int .i64 0)))) 8] 8) (.block 0 (.loop (.seq (.reg [oX 17 (.bin .lss (.t 16) (.t 15)) 0] 0) (.seq (.cond (.t 17) .skip (.exit 0)) (.seq (.block 1 (.seq
 (.reg [oX 18 (.iadS 1 (.t 14) (.t 16)) 0, oX 19 (.ld .one (.t 18)) 0, oM 7 19 0] 0) (.seq (.seq (.reg [oM 20 7 0, oX 21 (.call (.c (.s (.fn 101 []))) [(.t 20)])
 0, oM 22 1 8, oX 23 (.bin .neq (.t 21) (.t 22)) 8] 8) (.cond (.t 23) (.exit 1) .skip)) (.seq (.reg [oX 8 (.mv (.c (.s (.int .u64 0)))) 0] 0) (.seq (.seq (.reg
 [oM 24 0 0, oX 25 (.nck (.t 24)) 0, oX 26 (.fad 0 (.t 25)) 0, oX 27 (.ld .one (.t 26)) 0, oX 28 (.mv (.c (.s (.int .i64 0)))) 0] 0) (.block 2 (.loop (.seq (.reg
 [oX 29 (.bin .lss (.t 28) (.t 27)) 0] 0) (.seq (.cond (.t 29) .skip (.exit 2)) (.seq (.block 3 (.seq (.reg [oM 30 28 0, oM 9 30 0] 0) (.seq (.reg [oM 31 7 0, oM
 32 9 0, oX 33 (.conv .u64 (.t 32)) 0, oX 34 (.bin .shr (.t 31) (.t 33)) 0, oX 35 (.bin .and (.t 34) (.c (.s (.int .i64 1)))) 0, oX 36 (.bin .eql (.t 35) (.c (.s
 (.int .i64 1)))) 0] 0) (.cond (.t 36) (.reg [oM 37 8 0, oM 38 7 0, oM 39 9 0, oX 40 (.conv .u64 (.t 39)) 0, oX 41 (.bin .shl (.c (.s (.int .i64 1))) (.t 40)) 0,
 oX 42 (.bin .andNot (.t 38) (.t 41)) 0, oX 43 (.conv .u64 (.t 42)) 0, oX 44 (.bin .shl (.c (.s (.int .u64 1))) (.t 43)) 0, oX 45 (.bin .or (.t 37) (.t 44)) 0,
 oM 8 45 0] 0) .skip)))) (.reg [oX 46 (.bin .add (.t 28) (.c (.s (.int .i64 1)))) 0, oM 28 46 0] 0))))))) (.reg [oM 47 5 0, oM 48 8 0, oX 49 (.bsl 140 .u64 1 1
 [(0, (.t 48))]) 0, oX 50 (.app 140 .u64 1 (.t 47) (.t 49)) 1, oM 5 50 2] 2)))))) (.reg [oX 51 (.bin .add (.t 16) (.c (.s (.int .i64 1)))) 0, oM 16 51 0]
 0))))))) (.seq (.reg [oM 52 5 0, oM 4 52 0] 0) .ret)))), [(.t 4)]⟩
def x106 : XFn := ⟨64, (.seq (.reg [oX 4 (.mv (.c (.s .nilp))) 0, oX 5 (.mv (.c (.s (.int .i64 0)))) 0] 0) (.seq (.seq (.reg [oM 8 0 0, oX 9 (.bin .lss (.t 8)
 (.c (.s (.int .i64 2)))) 0, oM 10 9 0, oG 11 10 false (.mv (.t 0)) 0, oG 12 10 false (.bin .gtr (.t 11) (.c (.s (.int .i64 7)))) 0, oX 13 (.pick (.t 10) (.c (.s
 (.bool true))) (.t 12)) 0] 0) (.cond (.t 13) (.seq (.reg [oX 4 (.mv (.c (.s .nilp))) 0, oX 5 (.mv (.c (.s (.int .i64 1)))) 0] 0) .ret) .skip)) (.seq (.seq (.reg
 [oM 14 1 0, oX 15 (.len (.t 14)) 0, oX 16 (.bin .lss (.t 15) (.c (.s (.int .i64 1)))) 0, oM 17 16 0, oG 18 17 false (.mv (.t 1)) 0, oG 19 17 false (.len (.t
 18)) 0, oG 20 17 false (.bin .gtr (.t 19) (.c (.s (.int .i64 10)))) 0, oX 21 (.pick (.t 17) (.c (.s (.bool true))) (.t 20)) 0] 0) (.cond (.t 21) (.seq (.reg [oX
 4 (.mv (.c (.s .nilp))) 0, oX 5 (.mv (.c (.s (.int .i64 20)))) 0] 0) .ret) .skip)) (.seq (.seq (.reg [oM 22 1 0, oX 23 (.len (.t 22)) 0, oX 24 (.mv (.c (.s
 (.int .i64 0)))) 0] 0) (.block 0 (.loop (.seq (.reg [oX 25 (.bin .lss (.t 24) (.t 23)) 0] 0) (.seq (.cond (.t 25) .skip (.exit 0)) (.seq (.block 1 (.seq (.reg
 [oM 26 24 0, oX 27 (.iadS 2 (.t 22) (.t 24)) 0, oX 28 (.ld (.many 2 0) (.t 27)) 0, oX 7 (.alloc 38 (.pb [(.int .i64 0), (.int .i64 0)] 0 ff)) 0, oM 6 26 1, oN
 (.st (.many 2 0) (.t 7) (.t 28)) 1] 1) (.seq (.regD [oX 29 (.iad 2 1 (.t 7) (.c (.s (.int .i64 0)))) 0, oX 30 (.ld .one (.t 29)) 0, oX 31 (.bin .lss (.t 30) (.c
 (.s (.int .i64 0)))) 0, oM 32 31 0, oG 33 32 false (.iad 2 1 (.t 7) (.c (.s (.int .i64 0)))) 0, oG 34 32 false (.ld .one (.t 33)) 0, oG 35 32 false (.iad 2 1
 (.t 7) (.c (.s (.int .i64 1)))) 0, oG 36 32 false (.ld .one (.t 35)) 0, oG 37 32 false (.bin .geq (.t 34) (.t 36)) 0, oX 38 (.pick (.t 32) (.c (.s (.bool
 true))) (.t 37)) 0, oM 39 38 0, oG 40 39 false (.iad 2 1 (.t 7) (.c (.s (.int .i64 1)))) 0, oG 41 39 false (.ld .one (.t 40)) 0, oG 42 39 false (.mv (.t 0)) 0,
 oG 43 39 false (.bin .geq (.t 41) (.t 42)) 0, oX 44 (.pick (.t 39) (.c (.s (.bool true))) (.t 43)) 0, oM 45 44 0, oG 46 45 false (.mv (.t 6)) 0, oG 47 45 false
 (.bin .gtr (.t 46) (.c (.s (.int .i64 0)))) 0, oG 48 45 false (.mv (.t 47)) 0, oG 49 48 true (.mv (.t 1)) 0, oG 50 48 true (.mv (.t 6)) 0, oG 51 48 true (.bin
 .sub (.t 50) (.c (.s (.int .i64 1)))) 0, oG 52 48 true (.iadS 2 (.t 49) (.t 51)) 0, oG 53 48 true (.slcA 2 1 (.t 52) none none) 0, oG 54 48 true (.slcA 2 1 (.t
 7) none none) 0, oG 55 48 true (.call (.c (.s (.fn 93 []))) [(.t 53), (.t 54)]) 0, oG 56 48 true (.bin .geq (.t 55) (.c (.s (.int .i64 0)))) 8, oG 57 45 false
 (.pick (.t 48) (.t 56) (.c (.s (.bool false)))) 8, oX 58 (.pick (.t 45) (.c (.s (.bool true))) (.t 57)) 8] 8 []) (.cond (.t 58) (.seq (.reg [oX 4 (.mv (.c (.s
 .nilp))) 0, oX 5 (.mv (.c (.s (.int .i64 20)))) 0] 0) .ret) .skip)))) (.reg [oX 59 (.bin .add (.t 24) (.c (.s (.int .i64 1)))) 0, oM 24 59 0] 0))))))) (.seq
 (.reg [oM 60 0 0, oM 61 1 0, oX 62 (.bld (.pb [(.int .i64 0), .nils] 0 ff) [((0, 1), (.t 60)), ((1, 1), (.t 61))]) 0, oX 63 (.box 160 (.t 62)) 0, oM 4 63 1, oX
 5 (.mv (.c (.s (.int .i64 0)))) 1] 1) .ret))))), [(.t 4), (.t 5)]⟩
def x107 : XFn := ⟨4, (.seq (.reg [oX 1 (.box 143 (.t 0)) 0, oX 2 (.mv (.c (.s .nilf))) 1] 1) (.seq (.reg [oX 3 (.mkf 117 [(.t 1)]) 0, oM 2 3 0] 0) .ret)), [(.t
 2)]⟩
def x112 : XFn := ⟨20, (.seq (.reg [oX 4 (.mv (.c (.s (.int .i64 0)))) 0] 0) (.seq (.reg [oM 7 0 0, oX 8 (.call (.c (.s (.fn 122 []))) [(.t 7)]) 0, oM 5 8 8] 8)
 (.seq (.reg [oM 9 1 0, oX 10 (.call (.c (.s (.fn 122 []))) [(.t 9)]) 0, oM 6 10 8] 8) (.seq (.seq (.reg [oM 11 5 0] 0) (.cond (.t 11) (.seq (.seq (.reg [oM 12 6
 0] 0) (.cond (.t 12) (.seq (.reg [oX 4 (.mv (.c (.s (.int .i64 0)))) 0] 0) .ret) .skip)) (.seq (.reg [oX 4 (.mv (.c (.s (.int .i64 (-1))))) 0] 0) .ret)) .skip))
 (.seq (.seq (.reg [oM 13 6 0] 0) (.cond (.t 13) (.seq (.reg [oX 4 (.mv (.c (.s (.int .i64 1)))) 0] 0) .ret) .skip)) (.seq (.seq (.reg [oM 14 0 0, oM 15 1 0, oX
 16 (.bin .lss (.t 14) (.t 15)) 0] 0) (.cond (.t 16) (.seq (.reg [oX 4 (.mv (.c (.s (.int .i64 (-1))))) 0] 0) .ret) .skip)) (.seq (.seq (.reg [oM 17 0 0, oM 18 1
 0, oX 19 (.bin .gtr (.t 17) (.t 18)) 0] 0) (.cond (.t 19) (.seq (.reg [oX 4 (.mv (.c (.s (.int .i64 1)))) 0] 0) .ret) .skip)) (.seq (.reg [oX 4 (.mv (.c (.s
 (.int .i64 0)))) 0] 0) .ret)))))))), [(.t 4)]⟩
def x114 : XFn := ⟨18, (.seq (.reg [oX 3 (.mv (.c (.s (.int .i64 0)))) 0] 0) (.block 0 (.loop (.seq (.block 1 (.seq (.reg [oM 9 0 0, oM 10 3 0, oX 11 (.call (.t
 9) [(.t 10)]) 0, oX 12 (.not (.t 11)) 8, oM 13 12 8, oG 14 13 false (.mv (.t 3)) 8, oG 15 13 false (.ld .one (.t 1)) 8, oG 16 13 false (.bin .eql (.t 14) (.t
 15)) 8, oX 17 (.pick (.t 13) (.c (.s (.bool true))) (.t 16)) 8] 8) (.cond (.t 17) .ret .skip))) (.reg [oM 4 3 0, oX 5 (.ld .one (.t 1)) 0, oX 6 (.bin .sub (.t
 4) (.t 5)) 0, oX 7 (.ld .one (.t 1)) 0, oX 8 (.bin .and (.t 6) (.t 7)) 0, oM 3 8 0] 0))))), []⟩
def x115 : XFn := ⟨8, (.seq (.reg [oX 2 (.mv (.c (.s (.int .i64 0)))) 0] 0) (.seq (.cond (.c (.s (.bool false))) (.seq (.reg [oM 3 0 0, oX 4 (.conv .u32 (.t 3))
 0, oX 5 (.call (.c (.s (.fn 123 []))) [(.t 4)]) 0, oM 2 5 8] 8) .ret) .skip) (.seq (.reg [oM 6 0 0, oX 7 (.call (.c (.s (.fn 124 []))) [(.t 6)]) 0, oM 2 7 8] 8)
 .ret))), [(.t 2)]⟩
def x116 : XFn := ⟨8, (.seq (.reg [oX 2 (.mv (.c (.s .nils))) 0] 0) (.seq (.seq (.reg [oM 3 0 0, oX 4 (.eqv .nil false (.t 3) (.c (.s .nils))) 0] 0) (.cond (.t
 4) (.seq (.reg [oX 2 (.mv (.c (.s .nils))) 0] 0) .ret) .skip)) (.seq (.reg [oX 5 (.bsl 140 .u64 1 0 []) 0, oM 6 0 1, oX 7 (.app 140 .u64 1 (.t 5) (.t 6)) 1, oM
 2 7 2] 2) .ret))), [(.t 2)]⟩
def x117 : XFn := ⟨21, (.seq (.reg [oX 2 (.box 161 (.t 0)) 0] 1) (.seq (.reg [oX 8 (.ld .one (.t 1)) 0, oX 9 (.nck (.t 8)) 0, oX 10 (.fad 1 (.t 9)) 0, oX 11 (.ld
 .one (.t 10)) 0, oX 12 (.len (.t 11)) 0, oX 3 (.alloc 3 (.s (.int .i64 0))) 0, oN (.st .one (.t 3) (.t 12)) 1] 1) (.seq (.reg [oX 13 (.ld .one (.t 1)) 0, oX 14
 (.nck (.t 13)) 0, oX 15 (.fad 0 (.t 14)) 0, oX 16 (.ld .one (.t 15)) 0, oX 17 (.mkS 3 .i64 (.t 16)) 0, oX 4 (.alloc 41 (.s .nils)) 1, oN (.st .one (.t 4) (.t
 17)) 2] 2) (.seq (.reg [oX 5 (.alloc 163 (.pb [] 26 ff)) 0, oX 6 (.alloc 163 (.pb [] 26 ff)) 1] 2) (.seq (.reg [oX 7 (.alloc 92 (.s .nilf)) 0] 1) (.seq (.reg
 [oX 18 (.mkf 118 [(.t 1), (.t 2), (.t 4), (.t 3), (.t 5), (.t 6), (.t 7)]) 0, oN (.st .one (.t 7) (.t 18)) 0] 0) (.reg [oX 19 (.ld .one (.t 7)) 0, oX 20 (.call
 (.t 19) [(.c (.s (.int .i64 0)))]) 0] 8))))))), []⟩
def x118 : XFn := ⟨78, (.seq (.reg [oX 9 (.mv (.c (.s (.bool false)))) 0] 0) (.scope (.seq (.seq (.reg [oM 16 0 0, oX 17 (.ld .one (.t 1)) 0, oX 18 (.nck (.t
 17)) 0, oX 19 (.fad 0 (.t 18)) 0, oX 20 (.ld .one (.t 19)) 0, oX 21 (.bin .eql (.t 16) (.t 20)) 0] 0) (.cond (.t 21) (.seq (.reg [oX 22 (.ld .one (.t 2)) 0, oX
 23 (.ld .one (.t 3)) 0, oX 24 (.call (.t 22) [(.t 23)]) 0, oM 9 24 8] 8) .ret) .skip)) (.seq (.label 0) (.seq (.seq (.reg [oX 25 (.ld .one (.t 4)) 0, oX 26
 (.bin .add (.t 25) (.c (.s (.int .i64 1)))) 0, oX 27 (.mv (.c (.s (.int .i64 0)))) 0] 0) (.block 0 (.loop (.seq (.reg [oX 28 (.bin .lss (.t 27) (.t 26)) 0] 0)
 (.seq (.cond (.t 28) .skip (.exit 0)) (.seq (.block 1 (.seq (.reg [oM 29 27 0, oM 10 29 0] 0) (.seq (.seq (.reg [oM 30 10 0, oX 31 (.iad 26 1 (.t 5) (.t 30)) 0,
 oX 32 (.ld .one (.t 31)) 0] 0) (.cond (.t 32) (.exit 1) .skip)) (.seq (.reg [oX 33 (.ld (.many 0 26) (.t 6)) 0, oX 11 (.alloc 163 (.pb [] 26 ff)) 0, oN (.st
 (.many 0 26) (.t 11) (.t 33)) 1] 1) (.seq (.seq (.reg [oX 34 (.ld .one (.t 1)) 0, oX 35 (.nck (.t 34)) 0, oX 36 (.fad 1 (.t 35)) 0, oX 37 (.ld .one (.t 36)) 0,
 oX 38 (.len (.t 37)) 0, oX 39 (.mv (.c (.s (.int .i64 0)))) 0] 0) (.block 2 (.loop (.seq (.reg [oX 40 (.bin .lss (.t 39) (.t 38)) 0] 0) (.seq (.cond (.t 40)
 .skip (.exit 2)) (.seq (.block 3 (.seq (.reg [oX 41 (.iadS 2 (.t 37) (.t 39)) 0, oX 42 (.ld (.many 2 0) (.t 41)) 0, oX 13 (.alloc 38 (.pb [(.int .i64 0), (.int
 .i64 0)] 0 ff)) 0, oN (.st (.many 2 0) (.t 13) (.t 42)) 1] 1) (.seq (.seq (.reg [oX 43 (.iad 2 1 (.t 13) (.c (.s (.int .i64 1)))) 0, oX 44 (.ld .one (.t 43)) 0,
 oM 45 0 0, oX 46 (.bin .neq (.t 44) (.t 45)) 0] 0) (.cond (.t 46) (.exit 3) .skip)) (.seq (.reg [oX 47 (.ld .one (.t 3)) 0, oX 48 (.iad 2 1 (.t 13) (.c (.s
 (.int .i64 0)))) 0, oX 49 (.ld .one (.t 48)) 0, oX 50 (.iadS 1 (.t 47) (.t 49)) 0, oX 51 (.ld .one (.t 50)) 0, oM 52 10 0, oX 53 (.bsl 3 .i64 1 2 [(0, (.t 51)),
 (1, (.t 52))]) 0, oX 54 (.call (.c (.s (.fn 119 []))) [(.t 53)]) 1, oM 14 54 9] 9) (.seq (.seq (.reg [oM 55 14 0, oX 56 (.iad 26 1 (.t 6) (.t 55)) 0, oX 57 (.ld
 .one (.t 56)) 0] 0) (.cond (.t 57) (.seq (.reg [oX 58 (.ld (.many 0 26) (.t 11)) 0, oN (.st (.many 0 26) (.t 6) (.t 58)) 0] 0) (.exit 1)) .skip)) (.reg [oM 59
 14 0, oX 60 (.iad 26 1 (.t 6) (.t 59)) 0, oN (.st .one (.t 60) (.c (.s (.bool true)))) 0] 0)))))) (.reg [oX 61 (.bin .add (.t 39) (.c (.s (.int .i64 1)))) 0, oM
 39 61 0] 0))))))) (.seq (.reg [oX 62 (.ld .one (.t 3)) 0, oM 63 0 0, oM 64 10 0, oM 65 10 0, oX 66 (.iadS 1 (.t 62) (.t 63)) 0, oN (.st .one (.t 66) (.t 65)) 0,
 oX 67 (.iad 26 1 (.t 5) (.t 64)) 0, oN (.st .one (.t 67) (.c (.s (.bool true)))) 0] 0) (.seq (.reg [oX 68 (.ld .one (.t 7)) 0, oM 69 0 0, oX 70 (.bin .add (.t
 69) (.c (.s (.int .i64 1)))) 0, oX 71 (.call (.t 68) [(.t 70)]) 0, oM 15 71 8] 8) (.seq (.regD [oM 72 10 0, oX 73 (.ld (.many 0 26) (.t 11)) 0, oX 74 (.iad 26 1
 (.t 5) (.t 72)) 0, oN (.st .one (.t 74) (.c (.s (.bool false)))) 0, oN (.st (.many 0 26) (.t 6) (.t 73)) 0] 0 [(1, 3)]) (.seq (.reg [oM 75 15 0, oX 76 (.not (.t
 75)) 0] 0) (.cond (.t 76) (.seq (.reg [oX 9 (.mv (.c (.s (.bool false)))) 0] 0) .ret) .skip)))))))))) (.reg [oX 77 (.bin .add (.t 27) (.c (.s (.int .i64 1))))
 0, oM 27 77 0] 0))))))) (.seq (.reg [oX 9 (.mv (.c (.s (.bool true)))) 0] 0) .ret)))))), [(.t 9)]⟩
def x119 : XFn := ⟨8, (.seq (.reg [oX 2 (.mv (.c (.s (.int .i64 0)))) 0] 0) (.seq (.reg [oM 3 0 0, oX 4 (.call (.c (.s (.fn 64 []))) [(.t 3)]) 0, oM 5 0 8, oX 6
 (.call (.c (.s (.fn 125 []))) [(.t 5)]) 8, oX 7 (.bin .sub (.t 4) (.t 6)) 16, oM 2 7 16] 16) .ret)), [(.t 2)]⟩
def x122 : XFn := ⟨6, (.seq (.reg [oX 2 (.mv (.c (.s (.bool false)))) 0] 0) (.seq (.reg [oM 3 0 0, oM 4 0 0, oX 5 (.bin .neq (.t 3) (.t 4)) 0, oM 2 5 0] 0)
 .ret)), [(.t 2)]⟩
def x124 : XFn := ⟨35, (.seq (.reg [oX 2 (.mv (.c (.s (.int .i64 0)))) 0] 0) (.seq (.reg [oM 3 0 0, oX 4 (.bin .shr (.t 3) (.c (.s (.int .u64 1)))) 0, oX 5 (.bin
 .and (.t 4) (.c (.s (.int .u64 6148914691236517205)))) 0, oM 6 0 0, oX 7 (.bin .and (.t 6) (.c (.s (.int .u64 6148914691236517205)))) 0, oX 8 (.bin .add (.t 5)
 (.t 7)) 0, oM 0 8 0] 0) (.seq (.reg [oM 9 0 0, oX 10 (.bin .shr (.t 9) (.c (.s (.int .u64 2)))) 0, oX 11 (.bin .and (.t 10) (.c (.s (.int .u64
 3689348814741910323)))) 0, oM 12 0 0, oX 13 (.bin .and (.t 12) (.c (.s (.int .u64 3689348814741910323)))) 0, oX 14 (.bin .add (.t 11) (.t 13)) 0, oM 0 14 0] 0)
 (.seq (.reg [oM 15 0 0, oX 16 (.bin .shr (.t 15) (.c (.s (.int .u64 4)))) 0, oM 17 0 0, oX 18 (.bin .add (.t 16) (.t 17)) 0, oX 19 (.bin .and (.t 18) (.c (.s
 (.int .u64 1085102592571150095)))) 0, oM 0 19 0] 0) (.seq (.reg [oM 20 0 0, oM 21 0 0, oX 22 (.bin .shr (.t 21) (.c (.s (.int .u64 8)))) 0, oX 23 (.bin .add (.t
 20) (.t 22)) 0, oM 0 23 0] 0) (.seq (.reg [oM 24 0 0, oM 25 0 0, oX 26 (.bin .shr (.t 25) (.c (.s (.int .u64 16)))) 0, oX 27 (.bin .add (.t 24) (.t 26)) 0, oM 0
 27 0] 0) (.seq (.reg [oM 28 0 0, oM 29 0 0, oX 30 (.bin .shr (.t 29) (.c (.s (.int .u64 32)))) 0, oX 31 (.bin .add (.t 28) (.t 30)) 0, oM 0 31 0] 0) (.seq (.reg
 [oM 32 0 0, oX 33 (.conv .i64 (.t 32)) 0, oX 34 (.bin .and (.t 33) (.c (.s (.int .i64 127)))) 0, oM 2 34 0] 0) .ret)))))))), [(.t 2)]⟩
def x125 : XFn := ⟨25, (.seq (.reg [oX 2 (.mv (.c (.s (.int .i64 0)))) 0] 0) (.seq (.seq (.reg [oM 5 0 0, oX 6 (.len (.t 5)) 0, oX 7 (.bin .lss (.t 6) (.c (.s
 (.int .i64 1)))) 0] 0) (.cond (.t 7) (.reg [oX 8 .bad 0, oN .bad 0] 0) .skip)) (.seq (.reg [oM 9 0 0, oX 10 (.iadS 1 (.t 9) (.c (.s (.int .i64 0)))) 0, oX 11
 (.ld .one (.t 10)) 0, oM 3 11 0] 0) (.seq (.seq (.reg [oX 4 (.mv (.c (.s (.int .i64 1)))) 0] 0) (.block 0 (.loop (.seq (.seq (.reg [oM 12 4 0, oM 13 0 0, oX 14
 (.len (.t 13)) 0, oX 15 (.bin .lss (.t 12) (.t 14)) 0] 0) (.cond (.t 15) .skip (.exit 0))) (.seq (.block 1 (.reg [oM 18 3 0, oM 19 0 0, oM 20 4 0, oX 21 (.iadS
 1 (.t 19) (.t 20)) 0, oX 22 (.ld .one (.t 21)) 0, oX 23 (.mn [(.t 18), (.t 22)]) 0, oM 3 23 0] 0)) (.reg [oM 16 4 0, oX 17 (.bin .add (.t 16) (.c (.s (.int .i64
 1)))) 0, oM 4 17 0] 0)))))) (.seq (.reg [oM 24 3 0, oM 2 24 0] 0) .ret))))), [(.t 2)]⟩
end Go.Proofs.Yteekkjfjpoaihaa.Eng
namespace Go.Proofs.Yteekkjfjpoaihaa.Eng
open Go
def tabL : List (Nat × TI) := [
  (3, ⟨.int .i64, 1, 8, some (.s (.int .i64 0))⟩),
  (4, ⟨.bool, 1, 1, some (.s (.bool false))⟩),
  (5, ⟨.int .u8, 1, 1, some (.s (.int .u8 0))⟩),
  (9, ⟨.string, 1, 16, none⟩),
  (22, ⟨.slice 38, 1, 24, some (.s (.nils))⟩),
  (25, ⟨.int .i64, 1, 8, some (.s (.int .i64 0))⟩),
  (30, ⟨.func #[] #[4] false, 1, 8, some (.s (.nilf))⟩),
  (38, ⟨.array 2 3, 2, 16, some (.pb [.int .i64 0, .int .i64 0] 0 ff)⟩),
  (41, ⟨.slice 3, 1, 24, some (.s (.nils))⟩),
  (48, ⟨.array 2 41, 2, 48, some (.pb [.nils, .nils] 0 ff)⟩),
  (63, ⟨.int .u64, 1, 8, some (.s (.int .u64 0))⟩),
  (64, ⟨.pointer 115, 1, 8, some (.s (.nilp))⟩),
  (68, ⟨.array 7 4, 7, 7, some (.pb [] 7 ff)⟩),
  (70, ⟨.array 7 68, 49, 49, some (.pb [] 49 ff)⟩),
  (71, ⟨.func #[3] #[] false, 1, 8, some (.s (.nilf))⟩),
  (73, ⟨.map 77 4, 1, 8, some (.s (.nilm))⟩),
  (74, ⟨.slice 77, 1, 24, some (.s (.nils))⟩),
  (77, ⟨.struct #[⟨"a", 3, 0, false, "", "girouette/orders", 0⟩, ⟨"b", 3, 1, false, "", "girouette/orders", 8⟩], 2, 16, some (.pb [.int .i64 0, .int .i64 0] 0 ff)⟩),
  (78, ⟨.map 77 77, 1, 8, some (.s (.nilm))⟩),
  (92, ⟨.func #[3] #[4] false, 1, 8, some (.s (.nilf))⟩),
  (95, ⟨.array 64 4, 64, 64, some (.pb [] 64 ff)⟩),
  (101, ⟨.map 95 4, 1, 8, some (.s (.nilm))⟩),
  (103, ⟨.struct #[⟨"n", 3, 0, false, "", "girouette/shells", 0⟩, ⟨"pieces", 41, 1, false, "", "girouette/shells", 8⟩, ⟨"faces", 95, 2, false, "", "girouette/shells", 32⟩], 66, 96, some (.pb [.int .i64 0, .nils] 64 ff)⟩),
  (108, ⟨.struct #[⟨"small", 3, 0, false, "", "girouette/shells", 0⟩, ⟨"great", 3, 1, false, "", "girouette/shells", 8⟩], 2, 16, some (.pb [.int .i64 0, .int .i64 0] 0 ff)⟩),
  (115, ⟨.struct #[⟨"n", 3, 0, false, "", "girouette/orders", 0⟩, ⟨"near", 70, 1, false, "", "girouette/orders", 8⟩], 50, 64, some (.pb [.int .i64 0] 49 ff)⟩),
  (131, ⟨.func #[3] #[3] false, 1, 8, some (.s (.nilf))⟩),
  (140, ⟨.int .u64, 1, 8, some (.s (.int .u64 0))⟩),
  (141, ⟨.slice 140, 1, 24, some (.s (.nils))⟩),
  (143, ⟨.pointer 160, 1, 8, some (.s (.nilp))⟩),
  (149, ⟨.slice 70, 1, 24, some (.s (.nils))⟩),
  (150, ⟨.map 38 3, 1, 8, some (.s (.nilm))⟩),
  (160, ⟨.struct #[⟨"n", 3, 0, false, "", "girouette/labels", 0⟩, ⟨"edges", 22, 1, false, "", "girouette/labels", 8⟩], 2, 32, some (.pb [.int .i64 0, .nils] 0 ff)⟩),
  (161, ⟨.func #[41] #[4] false, 1, 8, some (.s (.nilf))⟩),
  (163, ⟨.array 26 4, 26, 26, some (.pb [] 26 ff)⟩),
  (166, ⟨.slice 4, 1, 24, some (.s (.nils))⟩),
  (168, ⟨.int .u32, 1, 4, some (.s (.int .u32 0))⟩),
  (171, ⟨.int .i64, 1, 8, some (.s (.int .i64 0))⟩),
  (177, ⟨.int .u64, 1, 8, some (.s (.int .u64 0))⟩)]
noncomputable def T : Tab := alGet tabL
end Go.Proofs.Yteekkjfjpoaihaa.Eng
namespace Go.Proofs.Yteekkjfjpoaihaa.Eng
open Go Go.Proofs
def FL : List (Nat × XFn) := [(19, x19), (23, x23), (24, x24), (25, x25), (26, x26), (27, x27), (51, x51), (59, x59), (62, x62), (63, x63), (64, x64), (65, x65), (66, x66), (69, x69), (70, x70), (71, x71), (72, x72), (73, x73), (74, x74), (75, x75), (76, x76), (77, x77), (93, x93), (95, x95), (96, x96), (98, x98), (99, x99), (100, x100), (101, x101), (102, x102), (103, x103), (104, x104), (105, x105), (106, x106), (107, x107), (112, x112), (114, x114), (115, x115), (116, x116), (117, x117), (118, x118), (119, x119), (122, x122), (124, x124), (125, x125)]
noncomputable def F : FuncId → Option XFn := alGet FL
theorem c3 : compFn T Try.f3 = some x3 := by kernel_rfl
theorem c4 : compFn T Try.f4 = some x4 := by kernel_rfl
theorem c5 : compFn T Try.f5 = some x5 := by kernel_rfl
theorem c12 : compFn T Try.f12 = some x12 := by kernel_rfl
theorem c13 : compFn T Try.f13 = some x13 := by kernel_rfl
theorem c15 : compFn T Try.f15 = some x15 := by kernel_rfl
theorem c16 : compFn T Try.f16 = some x16 := by kernel_rfl
theorem c17 : compFn T Try.f17 = some x17 := by kernel_rfl
theorem c18 : compFn T Try.f18 = some x18 := by kernel_rfl
theorem c19 : compFn T Try.f19 = some x19 := by kernel_rfl
theorem c20 : compFn T Try.f20 = some x20 := by kernel_rfl
theorem c21 : compFn T Try.f21 = some x21 := by kernel_rfl
theorem c22 : compFn T Try.f22 = some x22 := by kernel_rfl
theorem c23 : compFn T Try.f23 = some x23 := by kernel_rfl
theorem c24 : compFn T Try.f24 = some x24 := by kernel_rfl
theorem c25 : compFn T Try.f25 = some x25 := by kernel_rfl
theorem c26 : compFn T Try.f26 = some x26 := by kernel_rfl
theorem c27 : compFn T Try.f27 = some x27 := by kernel_rfl
theorem c48 : compFn T Try.f48 = some x48 := by kernel_rfl
theorem c51 : compFn T Try.f51 = some x51 := by kernel_rfl
theorem c56 : compFn T Try.f56 = some x56 := by kernel_rfl
theorem c59 : compFn T Try.f59 = some x59 := by kernel_rfl
theorem c60 : compFn T Try.f60 = some x60 := by kernel_rfl
theorem c61 : compFn T Try.f61 = some x61 := by kernel_rfl
theorem c62 : compFn T Try.f62 = some x62 := by kernel_rfl
theorem c63 : compFn T Try.f63 = some x63 := by kernel_rfl
theorem c64 : compFn T Try.f64 = some x64 := by kernel_rfl
theorem c65 : compFn T Try.f65 = some x65 := by kernel_rfl
theorem c66 : compFn T Try.f66 = some x66 := by kernel_rfl
theorem c67 : compFn T Try.f67 = some x67 := by kernel_rfl
theorem c68 : compFn T Try.f68 = some x68 := by kernel_rfl
theorem c69 : compFn T Try.f69 = some x69 := by kernel_rfl
theorem c70 : compFn T Try.f70 = some x70 := by kernel_rfl
theorem c71 : compFn T Try.f71 = some x71 := by kernel_rfl
theorem c72 : compFn T Try.f72 = some x72 := by kernel_rfl
theorem c73 : compFn T Try.f73 = some x73 := by kernel_rfl
theorem c74 : compFn T Try.f74 = some x74 := by kernel_rfl
theorem c75 : compFn T Try.f75 = some x75 := by kernel_rfl
theorem c76 : compFn T Try.f76 = some x76 := by kernel_rfl
theorem c77 : compFn T Try.f77 = some x77 := by kernel_rfl
theorem c78 : compFn T Try.f78 = some x78 := by kernel_rfl
theorem c79 : compFn T Try.f79 = some x79 := by kernel_rfl
theorem c93 : compFn T Try.f93 = some x93 := by kernel_rfl
theorem c95 : compFn T Try.f95 = some x95 := by kernel_rfl
theorem c96 : compFn T Try.f96 = some x96 := by kernel_rfl
theorem c97 : compFn T Try.f97 = some x97 := by kernel_rfl
theorem c98 : compFn T Try.f98 = some x98 := by kernel_rfl
theorem c99 : compFn T Try.f99 = some x99 := by kernel_rfl
theorem c100 : compFn T Try.f100 = some x100 := by kernel_rfl
theorem c101 : compFn T Try.f101 = some x101 := by kernel_rfl
theorem c102 : compFn T Try.f102 = some x102 := by kernel_rfl
theorem c103 : compFn T Try.f103 = some x103 := by kernel_rfl
theorem c104 : compFn T Try.f104 = some x104 := by kernel_rfl
theorem c105 : compFn T Try.f105 = some x105 := by kernel_rfl
theorem c106 : compFn T Try.f106 = some x106 := by kernel_rfl
theorem c107 : compFn T Try.f107 = some x107 := by kernel_rfl
theorem c112 : compFn T Try.f112 = some x112 := by kernel_rfl
theorem c114 : compFn T Try.f114 = some x114 := by kernel_rfl
theorem c115 : compFn T Try.f115 = some x115 := by kernel_rfl
theorem c116 : compFn T Try.f116 = some x116 := by kernel_rfl
theorem c117 : compFn T Try.f117 = some x117 := by kernel_rfl
theorem c118 : compFn T Try.f118 = some x118 := by kernel_rfl
theorem c119 : compFn T Try.f119 = some x119 := by kernel_rfl
theorem c122 : compFn T Try.f122 = some x122 := by kernel_rfl
theorem c124 : compFn T Try.f124 = some x124 := by kernel_rfl
theorem c125 : compFn T Try.f125 = some x125 := by kernel_rfl
end Go.Proofs.Yteekkjfjpoaihaa.Eng
