/- The texts of the library's stable sort by a function, over the numbers of the functions that they call. PRINTED BY wip/tools/sorttext.py. Conditions: none. -/
import Derived.Test.YtfleakoephmgaaaDoorAmW
import Derived.Test.YtfleakoephmgaaaDoorUnA
import Derived.IntWalk
set_option linter.unusedSimpArgs false
set_option linter.unusedVariables false
namespace Go.Am
set_option maxRecDepth 100000
section
variable (nI nM nR nS : Nat)
def sSwp_l0 : CC :=
  (.seq (.seq (.reg [⟨(some 11), none, (.mv (.t 10))⟩, ⟨(some 12), none, (.mv (.t 3))⟩, ⟨(some 13), none, (.bin .lss (.t 11) (.t 12))⟩]) (.cond (.t 13) .skip (.exit 0))) (.seq (.block 1 (.dreg [⟨(some 16), none, (.mv (.t 0))⟩, ⟨(some 17), none, (.mv (.t 1))⟩, ⟨(some 18), none, (.mv (.t 10))⟩, ⟨(some 19), none, (.bin .add (.t 17) (.t 18))⟩, ⟨(some 20), none, (.mv (.t 0))⟩, ⟨(some 21), none, (.mv (.t 2))⟩, ⟨(some 22), none, (.mv (.t 10))⟩, ⟨(some 23), none, (.bin .add (.t 21) (.t 22))⟩, ⟨(some 24), none, (.mv (.t 0))⟩, ⟨(some 25), none, (.mv (.t 2))⟩, ⟨(some 26), none, (.mv (.t 10))⟩, ⟨(some 27), none, (.bin .add (.t 25) (.t 26))⟩, ⟨(some 28), none, (.iaddr 4 (.t 24) (.t 27))⟩, ⟨(some 29), none, (.load true 4 (.t 28))⟩, ⟨(some 30), none, (.mv (.t 0))⟩, ⟨(some 31), none, (.mv (.t 1))⟩, ⟨(some 32), none, (.mv (.t 10))⟩, ⟨(some 33), none, (.bin .add (.t 31) (.t 32))⟩, ⟨(some 34), none, (.iaddr 4 (.t 30) (.t 33))⟩, ⟨(some 35), none, (.load true 4 (.t 34))⟩, ⟨(some 36), none, (.iaddr 4 (.t 16) (.t 19))⟩, ⟨none, none, (.store 4 (.t 36) (.t 29))⟩, ⟨(some 37), none, (.iaddr 4 (.t 20) (.t 23))⟩, ⟨none, none, (.store 4 (.t 37) (.t 35))⟩] [])) (.reg [⟨(some 14), none, (.mv (.t 10))⟩, ⟨(some 15), none, (.bin .add (.t 14) (.c (.int .i64 1)))⟩, ⟨(some 10), none, (.mv (.t 15))⟩])))
def sSwp : CF :=
  ⟨38, [], (.seq (.reg [⟨(some 10), none, (.mv (.c (.int .i64 0)))⟩]) (.block 0 (.loop sSwp_l0)))⟩

def sRot_l0 : CC :=
  (.seq (.seq (.reg [⟨(some 18), none, (.mv (.t 10))⟩, ⟨(some 19), none, (.mv (.t 11))⟩, ⟨(some 20), none, (.bin .neq (.t 18) (.t 19))⟩]) (.cond (.t 20) .skip (.exit 0))) (.block 1 (.seq (.reg [⟨(some 21), none, (.mv (.t 10))⟩, ⟨(some 22), none, (.mv (.t 11))⟩, ⟨(some 23), none, (.bin .gtr (.t 21) (.t 22))⟩]) (.cond (.t 23) (.seq (.reg [⟨(some 24), none, (.mv (.t 0))⟩, ⟨(some 25), none, (.mv (.t 2))⟩, ⟨(some 26), none, (.mv (.t 10))⟩, ⟨(some 27), none, (.bin .sub (.t 25) (.t 26))⟩, ⟨(some 28), none, (.mv (.t 2))⟩, ⟨(some 29), none, (.mv (.t 11))⟩, ⟨(some 30), none, (.mv (.t 4))⟩, ⟨(some 31), none, (.call nS [(.t 24), (.t 27), (.t 28), (.t 29), (.t 30)])⟩]) (.reg [⟨(some 32), none, (.mv (.t 10))⟩, ⟨(some 33), none, (.mv (.t 11))⟩, ⟨(some 34), none, (.bin .sub (.t 32) (.t 33))⟩, ⟨(some 10), none, (.mv (.t 34))⟩])) (.seq (.reg [⟨(some 35), none, (.mv (.t 0))⟩, ⟨(some 36), none, (.mv (.t 2))⟩, ⟨(some 37), none, (.mv (.t 10))⟩, ⟨(some 38), none, (.bin .sub (.t 36) (.t 37))⟩, ⟨(some 39), none, (.mv (.t 2))⟩, ⟨(some 40), none, (.mv (.t 11))⟩, ⟨(some 41), none, (.bin .add (.t 39) (.t 40))⟩, ⟨(some 42), none, (.mv (.t 10))⟩, ⟨(some 43), none, (.bin .sub (.t 41) (.t 42))⟩, ⟨(some 44), none, (.mv (.t 10))⟩, ⟨(some 45), none, (.mv (.t 4))⟩, ⟨(some 46), none, (.call nS [(.t 35), (.t 38), (.t 43), (.t 44), (.t 45)])⟩]) (.reg [⟨(some 47), none, (.mv (.t 11))⟩, ⟨(some 48), none, (.mv (.t 10))⟩, ⟨(some 49), none, (.bin .sub (.t 47) (.t 48))⟩, ⟨(some 11), none, (.mv (.t 49))⟩]))))))
def sRot : CF :=
  ⟨58, [], (.seq (.reg [⟨(some 12), none, (.mv (.t 2))⟩, ⟨(some 13), none, (.mv (.t 1))⟩, ⟨(some 14), none, (.bin .sub (.t 12) (.t 13))⟩, ⟨(some 10), none, (.mv (.t 14))⟩]) (.seq (.reg [⟨(some 15), none, (.mv (.t 3))⟩, ⟨(some 16), none, (.mv (.t 2))⟩, ⟨(some 17), none, (.bin .sub (.t 15) (.t 16))⟩, ⟨(some 11), none, (.mv (.t 17))⟩]) (.seq (.block 0 (.loop (sRot_l0 nS))) (.reg [⟨(some 50), none, (.mv (.t 0))⟩, ⟨(some 51), none, (.mv (.t 2))⟩, ⟨(some 52), none, (.mv (.t 10))⟩, ⟨(some 53), none, (.bin .sub (.t 51) (.t 52))⟩, ⟨(some 54), none, (.mv (.t 2))⟩, ⟨(some 55), none, (.mv (.t 10))⟩, ⟨(some 56), none, (.mv (.t 4))⟩, ⟨(some 57), none, (.call nS [(.t 50), (.t 53), (.t 54), (.t 55), (.t 56)])⟩]))))⟩

def sIns_l0 : CC :=
  (.seq (.seq (.dreg [⟨(some 18), none, (.mv (.t 9))⟩, ⟨(some 19), none, (.mv (.t 1))⟩, ⟨(some 20), none, (.bin .gtr (.t 18) (.t 19))⟩, ⟨(some 21), none, (.mv (.t 20))⟩, ⟨(some 22), (some ((some 21), true)), (.mv (.t 3))⟩, ⟨(some 23), (some ((some 21), true)), (.mv (.t 0))⟩, ⟨(some 24), (some ((some 21), true)), (.mv (.t 9))⟩, ⟨(some 25), (some ((some 21), true)), (.iaddr 4 (.t 23) (.t 24))⟩, ⟨(some 26), (some ((some 21), true)), (.load true 4 (.t 25))⟩, ⟨(some 27), (some ((some 21), true)), (.mv (.t 0))⟩, ⟨(some 28), (some ((some 21), true)), (.mv (.t 9))⟩, ⟨(some 29), (some ((some 21), true)), (.bin .sub (.t 28) (.c (.int .i64 1)))⟩, ⟨(some 30), (some ((some 21), true)), (.iaddr 4 (.t 27) (.t 29))⟩, ⟨(some 31), (some ((some 21), true)), (.load true 4 (.t 30))⟩, ⟨(some 32), (some ((some 21), true)), (.callv (.t 22) [(.t 26), (.t 31)])⟩, ⟨(some 33), (some ((some 21), true)), (.bin .lss (.t 32) (.c (.int .i64 0)))⟩, ⟨(some 34), none, (.pick (.t 21) (.t 33) (.c (.bool false)))⟩] []) (.cond (.t 34) .skip (.exit 2))) (.seq (.block 3 (.dreg [⟨(some 37), none, (.mv (.t 0))⟩, ⟨(some 38), none, (.mv (.t 9))⟩, ⟨(some 39), none, (.mv (.t 0))⟩, ⟨(some 40), none, (.mv (.t 9))⟩, ⟨(some 41), none, (.bin .sub (.t 40) (.c (.int .i64 1)))⟩, ⟨(some 42), none, (.mv (.t 0))⟩, ⟨(some 43), none, (.mv (.t 9))⟩, ⟨(some 44), none, (.bin .sub (.t 43) (.c (.int .i64 1)))⟩, ⟨(some 45), none, (.iaddr 4 (.t 42) (.t 44))⟩, ⟨(some 46), none, (.load true 4 (.t 45))⟩, ⟨(some 47), none, (.mv (.t 0))⟩, ⟨(some 48), none, (.mv (.t 9))⟩, ⟨(some 49), none, (.iaddr 4 (.t 47) (.t 48))⟩, ⟨(some 50), none, (.load true 4 (.t 49))⟩, ⟨(some 51), none, (.iaddr 4 (.t 37) (.t 38))⟩, ⟨none, none, (.store 4 (.t 51) (.t 46))⟩, ⟨(some 52), none, (.iaddr 4 (.t 39) (.t 41))⟩, ⟨none, none, (.store 4 (.t 52) (.t 50))⟩] [])) (.reg [⟨(some 35), none, (.mv (.t 9))⟩, ⟨(some 36), none, (.bin .sub (.t 35) (.c (.int .i64 1)))⟩, ⟨(some 9), none, (.mv (.t 36))⟩])))
def sIns_l1 : CC :=
  (.seq (.seq (.reg [⟨(some 12), none, (.mv (.t 8))⟩, ⟨(some 13), none, (.mv (.t 2))⟩, ⟨(some 14), none, (.bin .lss (.t 12) (.t 13))⟩]) (.cond (.t 14) .skip (.exit 0))) (.seq (.block 1 (.seq (.reg [⟨(some 17), none, (.mv (.t 8))⟩, ⟨(some 9), none, (.mv (.t 17))⟩]) (.block 2 (.loop sIns_l0)))) (.reg [⟨(some 15), none, (.mv (.t 8))⟩, ⟨(some 16), none, (.bin .add (.t 15) (.c (.int .i64 1)))⟩, ⟨(some 8), none, (.mv (.t 16))⟩])))
def sIns : CF :=
  ⟨53, [], (.seq (.reg [⟨(some 10), none, (.mv (.t 1))⟩, ⟨(some 11), none, (.bin .add (.t 10) (.c (.int .i64 1)))⟩, ⟨(some 8), none, (.mv (.t 11))⟩]) (.block 0 (.loop sIns_l1)))⟩

def sSym_l0 : CC :=
  (.seq (.seq (.reg [⟨(some 149), none, (.mv (.t 20))⟩, ⟨(some 150), none, (.mv (.t 21))⟩, ⟨(some 151), none, (.bin .lss (.t 149) (.t 150))⟩]) (.cond (.t 151) .skip (.exit 8))) (.block 9 (.seq (.reg [⟨(some 152), none, (.mv (.t 20))⟩, ⟨(some 153), none, (.mv (.t 21))⟩, ⟨(some 154), none, (.bin .add (.t 152) (.t 153))⟩, ⟨(some 155), none, (.conv .u64 (.t 154))⟩, ⟨(some 156), none, (.shf .shr (.t 155) (.c (.int .u64 1)))⟩, ⟨(some 157), none, (.conv .i64 (.t 156))⟩, ⟨(some 23), none, (.mv (.t 157))⟩]) (.seq (.dreg [⟨(some 158), none, (.mv (.t 4))⟩, ⟨(some 159), none, (.mv (.t 0))⟩, ⟨(some 160), none, (.mv (.t 22))⟩, ⟨(some 161), none, (.mv (.t 23))⟩, ⟨(some 162), none, (.bin .sub (.t 160) (.t 161))⟩, ⟨(some 163), none, (.iaddr 4 (.t 159) (.t 162))⟩, ⟨(some 164), none, (.load true 4 (.t 163))⟩, ⟨(some 165), none, (.mv (.t 0))⟩, ⟨(some 166), none, (.mv (.t 23))⟩, ⟨(some 167), none, (.iaddr 4 (.t 165) (.t 166))⟩, ⟨(some 168), none, (.load true 4 (.t 167))⟩, ⟨(some 169), none, (.callv (.t 158) [(.t 164), (.t 168)])⟩, ⟨(some 170), none, (.bin .lss (.t 169) (.c (.int .i64 0)))⟩, ⟨(some 171), none, (.un .not (.t 170))⟩] []) (.cond (.t 171) (.reg [⟨(some 172), none, (.mv (.t 23))⟩, ⟨(some 173), none, (.bin .add (.t 172) (.c (.int .i64 1)))⟩, ⟨(some 20), none, (.mv (.t 173))⟩]) (.reg [⟨(some 174), none, (.mv (.t 23))⟩, ⟨(some 21), none, (.mv (.t 174))⟩]))))))
def sSym_l1 : CC :=
  (.seq (.seq (.reg [⟨(some 108), none, (.mv (.t 17))⟩, ⟨(some 109), none, (.mv (.t 14))⟩, ⟨(some 110), none, (.bin .gtr (.t 108) (.t 109))⟩]) (.cond (.t 110) .skip (.exit 6))) (.seq (.block 7 (.dreg [⟨(some 113), none, (.mv (.t 0))⟩, ⟨(some 114), none, (.mv (.t 17))⟩, ⟨(some 115), none, (.mv (.t 0))⟩, ⟨(some 116), none, (.mv (.t 17))⟩, ⟨(some 117), none, (.bin .sub (.t 116) (.c (.int .i64 1)))⟩, ⟨(some 118), none, (.mv (.t 0))⟩, ⟨(some 119), none, (.mv (.t 17))⟩, ⟨(some 120), none, (.bin .sub (.t 119) (.c (.int .i64 1)))⟩, ⟨(some 121), none, (.iaddr 4 (.t 118) (.t 120))⟩, ⟨(some 122), none, (.load true 4 (.t 121))⟩, ⟨(some 123), none, (.mv (.t 0))⟩, ⟨(some 124), none, (.mv (.t 17))⟩, ⟨(some 125), none, (.iaddr 4 (.t 123) (.t 124))⟩, ⟨(some 126), none, (.load true 4 (.t 125))⟩, ⟨(some 127), none, (.iaddr 4 (.t 113) (.t 114))⟩, ⟨none, none, (.store 4 (.t 127) (.t 122))⟩, ⟨(some 128), none, (.iaddr 4 (.t 115) (.t 117))⟩, ⟨none, none, (.store 4 (.t 128) (.t 126))⟩] [])) (.reg [⟨(some 111), none, (.mv (.t 17))⟩, ⟨(some 112), none, (.bin .sub (.t 111) (.c (.int .i64 1)))⟩, ⟨(some 17), none, (.mv (.t 112))⟩])))
def sSym_l2 : CC :=
  (.seq (.seq (.reg [⟨(some 83), none, (.mv (.t 14))⟩, ⟨(some 84), none, (.mv (.t 15))⟩, ⟨(some 85), none, (.bin .lss (.t 83) (.t 84))⟩]) (.cond (.t 85) .skip (.exit 4))) (.block 5 (.seq (.reg [⟨(some 86), none, (.mv (.t 14))⟩, ⟨(some 87), none, (.mv (.t 15))⟩, ⟨(some 88), none, (.bin .add (.t 86) (.t 87))⟩, ⟨(some 89), none, (.conv .u64 (.t 88))⟩, ⟨(some 90), none, (.shf .shr (.t 89) (.c (.int .u64 1)))⟩, ⟨(some 91), none, (.conv .i64 (.t 90))⟩, ⟨(some 16), none, (.mv (.t 91))⟩]) (.seq (.dreg [⟨(some 92), none, (.mv (.t 4))⟩, ⟨(some 93), none, (.mv (.t 0))⟩, ⟨(some 94), none, (.mv (.t 2))⟩, ⟨(some 95), none, (.iaddr 4 (.t 93) (.t 94))⟩, ⟨(some 96), none, (.load true 4 (.t 95))⟩, ⟨(some 97), none, (.mv (.t 0))⟩, ⟨(some 98), none, (.mv (.t 16))⟩, ⟨(some 99), none, (.iaddr 4 (.t 97) (.t 98))⟩, ⟨(some 100), none, (.load true 4 (.t 99))⟩, ⟨(some 101), none, (.callv (.t 92) [(.t 96), (.t 100)])⟩, ⟨(some 102), none, (.bin .lss (.t 101) (.c (.int .i64 0)))⟩, ⟨(some 103), none, (.un .not (.t 102))⟩] []) (.cond (.t 103) (.reg [⟨(some 104), none, (.mv (.t 16))⟩, ⟨(some 105), none, (.bin .add (.t 104) (.c (.int .i64 1)))⟩, ⟨(some 14), none, (.mv (.t 105))⟩]) (.reg [⟨(some 106), none, (.mv (.t 16))⟩, ⟨(some 15), none, (.mv (.t 106))⟩]))))))
def sSym_l3 : CC :=
  (.seq (.seq (.reg [⟨(some 55), none, (.mv (.t 13))⟩, ⟨(some 56), none, (.mv (.t 10))⟩, ⟨(some 57), none, (.bin .sub (.t 56) (.c (.int .i64 1)))⟩, ⟨(some 58), none, (.bin .lss (.t 55) (.t 57))⟩]) (.cond (.t 58) .skip (.exit 2))) (.seq (.block 3 (.dreg [⟨(some 61), none, (.mv (.t 0))⟩, ⟨(some 62), none, (.mv (.t 13))⟩, ⟨(some 63), none, (.mv (.t 0))⟩, ⟨(some 64), none, (.mv (.t 13))⟩, ⟨(some 65), none, (.bin .add (.t 64) (.c (.int .i64 1)))⟩, ⟨(some 66), none, (.mv (.t 0))⟩, ⟨(some 67), none, (.mv (.t 13))⟩, ⟨(some 68), none, (.bin .add (.t 67) (.c (.int .i64 1)))⟩, ⟨(some 69), none, (.iaddr 4 (.t 66) (.t 68))⟩, ⟨(some 70), none, (.load true 4 (.t 69))⟩, ⟨(some 71), none, (.mv (.t 0))⟩, ⟨(some 72), none, (.mv (.t 13))⟩, ⟨(some 73), none, (.iaddr 4 (.t 71) (.t 72))⟩, ⟨(some 74), none, (.load true 4 (.t 73))⟩, ⟨(some 75), none, (.iaddr 4 (.t 61) (.t 62))⟩, ⟨none, none, (.store 4 (.t 75) (.t 70))⟩, ⟨(some 76), none, (.iaddr 4 (.t 63) (.t 65))⟩, ⟨none, none, (.store 4 (.t 76) (.t 74))⟩] [])) (.reg [⟨(some 59), none, (.mv (.t 13))⟩, ⟨(some 60), none, (.bin .add (.t 59) (.c (.int .i64 1)))⟩, ⟨(some 13), none, (.mv (.t 60))⟩])))
def sSym_l4 : CC :=
  (.seq (.seq (.reg [⟨(some 31), none, (.mv (.t 10))⟩, ⟨(some 32), none, (.mv (.t 11))⟩, ⟨(some 33), none, (.bin .lss (.t 31) (.t 32))⟩]) (.cond (.t 33) .skip (.exit 0))) (.block 1 (.seq (.reg [⟨(some 34), none, (.mv (.t 10))⟩, ⟨(some 35), none, (.mv (.t 11))⟩, ⟨(some 36), none, (.bin .add (.t 34) (.t 35))⟩, ⟨(some 37), none, (.conv .u64 (.t 36))⟩, ⟨(some 38), none, (.shf .shr (.t 37) (.c (.int .u64 1)))⟩, ⟨(some 39), none, (.conv .i64 (.t 38))⟩, ⟨(some 12), none, (.mv (.t 39))⟩]) (.seq (.dreg [⟨(some 40), none, (.mv (.t 4))⟩, ⟨(some 41), none, (.mv (.t 0))⟩, ⟨(some 42), none, (.mv (.t 12))⟩, ⟨(some 43), none, (.iaddr 4 (.t 41) (.t 42))⟩, ⟨(some 44), none, (.load true 4 (.t 43))⟩, ⟨(some 45), none, (.mv (.t 0))⟩, ⟨(some 46), none, (.mv (.t 1))⟩, ⟨(some 47), none, (.iaddr 4 (.t 45) (.t 46))⟩, ⟨(some 48), none, (.load true 4 (.t 47))⟩, ⟨(some 49), none, (.callv (.t 40) [(.t 44), (.t 48)])⟩, ⟨(some 50), none, (.bin .lss (.t 49) (.c (.int .i64 0)))⟩] []) (.cond (.t 50) (.reg [⟨(some 51), none, (.mv (.t 12))⟩, ⟨(some 52), none, (.bin .add (.t 51) (.c (.int .i64 1)))⟩, ⟨(some 10), none, (.mv (.t 52))⟩]) (.reg [⟨(some 53), none, (.mv (.t 12))⟩, ⟨(some 11), none, (.mv (.t 53))⟩]))))))
def sSym_x : CC :=
  (.seq (.reg [⟨(some 206), none, (.mv (.t 18))⟩, ⟨(some 207), none, (.mv (.t 24))⟩, ⟨(some 208), none, (.bin .lss (.t 206) (.t 207))⟩, ⟨(some 209), none, (.mv (.t 208))⟩, ⟨(some 210), (some ((some 209), true)), (.mv (.t 24))⟩, ⟨(some 211), (some ((some 209), true)), (.mv (.t 3))⟩, ⟨(some 212), (some ((some 209), true)), (.bin .lss (.t 210) (.t 211))⟩, ⟨(some 213), none, (.pick (.t 209) (.t 212) (.c (.bool false)))⟩]) (.cond (.t 213) (.reg [⟨(some 214), none, (.mv (.t 0))⟩, ⟨(some 215), none, (.mv (.t 18))⟩, ⟨(some 216), none, (.mv (.t 24))⟩, ⟨(some 217), none, (.mv (.t 3))⟩, ⟨(some 218), none, (.mv (.t 4))⟩, ⟨(some 219), none, (.call nM [(.t 214), (.t 215), (.t 216), (.t 217), (.t 218)])⟩]) .skip))
def sSym_w : CC :=
  (.seq (.seq (.reg [⟨(some 192), none, (.mv (.t 1))⟩, ⟨(some 193), none, (.mv (.t 20))⟩, ⟨(some 194), none, (.bin .lss (.t 192) (.t 193))⟩, ⟨(some 195), none, (.mv (.t 194))⟩, ⟨(some 196), (some ((some 195), true)), (.mv (.t 20))⟩, ⟨(some 197), (some ((some 195), true)), (.mv (.t 18))⟩, ⟨(some 198), (some ((some 195), true)), (.bin .lss (.t 196) (.t 197))⟩, ⟨(some 199), none, (.pick (.t 195) (.t 198) (.c (.bool false)))⟩]) (.cond (.t 199) (.reg [⟨(some 200), none, (.mv (.t 0))⟩, ⟨(some 201), none, (.mv (.t 1))⟩, ⟨(some 202), none, (.mv (.t 20))⟩, ⟨(some 203), none, (.mv (.t 18))⟩, ⟨(some 204), none, (.mv (.t 4))⟩, ⟨(some 205), none, (.call nM [(.t 200), (.t 201), (.t 202), (.t 203), (.t 204)])⟩]) .skip)) (sSym_x nM))
def sSym_v : CC :=
  (.seq (.seq (.reg [⟨(some 178), none, (.mv (.t 20))⟩, ⟨(some 179), none, (.mv (.t 2))⟩, ⟨(some 180), none, (.bin .lss (.t 178) (.t 179))⟩, ⟨(some 181), none, (.mv (.t 180))⟩, ⟨(some 182), (some ((some 181), true)), (.mv (.t 2))⟩, ⟨(some 183), (some ((some 181), true)), (.mv (.t 24))⟩, ⟨(some 184), (some ((some 181), true)), (.bin .lss (.t 182) (.t 183))⟩, ⟨(some 185), none, (.pick (.t 181) (.t 184) (.c (.bool false)))⟩]) (.cond (.t 185) (.reg [⟨(some 186), none, (.mv (.t 0))⟩, ⟨(some 187), none, (.mv (.t 20))⟩, ⟨(some 188), none, (.mv (.t 2))⟩, ⟨(some 189), none, (.mv (.t 24))⟩, ⟨(some 190), none, (.mv (.t 4))⟩, ⟨(some 191), none, (.call nR [(.t 186), (.t 187), (.t 188), (.t 189), (.t 190)])⟩]) .skip)) (sSym_w nM))
def sSym_u : CC :=
  (.seq (.reg [⟨(some 147), none, (.mv (.t 19))⟩, ⟨(some 148), none, (.bin .sub (.t 147) (.c (.int .i64 1)))⟩, ⟨(some 22), none, (.mv (.t 148))⟩]) (.seq (.block 8 (.loop sSym_l0)) (.seq (.reg [⟨(some 175), none, (.mv (.t 19))⟩, ⟨(some 176), none, (.mv (.t 20))⟩, ⟨(some 177), none, (.bin .sub (.t 175) (.t 176))⟩, ⟨(some 24), none, (.mv (.t 177))⟩]) (sSym_v nM nR))))
def sSym_t : CC :=
  (.seq (.reg [⟨(some 129), none, (.mv (.t 1))⟩, ⟨(some 130), none, (.mv (.t 3))⟩, ⟨(some 131), none, (.bin .add (.t 129) (.t 130))⟩, ⟨(some 132), none, (.conv .u64 (.t 131))⟩, ⟨(some 133), none, (.shf .shr (.t 132) (.c (.int .u64 1)))⟩, ⟨(some 134), none, (.conv .i64 (.t 133))⟩, ⟨(some 18), none, (.mv (.t 134))⟩]) (.seq (.reg [⟨(some 135), none, (.mv (.t 18))⟩, ⟨(some 136), none, (.mv (.t 2))⟩, ⟨(some 137), none, (.bin .add (.t 135) (.t 136))⟩, ⟨(some 19), none, (.mv (.t 137))⟩]) (.seq (.reg [⟨(some 20), none, (.mv (.c (.int .i64 0)))⟩, ⟨(some 21), none, (.mv (.c (.int .i64 0)))⟩]) (.seq (.seq (.reg [⟨(some 138), none, (.mv (.t 2))⟩, ⟨(some 139), none, (.mv (.t 18))⟩, ⟨(some 140), none, (.bin .gtr (.t 138) (.t 139))⟩]) (.cond (.t 140) (.seq (.reg [⟨(some 141), none, (.mv (.t 19))⟩, ⟨(some 142), none, (.mv (.t 3))⟩, ⟨(some 143), none, (.bin .sub (.t 141) (.t 142))⟩, ⟨(some 20), none, (.mv (.t 143))⟩]) (.reg [⟨(some 144), none, (.mv (.t 18))⟩, ⟨(some 21), none, (.mv (.t 144))⟩])) (.seq (.reg [⟨(some 145), none, (.mv (.t 1))⟩, ⟨(some 20), none, (.mv (.t 145))⟩]) (.reg [⟨(some 146), none, (.mv (.t 2))⟩, ⟨(some 21), none, (.mv (.t 146))⟩])))) (sSym_u nM nR)))))
def sSym : CF :=
  ⟨220, [], (.seq (.seq (.reg [⟨(some 25), none, (.mv (.t 2))⟩, ⟨(some 26), none, (.mv (.t 1))⟩, ⟨(some 27), none, (.bin .sub (.t 25) (.t 26))⟩, ⟨(some 28), none, (.bin .eql (.t 27) (.c (.int .i64 1)))⟩]) (.cond (.t 28) (.seq (.reg [⟨(some 29), none, (.mv (.t 2))⟩, ⟨(some 10), none, (.mv (.t 29))⟩]) (.seq (.reg [⟨(some 30), none, (.mv (.t 3))⟩, ⟨(some 11), none, (.mv (.t 30))⟩]) (.seq (.block 0 (.loop sSym_l4)) (.seq (.seq (.reg [⟨(some 54), none, (.mv (.t 1))⟩, ⟨(some 13), none, (.mv (.t 54))⟩]) (.block 2 (.loop sSym_l3))) .ret)))) .skip)) (.seq (.seq (.reg [⟨(some 77), none, (.mv (.t 3))⟩, ⟨(some 78), none, (.mv (.t 2))⟩, ⟨(some 79), none, (.bin .sub (.t 77) (.t 78))⟩, ⟨(some 80), none, (.bin .eql (.t 79) (.c (.int .i64 1)))⟩]) (.cond (.t 80) (.seq (.reg [⟨(some 81), none, (.mv (.t 1))⟩, ⟨(some 14), none, (.mv (.t 81))⟩]) (.seq (.reg [⟨(some 82), none, (.mv (.t 2))⟩, ⟨(some 15), none, (.mv (.t 82))⟩]) (.seq (.block 4 (.loop sSym_l2)) (.seq (.seq (.reg [⟨(some 107), none, (.mv (.t 2))⟩, ⟨(some 17), none, (.mv (.t 107))⟩]) (.block 6 (.loop sSym_l1))) .ret)))) .skip)) (sSym_t nM nR)))⟩

def sStb_l0 : CC :=
  (.seq (.seq (.reg [⟨(some 33), none, (.mv (.t 8))⟩, ⟨(some 34), none, (.mv (.t 1))⟩, ⟨(some 35), none, (.bin .leq (.t 33) (.t 34))⟩]) (.cond (.t 35) .skip (.exit 4))) (.block 5 (.seq (.reg [⟨(some 36), none, (.mv (.t 0))⟩, ⟨(some 37), none, (.mv (.t 7))⟩, ⟨(some 38), none, (.mv (.t 7))⟩, ⟨(some 39), none, (.mv (.t 6))⟩, ⟨(some 40), none, (.bin .add (.t 38) (.t 39))⟩, ⟨(some 41), none, (.mv (.t 8))⟩, ⟨(some 42), none, (.mv (.t 2))⟩, ⟨(some 43), none, (.call nM [(.t 36), (.t 37), (.t 40), (.t 41), (.t 42)])⟩]) (.seq (.reg [⟨(some 44), none, (.mv (.t 8))⟩, ⟨(some 7), none, (.mv (.t 44))⟩]) (.reg [⟨(some 45), none, (.mv (.t 8))⟩, ⟨(some 46), none, (.mv (.t 6))⟩, ⟨(some 47), none, (.bin .mul (.c (.int .i64 2)) (.t 46))⟩, ⟨(some 48), none, (.bin .add (.t 45) (.t 47))⟩, ⟨(some 8), none, (.mv (.t 48))⟩])))))
def sStb_l1 : CC :=
  (.seq (.seq (.reg [⟨(some 28), none, (.mv (.t 6))⟩, ⟨(some 29), none, (.mv (.t 1))⟩, ⟨(some 30), none, (.bin .lss (.t 28) (.t 29))⟩]) (.cond (.t 30) .skip (.exit 2))) (.block 3 (.seq (.reg [⟨(some 31), none, (.mv (.t 6))⟩, ⟨(some 32), none, (.bin .mul (.c (.int .i64 2)) (.t 31))⟩, ⟨(some 7), none, (.mv (.c (.int .i64 0)))⟩, ⟨(some 8), none, (.mv (.t 32))⟩]) (.seq (.block 4 (.loop (sStb_l0 nM))) (.seq (.seq (.reg [⟨(some 49), none, (.mv (.t 7))⟩, ⟨(some 50), none, (.mv (.t 6))⟩, ⟨(some 51), none, (.bin .add (.t 49) (.t 50))⟩, ⟨(some 9), none, (.mv (.t 51))⟩]) (.seq (.reg [⟨(some 52), none, (.mv (.t 9))⟩, ⟨(some 53), none, (.mv (.t 1))⟩, ⟨(some 54), none, (.bin .lss (.t 52) (.t 53))⟩]) (.cond (.t 54) (.reg [⟨(some 55), none, (.mv (.t 0))⟩, ⟨(some 56), none, (.mv (.t 7))⟩, ⟨(some 57), none, (.mv (.t 9))⟩, ⟨(some 58), none, (.mv (.t 1))⟩, ⟨(some 59), none, (.mv (.t 2))⟩, ⟨(some 60), none, (.call nM [(.t 55), (.t 56), (.t 57), (.t 58), (.t 59)])⟩]) .skip))) (.reg [⟨(some 61), none, (.mv (.t 6))⟩, ⟨(some 62), none, (.bin .mul (.t 61) (.c (.int .i64 2)))⟩, ⟨(some 6), none, (.mv (.t 62))⟩]))))))
def sStb_l2 : CC :=
  (.seq (.seq (.reg [⟨(some 11), none, (.mv (.t 8))⟩, ⟨(some 12), none, (.mv (.t 1))⟩, ⟨(some 13), none, (.bin .leq (.t 11) (.t 12))⟩]) (.cond (.t 13) .skip (.exit 0))) (.block 1 (.seq (.reg [⟨(some 14), none, (.mv (.t 0))⟩, ⟨(some 15), none, (.mv (.t 7))⟩, ⟨(some 16), none, (.mv (.t 8))⟩, ⟨(some 17), none, (.mv (.t 2))⟩, ⟨(some 18), none, (.call nI [(.t 14), (.t 15), (.t 16), (.t 17)])⟩]) (.seq (.reg [⟨(some 19), none, (.mv (.t 8))⟩, ⟨(some 7), none, (.mv (.t 19))⟩]) (.reg [⟨(some 20), none, (.mv (.t 8))⟩, ⟨(some 21), none, (.mv (.t 6))⟩, ⟨(some 22), none, (.bin .add (.t 20) (.t 21))⟩, ⟨(some 8), none, (.mv (.t 22))⟩])))))
def sStb : CF :=
  ⟨63, [], (.seq (.reg [⟨(some 6), none, (.mv (.c (.int .i64 20)))⟩]) (.seq (.reg [⟨(some 10), none, (.mv (.t 6))⟩, ⟨(some 7), none, (.mv (.c (.int .i64 0)))⟩, ⟨(some 8), none, (.mv (.t 10))⟩]) (.seq (.block 0 (.loop (sStb_l2 nI))) (.seq (.reg [⟨(some 23), none, (.mv (.t 0))⟩, ⟨(some 24), none, (.mv (.t 7))⟩, ⟨(some 25), none, (.mv (.t 1))⟩, ⟨(some 26), none, (.mv (.t 2))⟩, ⟨(some 27), none, (.call nI [(.t 23), (.t 24), (.t 25), (.t 26)])⟩]) (.block 2 (.loop (sStb_l1 nM)))))))⟩

end
end Go.Am

/- The stable sort: rows that change places. Conditions: none. -/
namespace Go.Am
open Go.So (Ord Srt ins isort)
set_option maxRecDepth 100000
set_option linter.unusedSimpArgs false
attribute [local go_sem] wseq COp.isStore wreg wdreg wret wskip wexit wblock wcnd cnd_t cnd_f then_n then_x then_r catch_n rnd_n rnd_x rnd_r catch_x catch_r wo_nil wo_grd grdO_t grdO_f wo_ops stpO wr_nil wr_alloc wr_guards grdR_t grdR_f wr_ops stpR evAllocs evOp env0_app eput_some eput_none eset_app Opd.ev wantedA faddrA snew_obj snew_size sput_obj sput_size av_cells av_one av_strip av_still unA eqbA fillA fldA lensA mmA mm2 mmFold List.getD_cons_zero List.getD_cons_succ List.getD_nil List.length_cons List.length_nil List.drop_zero List.drop_succ_cons List.take_succ_cons List.take_zero List.map_cons List.map_nil List.set_cons_zero List.set_cons_succ List.all_cons List.all_nil List.getElem?_cons_zero List.getElem?_cons_succ List.nil_append List.cons_append Nat.zero_add Nat.add_zero beq_self_eq_true bt bf Bool.not_true Bool.not_false Bool.and_true Bool.true_and Bool.and_false Bool.false_and and_self and_true true_and n0 n1 n2 n3 n4 m0 m1 m2 m3 c1 retA resAs resA undefA Option.map_some Option.map_none

section
variable {α : Type} {f : α → List AV}

theorem setAt_eq : ∀ (vs cs : List AV) (off : Nat), off + vs.length ≤ cs.length → setAt cs off vs = cs.take off ++ vs ++ cs.drop (off + vs.length)
  | [], cs, off, _ => by simp [setAt]
  | v :: vs, cs, off, h => by
    simp only [List.length_cons] at h
    rw [setAt, setAt_eq vs (cs.set off v) (off + 1) (by simp; omega)]
    have h1 : (cs.set off v).take (off + 1) = cs.take off ++ [v] := by
      rw [List.take_succ_eq_append_getElem (by simp; omega), List.take_set_of_le (Nat.le_refl _)]
      simp
    have h2 : (cs.set off v).drop (off + 1 + vs.length) = cs.drop (off + (v :: vs).length) := by
      rw [List.drop_set_of_lt (by omega), List.length_cons]
      congr 1; omega
    rw [h1, h2]; simp

theorem flat_setrow (hf : ∀ a, (f a).length = 4) {l : List α} {i : Nat} (hi : i < l.length) (y : α) : setAt (l.flatMap f) (i * 4) (f y) = (l.set i y).flatMap f := by
  have hl : (l.flatMap f).length = l.length * 4 := flat_len hf l
  rw [setAt_eq _ _ _ (by rw [hl, hf]; omega), flat_take hf, hf, show i * 4 + 4 = (i + 1) * 4 by omega, flat_drop hf]
  rw [List.set_eq_take_append_cons_drop, if_pos hi]
  simp

theorem mload (hP : Plain f 4) {S : St} {p i : Nat} {l : List α} {x : α} (ho : S.obj p = some (.cells (l.flatMap f))) (hi : l[i]? = some x) : loadA S true 4 (.ptr p (i * 4)) = some (.agg (f x)) := by
  have h1 := flat_row hP.len hi
  have h2 := flat_le hP.len hi 4 (Nat.le_refl _)
  have h3 : (f x).map AV.strip = f x := by have := hP.strips [x]; simpa using this
  simp only [loadA, rdCells, ho]
  rw [if_pos h2, h1]
  simp [h3]
theorem mstore (hP : Plain f 4) {S : St} {p i : Nat} {l : List α} (ho : S.obj p = some (.cells (l.flatMap f))) (hi : i < l.length) (y : α) : storeA S 4 (.ptr p (i * 4)) (.agg (f y)) = some (S.put p (some (.cells ((l.set i y).flatMap f)))) := by
  have hl : (l.flatMap f).length = l.length * 4 := flat_len hP.len l
  have h1 : (f y).all AV.one = true := by have := hP.ones [y]; simpa using this
  have h2 : (f y).length = 4 := hP.len y
  have hc : AV.cells (.agg (f y)) = f y := rfl
  unfold storeA
  simp only [ho]
  rw [hc, if_pos ⟨h2, by rw [hl]; omega, h1⟩, flat_setrow hP.len hi]
theorem maddr {p n i : Nat} (hi : i < n) : iaddrA 4 (.msl p 0 n 4) (.int .i64 i) = some (.ptr p (i * 4)) := by
  simp only [iaddrA]
  rw [if_pos ⟨by omega, by omega, trivial⟩]; simp

theorem set_mid (A B : List α) (x y : α) {n : Nat} (h : n = A.length) : (A ++ x :: B).set n y = A ++ y :: B := by subst h; simp
theorem get_mid (A B : List α) (x : α) {n : Nat} (h : n = A.length) : (A ++ x :: B)[n]? = some x := by subst h; simp

/-- The functions of the sort. -/
structure SortT (T : Nat → Option CF) (X : Ext) (nI nM nR nS : Nat) : Prop where
  tI : T nI = some sIns
  xI : X nI = none
  tM : T nM = some (sSym nM nR)
  xM : X nM = none
  tR : T nR = some (sRot nS)
  xR : X nR = none
  tS : T nS = some sSwp
  xS : X nS = none

variable {T : Nat → Option CF} {X : Ext} {nI nM nR nS : Nat}

theorem wrapn {n : Nat} (h : n ≤ 4611686018427387904) : IntKind.i64.wrap (n : Int) = (n : Int) := by rw [IntKind.wrap_i64]; omega

/-- Two rows of the same length change places. -/
theorem swp_law (hT : SortT T X nI nM nR nS) (hP : Plain f 4) (Xs U M V Y : List α) (hl : U.length = V.length) (hb : (Xs ++ U ++ M ++ V ++ Y).length ≤ 4398046511104) {p : Nat} (cv : AV) {S : St} (ho : S.obj p = some (.cells ((Xs ++ U ++ M ++ V ++ Y).flatMap f))) {n a b k : Nat}
    (hn : n = (Xs ++ U ++ M ++ V ++ Y).length) (ha : a = Xs.length) (hbb : b = Xs.length + U.length + M.length) (hk : k = U.length) :
    WC T X nS [.msl p 0 n 4, .int .i64 a, .int .i64 b, .int .i64 k, cv] S (fun _ S' => S'.obj p = some (.cells ((Xs ++ V ++ M ++ U ++ Y).flatMap f)) ∧ KeepBut p S S') := by
  refine WC_fn sSwp hT.xS hT.tS (by simp [sSwp]) ?_
  subst hn ha hbb hk
  simp only [sSwp, go_sem, ↓reduceIte, reduceCtorEq, Nat.reduceEqDiff, Nat.reduceAdd, Nat.reduceSub, Nat.reduceMul, Nat.reduceLeDiff, Nat.reduceLT, loadA, rdCells, storeA, setAt, binA]
  simp only [List.length_append] at hb
  refine W_loop_nat (fun j e s => ∃ i, i + j = U.length ∧ e 0 = .msl p 0 (Xs ++ U ++ M ++ V ++ Y).length 4 ∧ e 1 = .int .i64 (Xs.length : Nat) ∧ e 2 = .int .i64 (Xs.length + U.length + M.length : Nat) ∧ e 3 = .int .i64 (U.length : Nat) ∧ e 10 = .int .i64 i ∧
      s.obj p = some (.cells ((Xs ++ (V.take i ++ U.drop i) ++ M ++ (U.take i ++ V.drop i) ++ Y).flatMap f)) ∧ KeepBut p S s) ?_ U.length _ _ ⟨0, by omega, by simp only [go_sem, ↓reduceIte, reduceCtorEq, Nat.reduceEqDiff, Nat.reduceAdd, Nat.reduceSub, Nat.reduceMul, Nat.reduceLeDiff, Nat.reduceLT, loadA, rdCells, storeA, setAt, binA], by simp only [go_sem, ↓reduceIte, reduceCtorEq, Nat.reduceEqDiff, Nat.reduceAdd, Nat.reduceSub, Nat.reduceMul, Nat.reduceLeDiff, Nat.reduceLT, loadA, rdCells, storeA, setAt, binA], by simp only [go_sem, ↓reduceIte, reduceCtorEq, Nat.reduceEqDiff, Nat.reduceAdd, Nat.reduceSub, Nat.reduceMul, Nat.reduceLeDiff, Nat.reduceLT, loadA, rdCells, storeA, setAt, binA], by simp only [go_sem, ↓reduceIte, reduceCtorEq, Nat.reduceEqDiff, Nat.reduceAdd, Nat.reduceSub, Nat.reduceMul, Nat.reduceLeDiff, Nat.reduceLT, loadA, rdCells, storeA, setAt, binA], by simp only [go_sem, ↓reduceIte, reduceCtorEq, Nat.reduceEqDiff, Nat.reduceAdd, Nat.reduceSub, Nat.reduceMul, Nat.reduceLeDiff, Nat.reduceLT, loadA, rdCells, storeA, setAt, binA]; rfl, by simpa using ho, ⟨Nat.le_refl _, fun _ _ _ => rfl⟩⟩
  rintro j e s ⟨i, hij, e0, e1, e2, e3, e10, hs, hk⟩
  by_cases hi : i < U.length
  · have hd : decide ((i : Int) < (U.length : Int)) = true := by simp; omega
    obtain ⟨u, hu⟩ : ∃ u, U[i]? = some u := ⟨_, List.getElem?_eq_getElem hi⟩
    obtain ⟨v, hv⟩ : ∃ v, V[i]? = some v := ⟨_, List.getElem?_eq_getElem (by omega)⟩
    have du : U.drop i = u :: U.drop (i + 1) := by rw [List.drop_eq_getElem_cons hi]; congr 1; rw [List.getElem?_eq_getElem hi] at hu; exact Option.some.inj hu
    have dv : V.drop i = v :: V.drop (i + 1) := by rw [List.drop_eq_getElem_cons (by omega)]; congr 1; rw [List.getElem?_eq_getElem (by omega)] at hv; exact Option.some.inj hv
    have tu : U.take (i + 1) = U.take i ++ [u] := by rw [List.take_add_one, hu]; rfl
    have tv : V.take (i + 1) = V.take i ++ [v] := by rw [List.take_add_one, hv]; rfl
    have w1 : IntKind.i64.wrap (((Xs.length : Nat) : Int) + (i : Int)) = ((Xs.length + i : Nat) : Int) := by rw [IntKind.wrap_i64]; omega
    have w2 : IntKind.i64.wrap (((Xs.length + U.length + M.length : Nat) : Int) + (i : Int)) = ((Xs.length + U.length + M.length + i : Nat) : Int) := by rw [IntKind.wrap_i64]; omega
    have w3 : IntKind.i64.wrap ((i : Int) + 1) = ((i + 1 : Nat) : Int) := by rw [IntKind.wrap_i64]; omega
    have a1 := maddr (p := p) (n := (Xs ++ U ++ M ++ V ++ Y).length) (i := Xs.length + i) (by simp only [List.length_append]; omega)
    have a2 := maddr (p := p) (n := (Xs ++ U ++ M ++ V ++ Y).length) (i := Xs.length + U.length + M.length + i) (by simp only [List.length_append]; omega)
    have le1 : Xs.length + i = (Xs ++ V.take i).length := by simp; omega
    have le2 : Xs.length + U.length + M.length + i = (Xs ++ V.take i ++ u :: U.drop (i + 1) ++ M ++ U.take i).length := by simp; omega
    have q1 : Xs ++ (V.take i ++ U.drop i) ++ M ++ (U.take i ++ V.drop i) ++ Y = (Xs ++ V.take i) ++ u :: (U.drop (i + 1) ++ M ++ U.take i ++ V.drop i ++ Y) := by rw [du]; simp
    have q2 : Xs ++ (V.take i ++ U.drop i) ++ M ++ (U.take i ++ V.drop i) ++ Y = (Xs ++ V.take i ++ u :: U.drop (i + 1) ++ M ++ U.take i) ++ v :: (V.drop (i + 1) ++ Y) := by rw [du, dv]; simp
    have g1 := mload hP hs (by rw [q1]; exact get_mid _ _ u le1)
    have g2 := mload hP hs (by rw [q2]; exact get_mid _ _ v le2)
    have hlen : (Xs ++ (V.take i ++ U.drop i) ++ M ++ (U.take i ++ V.drop i) ++ Y).length = Xs.length + U.length + M.length + V.length + Y.length := by simp; omega
    have s1 := mstore hP hs (i := Xs.length + i) (by rw [hlen]; omega) v
    have r1 : (Xs ++ (V.take i ++ U.drop i) ++ M ++ (U.take i ++ V.drop i) ++ Y).set (Xs.length + i) v = (Xs ++ V.take i ++ v :: U.drop (i + 1) ++ M ++ U.take i) ++ v :: (V.drop (i + 1) ++ Y) := by rw [q1, set_mid _ _ u v le1, dv]; simp
    rw [r1] at s1
    have o1 : (s.put p (some (.cells (((Xs ++ V.take i ++ v :: U.drop (i + 1) ++ M ++ U.take i) ++ v :: (V.drop (i + 1) ++ Y)).flatMap f)))).obj p = some (.cells (((Xs ++ V.take i ++ v :: U.drop (i + 1) ++ M ++ U.take i) ++ v :: (V.drop (i + 1) ++ Y)).flatMap f)) := put_eq
    have le3 : Xs.length + U.length + M.length + i = (Xs ++ V.take i ++ v :: U.drop (i + 1) ++ M ++ U.take i).length := by simp; omega
    have s2 := mstore hP o1 (i := Xs.length + U.length + M.length + i) (by rw [le3]; simp) u
    rw [set_mid _ _ v u le3] at s2
    simp only [sSwp_l0, e0, e1, e2, e3, e10, hd, w1, w2, w3, a1, a2, g1, g2, s1, s2, go_sem, ↓reduceIte, reduceCtorEq, Nat.reduceEqDiff, Nat.reduceAdd, Nat.reduceSub, Nat.reduceMul, Nat.reduceLeDiff, Nat.reduceLT, binA]
    refine ⟨j - 1, by omega, i + 1, by omega, rfl, ?_, ?_⟩
    · rw [tu, tv]; simp
    · exact (hk.put _).put _
  · have hd : decide ((i : Int) < (U.length : Int)) = false := by simp; omega
    simp only [sSwp_l0, e0, e1, e2, e3, e10, hd, go_sem, ↓reduceIte, reduceCtorEq, Nat.reduceEqDiff, Nat.reduceAdd, Nat.reduceSub, Nat.reduceMul, Nat.reduceLeDiff, Nat.reduceLT, loadA, rdCells, storeA, setAt, binA]
    refine ⟨by simp, _, rfl, ?_, hk⟩
    rw [hs, List.take_of_length_le (by omega), List.drop_eq_nil_of_le (by omega), List.take_of_length_le (by omega), List.drop_eq_nil_of_le (by omega)]
    simp
end
end Go.Am
