/- The texts of the library's stable sort by a function, over the numbers of the functions that they call. PRINTED BY wip/tools/sorttext.py. Conditions: none. -/
import Derived.Test.YtfleakoephmgaaaDoorAmW
set_option linter.unusedSimpArgs false
set_option linter.unusedVariables false
namespace Go.Am
set_option maxRecDepth 100000
section
variable (nI nM nR nS : Nat)
def sSwp_l0 : CC :=
  (.seq (.seq (.reg [⟨(some 11), none, (.mv (.t 10))⟩, ⟨(some 12), none, (.mv (.t 3))⟩, ⟨(some 13), none, (.bin .lss (.t 11) (.t 12))⟩]) (.cond (.t 13) .skip (.exit 0))) (.seq (.block 1 (.dreg [⟨(some 16), none, (.mv (.t 0))⟩, ⟨(some 17), none, (.mv (.t 1))⟩, ⟨(some 18), none, (.mv (.t 10))⟩, ⟨(some 19), none, (.bin .add (.t 17) (.t 18))⟩, ⟨(some 20), none, (.mv (.t 0))⟩, ⟨(some 21), none, (.mv (.t 2))⟩, ⟨(some 22), none, (.mv (.t 10))⟩, ⟨(some 23), none, (.bin .add (.t 21) (.t 22))⟩, ⟨(some 24), none, (.mv (.t 0))⟩, ⟨(some 25), none, (.mv (.t 2))⟩, ⟨(some 26), none, (.mv (.t 10))⟩, ⟨(some 27), none, (.bin .add (.t 25) (.t 26))⟩, ⟨(some 28), none, (.iaddr 4 (.t 24) (.t 27))⟩, ⟨(some 29), none, (.load true 4 (.t 28))⟩, ⟨(some 30), none, (.mv (.t 0))⟩, ⟨(some 31), none, (.mv (.t 1))⟩, ⟨(some 32), none, (.mv (.t 10))⟩, ⟨(some 33), none, (.bin .add (.t 31) (.t 32))⟩, ⟨(some 34), none, (.iaddr 4 (.t 30) (.t 33))⟩, ⟨(some 35), none, (.load true 4 (.t 34))⟩, ⟨(some 36), none, (.iaddr 4 (.t 16) (.t 19))⟩, ⟨none, none, (.store 4 (.t 36) (.t 29))⟩, ⟨(some 37), none, (.iaddr 4 (.t 20) (.t 23))⟩, ⟨none, none, (.store 4 (.t 37) (.t 35))⟩] [])) (.reg [⟨(some 14), none, (.mv (.t 10))⟩, ⟨(some 15), none, (.bin .add (.t 14) (.c (.int .i64 1)))⟩, ⟨(some 10), none, (.mv (.t 15))⟩])))
def sSwp : CF :=
  ⟨38, [], (.seq (.reg [⟨(some 10), none, (.mv (.c (.int .i64 0)))⟩]) (.block 0 (.loop sSwp_l0)))⟩

def sRot_l0 : CC :=
  (.seq (.seq (.reg [⟨(some 18), none, (.mv (.t 10))⟩, ⟨(some 19), none, (.mv (.t 11))⟩, ⟨(some 20), none, (.bin .neq (.t 18) (.t 19))⟩]) (.cond (.t 20) .skip (.exit 0))) (.block 1 (.seq (.reg [⟨(some 21), none, (.mv (.t 10))⟩, ⟨(some 22), none, (.mv (.t 11))⟩, ⟨(some 23), none, (.bin .gtr (.t 21) (.t 22))⟩]) (.cond (.t 23) (.seq (.reg [⟨(some 24), none, (.mv (.t 0))⟩, ⟨(some 25), none, (.mv (.t 2))⟩, ⟨(some 26), none, (.mv (.t 10))⟩, ⟨(some 27), none, (.bin .sub (.t 25) (.t 26))⟩, ⟨(some 28), none, (.mv (.t 2))⟩, ⟨(some 29), none, (.mv (.t 11))⟩, ⟨(some 30), none, (.mv (.t 4))⟩, ⟨(some 31), none, (.call nS [(.t 24), (.t 27), (.t 28), (.t 29), (.t 30)])⟩]) (.reg [⟨(some 32), none, (.mv (.t 10))⟩, ⟨(some 33), none, (.mv (.t 11))⟩, ⟨(some 34), none, (.bin .sub (.t 32) (.t 33))⟩, ⟨(some 10), none, (.mv (.t 34))⟩])) (.seq (.reg [⟨(some 35), none, (.mv (.t 0))⟩, ⟨(some 36), none, (.mv (.t 2))⟩, ⟨(some 37), none, (.mv (.t 10))⟩, ⟨(some 38), none, (.bin .sub (.t 36) (.t 37))⟩, ⟨(some 39), none, (.mv (.t 2))⟩, ⟨(some 40), none, (.mv (.t 11))⟩, ⟨(some 41), none, (.bin .add (.t 39) (.t 40))⟩, ⟨(some 42), none, (.mv (.t 10))⟩, ⟨(some 43), none, (.bin .sub (.t 41) (.t 42))⟩, ⟨(some 44), none, (.mv (.t 10))⟩, ⟨(some 45), none, (.mv (.t 4))⟩, ⟨(some 46), none, (.call nS [(.t 35), (.t 38), (.t 43), (.t 44), (.t 45)])⟩]) (.reg [⟨(some 47), none, (.mv (.t 11))⟩, ⟨(some 48), none, (.mv (.t 10))⟩, ⟨(some 49), none, (.bin .sub (.t 47) (.t 48))⟩, ⟨(some 11), none, (.mv (.t 49))⟩]))))))
def sRot : CF :=
  ⟨58, [], (.seq (.reg [⟨(some 12), none, (.mv (.t 2))⟩, ⟨(some 13), none, (.mv (.t 1))⟩, ⟨(some 14), none, (.bin .sub (.t 12) (.t 13))⟩, ⟨(some 10), none, (.mv (.t 14))⟩]) (.seq (.reg [⟨(some 15), none, (.mv (.t 3))⟩, ⟨(some 16), none, (.mv (.t 2))⟩, ⟨(some 17), none, (.bin .sub (.t 15) (.t 16))⟩, ⟨(some 11), none, (.mv (.t 17))⟩]) (.seq (.block 0 (.loop (sRot_l0 nS))) (.reg [⟨(some 50), none, (.mv (.t 0))⟩, ⟨(some 51), none, (.mv (.t 2))⟩, ⟨(some 52), none, (.mv (.t 10))⟩, ⟨(some 53), none, (.bin .sub (.t 51) (.t 52))⟩, ⟨(some 54), none, (.mv (.t 2))⟩, ⟨(some 55), none, (.mv (.t 10))⟩, ⟨(some 56), none, (.mv (.t 4))⟩, ⟨(some 57), none, (.call nS [(.t 50), (.t 53), (.t 54), (.t 55), (.t 56)])⟩]))))⟩

def sIns_l0 : CC :=
  (.seq (.seq (.dreg [⟨(some 18), none, (.mv (.t 9))⟩, ⟨(some 19), none, (.mv (.t 1))⟩, ⟨(some 20), none, (.bin .gtr (.t 18) (.t 19))⟩, ⟨(some 21), none, (.mv (.t 20))⟩, ⟨(some 22), (some ((some 21), true)), (.mv (.t 3))⟩, ⟨(some 23), (some ((some 21), true)), (.mv (.t 0))⟩, ⟨(some 24), (some ((some 21), true)), (.mv (.t 9))⟩, ⟨(some 25), (some ((some 21), true)), (.iaddr 4 (.t 23) (.t 24))⟩, ⟨(some 26), (some ((some 21), true)), (.load true 4 (.t 25))⟩, ⟨(some 27), (some ((some 21), true)), (.mv (.t 0))⟩, ⟨(some 28), (some ((some 21), true)), (.mv (.t 9))⟩, ⟨(some 29), (some ((some 21), true)), (.bin .sub (.t 28) (.c (.int .i64 1)))⟩, ⟨(some 30), (some ((some 21), true)), (.iaddr 4 (.t 27) (.t 29))⟩, ⟨(some 31), (some ((some 21), true)), (.load true 4 (.t 30))⟩, ⟨(some 32), (some ((some 21), true)), (.callv (.t 22) [(.t 26), (.t 31)])⟩, ⟨(some 33), (some ((some 21), true)), (.bin .lss (.t 32) (.c (.int .i64 0)))⟩, ⟨(some 34), none, (.pick (.t 21) (.t 33) (.c (.bool false)))⟩] []) (.cond (.t 34) .skip (.exit 2))) (.seq (.block 3 (.dreg [⟨(some 37), none, (.mv (.t 0))⟩, ⟨(some 38), none, (.mv (.t 9))⟩, ⟨(some 39), none, (.mv (.t 0))⟩, ⟨(some 40), none, (.mv (.t 9))⟩, ⟨(some 41), none, (.bin .sub (.t 40) (.c (.int .i64 1)))⟩, ⟨(some 42), none, (.mv (.t 0))⟩, ⟨(some 43), none, (.mv (.t 9))⟩, ⟨(some 44), none, (.bin .sub (.t 43) (.c (.int .i64 1)))⟩, ⟨(some 45), none, (.iaddr 4 (.t 42) (.t 44))⟩, ⟨(some 46), none, (.load true 4 (.t 45))⟩, ⟨(some 47), none, (.mv (.t 0))⟩, ⟨(some 48), none, (.mv (.t 9))⟩, ⟨(some 49), none, (.iaddr 4 (.t 47) (.t 48))⟩, ⟨(some 50), none, (.load true 4 (.t 49))⟩, ⟨(some 51), none, (.iaddr 4 (.t 37) (.t 38))⟩, ⟨none, none, (.store 4 (.t 51) (.t 46))⟩, ⟨(some 52), none, (.iaddr 4 (.t 39) (.t 41))⟩, ⟨none, none, (.store 4 (.t 52) (.t 50))⟩] [])) (.reg [⟨(some 35), none, (.mv (.t 9))⟩, ⟨(some 36), none, (.bin .sub (.t 35) (.c (.int .i64 1)))⟩, ⟨(some 9), none, (.mv (.t 36))⟩])))
def sIns_l1 : CC :=
  (.seq (.seq (.reg [⟨(some 12), none, (.mv (.t 8))⟩, ⟨(some 13), none, (.mv (.t 2))⟩, ⟨(some 14), none, (.bin .lss (.t 12) (.t 13))⟩]) (.cond (.t 14) .skip (.exit 0))) (.seq (.block 1 (.seq (.reg [⟨(some 17), none, (.mv (.t 8))⟩, ⟨(some 9), none, (.mv (.t 17))⟩]) (.block 2 (.loop sIns_l0)))) (.reg [⟨(some 15), none, (.mv (.t 8))⟩, ⟨(some 16), none, (.bin .add (.t 15) (.c (.int .i64 1)))⟩, ⟨(some 8), none, (.mv (.t 16))⟩])))
def sIns : CF :=
  ⟨53, [], (.seq (.reg [⟨(some 10), none, (.mv (.t 1))⟩, ⟨(some 11), none, (.bin .add (.t 10) (.c (.int .i64 1)))⟩, ⟨(some 8), none, (.mv (.t 11))⟩]) (.block 0 (.loop sIns_l1)))⟩

def sSym_l0 : CC :=
  (.seq (.seq (.reg [⟨(some 149), none, (.mv (.t 20))⟩, ⟨(some 150), none, (.mv (.t 21))⟩, ⟨(some 151), none, (.bin .lss (.t 149) (.t 150))⟩]) (.cond (.t 151) .skip (.exit 8))) (.block 9 (.seq (.reg [⟨(some 152), none, (.mv (.t 20))⟩, ⟨(some 153), none, (.mv (.t 21))⟩, ⟨(some 154), none, (.bin .add (.t 152) (.t 153))⟩, ⟨(some 155), none, (.conv .u64 (.t 154))⟩, ⟨(some 156), none, (.shf .shr (.t 155) (.c (.int .u64 1)))⟩, ⟨(some 157), none, (.conv .i64 (.t 156))⟩, ⟨(some 23), none, (.mv (.t 157))⟩]) (.seq (.dreg [⟨(some 158), none, (.mv (.t 4))⟩, ⟨(some 159), none, (.mv (.t 0))⟩, ⟨(some 160), none, (.mv (.t 22))⟩, ⟨(some 161), none, (.mv (.t 23))⟩, ⟨(some 162), none, (.bin .sub (.t 160) (.t 161))⟩, ⟨(some 163), none, (.iaddr 4 (.t 159) (.t 162))⟩, ⟨(some 164), none, (.load true 4 (.t 163))⟩, ⟨(some 165), none, (.mv (.t 0))⟩, ⟨(some 166), none, (.mv (.t 23))⟩, ⟨(some 167), none, (.iaddr 4 (.t 165) (.t 166))⟩, ⟨(some 168), none, (.load true 4 (.t 167))⟩, ⟨(some 169), none, (.callv (.t 158) [(.t 164), (.t 168)])⟩, ⟨(some 170), none, (.bin .lss (.t 169) (.c (.int .i64 0)))⟩, ⟨(some 171), none, (.un .not (.t 170))⟩] []) (.cond (.t 171) (.reg [⟨(some 172), none, (.mv (.t 23))⟩, ⟨(some 173), none, (.bin .add (.t 172) (.c (.int .i64 1)))⟩, ⟨(some 20), none, (.mv (.t 173))⟩]) (.reg [⟨(some 174), none, (.mv (.t 23))⟩, ⟨(some 21), none, (.mv (.t 174))⟩]))))))
def sSym_l1 : CC :=
  (.seq (.seq (.reg [⟨(some 108), none, (.mv (.t 17))⟩, ⟨(some 109), none, (.mv (.t 14))⟩, ⟨(some 110), none, (.bin .gtr (.t 108) (.t 109))⟩]) (.cond (.t 110) .skip (.exit 6))) (.seq (.block 7 (.dreg [⟨(some 113), none, (.mv (.t 0))⟩, ⟨(some 114), none, (.mv (.t 17))⟩, ⟨(some 115), none, (.mv (.t 0))⟩, ⟨(some 116), none, (.mv (.t 17))⟩, ⟨(some 117), none, (.bin .sub (.t 116) (.c (.int .i64 1)))⟩, ⟨(some 118), none, (.mv (.t 0))⟩, ⟨(some 119), none, (.mv (.t 17))⟩, ⟨(some 120), none, (.bin .sub (.t 119) (.c (.int .i64 1)))⟩, ⟨(some 121), none, (.iaddr 4 (.t 118) (.t 120))⟩, ⟨(some 122), none, (.load true 4 (.t 121))⟩, ⟨(some 123), none, (.mv (.t 0))⟩, ⟨(some 124), none, (.mv (.t 17))⟩, ⟨(some 125), none, (.iaddr 4 (.t 123) (.t 124))⟩, ⟨(some 126), none, (.load true 4 (.t 125))⟩, ⟨(some 127), none, (.iaddr 4 (.t 113) (.t 114))⟩, ⟨none, none, (.store 4 (.t 127) (.t 122))⟩, ⟨(some 128), none, (.iaddr 4 (.t 115) (.t 117))⟩, ⟨none, none, (.store 4 (.t 128) (.t 126))⟩] [])) (.reg [⟨(some 111), none, (.mv (.t 17))⟩, ⟨(some 112), none, (.bin .sub (.t 111) (.c (.int .i64 1)))⟩, ⟨(some 17), none, (.mv (.t 112))⟩])))
def sSym_l2 : CC :=
  (.seq (.seq (.reg [⟨(some 83), none, (.mv (.t 14))⟩, ⟨(some 84), none, (.mv (.t 15))⟩, ⟨(some 85), none, (.bin .lss (.t 83) (.t 84))⟩]) (.cond (.t 85) .skip (.exit 4))) (.block 5 (.seq (.reg [⟨(some 86), none, (.mv (.t 14))⟩, ⟨(some 87), none, (.mv (.t 15))⟩, ⟨(some 88), none, (.bin .add (.t 86) (.t 87))⟩, ⟨(some 89), none, (.conv .u64 (.t 88))⟩, ⟨(some 90), none, (.shf .shr (.t 89) (.c (.int .u64 1)))⟩, ⟨(some 91), none, (.conv .i64 (.t 90))⟩, ⟨(some 16), none, (.mv (.t 91))⟩]) (.seq (.dreg [⟨(some 92), none, (.mv (.t 4))⟩, ⟨(some 93), none, (.mv (.t 0))⟩, ⟨(some 94), none, (.mv (.t 2))⟩, ⟨(some 95), none, (.iaddr 4 (.t 93) (.t 94))⟩, ⟨(some 96), none, (.load true 4 (.t 95))⟩, ⟨(some 97), none, (.mv (.t 0))⟩, ⟨(some 98), none, (.mv (.t 16))⟩, ⟨(some 99), none, (.iaddr 4 (.t 97) (.t 98))⟩, ⟨(some 100), none, (.load true 4 (.t 99))⟩, ⟨(some 101), none, (.callv (.t 92) [(.t 96), (.t 100)])⟩, ⟨(some 102), none, (.bin .lss (.t 101) (.c (.int .i64 0)))⟩, ⟨(some 103), none, (.un .not (.t 102))⟩] []) (.cond (.t 103) (.reg [⟨(some 104), none, (.mv (.t 16))⟩, ⟨(some 105), none, (.bin .add (.t 104) (.c (.int .i64 1)))⟩, ⟨(some 14), none, (.mv (.t 105))⟩]) (.reg [⟨(some 106), none, (.mv (.t 16))⟩, ⟨(some 15), none, (.mv (.t 106))⟩]))))))
def sSym_l3 : CC :=
  (.seq (.seq (.reg [⟨(some 55), none, (.mv (.t 13))⟩, ⟨(some 56), none, (.mv (.t 10))⟩, ⟨(some 57), none, (.bin .sub (.t 56) (.c (.int .i64 1)))⟩, ⟨(some 58), none, (.bin .lss (.t 55) (.t 57))⟩]) (.cond (.t 58) .skip (.exit 2))) (.seq (.block 3 (.dreg [⟨(some 61), none, (.mv (.t 0))⟩, ⟨(some 62), none, (.mv (.t 13))⟩, ⟨(some 63), none, (.mv (.t 0))⟩, ⟨(some 64), none, (.mv (.t 13))⟩, ⟨(some 65), none, (.bin .add (.t 64) (.c (.int .i64 1)))⟩, ⟨(some 66), none, (.mv (.t 0))⟩, ⟨(some 67), none, (.mv (.t 13))⟩, ⟨(some 68), none, (.bin .add (.t 67) (.c (.int .i64 1)))⟩, ⟨(some 69), none, (.iaddr 4 (.t 66) (.t 68))⟩, ⟨(some 70), none, (.load true 4 (.t 69))⟩, ⟨(some 71), none, (.mv (.t 0))⟩, ⟨(some 72), none, (.mv (.t 13))⟩, ⟨(some 73), none, (.iaddr 4 (.t 71) (.t 72))⟩, ⟨(some 74), none, (.load true 4 (.t 73))⟩, ⟨(some 75), none, (.iaddr 4 (.t 61) (.t 62))⟩, ⟨none, none, (.store 4 (.t 75) (.t 70))⟩, ⟨(some 76), none, (.iaddr 4 (.t 63) (.t 65))⟩, ⟨none, none, (.store 4 (.t 76) (.t 74))⟩] [])) (.reg [⟨(some 59), none, (.mv (.t 13))⟩, ⟨(some 60), none, (.bin .add (.t 59) (.c (.int .i64 1)))⟩, ⟨(some 13), none, (.mv (.t 60))⟩])))
def sSym_l4 : CC :=
  (.seq (.seq (.reg [⟨(some 31), none, (.mv (.t 10))⟩, ⟨(some 32), none, (.mv (.t 11))⟩, ⟨(some 33), none, (.bin .lss (.t 31) (.t 32))⟩]) (.cond (.t 33) .skip (.exit 0))) (.block 1 (.seq (.reg [⟨(some 34), none, (.mv (.t 10))⟩, ⟨(some 35), none, (.mv (.t 11))⟩, ⟨(some 36), none, (.bin .add (.t 34) (.t 35))⟩, ⟨(some 37), none, (.conv .u64 (.t 36))⟩, ⟨(some 38), none, (.shf .shr (.t 37) (.c (.int .u64 1)))⟩, ⟨(some 39), none, (.conv .i64 (.t 38))⟩, ⟨(some 12), none, (.mv (.t 39))⟩]) (.seq (.dreg [⟨(some 40), none, (.mv (.t 4))⟩, ⟨(some 41), none, (.mv (.t 0))⟩, ⟨(some 42), none, (.mv (.t 12))⟩, ⟨(some 43), none, (.iaddr 4 (.t 41) (.t 42))⟩, ⟨(some 44), none, (.load true 4 (.t 43))⟩, ⟨(some 45), none, (.mv (.t 0))⟩, ⟨(some 46), none, (.mv (.t 1))⟩, ⟨(some 47), none, (.iaddr 4 (.t 45) (.t 46))⟩, ⟨(some 48), none, (.load true 4 (.t 47))⟩, ⟨(some 49), none, (.callv (.t 40) [(.t 44), (.t 48)])⟩, ⟨(some 50), none, (.bin .lss (.t 49) (.c (.int .i64 0)))⟩] []) (.cond (.t 50) (.reg [⟨(some 51), none, (.mv (.t 12))⟩, ⟨(some 52), none, (.bin .add (.t 51) (.c (.int .i64 1)))⟩, ⟨(some 10), none, (.mv (.t 52))⟩]) (.reg [⟨(some 53), none, (.mv (.t 12))⟩, ⟨(some 11), none, (.mv (.t 53))⟩]))))))
def sSym_x : CC :=
  (.seq (.reg [⟨(some 206), none, (.mv (.t 18))⟩, ⟨(some 207), none, (.mv (.t 24))⟩, ⟨(some 208), none, (.bin .lss (.t 206) (.t 207))⟩, ⟨(some 209), none, (.mv (.t 208))⟩, ⟨(some 210), (some ((some 209), true)), (.mv (.t 24))⟩, ⟨(some 211), (some ((some 209), true)), (.mv (.t 3))⟩, ⟨(some 212), (some ((some 209), true)), (.bin .lss (.t 210) (.t 211))⟩, ⟨(some 213), none, (.pick (.t 209) (.t 212) (.c (.bool false)))⟩]) (.cond (.t 213) (.reg [⟨(some 214), none, (.mv (.t 0))⟩, ⟨(some 215), none, (.mv (.t 18))⟩, ⟨(some 216), none, (.mv (.t 24))⟩, ⟨(some 217), none, (.mv (.t 3))⟩, ⟨(some 218), none, (.mv (.t 4))⟩, ⟨(some 219), none, (.call nM [(.t 214), (.t 215), (.t 216), (.t 217), (.t 218)])⟩]) .skip))
def sSym_w : CC :=
  (.seq (.seq (.reg [⟨(some 192), none, (.mv (.t 1))⟩, ⟨(some 193), none, (.mv (.t 20))⟩, ⟨(some 194), none, (.bin .lss (.t 192) (.t 193))⟩, ⟨(some 195), none, (.mv (.t 194))⟩, ⟨(some 196), (some ((some 195), true)), (.mv (.t 20))⟩, ⟨(some 197), (some ((some 195), true)), (.mv (.t 18))⟩, ⟨(some 198), (some ((some 195), true)), (.bin .lss (.t 196) (.t 197))⟩, ⟨(some 199), none, (.pick (.t 195) (.t 198) (.c (.bool false)))⟩]) (.cond (.t 199) (.reg [⟨(some 200), none, (.mv (.t 0))⟩, ⟨(some 201), none, (.mv (.t 1))⟩, ⟨(some 202), none, (.mv (.t 20))⟩, ⟨(some 203), none, (.mv (.t 18))⟩, ⟨(some 204), none, (.mv (.t 4))⟩, ⟨(some 205), none, (.call nM [(.t 200), (.t 201), (.t 202), (.t 203), (.t 204)])⟩]) .skip)) (sSym_x nM))
def sSym_v : CC :=
  (.seq (.seq (.reg [⟨(some 178), none, (.mv (.t 20))⟩, ⟨(some 179), none, (.mv (.t 2))⟩, ⟨(some 180), none, (.bin .lss (.t 178) (.t 179))⟩, ⟨(some 181), none, (.mv (.t 180))⟩, ⟨(some 182), (some ((some 181), true)), (.mv (.t 2))⟩, ⟨(some 183), (some ((some 181), true)), (.mv (.t 24))⟩, ⟨(some 184), (some ((some 181), true)), (.bin .lss (.t 182) (.t 183))⟩, ⟨(some 185), none, (.pick (.t 181) (.t 184) (.c (.bool false)))⟩]) (.cond (.t 185) (.reg [⟨(some 186), none, (.mv (.t 0))⟩, ⟨(some 187), none, (.mv (.t 20))⟩, ⟨(some 188), none, (.mv (.t 2))⟩, ⟨(some 189), none, (.mv (.t 24))⟩, ⟨(some 190), none, (.mv (.t 4))⟩, ⟨(some 191), none, (.call nR [(.t 186), (.t 187), (.t 188), (.t 189), (.t 190)])⟩]) .skip)) (sSym_w nM))
def sSym_u : CC :=
  (.seq (.reg [⟨(some 147), none, (.mv (.t 19))⟩, ⟨(some 148), none, (.bin .sub (.t 147) (.c (.int .i64 1)))⟩, ⟨(some 22), none, (.mv (.t 148))⟩]) (.seq (.block 8 (.loop sSym_l0)) (.seq (.reg [⟨(some 175), none, (.mv (.t 19))⟩, ⟨(some 176), none, (.mv (.t 20))⟩, ⟨(some 177), none, (.bin .sub (.t 175) (.t 176))⟩, ⟨(some 24), none, (.mv (.t 177))⟩]) (sSym_v nM nR))))
def sSym_t : CC :=
  (.seq (.reg [⟨(some 129), none, (.mv (.t 1))⟩, ⟨(some 130), none, (.mv (.t 3))⟩, ⟨(some 131), none, (.bin .add (.t 129) (.t 130))⟩, ⟨(some 132), none, (.conv .u64 (.t 131))⟩, ⟨(some 133), none, (.shf .shr (.t 132) (.c (.int .u64 1)))⟩, ⟨(some 134), none, (.conv .i64 (.t 133))⟩, ⟨(some 18), none, (.mv (.t 134))⟩]) (.seq (.reg [⟨(some 135), none, (.mv (.t 18))⟩, ⟨(some 136), none, (.mv (.t 2))⟩, ⟨(some 137), none, (.bin .add (.t 135) (.t 136))⟩, ⟨(some 19), none, (.mv (.t 137))⟩]) (.seq (.reg [⟨(some 20), none, (.mv (.c (.int .i64 0)))⟩, ⟨(some 21), none, (.mv (.c (.int .i64 0)))⟩]) (.seq (.seq (.reg [⟨(some 138), none, (.mv (.t 2))⟩, ⟨(some 139), none, (.mv (.t 18))⟩, ⟨(some 140), none, (.bin .gtr (.t 138) (.t 139))⟩]) (.cond (.t 140) (.seq (.reg [⟨(some 141), none, (.mv (.t 19))⟩, ⟨(some 142), none, (.mv (.t 3))⟩, ⟨(some 143), none, (.bin .sub (.t 141) (.t 142))⟩, ⟨(some 20), none, (.mv (.t 143))⟩]) (.reg [⟨(some 144), none, (.mv (.t 18))⟩, ⟨(some 21), none, (.mv (.t 144))⟩])) (.seq (.reg [⟨(some 145), none, (.mv (.t 1))⟩, ⟨(some 20), none, (.mv (.t 145))⟩]) (.reg [⟨(some 146), none, (.mv (.t 2))⟩, ⟨(some 21), none, (.mv (.t 146))⟩])))) (sSym_u nM nR)))))
def sSym : CF :=
  ⟨220, [], (.seq (.seq (.reg [⟨(some 25), none, (.mv (.t 2))⟩, ⟨(some 26), none, (.mv (.t 1))⟩, ⟨(some 27), none, (.bin .sub (.t 25) (.t 26))⟩, ⟨(some 28), none, (.bin .eql (.t 27) (.c (.int .i64 1)))⟩]) (.cond (.t 28) (.seq (.reg [⟨(some 29), none, (.mv (.t 2))⟩, ⟨(some 10), none, (.mv (.t 29))⟩]) (.seq (.reg [⟨(some 30), none, (.mv (.t 3))⟩, ⟨(some 11), none, (.mv (.t 30))⟩]) (.seq (.block 0 (.loop sSym_l4)) (.seq (.seq (.reg [⟨(some 54), none, (.mv (.t 1))⟩, ⟨(some 13), none, (.mv (.t 54))⟩]) (.block 2 (.loop sSym_l3))) .ret)))) .skip)) (.seq (.seq (.reg [⟨(some 77), none, (.mv (.t 3))⟩, ⟨(some 78), none, (.mv (.t 2))⟩, ⟨(some 79), none, (.bin .sub (.t 77) (.t 78))⟩, ⟨(some 80), none, (.bin .eql (.t 79) (.c (.int .i64 1)))⟩]) (.cond (.t 80) (.seq (.reg [⟨(some 81), none, (.mv (.t 1))⟩, ⟨(some 14), none, (.mv (.t 81))⟩]) (.seq (.reg [⟨(some 82), none, (.mv (.t 2))⟩, ⟨(some 15), none, (.mv (.t 82))⟩]) (.seq (.block 4 (.loop sSym_l2)) (.seq (.seq (.reg [⟨(some 107), none, (.mv (.t 2))⟩, ⟨(some 17), none, (.mv (.t 107))⟩]) (.block 6 (.loop sSym_l1))) .ret)))) .skip)) (sSym_t nM nR)))⟩

def sStb_l0 : CC :=
  (.seq (.seq (.reg [⟨(some 33), none, (.mv (.t 8))⟩, ⟨(some 34), none, (.mv (.t 1))⟩, ⟨(some 35), none, (.bin .leq (.t 33) (.t 34))⟩]) (.cond (.t 35) .skip (.exit 4))) (.block 5 (.seq (.reg [⟨(some 36), none, (.mv (.t 0))⟩, ⟨(some 37), none, (.mv (.t 7))⟩, ⟨(some 38), none, (.mv (.t 7))⟩, ⟨(some 39), none, (.mv (.t 6))⟩, ⟨(some 40), none, (.bin .add (.t 38) (.t 39))⟩, ⟨(some 41), none, (.mv (.t 8))⟩, ⟨(some 42), none, (.mv (.t 2))⟩, ⟨(some 43), none, (.call nM [(.t 36), (.t 37), (.t 40), (.t 41), (.t 42)])⟩]) (.seq (.reg [⟨(some 44), none, (.mv (.t 8))⟩, ⟨(some 7), none, (.mv (.t 44))⟩]) (.reg [⟨(some 45), none, (.mv (.t 8))⟩, ⟨(some 46), none, (.mv (.t 6))⟩, ⟨(some 47), none, (.bin .mul (.c (.int .i64 2)) (.t 46))⟩, ⟨(some 48), none, (.bin .add (.t 45) (.t 47))⟩, ⟨(some 8), none, (.mv (.t 48))⟩])))))
def sStb_l1 : CC :=
  (.seq (.seq (.reg [⟨(some 28), none, (.mv (.t 6))⟩, ⟨(some 29), none, (.mv (.t 1))⟩, ⟨(some 30), none, (.bin .lss (.t 28) (.t 29))⟩]) (.cond (.t 30) .skip (.exit 2))) (.block 3 (.seq (.reg [⟨(some 31), none, (.mv (.t 6))⟩, ⟨(some 32), none, (.bin .mul (.c (.int .i64 2)) (.t 31))⟩, ⟨(some 7), none, (.mv (.c (.int .i64 0)))⟩, ⟨(some 8), none, (.mv (.t 32))⟩]) (.seq (.block 4 (.loop (sStb_l0 nM))) (.seq (.seq (.reg [⟨(some 49), none, (.mv (.t 7))⟩, ⟨(some 50), none, (.mv (.t 6))⟩, ⟨(some 51), none, (.bin .add (.t 49) (.t 50))⟩, ⟨(some 9), none, (.mv (.t 51))⟩]) (.seq (.reg [⟨(some 52), none, (.mv (.t 9))⟩, ⟨(some 53), none, (.mv (.t 1))⟩, ⟨(some 54), none, (.bin .lss (.t 52) (.t 53))⟩]) (.cond (.t 54) (.reg [⟨(some 55), none, (.mv (.t 0))⟩, ⟨(some 56), none, (.mv (.t 7))⟩, ⟨(some 57), none, (.mv (.t 9))⟩, ⟨(some 58), none, (.mv (.t 1))⟩, ⟨(some 59), none, (.mv (.t 2))⟩, ⟨(some 60), none, (.call nM [(.t 55), (.t 56), (.t 57), (.t 58), (.t 59)])⟩]) .skip))) (.reg [⟨(some 61), none, (.mv (.t 6))⟩, ⟨(some 62), none, (.bin .mul (.t 61) (.c (.int .i64 2)))⟩, ⟨(some 6), none, (.mv (.t 62))⟩]))))))
def sStb_l2 : CC :=
  (.seq (.seq (.reg [⟨(some 11), none, (.mv (.t 8))⟩, ⟨(some 12), none, (.mv (.t 1))⟩, ⟨(some 13), none, (.bin .leq (.t 11) (.t 12))⟩]) (.cond (.t 13) .skip (.exit 0))) (.block 1 (.seq (.reg [⟨(some 14), none, (.mv (.t 0))⟩, ⟨(some 15), none, (.mv (.t 7))⟩, ⟨(some 16), none, (.mv (.t 8))⟩, ⟨(some 17), none, (.mv (.t 2))⟩, ⟨(some 18), none, (.call nI [(.t 14), (.t 15), (.t 16), (.t 17)])⟩]) (.seq (.reg [⟨(some 19), none, (.mv (.t 8))⟩, ⟨(some 7), none, (.mv (.t 19))⟩]) (.reg [⟨(some 20), none, (.mv (.t 8))⟩, ⟨(some 21), none, (.mv (.t 6))⟩, ⟨(some 22), none, (.bin .add (.t 20) (.t 21))⟩, ⟨(some 8), none, (.mv (.t 22))⟩])))))
def sStb : CF :=
  ⟨63, [], (.seq (.reg [⟨(some 6), none, (.mv (.c (.int .i64 20)))⟩]) (.seq (.reg [⟨(some 10), none, (.mv (.t 6))⟩, ⟨(some 7), none, (.mv (.c (.int .i64 0)))⟩, ⟨(some 8), none, (.mv (.t 10))⟩]) (.seq (.block 0 (.loop (sStb_l2 nI))) (.seq (.reg [⟨(some 23), none, (.mv (.t 0))⟩, ⟨(some 24), none, (.mv (.t 7))⟩, ⟨(some 25), none, (.mv (.t 1))⟩, ⟨(some 26), none, (.mv (.t 2))⟩, ⟨(some 27), none, (.call nI [(.t 23), (.t 24), (.t 25), (.t 26)])⟩]) (.block 2 (.loop (sStb_l1 nM)))))))⟩

end
end Go.Am

/- A stable sort by insertion, and what leaves its result as it is. Conditions: none. -/
namespace Go.So

structure Ord {α : Type} (lt : α → α → Bool) : Prop where
  asym : ∀ a b, lt a b = true → lt b a = false
  trans : ∀ a b c, lt b a = false → lt c b = false → lt c a = false

section
variable {α : Type} {lt : α → α → Bool}

/-- Into a sorted list: ahead of those that are equal. -/
def ins (lt : α → α → Bool) (x : α) : List α → List α
  | [] => [x]
  | y :: l => if lt y x then y :: ins lt x l else x :: y :: l
def isort (lt : α → α → Bool) (l : List α) : List α := l.foldr (ins lt) []

/-- Sorted. -/
def Srt (lt : α → α → Bool) (l : List α) : Prop := l.Pairwise fun a b => lt b a = false

theorem Ord.strict (O : Ord lt) {a b c : α} (h1 : lt a b = true) (h2 : lt c b = false) : lt a c = true := by
  cases h : lt a c with
  | true => rfl
  | false => have := O.trans b c a h2 h; rw [h1] at this; cases this
theorem Ord.strict' (O : Ord lt) {a b c : α} (h1 : lt b a = false) (h2 : lt b c = true) : lt a c = true := by
  cases h : lt a c with
  | true => rfl
  | false =>
    have := O.trans c a b h h1; rw [h2] at this; cases this
theorem Ord.irr (O : Ord lt) (a : α) : lt a a = false := by
  cases h : lt a a with
  | false => rfl
  | true => have := O.asym a a h; rw [h] at this; cases this

theorem ins_len (x : α) : ∀ l, (ins lt x l).length = l.length + 1
  | [] => rfl
  | y :: l => by
    rw [ins]; split
    · simp [ins_len x l]
    · rfl
theorem isort_len (l : List α) : (isort lt l).length = l.length := by
  induction l with
  | nil => rfl
  | cons x l ih => show (ins lt x (isort lt l)).length = _; rw [ins_len, ih]; rfl
theorem ins_mem (x : α) : ∀ (l : List α) (z : α), z ∈ ins lt x l ↔ z = x ∨ z ∈ l
  | [], z => by simp [ins]
  | y :: l, z => by
    rw [ins]; split
    · simp only [List.mem_cons, ins_mem x l z]
      exact ⟨fun h => h.elim (fun h => Or.inr (Or.inl h)) fun h => h.elim Or.inl fun h => Or.inr (Or.inr h), fun h => h.elim (fun h => Or.inr (Or.inl h)) fun h => h.elim Or.inl fun h => Or.inr (Or.inr h)⟩
    · simp
theorem isort_mem (l : List α) (z : α) : z ∈ isort lt l ↔ z ∈ l := by
  induction l with
  | nil => simp [isort]
  | cons x l ih => show z ∈ ins lt x (isort lt l) ↔ _; rw [ins_mem, ih]; simp
theorem ins_srt (O : Ord lt) (x : α) : ∀ {l : List α}, Srt lt l → Srt lt (ins lt x l)
  | [], _ => by simp [Srt, ins]
  | y :: l, h => by
    have h' := List.pairwise_cons.1 h
    rw [ins]; split
    · rename_i hyx
      refine List.pairwise_cons.2 ⟨fun z hz => ?_, ins_srt O x h'.2⟩
      rcases (ins_mem x l z).1 hz with rfl | hz
      · exact O.asym _ _ hyx
      · exact h'.1 z hz
    · rename_i hyx
      have hyx' : lt y x = false := by simpa using hyx
      refine List.pairwise_cons.2 ⟨fun z hz => ?_, h⟩
      rcases List.mem_cons.1 hz with rfl | hz
      · exact hyx'
      · exact O.trans x y z hyx' (h'.1 z hz)
theorem foldr_srt (O : Ord lt) {S : List α} (hS : Srt lt S) (l : List α) : Srt lt (l.foldr (ins lt) S) := by
  induction l with
  | nil => exact hS
  | cons x l ih => exact ins_srt O x ih
theorem isort_srt (O : Ord lt) (l : List α) : Srt lt (isort lt l) := foldr_srt O List.Pairwise.nil l
theorem ins_front {x : α} : ∀ {l : List α}, (∀ z, z ∈ l → lt z x = false) → ins lt x l = x :: l
  | [], _ => rfl
  | y :: l, h => by rw [ins, if_neg (by rw [h y (by simp)]; simp)]
theorem isort_of : ∀ {l : List α}, Srt lt l → isort lt l = l
  | [], _ => rfl
  | x :: l, h => by
    have h' := List.pairwise_cons.1 h
    show ins lt x (isort lt l) = _
    rw [isort_of h'.2, ins_front h'.1]

/-- Two that are apart change places. -/
theorem ins_comm (O : Ord lt) {x y : α} (hyx : lt y x = true) : ∀ {S : List α}, Srt lt S → ins lt x (ins lt y S) = ins lt y (ins lt x S)
  | [], _ => by
    have hxy := O.asym _ _ hyx
    simp [ins, hyx, hxy]
  | z :: S, h => by
    have h' := List.pairwise_cons.1 h
    have hxy := O.asym _ _ hyx
    by_cases hzy : lt z y = true
    · have hzx : lt z x = true := by
        cases hc : lt z x with
        | true => rfl
        | false => have := O.trans y x z hxy hc; rw [hzy] at this; cases this
      simp only [ins, hzy, hzx, if_true]
      rw [ins_comm O hyx h'.2]
    · have hzy' : lt z y = false := by simpa using hzy
      by_cases hzx : lt z x = true
      · simp [ins, hzy', hzx, hyx]
      · have hzx' : lt z x = false := by simpa using hzx
        simp [ins, hzy', hzx', hyx, hxy]

theorem foldr_ins (O : Ord lt) {S : List α} (hS : Srt lt S) (x : α) : ∀ (t : List α), (ins lt x t).foldr (ins lt) S = ins lt x (t.foldr (ins lt) S)
  | [] => rfl
  | y :: t => by
    rw [ins]; split
    · rename_i hyx
      show ins lt y ((ins lt x t).foldr (ins lt) S) = ins lt x (ins lt y (t.foldr (ins lt) S))
      rw [foldr_ins O hS x t, ins_comm O hyx (foldr_srt O hS t)]
    · rfl
theorem foldr_isort (O : Ord lt) {S : List α} (hS : Srt lt S) : ∀ (l : List α), (isort lt l).foldr (ins lt) S = l.foldr (ins lt) S
  | [] => rfl
  | x :: l => by
    show (ins lt x (isort lt l)).foldr (ins lt) S = ins lt x (l.foldr (ins lt) S)
    rw [foldr_ins O hS, foldr_isort O hS l]

theorem isort_app (l m : List α) : isort lt (l ++ m) = l.foldr (ins lt) (isort lt m) := by rw [isort, List.foldr_append]; rfl
/-- What is sorted alike may stand for one another. -/
theorem isort_congr (O : Ord lt) {X l l' Y : List α} (h : isort lt l = isort lt l') : isort lt (X ++ l ++ Y) = isort lt (X ++ l' ++ Y) := by
  rw [List.append_assoc, List.append_assoc, isort_app, isort_app X, isort_app l, isort_app l', ← foldr_isort O (isort_srt O Y) l, ← foldr_isort O (isort_srt O Y) l', h]
theorem isort_idem (O : Ord lt) (l : List α) : isort lt (isort lt l) = isort lt l := isort_of (isort_srt O l)
theorem isort_two (O : Ord lt) (l m : List α) : isort lt (isort lt l ++ isort lt m) = isort lt (l ++ m) := by
  have h1 := isort_congr O (X := []) (Y := isort lt m) (isort_idem O l)
  have h2 := isort_congr O (X := l) (Y := []) (isort_idem O m)
  simp only [List.nil_append, List.append_nil] at h1 h2
  rw [h1, h2]

/-- One passes over those that are all less. -/
theorem over (O : Ord lt) {x : α} {S : List α} (hS : Srt lt S) : ∀ (V : List α), (∀ v, v ∈ V → lt v x = true) → ins lt x (V.foldr (ins lt) S) = V.foldr (ins lt) (ins lt x S)
  | [], _ => rfl
  | v :: V, h => by
    show ins lt x (ins lt v (V.foldr (ins lt) S)) = ins lt v (V.foldr (ins lt) (ins lt x S))
    rw [ins_comm O (h v (by simp)) (foldr_srt O hS V), over O hS V fun u hu => h u (by simp [hu])]
theorem over_all (O : Ord lt) {S : List α} (hS : Srt lt S) : ∀ (U V : List α), (∀ u, u ∈ U → ∀ v, v ∈ V → lt v u = true) → U.foldr (ins lt) (V.foldr (ins lt) S) = V.foldr (ins lt) (U.foldr (ins lt) S)
  | [], _, _ => rfl
  | u :: U, V, h => by
    show ins lt u (U.foldr (ins lt) (V.foldr (ins lt) S)) = V.foldr (ins lt) (ins lt u (U.foldr (ins lt) S))
    rw [over_all O hS U V fun u hu => h u (by simp [hu]), over O (foldr_srt O hS U) V (h u (by simp))]
/-- Blocks change places, if what comes ahead is less. -/
theorem isort_rot (O : Ord lt) (X U V Y : List α) (h : ∀ u, u ∈ U → ∀ v, v ∈ V → lt v u = true) : isort lt (X ++ U ++ V ++ Y) = isort lt (X ++ V ++ U ++ Y) := by
  have e1 : X ++ U ++ V ++ Y = X ++ (U ++ (V ++ Y)) := by simp
  have e2 : X ++ V ++ U ++ Y = X ++ (V ++ (U ++ Y)) := by simp
  rw [e1, e2, isort_app, isort_app X, isort_app U, isort_app V, isort_app V, isort_app U, over_all O (isort_srt O Y) U V h]

theorem srt_app {l m : List α} : Srt lt (l ++ m) ↔ Srt lt l ∧ Srt lt m ∧ ∀ a, a ∈ l → ∀ b, b ∈ m → lt b a = false := List.pairwise_append
/-- A merge by halves. -/
theorem merge_halves (O : Ord lt) {A1 A2 B1 B2 : List α} (hA : Srt lt (A1 ++ A2)) (hB : Srt lt (B1 ++ B2)) (h1 : ∀ a, a ∈ A2 → ∀ b, b ∈ B1 → lt b a = true) (h2 : ∀ a, a ∈ A1 → ∀ b, b ∈ B2 → lt b a = false) :
    isort lt (A1 ++ B1) ++ isort lt (A2 ++ B2) = isort lt (A1 ++ A2 ++ (B1 ++ B2)) := by
  have hA' := srt_app.1 hA
  have hB' := srt_app.1 hB
  have hs : Srt lt (isort lt (A1 ++ B1) ++ isort lt (A2 ++ B2)) := by
    refine srt_app.2 ⟨isort_srt O _, isort_srt O _, fun a ha b hb => ?_⟩
    rw [isort_mem, List.mem_append] at ha hb
    rcases ha with ha | ha <;> rcases hb with hb | hb
    · exact hA'.2.2 a ha b hb
    · exact h2 a ha b hb
    · exact O.asym _ _ (h1 b hb a ha)
    · exact hB'.2.2 a ha b hb
  rw [← isort_of hs, isort_two O]
  have := isort_rot O A1 A2 B1 B2 h1
  have e1 : A1 ++ A2 ++ (B1 ++ B2) = A1 ++ A2 ++ B1 ++ B2 := by simp
  have e2 : A1 ++ B1 ++ (A2 ++ B2) = A1 ++ B1 ++ A2 ++ B2 := by simp
  rw [e1, e2, this]
/-- One more at the end of a sorted list. -/
theorem isort_snoc (O : Ord lt) (A B : List α) (x : α) (h : Srt lt (A ++ B)) (hA : ∀ a, a ∈ A → lt x a = false) (hB : ∀ b, b ∈ B → lt x b = true) : A ++ x :: B = isort lt (A ++ B ++ [x]) := by
  have h' := srt_app.1 h
  have hs : Srt lt (A ++ x :: B) := by
    refine srt_app.2 ⟨h'.1, List.pairwise_cons.2 ⟨fun b hb => O.asym _ _ (hB b hb), h'.2.1⟩, fun a ha b hb => ?_⟩
    rcases List.mem_cons.1 hb with rfl | hb
    · exact hA a ha
    · exact h'.2.2 a ha b hb
  have hr := isort_rot O A B [x] [] (fun u hu v hv => by rw [List.mem_singleton.1 hv]; exact hB u hu)
  simp only [List.append_nil] at hr
  rw [hr]
  have e : A ++ [x] ++ B = A ++ x :: B := by simp
  rw [e, isort_of hs]
end
end Go.So
