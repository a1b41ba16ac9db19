/- The compiled texts, each checked. PRINTED BY wip/tools/gen.py. Conditions: none. -/
import Derived.Test.YtfleakoephmgaaaDoorAmR
import Derived.KernelRfl
import Derived.Test.YtfleakoephmgaaaDoorRows
set_option linter.unusedSimpArgs false
set_option linter.unusedVariables false
namespace Go.Am.U1
open Go.Proofs
set_option maxRecDepth 100000
def G0 : Glob := fun g => if g = 0 then some [.int .i64 0, .int .i64 (-1), .int .i64 3, .int .i64 1, .int .i64 0, .int .i64 2] else none

/-- provenance/provenancekeep1.UnifyOccurs -/
def cf3 : CF :=
  ⟨78, [(.tmp 4)], (.seq (.reg [⟨(some 3), none, (.box (.t 1))⟩, ⟨(some 4), none, (.mv (.c (.bool false)))⟩]) (.seq (.reg [⟨(some 15), none, (.load true 4 (.t 3))⟩, ⟨(some 16), none, (.load true 4 (.t 3))⟩, ⟨(some 17), none, (.call 14 [(.t 15), (.t 16)])⟩, ⟨(some 14), none, (.mv (.t 17))⟩, ⟨(some 18), none, (.ext (.t 14) 0)⟩, ⟨(some 19), none, (.ext (.t 14) 1)⟩, ⟨(some 5), none, (.mv (.t 18))⟩, ⟨(some 6), none, (.mv (.t 19))⟩]) (.seq (.seq (.reg [⟨(some 21), none, (.mv (.t 5))⟩, ⟨(some 22), none, (.build [(.int .i64 0), (.str ⟨#[]⟩), (.int .i64 0), .nils] [])⟩, ⟨(some 23), none, (.build [(.int .i64 0), (.str ⟨#[]⟩), (.int .i64 0), .nils] [])⟩, ⟨(some 24), none, (.bsl 4 1 [(.int .i64 0), (.str ⟨#[]⟩), (.int .i64 0), .nils] [(0, (4, (.t 23)))])⟩, ⟨(some 25), none, (.call 16 [(.c (.str ⟨#[76]⟩)), (.t 24)])⟩, ⟨(some 26), none, (.call 15 [(.t 21), (.t 22), (.t 25)])⟩, ⟨(some 20), none, (.mv (.t 26))⟩, ⟨(some 27), none, (.ext (.t 20) 0)⟩, ⟨(some 28), none, (.ext (.t 20) 1)⟩, ⟨(some 7), none, (.mv (.t 27))⟩, ⟨(some 8), none, (.mv (.t 28))⟩]) (.seq (.reg [⟨(some 29), none, (.mv (.t 6))⟩, ⟨(some 30), none, (.un .not (.t 29))⟩, ⟨(some 31), none, (.mv (.t 30))⟩, ⟨(some 32), (some ((some 31), false)), (.mv (.t 8))⟩, ⟨(some 33), (some ((some 31), false)), (.bin .neq (.t 32) (.c (.int .i64 8)))⟩, ⟨(some 34), none, (.pick (.t 31) (.c (.bool true)) (.t 33))⟩]) (.cond (.t 34) (.seq (.reg [⟨(some 4), none, (.mv (.c (.bool false)))⟩]) .ret) .skip))) (.seq (.reg [⟨(some 35), none, (.mv (.t 0))⟩, ⟨(some 36), none, (.call 17 [(.t 35), (.c (.int .i64 0)), (.c (.int .i64 11))])⟩, ⟨(some 0), none, (.mv (.t 36))⟩]) (.seq (.reg [⟨(some 37), none, (.mv (.t 0))⟩, ⟨(some 38), none, (.build [(.int .i64 0), (.str ⟨#[]⟩), (.int .i64 0), .nils] [(2, (1, (.t 37)))])⟩, ⟨(some 39), none, (.load true 4 (.t 3))⟩, ⟨(some 40), none, (.bsl 4 2 [(.int .i64 0), (.str ⟨#[]⟩), (.int .i64 0), .nils, (.int .i64 0), (.str ⟨#[]⟩), (.int .i64 0), .nils] [(0, (4, (.t 38))), (4, (4, (.t 39)))])⟩, ⟨(some 41), none, (.call 16 [(.c (.str ⟨#[76]⟩)), (.t 40)])⟩, ⟨(some 9), none, (.alloc [(.int .i64 0), (.str ⟨#[]⟩), (.int .i64 0), .nils])⟩, ⟨none, none, (.store 4 (.t 9) (.t 41))⟩]) (.seq (.seq (.reg [⟨(some 42), none, (.load true 4 (.t 9))⟩, ⟨(some 43), none, (.call 18 [(.t 42)])⟩, ⟨(some 44), none, (.bin .neq (.t 43) (.c (.int .i64 0)))⟩, ⟨(some 45), none, (.mv (.t 44))⟩, ⟨(some 46), (some ((some 45), false)), (.load true 4 (.t 9))⟩, ⟨(some 47), (some ((some 45), false)), (.call 20 [(.t 46)])⟩, ⟨(some 48), (some ((some 45), false)), (.call 19 [(.t 47), (.c (.func 21 []))])⟩, ⟨(some 49), none, (.pick (.t 45) (.c (.bool true)) (.t 48))⟩]) (.cond (.t 49) (.seq (.reg [⟨(some 4), none, (.mv (.c (.bool true)))⟩]) .ret) .skip)) (.seq (.reg [⟨(some 51), none, (.mv (.t 5))⟩, ⟨(some 52), none, (.mv (.t 0))⟩, ⟨(some 53), none, (.build [(.int .i64 0), (.str ⟨#[]⟩), (.int .i64 0), .nils] [(2, (1, (.t 52)))])⟩, ⟨(some 54), none, (.load true 4 (.t 9))⟩, ⟨(some 55), none, (.call 15 [(.t 51), (.t 53), (.t 54)])⟩, ⟨(some 50), none, (.mv (.t 55))⟩, ⟨(some 56), none, (.ext (.t 50) 0)⟩, ⟨(some 57), none, (.ext (.t 50) 1)⟩, ⟨(some 10), none, (.mv (.t 56))⟩, ⟨(some 11), none, (.mv (.t 57))⟩]) (.seq (.reg [⟨(some 59), none, (.mv (.t 5))⟩, ⟨(some 60), none, (.load true 4 (.t 9))⟩, ⟨(some 61), none, (.load true 4 (.t 9))⟩, ⟨(some 62), none, (.call 15 [(.t 59), (.t 60), (.t 61)])⟩, ⟨(some 58), none, (.mv (.t 62))⟩, ⟨(some 63), none, (.ext (.t 58) 0)⟩, ⟨(some 64), none, (.ext (.t 58) 1)⟩, ⟨(some 12), none, (.mv (.t 63))⟩, ⟨(some 13), none, (.mv (.t 64))⟩]) (.seq (.reg [⟨(some 65), none, (.mv (.t 11))⟩, ⟨(some 66), none, (.bin .eql (.t 65) (.c (.int .i64 8)))⟩, ⟨(some 67), none, (.mv (.t 66))⟩, ⟨(some 68), (some ((some 67), true)), (.mv (.t 13))⟩, ⟨(some 69), (some ((some 67), true)), (.bin .eql (.t 68) (.c (.int .i64 0)))⟩, ⟨(some 70), none, (.pick (.t 67) (.t 69) (.c (.bool false)))⟩, ⟨(some 71), none, (.mv (.t 70))⟩, ⟨(some 72), (some ((some 71), true)), (.mv (.t 12))⟩, ⟨(some 73), (some ((some 71), true)), (.len (.t 72))⟩, ⟨(some 74), (some ((some 71), true)), (.mv (.t 5))⟩, ⟨(some 75), (some ((some 71), true)), (.len (.t 74))⟩, ⟨(some 76), (some ((some 71), true)), (.bin .eql (.t 73) (.t 75))⟩, ⟨(some 77), none, (.pick (.t 71) (.t 76) (.c (.bool false)))⟩, ⟨(some 4), none, (.mv (.t 77))⟩]) .ret)))))))))⟩
theorem ok3 : cFunc G0 Tryd.prog false Tryd.f3 [] = some cf3 := by kernel_rfl





/-- provenance/unify.Check -/
def cf18 : CF :=
  ⟨7, [(.tmp 2)], (.seq (.reg [⟨(some 1), none, (.box (.t 0))⟩, ⟨(some 2), none, (.mv (.c (.int .i64 0)))⟩]) (.seq (.reg [⟨(some 3), none, (.build [(.int .i64 0)] [(0, (1, (.c (.int .i64 4096))))])⟩, ⟨(some 4), none, (.box (.t 3))⟩, ⟨(some 5), none, (.load true 4 (.t 1))⟩, ⟨(some 6), none, (.call 45 [(.t 4), (.t 5), (.c (.bool false)), (.c (.int .i64 1))])⟩, ⟨(some 2), none, (.mv (.t 6))⟩]) .ret))⟩
theorem ok18 : cFunc G0 Tryd.prog false Tryd.f18 [] = some cf18 := by kernel_rfl

/-- slices.ContainsFunc[[]int,int] -/
def cf19 : CF :=
  ⟨9, [(.tmp 4)], (.seq (.reg [⟨(some 4), none, (.mv (.c (.bool false)))⟩]) (.seq (.reg [⟨(some 5), none, (.mv (.t 0))⟩, ⟨(some 6), none, (.mv (.t 1))⟩, ⟨(some 7), none, (.call 48 [(.t 5), (.t 6)])⟩, ⟨(some 8), none, (.bin .geq (.t 7) (.c (.int .i64 0)))⟩, ⟨(some 4), none, (.mv (.t 8))⟩]) .ret))⟩
theorem ok19 : cFunc G0 Tryd.prog false Tryd.f19 [] = some cf19 := by kernel_rfl

def cf20_l0 : CC :=
  (.seq (.reg [⟨(some 25), none, (.bin .lss (.t 24) (.t 23))⟩]) (.seq (.cond (.t 25) .skip (.exit 2)) (.seq (.block 3 (.seq (.reg [⟨(some 26), none, (.iaddr 1 (.t 22) (.t 24))⟩, ⟨(some 27), none, (.load false 1 (.t 26))⟩, ⟨(some 7), none, (.mv (.t 27))⟩]) (.seq (.reg [⟨(some 28), none, (.mv (.t 3))⟩, ⟨(some 29), none, (.mv (.t 7))⟩, ⟨(some 30), none, (.call 49 [(.t 28), (.t 29)])⟩, ⟨(some 31), none, (.un .not (.t 30))⟩]) (.cond (.t 31) (.reg [⟨(some 32), none, (.mv (.t 3))⟩, ⟨(some 33), none, (.mv (.t 7))⟩, ⟨(some 34), none, (.bsl 1 1 [(.int .i64 0)] [(0, (1, (.t 33)))])⟩, ⟨(some 35), none, (.app false 1 8 [(.int .i64 0)] (.t 32) (.t 34))⟩, ⟨(some 3), none, (.mv (.t 35))⟩]) .skip)))) (.reg [⟨(some 36), none, (.bin .add (.t 24) (.c (.int .i64 1)))⟩, ⟨(some 24), none, (.mv (.t 36))⟩]))))
def cf20_l1 : CC :=
  (.seq (.reg [⟨(some 18), none, (.bin .lss (.t 17) (.t 16))⟩]) (.seq (.cond (.t 18) .skip (.exit 0)) (.seq (.block 1 (.seq (.reg [⟨(some 19), none, (.iaddr 4 (.t 15) (.t 17))⟩, ⟨(some 20), none, (.load true 4 (.t 19))⟩, ⟨(some 5), none, (.alloc [(.int .i64 0), (.str ⟨#[]⟩), (.int .i64 0), .nils])⟩, ⟨none, none, (.store 4 (.t 5) (.t 20))⟩]) (.seq (.reg [⟨(some 21), none, (.load true 4 (.t 5))⟩, ⟨(some 22), none, (.call 20 [(.t 21)])⟩, ⟨(some 23), none, (.len (.t 22))⟩, ⟨(some 24), none, (.mv (.c (.int .i64 0)))⟩]) (.block 2 (.loop cf20_l0))))) (.reg [⟨(some 37), none, (.bin .add (.t 17) (.c (.int .i64 1)))⟩, ⟨(some 17), none, (.mv (.t 37))⟩]))))
/-- provenance/unify.Free -/
def cf20 : CF :=
  ⟨39, [(.tmp 2)], (.seq (.reg [⟨(some 1), none, (.box (.t 0))⟩, ⟨(some 2), none, (.mv (.c .nils))⟩]) (.seq (.seq (.reg [⟨(some 8), none, (.faddr 0 (.t 1))⟩, ⟨(some 9), none, (.load false 1 (.t 8))⟩, ⟨(some 10), none, (.bin .eql (.t 9) (.c (.int .i64 0)))⟩]) (.cond (.t 10) (.seq (.reg [⟨(some 11), none, (.faddr 2 (.t 1))⟩, ⟨(some 12), none, (.load false 1 (.t 11))⟩, ⟨(some 13), none, (.bsl 1 1 [(.int .i64 0)] [(0, (1, (.t 12)))])⟩, ⟨(some 2), none, (.mv (.t 13))⟩]) .ret) .skip)) (.seq (.reg [⟨(some 3), none, (.mv (.c .nils))⟩]) (.seq (.seq (.reg [⟨(some 14), none, (.faddr 3 (.t 1))⟩, ⟨(some 15), none, (.load false 1 (.t 14))⟩, ⟨(some 16), none, (.len (.t 15))⟩, ⟨(some 17), none, (.mv (.c (.int .i64 0)))⟩]) (.block 0 (.loop cf20_l1))) (.seq (.reg [⟨(some 38), none, (.mv (.t 3))⟩, ⟨(some 2), none, (.mv (.t 38))⟩]) .ret)))))⟩
theorem ok20 : cFunc G0 Tryd.prog false Tryd.f20 [] = some cf20 := by kernel_rfl







def cf45_l0 : CC :=
  (.seq (.reg [⟨(some 105), none, (.bin .lss (.t 104) (.t 103))⟩]) (.seq (.cond (.t 105) .skip (.exit 1)) (.seq (.block 2 (.seq (.reg [⟨(some 106), none, (.mv (.t 104))⟩, ⟨(some 107), none, (.iaddr 4 (.t 102) (.t 104))⟩, ⟨(some 108), none, (.load true 4 (.t 107))⟩, ⟨(some 10), none, (.alloc [(.int .i64 0), (.str ⟨#[]⟩), (.int .i64 0), .nils])⟩, ⟨(some 9), none, (.mv (.t 106))⟩, ⟨none, none, (.store 4 (.t 10) (.t 108))⟩]) (.seq (.reg [⟨(some 109), none, (.faddr 0 (.t 5))⟩, ⟨(some 110), none, (.load false 1 (.t 109))⟩, ⟨(some 111), none, (.bin .eql (.t 110) (.c (.int .i64 2)))⟩, ⟨(some 112), none, (.mv (.t 111))⟩, ⟨(some 113), (some ((some 112), true)), (.mv (.t 9))⟩, ⟨(some 114), (some ((some 112), true)), (.bin .eql (.t 113) (.c (.int .i64 1)))⟩, ⟨(some 115), none, (.pick (.t 112) (.t 114) (.c (.bool false)))⟩, ⟨(some 116), none, (.mv (.t 115))⟩, ⟨(some 117), (some ((some 116), false)), (.faddr 0 (.t 5))⟩, ⟨(some 118), (some ((some 116), false)), (.load false 1 (.t 117))⟩, ⟨(some 119), (some ((some 116), false)), (.bin .eql (.t 118) (.c (.int .i64 3)))⟩, ⟨(some 120), none, (.pick (.t 116) (.c (.bool true)) (.t 119))⟩, ⟨(some 121), none, (.mv (.t 120))⟩, ⟨(some 122), (some ((some 121), false)), (.faddr 0 (.t 5))⟩, ⟨(some 123), (some ((some 121), false)), (.load false 1 (.t 122))⟩, ⟨(some 124), (some ((some 121), false)), (.bin .eql (.t 123) (.c (.int .i64 5)))⟩, ⟨(some 125), (some ((some 121), false)), (.mv (.t 124))⟩, ⟨(some 126), (some ((some 125), true)), (.mv (.t 9))⟩, ⟨(some 127), (some ((some 125), true)), (.bin .eql (.t 126) (.c (.int .i64 1)))⟩, ⟨(some 128), (some ((some 121), false)), (.pick (.t 125) (.t 127) (.c (.bool false)))⟩, ⟨(some 129), none, (.pick (.t 121) (.c (.bool true)) (.t 128))⟩, ⟨(some 11), none, (.mv (.t 129))⟩]) (.seq (.seq (.reg [⟨(some 130), none, (.faddr 0 (.t 5))⟩, ⟨(some 131), none, (.load false 1 (.t 130))⟩, ⟨(some 132), none, (.bin .eql (.t 131) (.c (.int .i64 1)))⟩]) (.cond (.t 132) (.reg [⟨(some 133), none, (.faddr 0 (.t 10))⟩, ⟨(some 134), none, (.load false 1 (.t 133))⟩, ⟨(some 135), none, (.bin .geq (.t 134) (.c (.int .i64 4)))⟩, ⟨(some 11), none, (.mv (.t 135))⟩]) .skip)) (.seq (.reg [⟨(some 136), none, (.mv (.t 0))⟩, ⟨(some 137), none, (.load true 4 (.t 10))⟩, ⟨(some 138), none, (.mv (.t 11))⟩, ⟨(some 139), none, (.mv (.t 3))⟩, ⟨(some 140), none, (.bin .add (.t 139) (.c (.int .i64 1)))⟩, ⟨(some 141), none, (.call 45 [(.t 136), (.t 137), (.t 138), (.t 140)])⟩, ⟨(some 12), none, (.mv (.t 141))⟩]) (.seq (.reg [⟨(some 142), none, (.mv (.t 12))⟩, ⟨(some 143), none, (.bin .neq (.t 142) (.c (.int .i64 0)))⟩]) (.cond (.t 143) (.seq (.reg [⟨(some 144), none, (.mv (.t 12))⟩, ⟨(some 8), none, (.mv (.t 144))⟩]) .ret) .skip))))))) (.reg [⟨(some 145), none, (.bin .add (.t 104) (.c (.int .i64 1)))⟩, ⟨(some 104), none, (.mv (.t 145))⟩]))))
/-- (*provenance/unify.checker).check -/
def cf45 : CF :=
  ⟨146, [(.tmp 8)], (.seq (.reg [⟨(some 5), none, (.box (.t 1))⟩, ⟨(some 8), none, (.mv (.c (.int .i64 0)))⟩]) (.seq (.reg [⟨(some 13), none, (.mv (.t 0))⟩, ⟨(some 14), none, (.nilc (.t 13))⟩, ⟨(some 15), none, (.faddr 0 (.t 14))⟩, ⟨(some 16), none, (.load false 1 (.t 15))⟩, ⟨(some 17), none, (.bin .sub (.t 16) (.c (.int .i64 1)))⟩, ⟨(some 18), none, (.nilc (.t 13))⟩, ⟨(some 19), none, (.faddr 0 (.t 18))⟩, ⟨none, none, (.store 1 (.t 19) (.t 17))⟩]) (.seq (.block 0 (.seq (.reg [⟨(some 21), none, (.mv (.t 0))⟩, ⟨(some 22), none, (.nilc (.t 21))⟩, ⟨(some 23), none, (.faddr 0 (.t 22))⟩, ⟨(some 24), none, (.load false 1 (.t 23))⟩, ⟨(some 25), none, (.bin .lss (.t 24) (.c (.int .i64 0)))⟩, ⟨(some 26), none, (.mv (.t 25))⟩, ⟨(some 27), (some ((some 26), false)), (.mv (.t 3))⟩, ⟨(some 28), (some ((some 26), false)), (.bin .gtr (.t 27) (.c (.int .i64 400)))⟩, ⟨(some 29), none, (.pick (.t 26) (.c (.bool true)) (.t 28))⟩, ⟨(some 20), none, (.mv (.t 29))⟩]) (.cond (.t 20) (.seq (.reg [⟨(some 8), none, (.mv (.c (.int .i64 2)))⟩]) .ret) (.seq (.reg [⟨(some 31), none, (.faddr 0 (.t 5))⟩, ⟨(some 32), none, (.load false 1 (.t 31))⟩, ⟨(some 33), none, (.bin .lss (.t 32) (.c (.int .i64 0)))⟩, ⟨(some 34), none, (.mv (.t 33))⟩, ⟨(some 35), (some ((some 34), false)), (.faddr 0 (.t 5))⟩, ⟨(some 36), (some ((some 34), false)), (.load false 1 (.t 35))⟩, ⟨(some 37), (some ((some 34), false)), (.bin .gtr (.t 36) (.c (.int .i64 5)))⟩, ⟨(some 38), none, (.pick (.t 34) (.c (.bool true)) (.t 37))⟩, ⟨(some 30), none, (.mv (.t 38))⟩]) (.cond (.t 30) (.seq (.reg [⟨(some 8), none, (.mv (.c (.int .i64 9)))⟩]) .ret) (.seq (.seq (.dreg [⟨(some 40), none, (.faddr 0 (.t 5))⟩, ⟨(some 41), none, (.load false 1 (.t 40))⟩, ⟨(some 42), none, (.iaddra 6 1 (.c (.eptr [(.int .i64 0), (.int .i64 (-1)), (.int .i64 3), (.int .i64 1), (.int .i64 0), (.int .i64 2)])) (.t 41))⟩, ⟨(some 43), none, (.load false 1 (.t 42))⟩, ⟨(some 44), none, (.bin .geq (.t 43) (.c (.int .i64 0)))⟩, ⟨(some 45), none, (.mv (.t 44))⟩, ⟨(some 46), (some ((some 45), true)), (.faddr 3 (.t 5))⟩, ⟨(some 47), (some ((some 45), true)), (.load false 1 (.t 46))⟩, ⟨(some 48), (some ((some 45), true)), (.len (.t 47))⟩, ⟨(some 49), (some ((some 45), true)), (.faddr 0 (.t 5))⟩, ⟨(some 50), (some ((some 45), true)), (.load false 1 (.t 49))⟩, ⟨(some 51), (some ((some 45), true)), (.iaddra 6 1 (.c (.eptr [(.int .i64 0), (.int .i64 (-1)), (.int .i64 3), (.int .i64 1), (.int .i64 0), (.int .i64 2)])) (.t 50))⟩, ⟨(some 52), (some ((some 45), true)), (.load false 1 (.t 51))⟩, ⟨(some 53), (some ((some 45), true)), (.bin .neq (.t 48) (.t 52))⟩, ⟨(some 54), none, (.pick (.t 45) (.t 53) (.c (.bool false)))⟩, ⟨(some 39), none, (.mv (.t 54))⟩] []) (.cond (.t 39) .skip (.seq (.reg [⟨(some 55), none, (.faddr 0 (.t 5))⟩, ⟨(some 56), none, (.load false 1 (.t 55))⟩, ⟨(some 57), none, (.bin .neq (.t 56) (.c (.int .i64 0)))⟩, ⟨(some 58), none, (.mv (.t 57))⟩, ⟨(some 59), (some ((some 58), true)), (.faddr 2 (.t 5))⟩, ⟨(some 60), (some ((some 58), true)), (.load false 1 (.t 59))⟩, ⟨(some 61), (some ((some 58), true)), (.bin .neq (.t 60) (.c (.int .i64 0)))⟩, ⟨(some 62), none, (.pick (.t 58) (.t 61) (.c (.bool false)))⟩, ⟨(some 39), none, (.mv (.t 62))⟩]) (.cond (.t 39) .skip (.reg [⟨(some 63), none, (.faddr 0 (.t 5))⟩, ⟨(some 64), none, (.load false 1 (.t 63))⟩, ⟨(some 65), none, (.bin .neq (.t 64) (.c (.int .i64 1)))⟩, ⟨(some 66), none, (.mv (.t 65))⟩, ⟨(some 67), (some ((some 66), true)), (.faddr 0 (.t 5))⟩, ⟨(some 68), (some ((some 66), true)), (.load false 1 (.t 67))⟩, ⟨(some 69), (some ((some 66), true)), (.bin .neq (.t 68) (.c (.int .i64 5)))⟩, ⟨(some 70), none, (.pick (.t 66) (.t 69) (.c (.bool false)))⟩, ⟨(some 71), none, (.mv (.t 70))⟩, ⟨(some 72), (some ((some 71), true)), (.faddr 1 (.t 5))⟩, ⟨(some 73), (some ((some 71), true)), (.load false 1 (.t 72))⟩, ⟨(some 74), (some ((some 71), true)), (.bin .neq (.t 73) (.c (.str ⟨#[]⟩)))⟩, ⟨(some 75), none, (.pick (.t 71) (.t 74) (.c (.bool false)))⟩, ⟨(some 39), none, (.mv (.t 75))⟩]))))) (.cond (.t 39) (.seq (.reg [⟨(some 8), none, (.mv (.c (.int .i64 3)))⟩]) .ret) (.seq (.reg [⟨(some 77), none, (.faddr 0 (.t 5))⟩, ⟨(some 78), none, (.load false 1 (.t 77))⟩, ⟨(some 79), none, (.bin .neq (.t 78) (.c (.int .i64 0)))⟩, ⟨(some 80), none, (.mv (.t 79))⟩, ⟨(some 81), (some ((some 80), true)), (.mv (.t 2))⟩, ⟨(some 82), (some ((some 80), true)), (.faddr 0 (.t 5))⟩, ⟨(some 83), (some ((some 80), true)), (.load false 1 (.t 82))⟩, ⟨(some 84), (some ((some 80), true)), (.bin .geq (.t 83) (.c (.int .i64 4)))⟩, ⟨(some 85), (some ((some 80), true)), (.eqb true (.t 81) (.t 84))⟩, ⟨(some 86), none, (.pick (.t 80) (.t 85) (.c (.bool false)))⟩, ⟨(some 76), none, (.mv (.t 86))⟩]) (.cond (.t 76) (.seq (.reg [⟨(some 8), none, (.mv (.c (.int .i64 9)))⟩]) .ret) (.seq (.reg [⟨(some 88), none, (.faddr 0 (.t 5))⟩, ⟨(some 89), none, (.load false 1 (.t 88))⟩, ⟨(some 90), none, (.bin .eql (.t 89) (.c (.int .i64 0)))⟩, ⟨(some 91), none, (.mv (.t 90))⟩, ⟨(some 92), (some ((some 91), true)), (.faddr 2 (.t 5))⟩, ⟨(some 93), (some ((some 91), true)), (.load false 1 (.t 92))⟩, ⟨(some 94), (some ((some 91), true)), (.bin .lss (.t 93) (.c (.int .i64 0)))⟩, ⟨(some 95), (some ((some 91), true)), (.mv (.t 94))⟩, ⟨(some 96), (some ((some 95), false)), (.faddr 2 (.t 5))⟩, ⟨(some 97), (some ((some 95), false)), (.load false 1 (.t 96))⟩, ⟨(some 98), (some ((some 95), false)), (.bin .geq (.t 97) (.c (.int .i64 4096)))⟩, ⟨(some 99), (some ((some 91), true)), (.pick (.t 95) (.c (.bool true)) (.t 98))⟩, ⟨(some 100), none, (.pick (.t 91) (.t 99) (.c (.bool false)))⟩, ⟨(some 87), none, (.mv (.t 100))⟩]) (.cond (.t 87) (.seq (.reg [⟨(some 8), none, (.mv (.c (.int .i64 4)))⟩]) .ret) .skip))))))))))) (.seq (.seq (.reg [⟨(some 101), none, (.faddr 3 (.t 5))⟩, ⟨(some 102), none, (.load false 1 (.t 101))⟩, ⟨(some 103), none, (.len (.t 102))⟩, ⟨(some 104), none, (.mv (.c (.int .i64 0)))⟩]) (.block 1 (.loop cf45_l0))) (.seq (.reg [⟨(some 8), none, (.mv (.c (.int .i64 0)))⟩]) .ret)))))⟩
theorem ok45 : cFunc G0 Tryd.prog false Tryd.f45 [] = some cf45 := by kernel_rfl



def cf48_l0 : CC :=
  (.seq (.reg [⟨(some 9), none, (.bin .lss (.t 8) (.t 7))⟩]) (.seq (.cond (.t 9) .skip (.exit 0)) (.seq (.block 1 (.seq (.reg [⟨(some 10), none, (.mv (.t 8))⟩, ⟨(some 5), none, (.mv (.t 10))⟩]) (.seq (.reg [⟨(some 11), none, (.mv (.t 1))⟩, ⟨(some 12), none, (.mv (.t 0))⟩, ⟨(some 13), none, (.mv (.t 5))⟩, ⟨(some 14), none, (.iaddr 1 (.t 12) (.t 13))⟩, ⟨(some 15), none, (.load false 1 (.t 14))⟩, ⟨(some 16), none, (.callv (.t 11) [(.t 15)])⟩]) (.cond (.t 16) (.seq (.reg [⟨(some 17), none, (.mv (.t 5))⟩, ⟨(some 4), none, (.mv (.t 17))⟩]) .ret) .skip)))) (.reg [⟨(some 18), none, (.bin .add (.t 8) (.c (.int .i64 1)))⟩, ⟨(some 8), none, (.mv (.t 18))⟩]))))
/-- slices.IndexFunc[[]int,int] -/
def cf48 : CF :=
  ⟨19, [(.tmp 4)], (.seq (.reg [⟨(some 4), none, (.mv (.c (.int .i64 0)))⟩]) (.seq (.seq (.reg [⟨(some 6), none, (.mv (.t 0))⟩, ⟨(some 7), none, (.len (.t 6))⟩, ⟨(some 8), none, (.mv (.c (.int .i64 0)))⟩]) (.block 0 (.loop cf48_l0))) (.seq (.reg [⟨(some 4), none, (.mv (.c (.int .i64 (-1))))⟩]) .ret)))⟩
theorem ok48 : cFunc G0 Tryd.prog false Tryd.f48 [] = some cf48 := by kernel_rfl

/-- slices.Contains[[]int,int] -/
def cf49 : CF :=
  ⟨9, [(.tmp 4)], (.seq (.reg [⟨(some 4), none, (.mv (.c (.bool false)))⟩]) (.seq (.reg [⟨(some 5), none, (.mv (.t 0))⟩, ⟨(some 6), none, (.mv (.t 1))⟩, ⟨(some 7), none, (.call 70 [(.t 5), (.t 6)])⟩, ⟨(some 8), none, (.bin .geq (.t 7) (.c (.int .i64 0)))⟩, ⟨(some 4), none, (.mv (.t 8))⟩]) .ret))⟩
theorem ok49 : cFunc G0 Tryd.prog false Tryd.f49 [] = some cf49 := by kernel_rfl

/-- slices.ContainsFunc[[]provenance/api.Type,provenance/api.Type] -/
def cf55 : CF :=
  ⟨9, [(.tmp 4)], (.seq (.reg [⟨(some 4), none, (.mv (.c (.bool false)))⟩]) (.seq (.reg [⟨(some 5), none, (.mv (.t 0))⟩, ⟨(some 6), none, (.mv (.t 1))⟩, ⟨(some 7), none, (.call 75 [(.t 5), (.t 6)])⟩, ⟨(some 8), none, (.bin .geq (.t 7) (.c (.int .i64 0)))⟩, ⟨(some 4), none, (.mv (.t 8))⟩]) .ret))⟩
theorem ok55 : cFunc G0 Tryd.prog false Tryd.f55 [] = some cf55 := by kernel_rfl







def cf70_l0 : CC :=
  (.seq (.reg [⟨(some 9), none, (.bin .lss (.t 8) (.t 7))⟩]) (.seq (.cond (.t 9) .skip (.exit 0)) (.seq (.block 1 (.seq (.reg [⟨(some 10), none, (.mv (.t 8))⟩, ⟨(some 5), none, (.mv (.t 10))⟩]) (.seq (.reg [⟨(some 11), none, (.mv (.t 1))⟩, ⟨(some 12), none, (.mv (.t 0))⟩, ⟨(some 13), none, (.mv (.t 5))⟩, ⟨(some 14), none, (.iaddr 1 (.t 12) (.t 13))⟩, ⟨(some 15), none, (.load false 1 (.t 14))⟩, ⟨(some 16), none, (.bin .eql (.t 11) (.t 15))⟩]) (.cond (.t 16) (.seq (.reg [⟨(some 17), none, (.mv (.t 5))⟩, ⟨(some 4), none, (.mv (.t 17))⟩]) .ret) .skip)))) (.reg [⟨(some 18), none, (.bin .add (.t 8) (.c (.int .i64 1)))⟩, ⟨(some 8), none, (.mv (.t 18))⟩]))))
/-- slices.Index[[]int,int] -/
def cf70 : CF :=
  ⟨19, [(.tmp 4)], (.seq (.reg [⟨(some 4), none, (.mv (.c (.int .i64 0)))⟩]) (.seq (.seq (.reg [⟨(some 6), none, (.mv (.t 0))⟩, ⟨(some 7), none, (.len (.t 6))⟩, ⟨(some 8), none, (.mv (.c (.int .i64 0)))⟩]) (.block 0 (.loop cf70_l0))) (.seq (.reg [⟨(some 4), none, (.mv (.c (.int .i64 (-1))))⟩]) .ret)))⟩
theorem ok70 : cFunc G0 Tryd.prog false Tryd.f70 [] = some cf70 := by kernel_rfl

def cf75_l0 : CC :=
  (.seq (.reg [⟨(some 9), none, (.bin .lss (.t 8) (.t 7))⟩]) (.seq (.cond (.t 9) .skip (.exit 0)) (.seq (.block 1 (.seq (.reg [⟨(some 10), none, (.mv (.t 8))⟩, ⟨(some 5), none, (.mv (.t 10))⟩]) (.seq (.reg [⟨(some 11), none, (.mv (.t 1))⟩, ⟨(some 12), none, (.mv (.t 0))⟩, ⟨(some 13), none, (.mv (.t 5))⟩, ⟨(some 14), none, (.iaddr 4 (.t 12) (.t 13))⟩, ⟨(some 15), none, (.load true 4 (.t 14))⟩, ⟨(some 16), none, (.callv (.t 11) [(.t 15)])⟩]) (.cond (.t 16) (.seq (.reg [⟨(some 17), none, (.mv (.t 5))⟩, ⟨(some 4), none, (.mv (.t 17))⟩]) .ret) .skip)))) (.reg [⟨(some 18), none, (.bin .add (.t 8) (.c (.int .i64 1)))⟩, ⟨(some 8), none, (.mv (.t 18))⟩]))))
/-- slices.IndexFunc[[]provenance/api.Type,provenance/api.Type] -/
def cf75 : CF :=
  ⟨19, [(.tmp 4)], (.seq (.reg [⟨(some 4), none, (.mv (.c (.int .i64 0)))⟩]) (.seq (.seq (.reg [⟨(some 6), none, (.mv (.t 0))⟩, ⟨(some 7), none, (.len (.t 6))⟩, ⟨(some 8), none, (.mv (.c (.int .i64 0)))⟩]) (.block 0 (.loop cf75_l0))) (.seq (.reg [⟨(some 4), none, (.mv (.c (.int .i64 (-1))))⟩]) .ret)))⟩
theorem ok75 : cFunc G0 Tryd.prog false Tryd.f75 [] = some cf75 := by kernel_rfl










def T : Nat → Option CF
  | 3 => some cf3
  | 18 => some cf18
  | 19 => some cf19
  | 20 => some cf20
  | 45 => some cf45
  | 48 => some cf48
  | 49 => some cf49
  | 55 => some cf55
  | 70 => some cf70
  | 75 => some cf75
  | _ => none

theorem T3 : T 3 = some cf3 := rfl
theorem T18 : T 18 = some cf18 := rfl
theorem T19 : T 19 = some cf19 := rfl
theorem T20 : T 20 = some cf20 := rfl
theorem T45 : T 45 = some cf45 := rfl
theorem T48 : T 48 = some cf48 := rfl
theorem T49 : T 49 = some cf49 := rfl
theorem T55 : T 55 = some cf55 := rfl
theorem T70 : T 70 = some cf70 := rfl
theorem T75 : T 75 = some cf75 := rfl
theorem hT (f : Nat) (cf : CF) (h : T f = some cf) : ∃ fn mu fz, Tryd.prog.funcs[f]? = some fn ∧ cFunc G0 Tryd.prog mu fn fz = some cf := by
  unfold T at h
  split at h
  · cases h; exact ⟨_, _, _, Tryd.func3, ok3⟩
  · cases h; exact ⟨_, _, _, Tryd.func18, ok18⟩
  · cases h; exact ⟨_, _, _, Tryd.func19, ok19⟩
  · cases h; exact ⟨_, _, _, Tryd.func20, ok20⟩
  · cases h; exact ⟨_, _, _, Tryd.func45, ok45⟩
  · cases h; exact ⟨_, _, _, Tryd.func48, ok48⟩
  · cases h; exact ⟨_, _, _, Tryd.func49, ok49⟩
  · cases h; exact ⟨_, _, _, Tryd.func55, ok55⟩
  · cases h; exact ⟨_, _, _, Tryd.func70, ok70⟩
  · cases h; exact ⟨_, _, _, Tryd.func75, ok75⟩
  · cases h

theorem good {X : Ext} (hX : ∀ f h, X f = some h → ∀ args s v s', h args s = some (v, s') → CallC G0 Tryd.prog f args s v s') : Good G0 Tryd.prog T X := ⟨by kernel_rfl, hT, hX⟩
end Go.Am.U1
