/- The compiled texts, each checked. PRINTED BY wip/tools/gen.py. Conditions: none. -/
import Derived.Test.YtepgbpohmljedaaAmS
import Derived.KernelRfl
import Derived.Test.YtepgbpohmljedaaRows
set_option linter.unusedSimpArgs false
set_option linter.unusedVariables false
namespace Go.Am.V1
open Go.Proofs
set_option maxRecDepth 100000
def G0 : Glob := fun _ => none

def cf3_l0 : CC :=
  (.seq (.reg [⟨(some 41), none, (.bin .lss (.t 40) (.t 39))⟩]) (.seq (.cond (.t 41) .skip (.exit 0)) (.seq (.block 1 (.seq (.reg [⟨(some 42), none, (.mv (.t 40))⟩, ⟨(some 11), none, (.mv (.t 42))⟩]) (.seq (.dreg [⟨(some 44), none, (.mv (.t 7))⟩, ⟨(some 45), none, (.mv (.t 1))⟩, ⟨(some 46), none, (.mv (.t 11))⟩, ⟨(some 47), none, (.iaddr 1 (.t 45) (.t 46))⟩, ⟨(some 48), none, (.load false 1 (.t 47))⟩, ⟨(some 49), none, (.mv (.t 2))⟩, ⟨(some 50), none, (.mv (.t 11))⟩, ⟨(some 51), none, (.iaddr 1 (.t 49) (.t 50))⟩, ⟨(some 52), none, (.load false 1 (.t 51))⟩, ⟨(some 53), none, (.call 6 [(.t 44), (.t 48), (.t 52)])⟩, ⟨(some 43), none, (.mv (.t 53))⟩, ⟨(some 54), none, (.ext (.t 43) 0)⟩, ⟨(some 55), none, (.ext (.t 43) 1)⟩, ⟨(some 12), none, (.mv (.t 54))⟩, ⟨(some 13), none, (.mv (.t 55))⟩] []) (.seq (.seq (.dreg [⟨(some 56), none, (.mv (.t 1))⟩, ⟨(some 57), none, (.mv (.t 11))⟩, ⟨(some 58), none, (.iaddr 1 (.t 56) (.t 57))⟩, ⟨(some 59), none, (.load false 1 (.t 58))⟩, ⟨(some 60), none, (.lens (.t 59))⟩, ⟨(some 61), none, (.mv (.t 2))⟩, ⟨(some 62), none, (.mv (.t 11))⟩, ⟨(some 63), none, (.iaddr 1 (.t 61) (.t 62))⟩, ⟨(some 64), none, (.load false 1 (.t 63))⟩, ⟨(some 65), none, (.lens (.t 64))⟩, ⟨(some 66), none, (.bin .add (.t 60) (.t 65))⟩, ⟨(some 67), none, (.mv (.t 0))⟩, ⟨(some 68), none, (.call 7 [(.t 67), (.c (.int .i64 0)), (.c (.int .i64 40))])⟩, ⟨(some 69), none, (.bin .gtr (.t 66) (.t 68))⟩] [(3, 12), (8, 12)]) (.cond (.t 69) (.seq (.seq (.reg [⟨(some 70), none, (.mv (.t 13))⟩, ⟨(some 71), none, (.bin .neq (.t 70) (.c (.int .i64 16)))⟩, ⟨(some 72), none, (.mv (.t 71))⟩, ⟨(some 73), (some ((some 72), false)), (.mv (.t 12))⟩, ⟨(some 74), (some ((some 72), false)), (.len (.t 73))⟩, ⟨(some 75), (some ((some 72), false)), (.bin .gtr (.t 74) (.c (.int .i64 0)))⟩, ⟨(some 76), none, (.pick (.t 72) (.c (.bool true)) (.t 75))⟩]) (.cond (.t 76) (.seq (.reg [⟨(some 6), none, (.mv (.c (.bool false)))⟩]) .ret) .skip)) (.exit 1)) .skip)) (.seq (.reg [⟨(some 78), none, (.mv (.t 7))⟩, ⟨(some 79), none, (.mv (.t 1))⟩, ⟨(some 80), none, (.mv (.t 11))⟩, ⟨(some 81), none, (.iaddr 1 (.t 79) (.t 80))⟩, ⟨(some 82), none, (.load false 1 (.t 81))⟩, ⟨(some 83), none, (.call 8 [(.t 78), (.t 82)])⟩, ⟨(some 77), none, (.mv (.t 83))⟩, ⟨(some 84), none, (.ext (.t 77) 0)⟩, ⟨(some 85), none, (.ext (.t 77) 1)⟩, ⟨(some 14), none, (.mv (.t 84))⟩, ⟨(some 15), none, (.mv (.t 85))⟩]) (.seq (.dreg [⟨(some 86), none, (.mv (.t 13))⟩, ⟨(some 87), none, (.bin .neq (.t 86) (.c (.int .i64 0)))⟩, ⟨(some 88), none, (.mv (.t 87))⟩, ⟨(some 89), (some ((some 88), false)), (.mv (.t 15))⟩, ⟨(some 90), (some ((some 88), false)), (.bin .neq (.t 89) (.c (.int .i64 0)))⟩, ⟨(some 91), none, (.pick (.t 88) (.c (.bool true)) (.t 90))⟩, ⟨(some 92), none, (.mv (.t 91))⟩, ⟨(some 93), (some ((some 92), false)), (.mv (.t 14))⟩, ⟨(some 94), (some ((some 92), false)), (.mv (.t 2))⟩, ⟨(some 95), (some ((some 92), false)), (.mv (.t 11))⟩, ⟨(some 96), (some ((some 92), false)), (.iaddr 1 (.t 94) (.t 95))⟩, ⟨(some 97), (some ((some 92), false)), (.load false 1 (.t 96))⟩, ⟨(some 98), (some ((some 92), false)), (.bin .neq (.t 93) (.t 97))⟩, ⟨(some 99), none, (.pick (.t 92) (.c (.bool true)) (.t 98))⟩, ⟨(some 100), none, (.mv (.t 99))⟩, ⟨(some 101), (some ((some 100), false)), (.mv (.t 7))⟩, ⟨(some 102), (some ((some 100), false)), (.call 9 [(.t 101)])⟩, ⟨(some 103), (some ((some 100), false)), (.mv (.t 0))⟩, ⟨(some 104), (some ((some 100), false)), (.call 7 [(.t 103), (.c (.int .i64 0)), (.c (.int .i64 40))])⟩, ⟨(some 105), (some ((some 100), false)), (.bin .gtr (.t 102) (.t 104))⟩, ⟨(some 106), none, (.pick (.t 100) (.c (.bool true)) (.t 105))⟩, ⟨(some 107), none, (.mv (.t 106))⟩, ⟨(some 108), (some ((some 107), false)), (.mv (.t 7))⟩, ⟨(some 109), (some ((some 107), false)), (.call 10 [(.t 108)])⟩, ⟨(some 110), (some ((some 107), false)), (.iaddr 1 (.t 109) (.c (.int .i64 0)))⟩, ⟨(some 111), (some ((some 107), false)), (.load false 1 (.t 110))⟩, ⟨(some 112), (some ((some 107), false)), (.mv (.t 1))⟩, ⟨(some 113), (some ((some 107), false)), (.mv (.t 11))⟩, ⟨(some 114), (some ((some 107), false)), (.iaddr 1 (.t 112) (.t 113))⟩, ⟨(some 115), (some ((some 107), false)), (.load false 1 (.t 114))⟩, ⟨(some 116), (some ((some 107), false)), (.bin .neq (.t 111) (.t 115))⟩, ⟨(some 117), none, (.pick (.t 107) (.c (.bool true)) (.t 116))⟩, ⟨(some 118), none, (.mv (.t 117))⟩, ⟨(some 119), (some ((some 118), false)), (.mv (.t 12))⟩, ⟨(some 120), (some ((some 118), false)), (.mv (.t 1))⟩, ⟨(some 121), (some ((some 118), false)), (.mv (.t 11))⟩, ⟨(some 122), (some ((some 118), false)), (.iaddr 1 (.t 120) (.t 121))⟩, ⟨(some 123), (some ((some 118), false)), (.load false 1 (.t 122))⟩, ⟨(some 124), (some ((some 118), false)), (.call 11 [(.t 119), (.t 123)])⟩, ⟨(some 125), none, (.pick (.t 118) (.c (.bool true)) (.t 124))⟩] [(29, 23)]) (.cond (.t 125) (.seq (.reg [⟨(some 6), none, (.mv (.c (.bool false)))⟩]) .ret) .skip))))))) (.reg [⟨(some 126), none, (.bin .add (.t 40) (.c (.int .i64 1)))⟩, ⟨(some 40), none, (.mv (.t 126))⟩]))))
/-- provenance/provenancekeep1.StoreBounded -/
def cf3 : CF :=
  ⟨127, [(.tmp 6)], (.seq (.reg [⟨(some 6), none, (.mv (.c (.bool false)))⟩]) (.seq (.reg [⟨(some 17), none, (.call 5 [(.c (.int .i64 3))])⟩, ⟨(some 16), none, (.mv (.t 17))⟩, ⟨(some 18), none, (.ext (.t 16) 0)⟩, ⟨(some 19), none, (.ext (.t 16) 1)⟩, ⟨(some 7), none, (.mv (.t 18))⟩, ⟨(some 8), none, (.mv (.t 19))⟩]) (.seq (.seq (.reg [⟨(some 20), none, (.mv (.t 8))⟩, ⟨(some 21), none, (.bin .neq (.t 20) (.c (.int .i64 0)))⟩]) (.cond (.t 21) (.seq (.reg [⟨(some 6), none, (.mv (.c (.bool false)))⟩]) .ret) .skip)) (.seq (.seq (.reg [⟨(some 23), none, (.mv (.t 7))⟩, ⟨(some 24), none, (.call 6 [(.t 23), (.c (.str ⟨#[97]⟩)), (.c (.str ⟨#[98, 99, 100]⟩))])⟩, ⟨(some 22), none, (.mv (.t 24))⟩, ⟨(some 25), none, (.ext (.t 22) 0)⟩, ⟨(some 26), none, (.ext (.t 22) 1)⟩, ⟨(some 9), none, (.mv (.t 25))⟩, ⟨(some 10), none, (.mv (.t 26))⟩]) (.seq (.reg [⟨(some 27), none, (.mv (.t 10))⟩, ⟨(some 28), none, (.bin .neq (.t 27) (.c (.int .i64 16)))⟩]) (.cond (.t 28) (.seq (.reg [⟨(some 6), none, (.mv (.c (.bool false)))⟩]) .ret) .skip))) (.seq (.reg [⟨(some 30), none, (.mv (.t 0))⟩, ⟨(some 31), none, (.call 7 [(.t 30), (.c (.int .i64 0)), (.c (.int .i64 40))])⟩, ⟨(some 32), none, (.call 5 [(.t 31)])⟩, ⟨(some 29), none, (.mv (.t 32))⟩, ⟨(some 33), none, (.ext (.t 29) 0)⟩, ⟨(some 34), none, (.ext (.t 29) 1)⟩, ⟨(some 7), none, (.mv (.t 33))⟩]) (.seq (.seq (.reg [⟨(some 35), none, (.mv (.t 1))⟩, ⟨(some 36), none, (.len (.t 35))⟩, ⟨(some 37), none, (.mv (.t 2))⟩, ⟨(some 38), none, (.len (.t 37))⟩, ⟨(some 39), none, (.mm true [(.t 36), (.t 38)])⟩, ⟨(some 40), none, (.mv (.c (.int .i64 0)))⟩]) (.block 0 (.loop cf3_l0))) (.seq (.reg [⟨(some 6), none, (.mv (.c (.bool true)))⟩]) .ret)))))))⟩
theorem ok3 : cFunc G0 Try.prog false Try.f3 [] = some cf3 := by kernel_rfl

/-- provenance/store.New -/
def cf5 : CF :=
  ⟨26, [(.tmp 2), (.tmp 3)], (.seq (.reg [⟨(some 2), none, (.mv (.c .nilp))⟩, ⟨(some 3), none, (.mv (.c (.int .i64 0)))⟩]) (.seq (.seq (.reg [⟨(some 5), none, (.mv (.t 0))⟩, ⟨(some 6), none, (.bin .lss (.t 5) (.c (.int .i64 0)))⟩, ⟨(some 7), none, (.mv (.t 6))⟩, ⟨(some 8), (some ((some 7), false)), (.mv (.t 0))⟩, ⟨(some 9), (some ((some 7), false)), (.bin .gtr (.t 8) (.c (.int .i64 16777216)))⟩, ⟨(some 10), none, (.pick (.t 7) (.c (.bool true)) (.t 9))⟩]) (.cond (.t 10) (.seq (.reg [⟨(some 2), none, (.mv (.c .nilp))⟩, ⟨(some 3), none, (.mv (.c (.int .i64 4)))⟩]) .ret) .skip)) (.seq (.reg [⟨(some 11), none, (.build [(.str ⟨#[]⟩), (.str ⟨#[]⟩), .nilp, .nilp] [])⟩, ⟨(some 12), none, (.box (.t 11))⟩, ⟨(some 4), none, (.mv (.t 12))⟩]) (.seq (.reg [⟨(some 13), none, (.mv (.t 4))⟩, ⟨(some 14), none, (.mv (.t 4))⟩, ⟨(some 15), none, (.mv (.t 4))⟩, ⟨(some 16), none, (.mv (.t 4))⟩, ⟨(some 17), none, (.nilc (.t 13))⟩, ⟨(some 18), none, (.faddr 2 (.t 17))⟩, ⟨none, none, (.store 1 (.t 18) (.t 15))⟩, ⟨(some 19), none, (.nilc (.t 14))⟩, ⟨(some 20), none, (.faddr 3 (.t 19))⟩, ⟨none, none, (.store 1 (.t 20) (.t 16))⟩]) (.seq (.reg [⟨(some 21), none, (.mv (.t 0))⟩, ⟨(some 22), none, (.mv (.t 4))⟩, ⟨(some 23), none, .mmk⟩, ⟨(some 24), none, (.build [(.int .i64 0), (.int .i64 0), .nilp, .nilm] [(0, (1, (.t 21))), (2, (1, (.t 22))), (3, (1, (.t 23)))])⟩, ⟨(some 25), none, (.box (.t 24))⟩, ⟨(some 2), none, (.mv (.t 25))⟩, ⟨(some 3), none, (.mv (.c (.int .i64 0)))⟩]) .ret)))))⟩
theorem ok5 : cFunc G0 Try.prog false Try.f5 [] = some cf5 := by kernel_rfl

def cf6_l0 : CC :=
  (.seq (.seq (.dreg [⟨(some 33), none, (.mv (.t 0))⟩, ⟨(some 34), none, (.nilc (.t 33))⟩, ⟨(some 35), none, (.faddr 1 (.t 34))⟩, ⟨(some 36), none, (.load false 1 (.t 35))⟩, ⟨(some 37), none, (.mv (.t 1))⟩, ⟨(some 38), none, (.lens (.t 37))⟩, ⟨(some 39), none, (.bin .add (.t 36) (.t 38))⟩, ⟨(some 40), none, (.mv (.t 2))⟩, ⟨(some 41), none, (.lens (.t 40))⟩, ⟨(some 42), none, (.bin .add (.t 39) (.t 41))⟩, ⟨(some 43), none, (.mv (.t 0))⟩, ⟨(some 44), none, (.nilc (.t 43))⟩, ⟨(some 45), none, (.faddr 0 (.t 44))⟩, ⟨(some 46), none, (.load false 1 (.t 45))⟩, ⟨(some 47), none, (.bin .gtr (.t 42) (.t 46))⟩] []) (.cond (.t 47) .skip (.exit 0))) (.block 1 (.seq (.reg [⟨(some 48), none, (.mv (.t 0))⟩, ⟨(some 49), none, (.nilc (.t 48))⟩, ⟨(some 50), none, (.faddr 2 (.t 49))⟩, ⟨(some 51), none, (.load false 1 (.t 50))⟩, ⟨(some 52), none, (.nilc (.t 51))⟩, ⟨(some 53), none, (.faddr 2 (.t 52))⟩, ⟨(some 54), none, (.load false 1 (.t 53))⟩, ⟨(some 10), none, (.mv (.t 54))⟩]) (.seq (.reg [⟨(some 55), none, (.mv (.t 9))⟩, ⟨(some 56), none, (.mv (.t 10))⟩, ⟨(some 57), none, (.nilc (.t 56))⟩, ⟨(some 58), none, (.faddr 0 (.t 57))⟩, ⟨(some 59), none, (.load false 1 (.t 58))⟩, ⟨(some 60), none, (.bsl 1 1 [(.str ⟨#[]⟩)] [(0, (1, (.t 59)))])⟩, ⟨(some 61), none, (.app false 1 16 [(.str ⟨#[]⟩)] (.t 55) (.t 60))⟩, ⟨(some 9), none, (.mv (.t 61))⟩]) (.reg [⟨(some 62), none, (.mv (.t 0))⟩, ⟨(some 63), none, (.mv (.t 10))⟩, ⟨(some 64), none, (.call 15 [(.t 62), (.t 63)])⟩])))))
def cf6_t : CC :=
  (.seq (.reg [⟨(some 9), none, (.mv (.c .nils))⟩]) (.seq (.block 0 (.loop cf6_l0)) (.seq (.reg [⟨(some 65), none, (.mv (.t 1))⟩, ⟨(some 66), none, (.call 16 [(.t 65)])⟩, ⟨(some 67), none, (.mv (.t 2))⟩, ⟨(some 68), none, (.call 16 [(.t 67)])⟩, ⟨(some 69), none, (.build [(.str ⟨#[]⟩), (.str ⟨#[]⟩), .nilp, .nilp] [(0, (1, (.t 66))), (1, (1, (.t 68)))])⟩, ⟨(some 70), none, (.box (.t 69))⟩, ⟨(some 11), none, (.mv (.t 70))⟩]) (.seq (.dreg [⟨(some 71), none, (.mv (.t 0))⟩, ⟨(some 72), none, (.nilc (.t 71))⟩, ⟨(some 73), none, (.faddr 3 (.t 72))⟩, ⟨(some 74), none, (.load false 1 (.t 73))⟩, ⟨(some 75), none, (.mv (.t 11))⟩, ⟨(some 76), none, (.nilc (.t 75))⟩, ⟨(some 77), none, (.faddr 0 (.t 76))⟩, ⟨(some 78), none, (.load false 1 (.t 77))⟩, ⟨(some 79), none, (.mv (.t 11))⟩, ⟨none, none, (.mup (.t 74) (.t 78) (.t 79))⟩] []) (.seq (.reg [⟨(some 80), none, (.mv (.t 0))⟩, ⟨(some 81), none, (.mv (.t 11))⟩, ⟨(some 82), none, (.call 17 [(.t 80), (.t 81)])⟩]) (.seq (.reg [⟨(some 83), none, (.mv (.t 0))⟩, ⟨(some 84), none, (.nilc (.t 83))⟩, ⟨(some 85), none, (.faddr 1 (.t 84))⟩, ⟨(some 86), none, (.load false 1 (.t 85))⟩, ⟨(some 87), none, (.mv (.t 1))⟩, ⟨(some 88), none, (.lens (.t 87))⟩, ⟨(some 89), none, (.mv (.t 2))⟩, ⟨(some 90), none, (.lens (.t 89))⟩, ⟨(some 91), none, (.bin .add (.t 88) (.t 90))⟩, ⟨(some 92), none, (.bin .add (.t 86) (.t 91))⟩, ⟨(some 93), none, (.nilc (.t 83))⟩, ⟨(some 94), none, (.faddr 1 (.t 93))⟩, ⟨none, none, (.store 1 (.t 94) (.t 92))⟩]) (.seq (.reg [⟨(some 95), none, (.mv (.t 9))⟩, ⟨(some 6), none, (.mv (.t 95))⟩, ⟨(some 7), none, (.mv (.c (.int .i64 0)))⟩]) .ret)))))))
/-- (*provenance/store.Store).Put -/
def cf6 : CF :=
  ⟨96, [(.tmp 6), (.tmp 7)], (.seq (.reg [⟨(some 6), none, (.mv (.c .nils))⟩, ⟨(some 7), none, (.mv (.c (.int .i64 0)))⟩]) (.seq (.seq (.reg [⟨(some 12), none, (.mv (.t 1))⟩, ⟨(some 13), none, (.lens (.t 12))⟩, ⟨(some 14), none, (.mv (.t 2))⟩, ⟨(some 15), none, (.lens (.t 14))⟩, ⟨(some 16), none, (.bin .add (.t 13) (.t 15))⟩, ⟨(some 17), none, (.mv (.t 0))⟩, ⟨(some 18), none, (.nilc (.t 17))⟩, ⟨(some 19), none, (.faddr 0 (.t 18))⟩, ⟨(some 20), none, (.load false 1 (.t 19))⟩, ⟨(some 21), none, (.bin .gtr (.t 16) (.t 20))⟩]) (.cond (.t 21) (.seq (.reg [⟨(some 6), none, (.mv (.c .nils))⟩, ⟨(some 7), none, (.mv (.c (.int .i64 16)))⟩]) .ret) .skip)) (.seq (.seq (.reg [⟨(some 22), none, (.mv (.t 0))⟩, ⟨(some 23), none, (.nilc (.t 22))⟩, ⟨(some 24), none, (.faddr 3 (.t 23))⟩, ⟨(some 25), none, (.load false 1 (.t 24))⟩, ⟨(some 26), none, (.mv (.t 1))⟩, ⟨(some 27), none, (.mlk .nilp (.t 25) (.t 26))⟩, ⟨(some 8), none, (.mv (.t 27))⟩]) (.seq (.reg [⟨(some 28), none, (.mv (.t 8))⟩, ⟨(some 29), none, (.eqnil true true (.t 28))⟩]) (.cond (.t 29) (.reg [⟨(some 30), none, (.mv (.t 0))⟩, ⟨(some 31), none, (.mv (.t 8))⟩, ⟨(some 32), none, (.call 15 [(.t 30), (.t 31)])⟩]) .skip))) cf6_t)))⟩
theorem ok6 : cFunc G0 Try.prog false Try.f6 [] = some cf6 := by kernel_rfl

/-- provenance/provenancekeep1.within -/
def cf7 : CF :=
  ⟨21, [(.tmp 6)], (.seq (.reg [⟨(some 6), none, (.mv (.c (.int .i64 0)))⟩]) (.seq (.reg [⟨(some 8), none, (.mv (.t 2))⟩, ⟨(some 9), none, (.mv (.t 1))⟩, ⟨(some 10), none, (.bin .sub (.t 8) (.t 9))⟩, ⟨(some 11), none, (.bin .add (.t 10) (.c (.int .i64 1)))⟩, ⟨(some 7), none, (.mv (.t 11))⟩]) (.seq (.reg [⟨(some 12), none, (.mv (.t 1))⟩, ⟨(some 13), none, (.mv (.t 0))⟩, ⟨(some 14), none, (.mv (.t 7))⟩, ⟨(some 15), none, (.bin .rem (.t 13) (.t 14))⟩, ⟨(some 16), none, (.mv (.t 7))⟩, ⟨(some 17), none, (.bin .add (.t 15) (.t 16))⟩, ⟨(some 18), none, (.mv (.t 7))⟩, ⟨(some 19), none, (.bin .rem (.t 17) (.t 18))⟩, ⟨(some 20), none, (.bin .add (.t 12) (.t 19))⟩, ⟨(some 6), none, (.mv (.t 20))⟩]) .ret)))⟩
theorem ok7 : cFunc G0 Try.prog false Try.f7 [] = some cf7 := by kernel_rfl

/-- (*provenance/store.Store).Get -/
def cf8 : CF :=
  ⟨24, [(.tmp 4), (.tmp 5)], (.seq (.reg [⟨(some 4), none, (.mv (.c (.str ⟨#[]⟩)))⟩, ⟨(some 5), none, (.mv (.c (.int .i64 0)))⟩]) (.seq (.reg [⟨(some 7), none, (.mv (.t 0))⟩, ⟨(some 8), none, (.nilc (.t 7))⟩, ⟨(some 9), none, (.faddr 3 (.t 8))⟩, ⟨(some 10), none, (.load false 1 (.t 9))⟩, ⟨(some 11), none, (.mv (.t 1))⟩, ⟨(some 12), none, (.mlk .nilp (.t 10) (.t 11))⟩, ⟨(some 6), none, (.mv (.t 12))⟩]) (.seq (.seq (.reg [⟨(some 13), none, (.mv (.t 6))⟩, ⟨(some 14), none, (.eqnil true false (.t 13))⟩]) (.cond (.t 14) (.seq (.reg [⟨(some 4), none, (.mv (.c (.str ⟨#[]⟩)))⟩, ⟨(some 5), none, (.mv (.c (.int .i64 12)))⟩]) .ret) .skip)) (.seq (.reg [⟨(some 15), none, (.mv (.t 6))⟩, ⟨(some 16), none, (.call 18 [(.t 15)])⟩]) (.seq (.reg [⟨(some 17), none, (.mv (.t 0))⟩, ⟨(some 18), none, (.mv (.t 6))⟩, ⟨(some 19), none, (.call 17 [(.t 17), (.t 18)])⟩]) (.seq (.reg [⟨(some 20), none, (.mv (.t 6))⟩, ⟨(some 21), none, (.nilc (.t 20))⟩, ⟨(some 22), none, (.faddr 1 (.t 21))⟩, ⟨(some 23), none, (.load false 1 (.t 22))⟩, ⟨(some 4), none, (.mv (.t 23))⟩, ⟨(some 5), none, (.mv (.c (.int .i64 0)))⟩]) .ret))))))⟩
theorem ok8 : cFunc G0 Try.prog false Try.f8 [] = some cf8 := by kernel_rfl

/-- (*provenance/store.Store).Used -/
def cf9 : CF :=
  ⟨7, [(.tmp 2)], (.seq (.reg [⟨(some 2), none, (.mv (.c (.int .i64 0)))⟩]) (.seq (.reg [⟨(some 3), none, (.mv (.t 0))⟩, ⟨(some 4), none, (.nilc (.t 3))⟩, ⟨(some 5), none, (.faddr 1 (.t 4))⟩, ⟨(some 6), none, (.load false 1 (.t 5))⟩, ⟨(some 2), none, (.mv (.t 6))⟩]) .ret))⟩
theorem ok9 : cFunc G0 Try.prog false Try.f9 [] = some cf9 := by kernel_rfl

def cf10_l0 : CC :=
  (.seq (.seq (.reg [⟨(some 12), none, (.mv (.t 4))⟩, ⟨(some 13), none, (.mv (.t 0))⟩, ⟨(some 14), none, (.nilc (.t 13))⟩, ⟨(some 15), none, (.faddr 2 (.t 14))⟩, ⟨(some 16), none, (.load false 1 (.t 15))⟩, ⟨(some 17), none, (.eqp true (.t 12) (.t 16))⟩]) (.cond (.t 17) .skip (.exit 0))) (.seq (.block 1 (.reg [⟨(some 22), none, (.mv (.t 3))⟩, ⟨(some 23), none, (.mv (.t 4))⟩, ⟨(some 24), none, (.nilc (.t 23))⟩, ⟨(some 25), none, (.faddr 0 (.t 24))⟩, ⟨(some 26), none, (.load false 1 (.t 25))⟩, ⟨(some 27), none, (.bsl 1 1 [(.str ⟨#[]⟩)] [(0, (1, (.t 26)))])⟩, ⟨(some 28), none, (.app false 1 16 [(.str ⟨#[]⟩)] (.t 22) (.t 27))⟩, ⟨(some 3), none, (.mv (.t 28))⟩])) (.reg [⟨(some 18), none, (.mv (.t 4))⟩, ⟨(some 19), none, (.nilc (.t 18))⟩, ⟨(some 20), none, (.faddr 3 (.t 19))⟩, ⟨(some 21), none, (.load false 1 (.t 20))⟩, ⟨(some 4), none, (.mv (.t 21))⟩])))
/-- (*provenance/store.Store).Keys -/
def cf10 : CF :=
  ⟨31, [(.tmp 2)], (.seq (.reg [⟨(some 2), none, (.mv (.c .nils))⟩]) (.seq (.reg [⟨(some 3), none, (.mv (.c .nils))⟩]) (.seq (.seq (.reg [⟨(some 5), none, (.mv (.t 0))⟩, ⟨(some 6), none, (.nilc (.t 5))⟩, ⟨(some 7), none, (.faddr 2 (.t 6))⟩, ⟨(some 8), none, (.load false 1 (.t 7))⟩, ⟨(some 9), none, (.nilc (.t 8))⟩, ⟨(some 10), none, (.faddr 3 (.t 9))⟩, ⟨(some 11), none, (.load false 1 (.t 10))⟩, ⟨(some 4), none, (.mv (.t 11))⟩]) (.block 0 (.loop cf10_l0))) (.seq (.reg [⟨(some 29), none, (.mv (.t 3))⟩, ⟨(some 30), none, (.call 19 [(.t 29)])⟩, ⟨(some 2), none, (.mv (.t 30))⟩]) .ret))))⟩
theorem ok10 : cFunc G0 Try.prog false Try.f10 [] = some cf10 := by kernel_rfl

/-- slices.Contains[[]string,string] -/
def cf11 : CF :=
  ⟨9, [(.tmp 4)], (.seq (.reg [⟨(some 4), none, (.mv (.c (.bool false)))⟩]) (.seq (.reg [⟨(some 5), none, (.mv (.t 0))⟩, ⟨(some 6), none, (.mv (.t 1))⟩, ⟨(some 7), none, (.call 20 [(.t 5), (.t 6)])⟩, ⟨(some 8), none, (.bin .geq (.t 7) (.c (.int .i64 0)))⟩, ⟨(some 4), none, (.mv (.t 8))⟩]) .ret))⟩
theorem ok11 : cFunc G0 Try.prog false Try.f11 [] = some cf11 := by kernel_rfl

/-- (*provenance/store.Store).drop -/
def cf15 : CF :=
  ⟨32, [], (.seq (.dreg [⟨(some 4), none, (.mv (.t 0))⟩, ⟨(some 5), none, (.nilc (.t 4))⟩, ⟨(some 6), none, (.faddr 1 (.t 5))⟩, ⟨(some 7), none, (.load false 1 (.t 6))⟩, ⟨(some 8), none, (.mv (.t 1))⟩, ⟨(some 9), none, (.nilc (.t 8))⟩, ⟨(some 10), none, (.faddr 0 (.t 9))⟩, ⟨(some 11), none, (.load false 1 (.t 10))⟩, ⟨(some 12), none, (.lens (.t 11))⟩, ⟨(some 13), none, (.mv (.t 1))⟩, ⟨(some 14), none, (.nilc (.t 13))⟩, ⟨(some 15), none, (.faddr 1 (.t 14))⟩, ⟨(some 16), none, (.load false 1 (.t 15))⟩, ⟨(some 17), none, (.lens (.t 16))⟩, ⟨(some 18), none, (.bin .add (.t 12) (.t 17))⟩, ⟨(some 19), none, (.bin .sub (.t 7) (.t 18))⟩, ⟨(some 20), none, (.nilc (.t 4))⟩, ⟨(some 21), none, (.faddr 1 (.t 20))⟩, ⟨none, none, (.store 1 (.t 21) (.t 19))⟩] []) (.seq (.dreg [⟨(some 22), none, (.mv (.t 0))⟩, ⟨(some 23), none, (.nilc (.t 22))⟩, ⟨(some 24), none, (.faddr 3 (.t 23))⟩, ⟨(some 25), none, (.load false 1 (.t 24))⟩, ⟨(some 26), none, (.mv (.t 1))⟩, ⟨(some 27), none, (.nilc (.t 26))⟩, ⟨(some 28), none, (.faddr 0 (.t 27))⟩, ⟨(some 29), none, (.load false 1 (.t 28))⟩, ⟨none, none, (.mdl (.t 25) (.t 29))⟩] []) (.reg [⟨(some 30), none, (.mv (.t 1))⟩, ⟨(some 31), none, (.call 18 [(.t 30)])⟩])))⟩
theorem ok15 : cFunc G0 Try.prog false Try.f15 [] = some cf15 := by kernel_rfl

/-- strings.Clone -/
def cf16 : CF :=
  ⟨5, [(.tmp 2)], (.seq (.reg [⟨(some 2), none, (.mv (.c (.str ⟨#[]⟩)))⟩]) (.seq (.reg [⟨(some 3), none, (.mv (.t 0))⟩, ⟨(some 4), none, (.call 29 [(.t 3)])⟩, ⟨(some 2), none, (.mv (.t 4))⟩]) .ret))⟩
theorem ok16 : cFunc G0 Try.prog false Try.f16 [] = some cf16 := by kernel_rfl

/-- (*provenance/store.Store).front -/
def cf17 : CF :=
  ⟨34, [], (.seq (.reg [⟨(some 5), none, (.mv (.t 0))⟩, ⟨(some 6), none, (.nilc (.t 5))⟩, ⟨(some 7), none, (.faddr 2 (.t 6))⟩, ⟨(some 8), none, (.load false 1 (.t 7))⟩, ⟨(some 9), none, (.nilc (.t 8))⟩, ⟨(some 10), none, (.faddr 3 (.t 9))⟩, ⟨(some 11), none, (.load false 1 (.t 10))⟩, ⟨(some 4), none, (.mv (.t 11))⟩]) (.seq (.reg [⟨(some 12), none, (.mv (.t 1))⟩, ⟨(some 13), none, (.mv (.t 1))⟩, ⟨(some 14), none, (.mv (.t 0))⟩, ⟨(some 15), none, (.nilc (.t 14))⟩, ⟨(some 16), none, (.faddr 2 (.t 15))⟩, ⟨(some 17), none, (.load false 1 (.t 16))⟩, ⟨(some 18), none, (.mv (.t 4))⟩, ⟨(some 19), none, (.nilc (.t 12))⟩, ⟨(some 20), none, (.faddr 2 (.t 19))⟩, ⟨none, none, (.store 1 (.t 20) (.t 17))⟩, ⟨(some 21), none, (.nilc (.t 13))⟩, ⟨(some 22), none, (.faddr 3 (.t 21))⟩, ⟨none, none, (.store 1 (.t 22) (.t 18))⟩]) (.seq (.reg [⟨(some 23), none, (.mv (.t 4))⟩, ⟨(some 24), none, (.mv (.t 1))⟩, ⟨(some 25), none, (.nilc (.t 23))⟩, ⟨(some 26), none, (.faddr 2 (.t 25))⟩, ⟨none, none, (.store 1 (.t 26) (.t 24))⟩]) (.reg [⟨(some 27), none, (.mv (.t 0))⟩, ⟨(some 28), none, (.nilc (.t 27))⟩, ⟨(some 29), none, (.faddr 2 (.t 28))⟩, ⟨(some 30), none, (.load false 1 (.t 29))⟩, ⟨(some 31), none, (.mv (.t 1))⟩, ⟨(some 32), none, (.nilc (.t 30))⟩, ⟨(some 33), none, (.faddr 3 (.t 32))⟩, ⟨none, none, (.store 1 (.t 33) (.t 31))⟩]))))⟩
theorem ok17 : cFunc G0 Try.prog false Try.f17 [] = some cf17 := by kernel_rfl

/-- provenance/store.out -/
def cf18 : CF :=
  ⟨20, [], (.seq (.dreg [⟨(some 4), none, (.mv (.t 0))⟩, ⟨(some 5), none, (.nilc (.t 4))⟩, ⟨(some 6), none, (.faddr 2 (.t 5))⟩, ⟨(some 7), none, (.load false 1 (.t 6))⟩, ⟨(some 8), none, (.mv (.t 0))⟩, ⟨(some 9), none, (.nilc (.t 8))⟩, ⟨(some 10), none, (.faddr 3 (.t 9))⟩, ⟨(some 11), none, (.load false 1 (.t 10))⟩, ⟨(some 2), none, (.mv (.t 7))⟩, ⟨(some 3), none, (.mv (.t 11))⟩] []) (.seq (.reg [⟨(some 12), none, (.mv (.t 2))⟩, ⟨(some 13), none, (.mv (.t 3))⟩, ⟨(some 14), none, (.nilc (.t 12))⟩, ⟨(some 15), none, (.faddr 3 (.t 14))⟩, ⟨none, none, (.store 1 (.t 15) (.t 13))⟩]) (.reg [⟨(some 16), none, (.mv (.t 3))⟩, ⟨(some 17), none, (.mv (.t 2))⟩, ⟨(some 18), none, (.nilc (.t 16))⟩, ⟨(some 19), none, (.faddr 2 (.t 18))⟩, ⟨none, none, (.store 1 (.t 19) (.t 17))⟩])))⟩
theorem ok18 : cFunc G0 Try.prog false Try.f18 [] = some cf18 := by kernel_rfl

/-- slices.Clip[[]string,string] -/
def cf19 : CF :=
  ⟨9, [(.tmp 2)], (.seq (.reg [⟨(some 2), none, (.mv (.c .nils))⟩]) (.seq (.reg [⟨(some 3), none, (.mv (.t 0))⟩, ⟨(some 4), none, (.mv (.t 0))⟩, ⟨(some 5), none, (.len (.t 4))⟩, ⟨(some 6), none, (.mv (.t 0))⟩, ⟨(some 7), none, (.len (.t 6))⟩, ⟨(some 8), none, (.slc 1 (.t 3) none (some (.t 5)) (some (.t 7)))⟩, ⟨(some 2), none, (.mv (.t 8))⟩]) .ret))⟩
theorem ok19 : cFunc G0 Try.prog false Try.f19 [] = some cf19 := by kernel_rfl

def cf20_l0 : CC :=
  (.seq (.reg [⟨(some 9), none, (.bin .lss (.t 8) (.t 7))⟩]) (.seq (.cond (.t 9) .skip (.exit 0)) (.seq (.block 1 (.seq (.reg [⟨(some 10), none, (.mv (.t 8))⟩, ⟨(some 5), none, (.mv (.t 10))⟩]) (.seq (.reg [⟨(some 11), none, (.mv (.t 1))⟩, ⟨(some 12), none, (.mv (.t 0))⟩, ⟨(some 13), none, (.mv (.t 5))⟩, ⟨(some 14), none, (.iaddr 1 (.t 12) (.t 13))⟩, ⟨(some 15), none, (.load false 1 (.t 14))⟩, ⟨(some 16), none, (.bin .eql (.t 11) (.t 15))⟩]) (.cond (.t 16) (.seq (.reg [⟨(some 17), none, (.mv (.t 5))⟩, ⟨(some 4), none, (.mv (.t 17))⟩]) .ret) .skip)))) (.reg [⟨(some 18), none, (.bin .add (.t 8) (.c (.int .i64 1)))⟩, ⟨(some 8), none, (.mv (.t 18))⟩]))))
/-- slices.Index[[]string,string] -/
def cf20 : CF :=
  ⟨19, [(.tmp 4)], (.seq (.reg [⟨(some 4), none, (.mv (.c (.int .i64 0)))⟩]) (.seq (.seq (.reg [⟨(some 6), none, (.mv (.t 0))⟩, ⟨(some 7), none, (.len (.t 6))⟩, ⟨(some 8), none, (.mv (.c (.int .i64 0)))⟩]) (.block 0 (.loop cf20_l0))) (.seq (.reg [⟨(some 4), none, (.mv (.c (.int .i64 (-1))))⟩]) .ret)))⟩
theorem ok20 : cFunc G0 Try.prog false Try.f20 [] = some cf20 := by kernel_rfl

def T : Nat → Option CF
  | 3 => some cf3
  | 5 => some cf5
  | 6 => some cf6
  | 7 => some cf7
  | 8 => some cf8
  | 9 => some cf9
  | 10 => some cf10
  | 11 => some cf11
  | 15 => some cf15
  | 16 => some cf16
  | 17 => some cf17
  | 18 => some cf18
  | 19 => some cf19
  | 20 => some cf20
  | _ => none

theorem T3 : T 3 = some cf3 := rfl
theorem T5 : T 5 = some cf5 := rfl
theorem T6 : T 6 = some cf6 := rfl
theorem T7 : T 7 = some cf7 := rfl
theorem T8 : T 8 = some cf8 := rfl
theorem T9 : T 9 = some cf9 := rfl
theorem T10 : T 10 = some cf10 := rfl
theorem T11 : T 11 = some cf11 := rfl
theorem T15 : T 15 = some cf15 := rfl
theorem T16 : T 16 = some cf16 := rfl
theorem T17 : T 17 = some cf17 := rfl
theorem T18 : T 18 = some cf18 := rfl
theorem T19 : T 19 = some cf19 := rfl
theorem T20 : T 20 = some cf20 := rfl

theorem hT (f : Nat) (cf : CF) (h : T f = some cf) : ∃ fn mu fz, Try.prog.funcs[f]? = some fn ∧ cFunc G0 Try.prog mu fn fz = some cf := by
  unfold T at h
  split at h
  · cases h; exact ⟨_, _, _, Try.func3, ok3⟩
  · cases h; exact ⟨_, _, _, Try.func5, ok5⟩
  · cases h; exact ⟨_, _, _, Try.func6, ok6⟩
  · cases h; exact ⟨_, _, _, Try.func7, ok7⟩
  · cases h; exact ⟨_, _, _, Try.func8, ok8⟩
  · cases h; exact ⟨_, _, _, Try.func9, ok9⟩
  · cases h; exact ⟨_, _, _, Try.func10, ok10⟩
  · cases h; exact ⟨_, _, _, Try.func11, ok11⟩
  · cases h; exact ⟨_, _, _, Try.func15, ok15⟩
  · cases h; exact ⟨_, _, _, Try.func16, ok16⟩
  · cases h; exact ⟨_, _, _, Try.func17, ok17⟩
  · cases h; exact ⟨_, _, _, Try.func18, ok18⟩
  · cases h; exact ⟨_, _, _, Try.func19, ok19⟩
  · cases h; exact ⟨_, _, _, Try.func20, ok20⟩
  · cases h

theorem good {X : Ext} (hX : ∀ f h, X f = some h → ∀ args s v s', h args s = some (v, s') → CallC G0 Try.prog f args s v s') : Good G0 Try.prog T X := ⟨by kernel_rfl, hT, hX⟩
end Go.Am.V1
