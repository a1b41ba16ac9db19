/- The compiled texts, each checked. PRINTED BY wip/tools/gen.py. Conditions: none. -/
import Derived.Test.YtjhbakfgoaeeoaaDoorAmS
import Derived.KernelRfl
import Derived.Test.YtjhbakfgoaeeoaaDoorRows
set_option linter.unusedSimpArgs false
set_option linter.unusedVariables false
namespace Go.Am.L1
open Go.Proofs
set_option maxRecDepth 100000
def Gm (m : Int) : Glob := fun g => if g = 1 then some [.int .i64 m] else none

def cf8_l0 : CC :=
  (.seq (.reg [⟨(some 84), none, (.bin .lss (.t 83) (.t 82))⟩]) (.seq (.cond (.t 84) .skip (.exit 0)) (.seq (.block 1 (.seq (.reg [⟨(some 85), none, (.mv (.t 83))⟩, ⟨(some 17), none, (.mv (.t 85))⟩]) (.reg [⟨(some 86), none, (.mv (.t 11))⟩, ⟨(some 87), none, (.mv (.t 17))⟩, ⟨(some 88), none, (.iaddr 5 (.t 86) (.t 87))⟩, ⟨(some 89), none, (.faddr 3 (.t 88))⟩, ⟨(some 90), none, (.load false 1 (.t 89))⟩, ⟨(some 91), none, (.mv (.t 16))⟩, ⟨(some 92), none, (.bin .add (.t 90) (.t 91))⟩, ⟨(some 93), none, (.iaddr 5 (.t 86) (.t 87))⟩, ⟨(some 94), none, (.faddr 3 (.t 93))⟩, ⟨none, none, (.store 1 (.t 94) (.t 92))⟩]))) (.reg [⟨(some 95), none, (.bin .add (.t 83) (.c (.int .i64 1)))⟩, ⟨(some 83), none, (.mv (.t 95))⟩]))))
/-- provenance/provenancekeep1.LexerLines -/
def cf8 : CF :=
  ⟨116, [(.tmp 4)], (.seq (.reg [⟨(some 4), none, (.mv (.c (.bool false)))⟩]) (.seq (.seq (.reg [⟨(some 19), none, (.call 26 [(.c (.str ⟨#[97, 10, 98]⟩))])⟩, ⟨(some 18), none, (.mv (.t 19))⟩, ⟨(some 20), none, (.ext (.t 18) 0)⟩, ⟨(some 21), none, (.ext (.t 18) 1)⟩, ⟨(some 22), none, (.ext (.t 18) 2)⟩, ⟨(some 5), none, (.mv (.t 20))⟩, ⟨(some 6), none, (.mv (.t 21))⟩, ⟨(some 7), none, (.mv (.t 22))⟩]) (.seq (.reg [⟨(some 23), none, (.mv (.t 7))⟩, ⟨(some 24), none, (.bin .neq (.t 23) (.c (.int .i64 0)))⟩, ⟨(some 25), none, (.mv (.t 24))⟩, ⟨(some 26), (some ((some 25), false)), (.mv (.t 5))⟩, ⟨(some 27), (some ((some 25), false)), (.len (.t 26))⟩, ⟨(some 28), (some ((some 25), false)), (.bin .neq (.t 27) (.c (.int .i64 3)))⟩, ⟨(some 29), none, (.pick (.t 25) (.c (.bool true)) (.t 28))⟩]) (.cond (.t 29) (.seq (.reg [⟨(some 4), none, (.mv (.c (.bool false)))⟩]) .ret) .skip))) (.seq (.reg [⟨(some 31), none, (.mv (.t 0))⟩, ⟨(some 32), none, (.call 26 [(.t 31)])⟩, ⟨(some 30), none, (.mv (.t 32))⟩, ⟨(some 33), none, (.ext (.t 30) 0)⟩, ⟨(some 34), none, (.ext (.t 30) 1)⟩, ⟨(some 35), none, (.ext (.t 30) 2)⟩, ⟨(some 8), none, (.mv (.t 33))⟩, ⟨(some 9), none, (.mv (.t 34))⟩, ⟨(some 10), none, (.mv (.t 35))⟩]) (.seq (.reg [⟨(some 37), none, (.mv (.t 1))⟩, ⟨(some 38), none, (.call 26 [(.t 37)])⟩, ⟨(some 36), none, (.mv (.t 38))⟩, ⟨(some 39), none, (.ext (.t 36) 0)⟩, ⟨(some 40), none, (.ext (.t 36) 1)⟩, ⟨(some 41), none, (.ext (.t 36) 2)⟩, ⟨(some 11), none, (.mv (.t 39))⟩, ⟨(some 12), none, (.mv (.t 40))⟩, ⟨(some 13), none, (.mv (.t 41))⟩]) (.seq (.seq (.reg [⟨(some 42), none, (.mv (.t 10))⟩, ⟨(some 43), none, (.bin .neq (.t 42) (.c (.int .i64 0)))⟩, ⟨(some 44), none, (.mv (.t 43))⟩, ⟨(some 45), (some ((some 44), false)), (.mv (.t 13))⟩, ⟨(some 46), (some ((some 44), false)), (.bin .neq (.t 45) (.c (.int .i64 0)))⟩, ⟨(some 47), none, (.pick (.t 44) (.c (.bool true)) (.t 46))⟩, ⟨(some 48), none, (.mv (.t 47))⟩, ⟨(some 49), (some ((some 48), false)), (.mv (.t 0))⟩, ⟨(some 50), (some ((some 48), false)), (.lens (.t 49))⟩, ⟨(some 51), (some ((some 48), false)), (.mv (.t 1))⟩, ⟨(some 52), (some ((some 48), false)), (.lens (.t 51))⟩, ⟨(some 53), (some ((some 48), false)), (.bin .add (.t 50) (.t 52))⟩, ⟨(some 54), (some ((some 48), false)), (.bin .geq (.t 53) (.c (.int .i64 8192)))⟩, ⟨(some 55), none, (.pick (.t 48) (.c (.bool true)) (.t 54))⟩]) (.cond (.t 55) (.seq (.reg [⟨(some 4), none, (.mv (.c (.bool true)))⟩]) .ret) .skip)) (.seq (.reg [⟨(some 57), none, (.mv (.t 0))⟩, ⟨(some 58), none, (.bin .add (.t 57) (.c (.str ⟨#[10]⟩)))⟩, ⟨(some 59), none, (.mv (.t 1))⟩, ⟨(some 60), none, (.bin .add (.t 58) (.t 59))⟩, ⟨(some 61), none, (.call 26 [(.t 60)])⟩, ⟨(some 56), none, (.mv (.t 61))⟩, ⟨(some 62), none, (.ext (.t 56) 0)⟩, ⟨(some 63), none, (.ext (.t 56) 1)⟩, ⟨(some 64), none, (.ext (.t 56) 2)⟩, ⟨(some 14), none, (.mv (.t 62))⟩, ⟨(some 15), none, (.mv (.t 63))⟩, ⟨(some 10), none, (.mv (.t 64))⟩]) (.seq (.seq (.reg [⟨(some 65), none, (.mv (.t 10))⟩, ⟨(some 66), none, (.bin .neq (.t 65) (.c (.int .i64 0)))⟩, ⟨(some 67), none, (.mv (.t 66))⟩, ⟨(some 68), (some ((some 67), false)), (.mv (.t 14))⟩, ⟨(some 69), (some ((some 67), false)), (.len (.t 68))⟩, ⟨(some 70), (some ((some 67), false)), (.mv (.t 8))⟩, ⟨(some 71), (some ((some 67), false)), (.len (.t 70))⟩, ⟨(some 72), (some ((some 67), false)), (.mv (.t 11))⟩, ⟨(some 73), (some ((some 67), false)), (.len (.t 72))⟩, ⟨(some 74), (some ((some 67), false)), (.bin .add (.t 71) (.t 73))⟩, ⟨(some 75), (some ((some 67), false)), (.bin .sub (.t 74) (.c (.int .i64 1)))⟩, ⟨(some 76), (some ((some 67), false)), (.bin .neq (.t 69) (.t 75))⟩, ⟨(some 77), none, (.pick (.t 67) (.c (.bool true)) (.t 76))⟩]) (.cond (.t 77) (.seq (.reg [⟨(some 4), none, (.mv (.c (.bool false)))⟩]) .ret) .skip)) (.seq (.reg [⟨(some 78), none, (.mv (.t 0))⟩, ⟨(some 79), none, (.call 24 [(.t 78), (.c (.str ⟨#[10]⟩))])⟩, ⟨(some 80), none, (.bin .add (.t 79) (.c (.int .i64 1)))⟩, ⟨(some 16), none, (.mv (.t 80))⟩]) (.seq (.seq (.reg [⟨(some 81), none, (.mv (.t 11))⟩, ⟨(some 82), none, (.len (.t 81))⟩, ⟨(some 83), none, (.mv (.c (.int .i64 0)))⟩]) (.block 0 (.loop cf8_l0))) (.seq (.dreg [⟨(some 96), none, (.mv (.t 14))⟩, ⟨(some 97), none, (.mv (.t 8))⟩, ⟨(some 98), none, (.len (.t 97))⟩, ⟨(some 99), none, (.bin .sub (.t 98) (.c (.int .i64 1)))⟩, ⟨(some 100), none, (.slc 5 (.t 96) none (some (.t 99)) none)⟩, ⟨(some 101), none, (.mv (.t 8))⟩, ⟨(some 102), none, (.mv (.t 8))⟩, ⟨(some 103), none, (.len (.t 102))⟩, ⟨(some 104), none, (.bin .sub (.t 103) (.c (.int .i64 1)))⟩, ⟨(some 105), none, (.slc 5 (.t 101) none (some (.t 104)) none)⟩, ⟨(some 106), none, (.call 32 [(.t 100), (.t 105)])⟩, ⟨(some 107), none, (.mv (.t 106))⟩, ⟨(some 108), (some ((some 107), true)), (.mv (.t 14))⟩, ⟨(some 109), (some ((some 107), true)), (.mv (.t 8))⟩, ⟨(some 110), (some ((some 107), true)), (.len (.t 109))⟩, ⟨(some 111), (some ((some 107), true)), (.bin .sub (.t 110) (.c (.int .i64 1)))⟩, ⟨(some 112), (some ((some 107), true)), (.slc 5 (.t 108) (some (.t 111)) none none)⟩, ⟨(some 113), (some ((some 107), true)), (.mv (.t 11))⟩, ⟨(some 114), (some ((some 107), true)), (.call 32 [(.t 112), (.t 113)])⟩, ⟨(some 115), none, (.pick (.t 107) (.t 114) (.c (.bool false)))⟩, ⟨(some 4), none, (.mv (.t 115))⟩] []) .ret))))))))))⟩
theorem ok8 (m : Int) : cFunc (Gm m) Tryd.prog false Tryd.f8 [] = some cf8 := by kernel_rfl

def cf21_l0 : CC :=
  (.seq (.reg [⟨(some 11), none, (.bin .lss (.t 10) (.t 9))⟩]) (.seq (.cond (.t 11) .skip (.exit 0)) (.seq (.block 1 (.seq (.reg [⟨(some 12), none, (.mv (.t 10))⟩, ⟨(some 3), none, (.mv (.t 12))⟩]) (.seq (.reg [⟨(some 13), none, (.mv (.t 0))⟩, ⟨(some 14), none, (.mv (.t 3))⟩, ⟨(some 15), none, (.idx (.t 13) (.t 14))⟩, ⟨(some 4), none, (.mv (.t 15))⟩]) (.seq (.reg [⟨(some 16), none, (.mv (.t 4))⟩, ⟨(some 17), none, (.bin .neq (.t 16) (.c (.int .u8 10)))⟩, ⟨(some 18), none, (.mv (.t 17))⟩, ⟨(some 19), (some ((some 18), true)), (.mv (.t 4))⟩, ⟨(some 20), (some ((some 18), true)), (.bin .lss (.t 19) (.c (.int .u8 32)))⟩, ⟨(some 21), (some ((some 18), true)), (.mv (.t 20))⟩, ⟨(some 22), (some ((some 21), false)), (.mv (.t 4))⟩, ⟨(some 23), (some ((some 21), false)), (.bin .gtr (.t 22) (.c (.int .u8 126)))⟩, ⟨(some 24), (some ((some 18), true)), (.pick (.t 21) (.c (.bool true)) (.t 23))⟩, ⟨(some 25), none, (.pick (.t 18) (.t 24) (.c (.bool false)))⟩]) (.cond (.t 25) (.seq (.reg [⟨(some 2), none, (.mv (.c (.int .i64 5)))⟩]) .ret) .skip))))) (.reg [⟨(some 26), none, (.bin .add (.t 10) (.c (.int .i64 1)))⟩, ⟨(some 10), none, (.mv (.t 26))⟩]))))
/-- provenance/source.Check -/
def cf21 : CF :=
  ⟨27, [(.tmp 2)], (.seq (.reg [⟨(some 2), none, (.mv (.c (.int .i64 0)))⟩]) (.seq (.seq (.reg [⟨(some 5), none, (.mv (.t 0))⟩, ⟨(some 6), none, (.lens (.t 5))⟩, ⟨(some 7), none, (.bin .gtr (.t 6) (.c (.int .i64 8192)))⟩]) (.cond (.t 7) (.seq (.reg [⟨(some 2), none, (.mv (.c (.int .i64 2)))⟩]) .ret) .skip)) (.seq (.seq (.reg [⟨(some 8), none, (.mv (.t 0))⟩, ⟨(some 9), none, (.lens (.t 8))⟩, ⟨(some 10), none, (.mv (.c (.int .i64 0)))⟩]) (.block 0 (.loop cf21_l0))) (.seq (.reg [⟨(some 2), none, (.mv (.c (.int .i64 0)))⟩]) .ret))))⟩
theorem ok21 (m : Int) : cFunc (Gm m) Tryd.prog false Tryd.f21 [] = some cf21 := by kernel_rfl

def cf26_l0 : CC :=
  (.seq (.seq (.reg [⟨(some 15), none, (.mv (.t 6))⟩, ⟨(some 16), none, (.nilc (.t 15))⟩, ⟨(some 17), none, (.faddr 1 (.t 16))⟩, ⟨(some 18), none, (.load false 1 (.t 17))⟩, ⟨(some 19), none, (.mv (.t 0))⟩, ⟨(some 20), none, (.lens (.t 19))⟩, ⟨(some 21), none, (.bin .lss (.t 18) (.t 20))⟩]) (.cond (.t 21) .skip (.exit 0))) (.block 1 (.reg [⟨(some 22), none, (.mv (.t 6))⟩, ⟨(some 23), none, (.call 60 [(.t 22)])⟩])))
/-- provenance/lexer.Scan -/
def cf26 : CF :=
  ⟨48, [(.tmp 2), (.tmp 3), (.tmp 4)], (.seq (.reg [⟨(some 2), none, (.mv (.c .nils))⟩, ⟨(some 3), none, (.mv (.c .nils))⟩, ⟨(some 4), none, (.mv (.c (.int .i64 0)))⟩]) (.seq (.seq (.reg [⟨(some 7), none, (.mv (.t 0))⟩, ⟨(some 8), none, (.call 21 [(.t 7)])⟩, ⟨(some 5), none, (.mv (.t 8))⟩]) (.seq (.reg [⟨(some 9), none, (.mv (.t 5))⟩, ⟨(some 10), none, (.bin .neq (.t 9) (.c (.int .i64 0)))⟩]) (.cond (.t 10) (.seq (.reg [⟨(some 11), none, (.mv (.t 5))⟩, ⟨(some 2), none, (.mv (.c .nils))⟩, ⟨(some 3), none, (.mv (.c .nils))⟩, ⟨(some 4), none, (.mv (.t 11))⟩]) .ret) .skip))) (.seq (.reg [⟨(some 12), none, (.mv (.t 0))⟩, ⟨(some 13), none, (.build [(.str ⟨#[]⟩), (.int .i64 0), (.int .i64 0), (.int .i64 0), .nils, .nils] [(0, (1, (.t 12))), (2, (1, (.c (.int .i64 1)))), (3, (1, (.c (.int .i64 1))))])⟩, ⟨(some 14), none, (.box (.t 13))⟩, ⟨(some 6), none, (.mv (.t 14))⟩]) (.seq (.block 0 (.loop cf26_l0)) (.seq (.reg [⟨(some 24), none, (.mv (.t 6))⟩, ⟨(some 25), none, (.call 61 [(.t 24), (.c (.int .i64 9)), (.c (.str ⟨#[]⟩)), (.c (.int .i64 0))])⟩]) (.seq (.seq (.reg [⟨(some 26), none, (.mv (.t 6))⟩, ⟨(some 27), none, (.nilc (.t 26))⟩, ⟨(some 28), none, (.faddr 5 (.t 27))⟩, ⟨(some 29), none, (.load false 1 (.t 28))⟩, ⟨(some 30), none, (.len (.t 29))⟩, ⟨(some 31), none, (.bin .gtr (.t 30) (.c (.int .i64 0)))⟩]) (.cond (.t 31) (.seq (.dreg [⟨(some 32), none, (.mv (.t 6))⟩, ⟨(some 33), none, (.nilc (.t 32))⟩, ⟨(some 34), none, (.faddr 5 (.t 33))⟩, ⟨(some 35), none, (.load false 1 (.t 34))⟩, ⟨(some 36), none, (.call 62 [(.t 35)])⟩, ⟨(some 37), none, (.mv (.t 6))⟩, ⟨(some 38), none, (.nilc (.t 37))⟩, ⟨(some 39), none, (.faddr 5 (.t 38))⟩, ⟨(some 40), none, (.load false 1 (.t 39))⟩, ⟨(some 41), none, (.iaddr 4 (.t 40) (.c (.int .i64 0)))⟩, ⟨(some 42), none, (.faddr 0 (.t 41))⟩, ⟨(some 43), none, (.load false 1 (.t 42))⟩, ⟨(some 2), none, (.mv (.c .nils))⟩, ⟨(some 3), none, (.mv (.t 36))⟩, ⟨(some 4), none, (.mv (.t 43))⟩] [(8, 4), (11, 4)]) .ret) .skip)) (.seq (.reg [⟨(some 44), none, (.mv (.t 6))⟩, ⟨(some 45), none, (.nilc (.t 44))⟩, ⟨(some 46), none, (.faddr 4 (.t 45))⟩, ⟨(some 47), none, (.load false 1 (.t 46))⟩, ⟨(some 2), none, (.mv (.t 47))⟩, ⟨(some 3), none, (.mv (.c .nils))⟩, ⟨(some 4), none, (.mv (.c (.int .i64 0)))⟩]) .ret)))))))⟩
theorem ok26 (m : Int) : cFunc (Gm m) Tryd.prog false Tryd.f26 [] = some cf26 := by kernel_rfl

def cf32_l0 : CC :=
  (.seq (.reg [⟨(some 14), none, (.bin .lss (.t 13) (.t 12))⟩]) (.seq (.cond (.t 14) .skip (.exit 0)) (.seq (.block 1 (.seq (.reg [⟨(some 15), none, (.mv (.t 13))⟩, ⟨(some 5), none, (.mv (.t 15))⟩]) (.seq (.dreg [⟨(some 16), none, (.mv (.t 0))⟩, ⟨(some 17), none, (.mv (.t 5))⟩, ⟨(some 18), none, (.iaddr 5 (.t 16) (.t 17))⟩, ⟨(some 19), none, (.load true 5 (.t 18))⟩, ⟨(some 20), none, (.mv (.t 1))⟩, ⟨(some 21), none, (.mv (.t 5))⟩, ⟨(some 22), none, (.iaddr 5 (.t 20) (.t 21))⟩, ⟨(some 23), none, (.load true 5 (.t 22))⟩, ⟨(some 24), none, (.eqs [0, 2, 0, 0, 0] true (.t 19) (.t 23))⟩] []) (.cond (.t 24) (.seq (.reg [⟨(some 4), none, (.mv (.c (.bool false)))⟩]) .ret) .skip)))) (.reg [⟨(some 25), none, (.bin .add (.t 13) (.c (.int .i64 1)))⟩, ⟨(some 13), none, (.mv (.t 25))⟩]))))
/-- slices.Equal[[]provenance/api.Token,provenance/api.Token] -/
def cf32 : CF :=
  ⟨26, [(.tmp 4)], (.seq (.reg [⟨(some 4), none, (.mv (.c (.bool false)))⟩]) (.seq (.seq (.reg [⟨(some 6), none, (.mv (.t 0))⟩, ⟨(some 7), none, (.len (.t 6))⟩, ⟨(some 8), none, (.mv (.t 1))⟩, ⟨(some 9), none, (.len (.t 8))⟩, ⟨(some 10), none, (.bin .neq (.t 7) (.t 9))⟩]) (.cond (.t 10) (.seq (.reg [⟨(some 4), none, (.mv (.c (.bool false)))⟩]) .ret) .skip)) (.seq (.seq (.reg [⟨(some 11), none, (.mv (.t 0))⟩, ⟨(some 12), none, (.len (.t 11))⟩, ⟨(some 13), none, (.mv (.c (.int .i64 0)))⟩]) (.block 0 (.loop cf32_l0))) (.seq (.reg [⟨(some 4), none, (.mv (.c (.bool true)))⟩]) .ret))))⟩
theorem ok32 (m : Int) : cFunc (Gm m) Tryd.prog false Tryd.f32 [] = some cf32 := by kernel_rfl

/-- strings.Clone -/
def cf55 : CF :=
  ⟨5, [(.tmp 2)], (.seq (.reg [⟨(some 2), none, (.mv (.c (.str ⟨#[]⟩)))⟩]) (.seq (.reg [⟨(some 3), none, (.mv (.t 0))⟩, ⟨(some 4), none, (.call 80 [(.t 3)])⟩, ⟨(some 2), none, (.mv (.t 4))⟩]) .ret))⟩
theorem ok55 (m : Int) : cFunc (Gm m) Tryd.prog false Tryd.f55 [] = some cf55 := by kernel_rfl

/-- (*provenance/lexer.scanner).step -/
def cf60 : CF :=
  ⟨104, [], (.seq (.dreg [⟨(some 4), none, (.mv (.t 0))⟩, ⟨(some 5), none, (.nilc (.t 4))⟩, ⟨(some 6), none, (.faddr 0 (.t 5))⟩, ⟨(some 7), none, (.load false 1 (.t 6))⟩, ⟨(some 8), none, (.mv (.t 0))⟩, ⟨(some 9), none, (.nilc (.t 8))⟩, ⟨(some 10), none, (.faddr 1 (.t 9))⟩, ⟨(some 11), none, (.load false 1 (.t 10))⟩, ⟨(some 12), none, (.idx (.t 7) (.t 11))⟩, ⟨(some 2), none, (.mv (.t 12))⟩] []) (.block 0 (.seq (.reg [⟨(some 18), none, (.mv (.t 2))⟩, ⟨(some 19), none, (.bin .eql (.t 18) (.c (.int .u8 10)))⟩, ⟨(some 17), none, (.mv (.t 19))⟩]) (.cond (.t 17) (.dreg [⟨(some 20), none, (.mv (.t 0))⟩, ⟨(some 21), none, (.mv (.t 0))⟩, ⟨(some 22), none, (.mv (.t 0))⟩, ⟨(some 23), none, (.mv (.t 0))⟩, ⟨(some 24), none, (.nilc (.t 23))⟩, ⟨(some 25), none, (.faddr 1 (.t 24))⟩, ⟨(some 26), none, (.load false 1 (.t 25))⟩, ⟨(some 27), none, (.bin .add (.t 26) (.c (.int .i64 1)))⟩, ⟨(some 28), none, (.mv (.t 0))⟩, ⟨(some 29), none, (.nilc (.t 28))⟩, ⟨(some 30), none, (.faddr 2 (.t 29))⟩, ⟨(some 31), none, (.load false 1 (.t 30))⟩, ⟨(some 32), none, (.bin .add (.t 31) (.c (.int .i64 1)))⟩, ⟨(some 33), none, (.nilc (.t 20))⟩, ⟨(some 34), none, (.faddr 1 (.t 33))⟩, ⟨none, none, (.store 1 (.t 34) (.t 27))⟩, ⟨(some 35), none, (.nilc (.t 21))⟩, ⟨(some 36), none, (.faddr 2 (.t 35))⟩, ⟨none, none, (.store 1 (.t 36) (.t 32))⟩, ⟨(some 37), none, (.nilc (.t 22))⟩, ⟨(some 38), none, (.faddr 3 (.t 37))⟩, ⟨none, none, (.store 1 (.t 38) (.c (.int .i64 1)))⟩] []) (.seq (.reg [⟨(some 40), none, (.mv (.t 2))⟩, ⟨(some 41), none, (.bin .eql (.t 40) (.c (.int .u8 32)))⟩, ⟨(some 39), none, (.mv (.t 41))⟩]) (.cond (.t 39) (.reg [⟨(some 42), none, (.mv (.t 0))⟩, ⟨(some 43), none, (.call 83 [(.t 42), (.c (.int .i64 1))])⟩]) (.seq (.reg [⟨(some 45), none, (.mv (.t 2))⟩, ⟨(some 46), none, (.call 84 [(.t 45)])⟩, ⟨(some 44), none, (.mv (.t 46))⟩]) (.cond (.t 44) (.reg [⟨(some 47), none, (.mv (.t 0))⟩, ⟨(some 48), none, (.mv (.t 0))⟩, ⟨(some 49), none, (.call 86 [(.t 48), (.c (.func 87 []))])⟩, ⟨(some 50), none, (.call 85 [(.t 47), (.c (.int .i64 0)), (.t 49)])⟩]) (.seq (.reg [⟨(some 52), none, (.mv (.t 2))⟩, ⟨(some 53), none, (.call 88 [(.t 52)])⟩, ⟨(some 51), none, (.mv (.t 53))⟩]) (.cond (.t 51) (.reg [⟨(some 54), none, (.mv (.t 0))⟩, ⟨(some 55), none, (.mv (.t 0))⟩, ⟨(some 56), none, (.call 86 [(.t 55), (.c (.func 87 []))])⟩, ⟨(some 57), none, (.call 61 [(.t 54), (.c (.int .i64 1)), (.t 56), (.c (.int .i64 0))])⟩]) (.seq (.reg [⟨(some 59), none, (.mv (.t 2))⟩, ⟨(some 60), none, (.call 89 [(.t 59)])⟩, ⟨(some 58), none, (.mv (.t 60))⟩]) (.cond (.t 58) (.reg [⟨(some 61), none, (.mv (.t 0))⟩, ⟨(some 62), none, (.call 90 [(.t 61)])⟩]) (.seq (.reg [⟨(some 64), none, (.mv (.t 2))⟩, ⟨(some 65), none, (.call 53 [(.c (.str ⟨#[40, 41, 123, 125, 44, 59]⟩)), (.t 64)])⟩, ⟨(some 66), none, (.bin .geq (.t 65) (.c (.int .i64 0)))⟩, ⟨(some 63), none, (.mv (.t 66))⟩]) (.cond (.t 63) (.dreg [⟨(some 67), none, (.mv (.t 0))⟩, ⟨(some 68), none, (.mv (.t 0))⟩, ⟨(some 69), none, (.nilc (.t 68))⟩, ⟨(some 70), none, (.faddr 0 (.t 69))⟩, ⟨(some 71), none, (.load false 1 (.t 70))⟩, ⟨(some 72), none, (.mv (.t 0))⟩, ⟨(some 73), none, (.nilc (.t 72))⟩, ⟨(some 74), none, (.faddr 1 (.t 73))⟩, ⟨(some 75), none, (.load false 1 (.t 74))⟩, ⟨(some 76), none, (.mv (.t 0))⟩, ⟨(some 77), none, (.nilc (.t 76))⟩, ⟨(some 78), none, (.faddr 1 (.t 77))⟩, ⟨(some 79), none, (.load false 1 (.t 78))⟩, ⟨(some 80), none, (.bin .add (.t 79) (.c (.int .i64 1)))⟩, ⟨(some 81), none, (.sls (.t 71) (some (.t 75)) (some (.t 80)))⟩, ⟨(some 82), none, (.call 61 [(.t 67), (.c (.int .i64 5)), (.t 81), (.c (.int .i64 0))])⟩] []) (.seq (.reg [⟨(some 84), none, (.mv (.t 2))⟩, ⟨(some 85), none, (.call 91 [(.t 84)])⟩, ⟨(some 83), none, (.mv (.t 85))⟩]) (.cond (.t 83) (.seq (.reg [⟨(some 86), none, (.mv (.t 0))⟩, ⟨(some 87), none, (.call 86 [(.t 86), (.c (.func 91 []))])⟩, ⟨(some 3), none, (.mv (.t 87))⟩]) (.seq (.seq (.reg [⟨(some 88), none, (.mv (.t 3))⟩, ⟨(some 89), none, (.lens (.t 88))⟩, ⟨(some 90), none, (.bin .gtr (.t 89) (.c (.int .i64 1)))⟩, ⟨(some 91), none, (.mv (.t 90))⟩, ⟨(some 92), (some ((some 91), true)), (.mv (.t 3))⟩, ⟨(some 93), (some ((some 91), true)), (.call 92 [(.t 92), (.c (.str ⟨#[45]⟩))])⟩, ⟨(some 94), (some ((some 91), true)), (.bin .eql (.t 93) (.c (.str ⟨#[]⟩)))⟩, ⟨(some 95), none, (.pick (.t 91) (.t 94) (.c (.bool false)))⟩]) (.cond (.t 95) (.seq (.reg [⟨(some 96), none, (.mv (.t 0))⟩, ⟨(some 97), none, (.mv (.t 0))⟩, ⟨(some 98), none, (.call 86 [(.t 97), (.c (.func 93 []))])⟩, ⟨(some 99), none, (.lens (.t 98))⟩, ⟨(some 100), none, (.call 83 [(.t 96), (.t 99)])⟩]) .ret) .skip)) (.reg [⟨(some 101), none, (.mv (.t 0))⟩, ⟨(some 102), none, (.mv (.t 3))⟩, ⟨(some 103), none, (.call 85 [(.t 101), (.c (.int .i64 3)), (.t 102)])⟩]))) (.seq (.reg [⟨(some 13), none, (.mv (.t 0))⟩, ⟨(some 14), none, (.call 94 [(.t 13), (.c (.int .i64 5))])⟩]) (.reg [⟨(some 15), none, (.mv (.t 0))⟩, ⟨(some 16), none, (.call 83 [(.t 15), (.c (.int .i64 1))])⟩]))))))))))))))))))⟩
theorem ok60 (m : Int) : cFunc (Gm m) Tryd.prog false Tryd.f60 [] = some cf60 := by kernel_rfl

/-- (*provenance/lexer.scanner).put -/
def cf61 : CF :=
  ⟨34, [], (.seq (.dreg [⟨(some 8), none, (.mv (.t 0))⟩, ⟨(some 9), none, (.mv (.t 0))⟩, ⟨(some 10), none, (.nilc (.t 9))⟩, ⟨(some 11), none, (.faddr 4 (.t 10))⟩, ⟨(some 12), none, (.load false 1 (.t 11))⟩, ⟨(some 13), none, (.mv (.t 1))⟩, ⟨(some 14), none, (.mv (.t 2))⟩, ⟨(some 15), none, (.call 55 [(.t 14)])⟩, ⟨(some 16), none, (.mv (.t 3))⟩, ⟨(some 17), none, (.mv (.t 0))⟩, ⟨(some 18), none, (.nilc (.t 17))⟩, ⟨(some 19), none, (.faddr 2 (.t 18))⟩, ⟨(some 20), none, (.load false 1 (.t 19))⟩, ⟨(some 21), none, (.mv (.t 0))⟩, ⟨(some 22), none, (.nilc (.t 21))⟩, ⟨(some 23), none, (.faddr 3 (.t 22))⟩, ⟨(some 24), none, (.load false 1 (.t 23))⟩, ⟨(some 25), none, (.build [(.int .i64 0), (.str ⟨#[]⟩), (.int .i64 0), (.int .i64 0), (.int .i64 0)] [(0, (1, (.t 13))), (1, (1, (.t 15))), (2, (1, (.t 16))), (3, (1, (.t 20))), (4, (1, (.t 24)))])⟩, ⟨(some 26), none, (.bsl 5 1 [(.int .i64 0), (.str ⟨#[]⟩), (.int .i64 0), (.int .i64 0), (.int .i64 0)] [(0, (5, (.t 25)))])⟩, ⟨(some 27), none, (.app true 5 48 [(.int .i64 0), (.str ⟨#[]⟩), (.int .i64 0), (.int .i64 0), (.int .i64 0)] (.t 12) (.t 26))⟩, ⟨(some 28), none, (.nilc (.t 8))⟩, ⟨(some 29), none, (.faddr 4 (.t 28))⟩, ⟨none, none, (.store 1 (.t 29) (.t 27))⟩] [(4, 7), (12, 7), (16, 7)]) (.reg [⟨(some 30), none, (.mv (.t 0))⟩, ⟨(some 31), none, (.mv (.t 2))⟩, ⟨(some 32), none, (.lens (.t 31))⟩, ⟨(some 33), none, (.call 83 [(.t 30), (.t 32)])⟩]))⟩
theorem ok61 (m : Int) : cFunc (Gm m) Tryd.prog true Tryd.f61 [] = some cf61 := by kernel_rfl

/-- slices.Clip[[]provenance/api.Diag,provenance/api.Diag] -/
def cf62 : CF :=
  ⟨9, [(.tmp 2)], (.seq (.reg [⟨(some 2), none, (.mv (.c .nils))⟩]) (.seq (.reg [⟨(some 3), none, (.mv (.t 0))⟩, ⟨(some 4), none, (.mv (.t 0))⟩, ⟨(some 5), none, (.len (.t 4))⟩, ⟨(some 6), none, (.mv (.t 0))⟩, ⟨(some 7), none, (.len (.t 6))⟩, ⟨(some 8), none, (.slc 4 (.t 3) none (some (.t 5)) (some (.t 7)))⟩, ⟨(some 2), none, (.mv (.t 8))⟩]) .ret))⟩
theorem ok62 (m : Int) : cFunc (Gm m) Tryd.prog false Tryd.f62 [] = some cf62 := by kernel_rfl

/-- (*provenance/lexer.scanner).skip -/
def cf83 : CF :=
  ⟨20, [], (.seq (.reg [⟨(some 4), none, (.mv (.t 0))⟩, ⟨(some 5), none, (.nilc (.t 4))⟩, ⟨(some 6), none, (.faddr 1 (.t 5))⟩, ⟨(some 7), none, (.load false 1 (.t 6))⟩, ⟨(some 8), none, (.mv (.t 1))⟩, ⟨(some 9), none, (.bin .add (.t 7) (.t 8))⟩, ⟨(some 10), none, (.nilc (.t 4))⟩, ⟨(some 11), none, (.faddr 1 (.t 10))⟩, ⟨none, none, (.store 1 (.t 11) (.t 9))⟩]) (.reg [⟨(some 12), none, (.mv (.t 0))⟩, ⟨(some 13), none, (.nilc (.t 12))⟩, ⟨(some 14), none, (.faddr 3 (.t 13))⟩, ⟨(some 15), none, (.load false 1 (.t 14))⟩, ⟨(some 16), none, (.mv (.t 1))⟩, ⟨(some 17), none, (.bin .add (.t 15) (.t 16))⟩, ⟨(some 18), none, (.nilc (.t 12))⟩, ⟨(some 19), none, (.faddr 3 (.t 18))⟩, ⟨none, none, (.store 1 (.t 19) (.t 17))⟩]))⟩
theorem ok83 (m : Int) : cFunc (Gm m) Tryd.prog false Tryd.f83 [] = some cf83 := by kernel_rfl

/-- provenance/lexer.small -/
def cf84 : CF :=
  ⟨13, [(.tmp 2)], (.seq (.reg [⟨(some 2), none, (.mv (.c (.bool false)))⟩]) (.seq (.reg [⟨(some 3), none, (.mv (.t 0))⟩, ⟨(some 4), none, (.bin .geq (.t 3) (.c (.int .u8 97)))⟩, ⟨(some 5), none, (.mv (.t 4))⟩, ⟨(some 6), (some ((some 5), true)), (.mv (.t 0))⟩, ⟨(some 7), (some ((some 5), true)), (.bin .leq (.t 6) (.c (.int .u8 122)))⟩, ⟨(some 8), none, (.pick (.t 5) (.t 7) (.c (.bool false)))⟩, ⟨(some 9), none, (.mv (.t 8))⟩, ⟨(some 10), (some ((some 9), false)), (.mv (.t 0))⟩, ⟨(some 11), (some ((some 9), false)), (.bin .eql (.t 10) (.c (.int .u8 95)))⟩, ⟨(some 12), none, (.pick (.t 9) (.c (.bool true)) (.t 11))⟩, ⟨(some 2), none, (.mv (.t 12))⟩]) .ret))⟩
theorem ok84 (m : Int) : cFunc (Gm m) Tryd.prog false Tryd.f84 [] = some cf84 := by kernel_rfl

/-- (*provenance/lexer.scanner).word -/
def cf85 : CF :=
  ⟨12, [], (.seq (.seq (.reg [⟨(some 6), none, (.mv (.t 2))⟩, ⟨(some 7), none, (.call 117 [(.t 6)])⟩]) (.cond (.t 7) (.reg [⟨(some 1), none, (.mv (.c (.int .i64 4)))⟩]) .skip)) (.reg [⟨(some 8), none, (.mv (.t 0))⟩, ⟨(some 9), none, (.mv (.t 1))⟩, ⟨(some 10), none, (.mv (.t 2))⟩, ⟨(some 11), none, (.call 61 [(.t 8), (.t 9), (.t 10), (.c (.int .i64 0))])⟩]))⟩
theorem ok85 (m : Int) : cFunc (Gm m) Tryd.prog false Tryd.f85 [] = some cf85 := by kernel_rfl

def cf86_l0 : CC :=
  (.seq (.seq (.reg [⟨(some 10), none, (.mv (.t 5))⟩, ⟨(some 11), none, (.mv (.t 0))⟩, ⟨(some 12), none, (.nilc (.t 11))⟩, ⟨(some 13), none, (.faddr 0 (.t 12))⟩, ⟨(some 14), none, (.load false 1 (.t 13))⟩, ⟨(some 15), none, (.lens (.t 14))⟩, ⟨(some 16), none, (.bin .lss (.t 10) (.t 15))⟩, ⟨(some 17), none, (.mv (.t 16))⟩, ⟨(some 18), (some ((some 17), true)), (.mv (.t 1))⟩, ⟨(some 19), (some ((some 17), true)), (.mv (.t 0))⟩, ⟨(some 20), (some ((some 17), true)), (.nilc (.t 19))⟩, ⟨(some 21), (some ((some 17), true)), (.faddr 0 (.t 20))⟩, ⟨(some 22), (some ((some 17), true)), (.load false 1 (.t 21))⟩, ⟨(some 23), (some ((some 17), true)), (.mv (.t 5))⟩, ⟨(some 24), (some ((some 17), true)), (.idx (.t 22) (.t 23))⟩, ⟨(some 25), (some ((some 17), true)), (.callv (.t 18) [(.t 24)])⟩, ⟨(some 26), none, (.pick (.t 17) (.t 25) (.c (.bool false)))⟩]) (.cond (.t 26) .skip (.exit 0))) (.block 1 (.reg [⟨(some 27), none, (.mv (.t 5))⟩, ⟨(some 28), none, (.bin .add (.t 27) (.c (.int .i64 1)))⟩, ⟨(some 5), none, (.mv (.t 28))⟩])))
/-- (*provenance/lexer.scanner).run -/
def cf86 : CF :=
  ⟨39, [(.tmp 4)], (.seq (.reg [⟨(some 4), none, (.mv (.c (.str ⟨#[]⟩)))⟩]) (.seq (.reg [⟨(some 6), none, (.mv (.t 0))⟩, ⟨(some 7), none, (.nilc (.t 6))⟩, ⟨(some 8), none, (.faddr 1 (.t 7))⟩, ⟨(some 9), none, (.load false 1 (.t 8))⟩, ⟨(some 5), none, (.mv (.t 9))⟩]) (.seq (.block 0 (.loop cf86_l0)) (.seq (.dreg [⟨(some 29), none, (.mv (.t 0))⟩, ⟨(some 30), none, (.nilc (.t 29))⟩, ⟨(some 31), none, (.faddr 0 (.t 30))⟩, ⟨(some 32), none, (.load false 1 (.t 31))⟩, ⟨(some 33), none, (.mv (.t 0))⟩, ⟨(some 34), none, (.nilc (.t 33))⟩, ⟨(some 35), none, (.faddr 1 (.t 34))⟩, ⟨(some 36), none, (.load false 1 (.t 35))⟩, ⟨(some 37), none, (.mv (.t 5))⟩, ⟨(some 38), none, (.sls (.t 32) (some (.t 36)) (some (.t 37)))⟩, ⟨(some 4), none, (.mv (.t 38))⟩] []) .ret))))⟩
theorem ok86 (m : Int) : cFunc (Gm m) Tryd.prog false Tryd.f86 [] = some cf86 := by kernel_rfl

/-- provenance/lexer.inner -/
def cf87 : CF :=
  ⟨17, [(.tmp 2)], (.seq (.reg [⟨(some 2), none, (.mv (.c (.bool false)))⟩]) (.seq (.reg [⟨(some 3), none, (.mv (.t 0))⟩, ⟨(some 4), none, (.call 84 [(.t 3)])⟩, ⟨(some 5), none, (.mv (.t 4))⟩, ⟨(some 6), (some ((some 5), false)), (.mv (.t 0))⟩, ⟨(some 7), (some ((some 5), false)), (.call 88 [(.t 6)])⟩, ⟨(some 8), none, (.pick (.t 5) (.c (.bool true)) (.t 7))⟩, ⟨(some 9), none, (.mv (.t 8))⟩, ⟨(some 10), (some ((some 9), false)), (.mv (.t 0))⟩, ⟨(some 11), (some ((some 9), false)), (.call 89 [(.t 10)])⟩, ⟨(some 12), none, (.pick (.t 9) (.c (.bool true)) (.t 11))⟩, ⟨(some 13), none, (.mv (.t 12))⟩, ⟨(some 14), (some ((some 13), false)), (.mv (.t 0))⟩, ⟨(some 15), (some ((some 13), false)), (.bin .eql (.t 14) (.c (.int .u8 39)))⟩, ⟨(some 16), none, (.pick (.t 13) (.c (.bool true)) (.t 15))⟩, ⟨(some 2), none, (.mv (.t 16))⟩]) .ret))⟩
theorem ok87 (m : Int) : cFunc (Gm m) Tryd.prog false Tryd.f87 [] = some cf87 := by kernel_rfl

/-- provenance/lexer.large -/
def cf88 : CF :=
  ⟨9, [(.tmp 2)], (.seq (.reg [⟨(some 2), none, (.mv (.c (.bool false)))⟩]) (.seq (.reg [⟨(some 3), none, (.mv (.t 0))⟩, ⟨(some 4), none, (.bin .geq (.t 3) (.c (.int .u8 65)))⟩, ⟨(some 5), none, (.mv (.t 4))⟩, ⟨(some 6), (some ((some 5), true)), (.mv (.t 0))⟩, ⟨(some 7), (some ((some 5), true)), (.bin .leq (.t 6) (.c (.int .u8 90)))⟩, ⟨(some 8), none, (.pick (.t 5) (.t 7) (.c (.bool false)))⟩, ⟨(some 2), none, (.mv (.t 8))⟩]) .ret))⟩
theorem ok88 (m : Int) : cFunc (Gm m) Tryd.prog false Tryd.f88 [] = some cf88 := by kernel_rfl

/-- provenance/lexer.digit -/
def cf89 : CF :=
  ⟨9, [(.tmp 2)], (.seq (.reg [⟨(some 2), none, (.mv (.c (.bool false)))⟩]) (.seq (.reg [⟨(some 3), none, (.mv (.t 0))⟩, ⟨(some 4), none, (.bin .geq (.t 3) (.c (.int .u8 48)))⟩, ⟨(some 5), none, (.mv (.t 4))⟩, ⟨(some 6), (some ((some 5), true)), (.mv (.t 0))⟩, ⟨(some 7), (some ((some 5), true)), (.bin .leq (.t 6) (.c (.int .u8 57)))⟩, ⟨(some 8), none, (.pick (.t 5) (.t 7) (.c (.bool false)))⟩, ⟨(some 2), none, (.mv (.t 8))⟩]) .ret))⟩
theorem ok89 (m : Int) : cFunc (Gm m) Tryd.prog false Tryd.f89 [] = some cf89 := by kernel_rfl

def cf90_l0 : CC :=
  (.seq (.reg [⟨(some 10), none, (.bin .lss (.t 9) (.t 8))⟩]) (.seq (.cond (.t 10) .skip (.exit 0)) (.seq (.block 1 (.seq (.reg [⟨(some 11), none, (.mv (.t 9))⟩, ⟨(some 4), none, (.mv (.t 11))⟩]) (.reg [⟨(some 12), none, (.mv (.t 3))⟩, ⟨(some 13), none, (.bin .mul (.t 12) (.c (.int .i64 10)))⟩, ⟨(some 14), none, (.mv (.t 2))⟩, ⟨(some 15), none, (.mv (.t 4))⟩, ⟨(some 16), none, (.idx (.t 14) (.t 15))⟩, ⟨(some 17), none, (.bin .sub (.t 16) (.c (.int .u8 48)))⟩, ⟨(some 18), none, (.conv .i64 (.t 17))⟩, ⟨(some 19), none, (.bin .add (.t 13) (.t 18))⟩, ⟨(some 20), none, (.mm true [(.t 19), (.c (.int .i64 1073741824))])⟩, ⟨(some 3), none, (.mv (.t 20))⟩]))) (.reg [⟨(some 21), none, (.bin .add (.t 9) (.c (.int .i64 1)))⟩, ⟨(some 9), none, (.mv (.t 21))⟩]))))
/-- (*provenance/lexer.scanner).number -/
def cf90 : CF :=
  ⟨30, [], (.seq (.reg [⟨(some 5), none, (.mv (.t 0))⟩, ⟨(some 6), none, (.call 86 [(.t 5), (.c (.func 89 []))])⟩, ⟨(some 2), none, (.mv (.t 6))⟩]) (.seq (.reg [⟨(some 3), none, (.mv (.c (.int .i64 0)))⟩]) (.seq (.seq (.reg [⟨(some 7), none, (.mv (.t 2))⟩, ⟨(some 8), none, (.lens (.t 7))⟩, ⟨(some 9), none, (.mv (.c (.int .i64 0)))⟩]) (.block 0 (.loop cf90_l0))) (.seq (.seq (.reg [⟨(some 22), none, (.mv (.t 3))⟩, ⟨(some 23), none, (.bin .gtr (.t 22) (.c (.int .i64 1073741823)))⟩]) (.cond (.t 23) (.seq (.reg [⟨(some 24), none, (.mv (.t 0))⟩, ⟨(some 25), none, (.call 94 [(.t 24), (.c (.int .i64 4))])⟩]) (.reg [⟨(some 3), none, (.mv (.c (.int .i64 0)))⟩])) .skip)) (.reg [⟨(some 26), none, (.mv (.t 0))⟩, ⟨(some 27), none, (.mv (.t 2))⟩, ⟨(some 28), none, (.mv (.t 3))⟩, ⟨(some 29), none, (.call 61 [(.t 26), (.c (.int .i64 2)), (.t 27), (.t 28)])⟩])))))⟩
theorem ok90 (m : Int) : cFunc (Gm m) Tryd.prog false Tryd.f90 [] = some cf90 := by kernel_rfl

/-- provenance/lexer.mark -/
def cf91 : CF :=
  ⟨6, [(.tmp 2)], (.seq (.reg [⟨(some 2), none, (.mv (.c (.bool false)))⟩]) (.seq (.reg [⟨(some 3), none, (.mv (.t 0))⟩, ⟨(some 4), none, (.call 53 [(.c (.str ⟨#[33, 35, 36, 37, 38, 42, 43, 47, 60, 61, 62, 63, 64, 94, 124, 45, 126, 58, 46, 92]⟩)), (.t 3)])⟩, ⟨(some 5), none, (.bin .geq (.t 4) (.c (.int .i64 0)))⟩, ⟨(some 2), none, (.mv (.t 5))⟩]) .ret))⟩
theorem ok91 (m : Int) : cFunc (Gm m) Tryd.prog false Tryd.f91 [] = some cf91 := by kernel_rfl

/-- strings.Trim -/
def cf92 : CF :=
  ⟨43, [(.tmp 4)], (.seq (.reg [⟨(some 4), none, (.mv (.c (.str ⟨#[]⟩)))⟩]) (.seq (.seq (.reg [⟨(some 7), none, (.mv (.t 0))⟩, ⟨(some 8), none, (.bin .eql (.t 7) (.c (.str ⟨#[]⟩)))⟩, ⟨(some 9), none, (.mv (.t 8))⟩, ⟨(some 10), (some ((some 9), false)), (.mv (.t 1))⟩, ⟨(some 11), (some ((some 9), false)), (.bin .eql (.t 10) (.c (.str ⟨#[]⟩)))⟩, ⟨(some 12), none, (.pick (.t 9) (.c (.bool true)) (.t 11))⟩]) (.cond (.t 12) (.seq (.reg [⟨(some 13), none, (.mv (.t 0))⟩, ⟨(some 4), none, (.mv (.t 13))⟩]) .ret) .skip)) (.seq (.seq (.reg [⟨(some 14), none, (.mv (.t 1))⟩, ⟨(some 15), none, (.lens (.t 14))⟩, ⟨(some 16), none, (.bin .eql (.t 15) (.c (.int .i64 1)))⟩, ⟨(some 17), none, (.mv (.t 16))⟩, ⟨(some 18), (some ((some 17), true)), (.mv (.t 1))⟩, ⟨(some 19), (some ((some 17), true)), (.idx (.t 18) (.c (.int .i64 0)))⟩, ⟨(some 20), (some ((some 17), true)), (.bin .lss (.t 19) (.c (.int .u8 128)))⟩, ⟨(some 21), none, (.pick (.t 17) (.t 20) (.c (.bool false)))⟩]) (.cond (.t 21) (.seq (.dreg [⟨(some 22), none, (.mv (.t 0))⟩, ⟨(some 23), none, (.mv (.t 1))⟩, ⟨(some 24), none, (.idx (.t 23) (.c (.int .i64 0)))⟩, ⟨(some 25), none, (.call 119 [(.t 22), (.t 24)])⟩, ⟨(some 26), none, (.mv (.t 1))⟩, ⟨(some 27), none, (.idx (.t 26) (.c (.int .i64 0)))⟩, ⟨(some 28), none, (.call 118 [(.t 25), (.t 27)])⟩, ⟨(some 4), none, (.mv (.t 28))⟩] []) .ret) .skip)) (.seq (.seq (.reg [⟨(some 30), none, (.mv (.t 1))⟩, ⟨(some 31), none, (.call 120 [(.t 30)])⟩, ⟨(some 29), none, (.mv (.t 31))⟩, ⟨(some 32), none, (.ext (.t 29) 0)⟩, ⟨(some 33), none, (.ext (.t 29) 1)⟩, ⟨(some 5), none, (.alloc [(.bool false), (.bool false), (.bool false), (.bool false), (.bool false), (.bool false), (.bool false), (.bool false), (.bool false), (.bool false), (.bool false), (.bool false), (.bool false), (.bool false), (.bool false), (.bool false), (.bool false), (.bool false), (.bool false), (.bool false), (.bool false), (.bool false), (.bool false), (.bool false), (.bool false), (.bool false), (.bool false), (.bool false), (.bool false), (.bool false), (.bool false), (.bool false), (.bool false), (.bool false), (.bool false), (.bool false), (.bool false), (.bool false), (.bool false), (.bool false), (.bool false), (.bool false), (.bool false), (.bool false), (.bool false), (.bool false), (.bool false), (.bool false), (.bool false), (.bool false), (.bool false), (.bool false), (.bool false), (.bool false), (.bool false), (.bool false), (.bool false), (.bool false), (.bool false), (.bool false), (.bool false), (.bool false), (.bool false), (.bool false), (.bool false), (.bool false), (.bool false), (.bool false), (.bool false), (.bool false), (.bool false), (.bool false), (.bool false), (.bool false), (.bool false), (.bool false), (.bool false), (.bool false), (.bool false), (.bool false), (.bool false), (.bool false), (.bool false), (.bool false), (.bool false), (.bool false), (.bool false), (.bool false), (.bool false), (.bool false), (.bool false), (.bool false), (.bool false), (.bool false), (.bool false), (.bool false), (.bool false), (.bool false), (.bool false), (.bool false), (.bool false), (.bool false), (.bool false), (.bool false), (.bool false), (.bool false), (.bool false), (.bool false), (.bool false), (.bool false), (.bool false), (.bool false), (.bool false), (.bool false), (.bool false), (.bool false), (.bool false), (.bool false), (.bool false), (.bool false), (.bool false), (.bool false), (.bool false), (.bool false), (.bool false), (.bool false), (.bool false), (.bool false), (.bool false), (.bool false), (.bool false), (.bool false), (.bool false), (.bool false), (.bool false), (.bool false), (.bool false), (.bool false), (.bool false), (.bool false), (.bool false), (.bool false), (.bool false), (.bool false), (.bool false), (.bool false), (.bool false), (.bool false), (.bool false), (.bool false), (.bool false), (.bool false), (.bool false), (.bool false), (.bool false), (.bool false), (.bool false), (.bool false), (.bool false), (.bool false), (.bool false), (.bool false), (.bool false), (.bool false), (.bool false), (.bool false), (.bool false), (.bool false), (.bool false), (.bool false), (.bool false), (.bool false), (.bool false), (.bool false), (.bool false), (.bool false), (.bool false), (.bool false), (.bool false), (.bool false), (.bool false), (.bool false), (.bool false), (.bool false), (.bool false), (.bool false), (.bool false), (.bool false), (.bool false), (.bool false), (.bool false), (.bool false), (.bool false), (.bool false), (.bool false), (.bool false), (.bool false), (.bool false), (.bool false), (.bool false), (.bool false), (.bool false), (.bool false), (.bool false), (.bool false), (.bool false), (.bool false), (.bool false), (.bool false), (.bool false), (.bool false), (.bool false), (.bool false), (.bool false), (.bool false), (.bool false), (.bool false), (.bool false), (.bool false), (.bool false), (.bool false), (.bool false), (.bool false), (.bool false), (.bool false), (.bool false), (.bool false), (.bool false), (.bool false), (.bool false), (.bool false), (.bool false), (.bool false), (.bool false), (.bool false), (.bool false), (.bool false), (.bool false), (.bool false), (.bool false), (.bool false), (.bool false), (.bool false), (.bool false), (.bool false), (.bool false), (.bool false), (.bool false), (.bool false), (.bool false), (.bool false), (.bool false), (.bool false), (.bool false), (.bool false), (.bool false)])⟩, ⟨none, none, (.store 256 (.t 5) (.t 32))⟩, ⟨(some 6), none, (.mv (.t 33))⟩]) (.seq (.reg [⟨(some 34), none, (.mv (.t 6))⟩]) (.cond (.t 34) (.seq (.reg [⟨(some 35), none, (.mv (.t 0))⟩, ⟨(some 36), none, (.call 122 [(.t 35), (.t 5)])⟩, ⟨(some 37), none, (.call 121 [(.t 36), (.t 5)])⟩, ⟨(some 4), none, (.mv (.t 37))⟩]) .ret) .skip))) (.seq (.reg [⟨(some 38), none, (.mv (.t 0))⟩, ⟨(some 39), none, (.mv (.t 1))⟩, ⟨(some 40), none, (.call 124 [(.t 38), (.t 39)])⟩, ⟨(some 41), none, (.mv (.t 1))⟩, ⟨(some 42), none, (.call 123 [(.t 40), (.t 41)])⟩, ⟨(some 4), none, (.mv (.t 42))⟩]) .ret)))))⟩
theorem ok92 (m : Int) : cFunc (Gm m) Tryd.prog false Tryd.f92 [] = some cf92 := by kernel_rfl

/-- (*provenance/lexer.scanner).step$1 -/
def cf93 : CF :=
  ⟨5, [(.tmp 2)], (.seq (.reg [⟨(some 2), none, (.mv (.c (.bool false)))⟩]) (.seq (.reg [⟨(some 3), none, (.mv (.t 0))⟩, ⟨(some 4), none, (.bin .neq (.t 3) (.c (.int .u8 10)))⟩, ⟨(some 2), none, (.mv (.t 4))⟩]) .ret))⟩
theorem ok93 (m : Int) : cFunc (Gm m) Tryd.prog false Tryd.f93 [] = some cf93 := by kernel_rfl

/-- (*provenance/lexer.scanner).fail -/
def cf94 : CF :=
  ⟨23, [], (.dreg [⟨(some 4), none, (.mv (.t 0))⟩, ⟨(some 5), none, (.mv (.t 0))⟩, ⟨(some 6), none, (.nilc (.t 5))⟩, ⟨(some 7), none, (.faddr 5 (.t 6))⟩, ⟨(some 8), none, (.load false 1 (.t 7))⟩, ⟨(some 9), none, (.mv (.t 1))⟩, ⟨(some 10), none, (.mv (.t 0))⟩, ⟨(some 11), none, (.nilc (.t 10))⟩, ⟨(some 12), none, (.faddr 2 (.t 11))⟩, ⟨(some 13), none, (.load false 1 (.t 12))⟩, ⟨(some 14), none, (.mv (.t 0))⟩, ⟨(some 15), none, (.nilc (.t 14))⟩, ⟨(some 16), none, (.faddr 3 (.t 15))⟩, ⟨(some 17), none, (.load false 1 (.t 16))⟩, ⟨(some 18), none, (.build [(.int .i64 0), (.int .i64 0), (.int .i64 0), (.str ⟨#[]⟩)] [(0, (1, (.t 9))), (1, (1, (.t 13))), (2, (1, (.t 17)))])⟩, ⟨(some 19), none, (.bsl 4 1 [(.int .i64 0), (.int .i64 0), (.int .i64 0), (.str ⟨#[]⟩)] [(0, (4, (.t 18)))])⟩, ⟨(some 20), none, (.app false 4 40 [(.int .i64 0), (.int .i64 0), (.int .i64 0), (.str ⟨#[]⟩)] (.t 8) (.t 19))⟩, ⟨(some 21), none, (.nilc (.t 4))⟩, ⟨(some 22), none, (.faddr 5 (.t 21))⟩, ⟨none, none, (.store 1 (.t 22) (.t 20))⟩] [])⟩
theorem ok94 (m : Int) : cFunc (Gm m) Tryd.prog false Tryd.f94 [] = some cf94 := by kernel_rfl

/-- provenance/lexer.Keyword -/
def cf117 : CF :=
  ⟨16, [(.tmp 2)], (.seq (.reg [⟨(some 2), none, (.mv (.c (.bool false)))⟩]) (.seq (.reg [⟨(some 3), none, (.mv (.t 0))⟩, ⟨(some 4), none, (.bin .neq (.t 3) (.c (.str ⟨#[]⟩)))⟩, ⟨(some 5), none, (.mv (.t 4))⟩, ⟨(some 6), (some ((some 5), true)), (.mv (.t 0))⟩, ⟨(some 7), (some ((some 5), true)), (.call 137 [(.t 6), (.c (.str ⟨#[32]⟩))])⟩, ⟨(some 8), (some ((some 5), true)), (.un .not (.t 7))⟩, ⟨(some 9), none, (.pick (.t 5) (.t 8) (.c (.bool false)))⟩, ⟨(some 10), none, (.mv (.t 9))⟩, ⟨(some 11), (some ((some 10), true)), (.mv (.t 0))⟩, ⟨(some 12), (some ((some 10), true)), (.bin .add (.c (.str ⟨#[32]⟩)) (.t 11))⟩, ⟨(some 13), (some ((some 10), true)), (.bin .add (.t 12) (.c (.str ⟨#[32]⟩)))⟩, ⟨(some 14), (some ((some 10), true)), (.call 137 [(.c (.str ⟨#[32, 109, 111, 100, 117, 108, 101, 32, 105, 109, 112, 111, 114, 116, 32, 101, 120, 112, 111, 114, 116, 32, 100, 97, 116, 97, 32, 99, 108, 97, 115, 115, 32, 105, 110, 115, 116, 97, 110, 99, 101, 32, 101, 102, 102, 101, 99, 116, 32, 119, 104, 101, 114, 101, 32, 108, 101, 116, 32, 105, 110, 32, 105, 102, 32, 116, 104, 101, 110, 32, 101, 108, 115, 101, 32, 99, 97, 115, 101, 32, 111, 102, 32, 104, 97, 110, 100, 108, 101, 32, 119, 105, 116, 104, 32, 105, 110, 102, 105, 120, 108, 32, 105, 110, 102, 105, 120, 114, 32, 105, 110, 102, 105, 120, 32, 114, 101, 116, 117, 114, 110, 32, 32, 61, 32, 45, 62, 32, 61, 62, 32, 58, 32, 124, 32, 92, 32, 46, 32, 33, 32]⟩)), (.t 13)])⟩, ⟨(some 15), none, (.pick (.t 10) (.t 14) (.c (.bool false)))⟩, ⟨(some 2), none, (.mv (.t 15))⟩]) .ret))⟩
theorem ok117 (m : Int) : cFunc (Gm m) Tryd.prog false Tryd.f117 [] = some cf117 := by kernel_rfl

def cf118_l0 : CC :=
  (.seq (.seq (.reg [⟨(some 5), none, (.mv (.t 0))⟩, ⟨(some 6), none, (.lens (.t 5))⟩, ⟨(some 7), none, (.bin .gtr (.t 6) (.c (.int .i64 0)))⟩, ⟨(some 8), none, (.mv (.t 7))⟩, ⟨(some 9), (some ((some 8), true)), (.mv (.t 0))⟩, ⟨(some 10), (some ((some 8), true)), (.idx (.t 9) (.c (.int .i64 0)))⟩, ⟨(some 11), (some ((some 8), true)), (.mv (.t 1))⟩, ⟨(some 12), (some ((some 8), true)), (.bin .eql (.t 10) (.t 11))⟩, ⟨(some 13), none, (.pick (.t 8) (.t 12) (.c (.bool false)))⟩]) (.cond (.t 13) .skip (.exit 0))) (.block 1 (.reg [⟨(some 14), none, (.mv (.t 0))⟩, ⟨(some 15), none, (.sls (.t 14) (some (.c (.int .i64 1))) none)⟩, ⟨(some 0), none, (.mv (.t 15))⟩])))
/-- strings.trimLeftByte -/
def cf118 : CF :=
  ⟨17, [(.tmp 4)], (.seq (.reg [⟨(some 4), none, (.mv (.c (.str ⟨#[]⟩)))⟩]) (.seq (.block 0 (.loop cf118_l0)) (.seq (.reg [⟨(some 16), none, (.mv (.t 0))⟩, ⟨(some 4), none, (.mv (.t 16))⟩]) .ret)))⟩
theorem ok118 (m : Int) : cFunc (Gm m) Tryd.prog false Tryd.f118 [] = some cf118 := by kernel_rfl

def cf119_l0 : CC :=
  (.seq (.seq (.reg [⟨(some 5), none, (.mv (.t 0))⟩, ⟨(some 6), none, (.lens (.t 5))⟩, ⟨(some 7), none, (.bin .gtr (.t 6) (.c (.int .i64 0)))⟩, ⟨(some 8), none, (.mv (.t 7))⟩, ⟨(some 9), (some ((some 8), true)), (.mv (.t 0))⟩, ⟨(some 10), (some ((some 8), true)), (.mv (.t 0))⟩, ⟨(some 11), (some ((some 8), true)), (.lens (.t 10))⟩, ⟨(some 12), (some ((some 8), true)), (.bin .sub (.t 11) (.c (.int .i64 1)))⟩, ⟨(some 13), (some ((some 8), true)), (.idx (.t 9) (.t 12))⟩, ⟨(some 14), (some ((some 8), true)), (.mv (.t 1))⟩, ⟨(some 15), (some ((some 8), true)), (.bin .eql (.t 13) (.t 14))⟩, ⟨(some 16), none, (.pick (.t 8) (.t 15) (.c (.bool false)))⟩]) (.cond (.t 16) .skip (.exit 0))) (.block 1 (.reg [⟨(some 17), none, (.mv (.t 0))⟩, ⟨(some 18), none, (.mv (.t 0))⟩, ⟨(some 19), none, (.lens (.t 18))⟩, ⟨(some 20), none, (.bin .sub (.t 19) (.c (.int .i64 1)))⟩, ⟨(some 21), none, (.sls (.t 17) none (some (.t 20)))⟩, ⟨(some 0), none, (.mv (.t 21))⟩])))
/-- strings.trimRightByte -/
def cf119 : CF :=
  ⟨23, [(.tmp 4)], (.seq (.reg [⟨(some 4), none, (.mv (.c (.str ⟨#[]⟩)))⟩]) (.seq (.block 0 (.loop cf119_l0)) (.seq (.reg [⟨(some 22), none, (.mv (.t 0))⟩, ⟨(some 4), none, (.mv (.t 22))⟩]) .ret)))⟩
theorem ok119 (m : Int) : cFunc (Gm m) Tryd.prog false Tryd.f119 [] = some cf119 := by kernel_rfl

def T : Nat → Option CF
  | 8 => some cf8
  | 21 => some cf21
  | 26 => some cf26
  | 32 => some cf32
  | 55 => some cf55
  | 60 => some cf60
  | 61 => some cf61
  | 62 => some cf62
  | 83 => some cf83
  | 84 => some cf84
  | 85 => some cf85
  | 86 => some cf86
  | 87 => some cf87
  | 88 => some cf88
  | 89 => some cf89
  | 90 => some cf90
  | 91 => some cf91
  | 92 => some cf92
  | 93 => some cf93
  | 94 => some cf94
  | 117 => some cf117
  | 118 => some cf118
  | 119 => some cf119
  | _ => none

theorem T8 : T 8 = some cf8 := rfl
theorem T21 : T 21 = some cf21 := rfl
theorem T26 : T 26 = some cf26 := rfl
theorem T32 : T 32 = some cf32 := rfl
theorem T55 : T 55 = some cf55 := rfl
theorem T60 : T 60 = some cf60 := rfl
theorem T61 : T 61 = some cf61 := rfl
theorem T62 : T 62 = some cf62 := rfl
theorem T83 : T 83 = some cf83 := rfl
theorem T84 : T 84 = some cf84 := rfl
theorem T85 : T 85 = some cf85 := rfl
theorem T86 : T 86 = some cf86 := rfl
theorem T87 : T 87 = some cf87 := rfl
theorem T88 : T 88 = some cf88 := rfl
theorem T89 : T 89 = some cf89 := rfl
theorem T90 : T 90 = some cf90 := rfl
theorem T91 : T 91 = some cf91 := rfl
theorem T92 : T 92 = some cf92 := rfl
theorem T93 : T 93 = some cf93 := rfl
theorem T94 : T 94 = some cf94 := rfl
theorem T117 : T 117 = some cf117 := rfl
theorem T118 : T 118 = some cf118 := rfl
theorem T119 : T 119 = some cf119 := rfl

theorem hT (m : Int) (f : Nat) (cf : CF) (h : T f = some cf) : ∃ fn mu fz, Tryd.prog.funcs[f]? = some fn ∧ cFunc (Gm m) Tryd.prog mu fn fz = some cf := by
  unfold T at h
  split at h
  · cases h; exact ⟨_, _, _, Tryd.func8, ok8 m⟩
  · cases h; exact ⟨_, _, _, Tryd.func21, ok21 m⟩
  · cases h; exact ⟨_, _, _, Tryd.func26, ok26 m⟩
  · cases h; exact ⟨_, _, _, Tryd.func32, ok32 m⟩
  · cases h; exact ⟨_, _, _, Tryd.func55, ok55 m⟩
  · cases h; exact ⟨_, _, _, Tryd.func60, ok60 m⟩
  · cases h; exact ⟨_, _, _, Tryd.func61, ok61 m⟩
  · cases h; exact ⟨_, _, _, Tryd.func62, ok62 m⟩
  · cases h; exact ⟨_, _, _, Tryd.func83, ok83 m⟩
  · cases h; exact ⟨_, _, _, Tryd.func84, ok84 m⟩
  · cases h; exact ⟨_, _, _, Tryd.func85, ok85 m⟩
  · cases h; exact ⟨_, _, _, Tryd.func86, ok86 m⟩
  · cases h; exact ⟨_, _, _, Tryd.func87, ok87 m⟩
  · cases h; exact ⟨_, _, _, Tryd.func88, ok88 m⟩
  · cases h; exact ⟨_, _, _, Tryd.func89, ok89 m⟩
  · cases h; exact ⟨_, _, _, Tryd.func90, ok90 m⟩
  · cases h; exact ⟨_, _, _, Tryd.func91, ok91 m⟩
  · cases h; exact ⟨_, _, _, Tryd.func92, ok92 m⟩
  · cases h; exact ⟨_, _, _, Tryd.func93, ok93 m⟩
  · cases h; exact ⟨_, _, _, Tryd.func94, ok94 m⟩
  · cases h; exact ⟨_, _, _, Tryd.func117, ok117 m⟩
  · cases h; exact ⟨_, _, _, Tryd.func118, ok118 m⟩
  · cases h; exact ⟨_, _, _, Tryd.func119, ok119 m⟩
  · cases h

theorem good (m : Int) {X : Ext} (hX : ∀ f h, X f = some h → ∀ args s v s', h args s = some (v, s') → CallC (Gm m) Tryd.prog f args s v s') : Good (Gm m) Tryd.prog T X := ⟨by kernel_rfl, hT m, hX⟩
end Go.Am.L1
