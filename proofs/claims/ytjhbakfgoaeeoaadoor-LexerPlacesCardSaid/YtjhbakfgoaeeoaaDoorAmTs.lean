/- The compiled texts, each checked. PRINTED BY wip/tools/gen.py. Conditions: none. -/
import Derived.Test.YtjhbakfgoaeeoaaDoorAmS
import Derived.KernelRfl
import Derived.Test.YtjhbakfgoaeeoaaDoorRows
namespace Go.Am.S1
open Go.Proofs
set_option maxRecDepth 100000
def Gm (m : Int) : Glob := fun g => if g = 1 then some [.int .i64 m] else none

/-- provenance/provenancekeep1.SourceBack -/
def cf5 : CF :=
  ⟨54, [(.tmp 4)], (.seq (.reg [⟨(some 4), none, (.mv (.c (.bool false)))⟩]) (.seq (.seq (.reg [⟨(some 13), none, (.call 20 [(.c (.str ⟨#[97, 98, 10, 99, 100]⟩)), (.c (.int .i64 2)), (.c (.int .i64 2))])⟩, ⟨(some 12), none, (.mv (.t 13))⟩, ⟨(some 14), none, (.ext (.t 12) 0)⟩, ⟨(some 15), none, (.ext (.t 12) 1)⟩, ⟨(some 5), none, (.mv (.t 14))⟩, ⟨(some 6), none, (.mv (.t 15))⟩]) (.seq (.reg [⟨(some 16), none, (.mv (.t 5))⟩, ⟨(some 17), none, (.bin .neq (.t 16) (.c (.int .i64 4)))⟩, ⟨(some 18), none, (.mv (.t 17))⟩, ⟨(some 19), (some ((some 18), false)), (.mv (.t 6))⟩, ⟨(some 20), (some ((some 18), false)), (.bin .neq (.t 19) (.c (.int .i64 0)))⟩, ⟨(some 21), none, (.pick (.t 18) (.c (.bool true)) (.t 20))⟩]) (.cond (.t 21) (.seq (.reg [⟨(some 4), none, (.mv (.c (.bool false)))⟩]) .ret) .skip))) (.seq (.seq (.reg [⟨(some 22), none, (.mv (.t 0))⟩, ⟨(some 23), none, (.call 21 [(.t 22)])⟩, ⟨(some 24), none, (.bin .neq (.t 23) (.c (.int .i64 0)))⟩]) (.cond (.t 24) (.seq (.reg [⟨(some 4), none, (.mv (.c (.bool true)))⟩]) .ret) .skip)) (.seq (.reg [⟨(some 25), none, (.mv (.t 1))⟩, ⟨(some 26), none, (.mv (.t 0))⟩, ⟨(some 27), none, (.lens (.t 26))⟩, ⟨(some 28), none, (.call 14 [(.t 25), (.c (.int .i64 0)), (.t 27)])⟩, ⟨(some 1), none, (.mv (.t 28))⟩]) (.seq (.reg [⟨(some 30), none, (.mv (.t 0))⟩, ⟨(some 31), none, (.mv (.t 1))⟩, ⟨(some 32), none, (.call 22 [(.t 30), (.t 31)])⟩, ⟨(some 29), none, (.mv (.t 32))⟩, ⟨(some 33), none, (.ext (.t 29) 0)⟩, ⟨(some 34), none, (.ext (.t 29) 1)⟩, ⟨(some 35), none, (.ext (.t 29) 2)⟩, ⟨(some 7), none, (.mv (.t 33))⟩, ⟨(some 8), none, (.mv (.t 34))⟩, ⟨(some 9), none, (.mv (.t 35))⟩]) (.seq (.reg [⟨(some 37), none, (.mv (.t 0))⟩, ⟨(some 38), none, (.mv (.t 7))⟩, ⟨(some 39), none, (.mv (.t 8))⟩, ⟨(some 40), none, (.call 20 [(.t 37), (.t 38), (.t 39)])⟩, ⟨(some 36), none, (.mv (.t 40))⟩, ⟨(some 41), none, (.ext (.t 36) 0)⟩, ⟨(some 42), none, (.ext (.t 36) 1)⟩, ⟨(some 10), none, (.mv (.t 41))⟩, ⟨(some 11), none, (.mv (.t 42))⟩]) (.seq (.reg [⟨(some 43), none, (.mv (.t 9))⟩, ⟨(some 44), none, (.bin .eql (.t 43) (.c (.int .i64 0)))⟩, ⟨(some 45), none, (.mv (.t 44))⟩, ⟨(some 46), (some ((some 45), true)), (.mv (.t 11))⟩, ⟨(some 47), (some ((some 45), true)), (.bin .eql (.t 46) (.c (.int .i64 0)))⟩, ⟨(some 48), none, (.pick (.t 45) (.t 47) (.c (.bool false)))⟩, ⟨(some 49), none, (.mv (.t 48))⟩, ⟨(some 50), (some ((some 49), true)), (.mv (.t 10))⟩, ⟨(some 51), (some ((some 49), true)), (.mv (.t 1))⟩, ⟨(some 52), (some ((some 49), true)), (.bin .eql (.t 50) (.t 51))⟩, ⟨(some 53), none, (.pick (.t 49) (.t 52) (.c (.bool false)))⟩, ⟨(some 4), none, (.mv (.t 53))⟩]) .ret)))))))⟩
theorem ok5 (m : Int) : cFunc (Gm m) Tryd.prog false Tryd.f5 [] = some cf5 := by kernel_rfl

def cf6_l0 : CC :=
  (.seq (.seq (.reg [⟨(some 24), none, (.mv (.t 6))⟩, ⟨(some 25), none, (.mv (.t 0))⟩, ⟨(some 26), none, (.call 24 [(.t 25), (.c (.str ⟨#[10]⟩))])⟩, ⟨(some 27), none, (.bin .add (.t 26) (.c (.int .i64 1)))⟩, ⟨(some 28), none, (.bin .leq (.t 24) (.t 27))⟩]) (.cond (.t 28) .skip (.exit 0))) (.seq (.block 1 (.seq (.reg [⟨(some 32), none, (.mv (.t 0))⟩, ⟨(some 33), none, (.mv (.t 6))⟩, ⟨(some 34), none, (.call 23 [(.t 32), (.t 33)])⟩, ⟨(some 31), none, (.mv (.t 34))⟩, ⟨(some 35), none, (.ext (.t 31) 0)⟩, ⟨(some 36), none, (.ext (.t 31) 1)⟩, ⟨(some 7), none, (.mv (.t 35))⟩, ⟨(some 8), none, (.mv (.t 36))⟩]) (.seq (.seq (.reg [⟨(some 37), none, (.mv (.t 8))⟩, ⟨(some 38), none, (.bin .neq (.t 37) (.c (.int .i64 0)))⟩]) (.cond (.t 38) (.seq (.reg [⟨(some 2), none, (.mv (.c (.bool false)))⟩]) .ret) .skip)) (.reg [⟨(some 39), none, (.mv (.t 5))⟩, ⟨(some 40), none, (.mv (.t 7))⟩, ⟨(some 41), none, (.bsl 1 1 [(.str ⟨#[]⟩)] [(0, (1, (.t 40)))])⟩, ⟨(some 42), none, (.app false 1 16 [(.str ⟨#[]⟩)] (.t 39) (.t 41))⟩, ⟨(some 5), none, (.mv (.t 42))⟩])))) (.reg [⟨(some 29), none, (.mv (.t 6))⟩, ⟨(some 30), none, (.bin .add (.t 29) (.c (.int .i64 1)))⟩, ⟨(some 6), none, (.mv (.t 30))⟩])))
/-- provenance/provenancekeep1.SourceLines -/
def cf6 : CF :=
  ⟨59, [(.tmp 2)], (.seq (.reg [⟨(some 2), none, (.mv (.c (.bool false)))⟩]) (.seq (.seq (.reg [⟨(some 12), none, (.call 23 [(.c (.str ⟨#[97, 10, 98]⟩)), (.c (.int .i64 2))])⟩, ⟨(some 11), none, (.mv (.t 12))⟩, ⟨(some 13), none, (.ext (.t 11) 0)⟩, ⟨(some 14), none, (.ext (.t 11) 1)⟩, ⟨(some 3), none, (.mv (.t 13))⟩, ⟨(some 4), none, (.mv (.t 14))⟩]) (.seq (.reg [⟨(some 15), none, (.mv (.t 3))⟩, ⟨(some 16), none, (.bin .neq (.t 15) (.c (.str ⟨#[98]⟩)))⟩, ⟨(some 17), none, (.mv (.t 16))⟩, ⟨(some 18), (some ((some 17), false)), (.mv (.t 4))⟩, ⟨(some 19), (some ((some 17), false)), (.bin .neq (.t 18) (.c (.int .i64 0)))⟩, ⟨(some 20), none, (.pick (.t 17) (.c (.bool true)) (.t 19))⟩]) (.cond (.t 20) (.seq (.reg [⟨(some 2), none, (.mv (.c (.bool false)))⟩]) .ret) .skip))) (.seq (.seq (.reg [⟨(some 21), none, (.mv (.t 0))⟩, ⟨(some 22), none, (.call 21 [(.t 21)])⟩, ⟨(some 23), none, (.bin .neq (.t 22) (.c (.int .i64 0)))⟩]) (.cond (.t 23) (.seq (.reg [⟨(some 2), none, (.mv (.c (.bool true)))⟩]) .ret) .skip)) (.seq (.reg [⟨(some 5), none, (.mv (.c .nils))⟩]) (.seq (.seq (.reg [⟨(some 6), none, (.mv (.c (.int .i64 1)))⟩]) (.block 0 (.loop cf6_l0))) (.seq (.reg [⟨(some 44), none, (.mv (.t 0))⟩, ⟨(some 45), none, (.mv (.t 5))⟩, ⟨(some 46), none, (.len (.t 45))⟩, ⟨(some 47), none, (.bin .add (.t 46) (.c (.int .i64 1)))⟩, ⟨(some 48), none, (.call 23 [(.t 44), (.t 47)])⟩, ⟨(some 43), none, (.mv (.t 48))⟩, ⟨(some 49), none, (.ext (.t 43) 0)⟩, ⟨(some 50), none, (.ext (.t 43) 1)⟩, ⟨(some 9), none, (.mv (.t 49))⟩, ⟨(some 10), none, (.mv (.t 50))⟩]) (.seq (.reg [⟨(some 51), none, (.mv (.t 5))⟩, ⟨(some 52), none, (.call 25 [(.t 51), (.c (.str ⟨#[10]⟩))])⟩, ⟨(some 53), none, (.mv (.t 0))⟩, ⟨(some 54), none, (.bin .eql (.t 52) (.t 53))⟩, ⟨(some 55), none, (.mv (.t 54))⟩, ⟨(some 56), (some ((some 55), true)), (.mv (.t 10))⟩, ⟨(some 57), (some ((some 55), true)), (.bin .eql (.t 56) (.c (.int .i64 4)))⟩, ⟨(some 58), none, (.pick (.t 55) (.t 57) (.c (.bool false)))⟩, ⟨(some 2), none, (.mv (.t 58))⟩]) .ret)))))))⟩
theorem ok6 (m : Int) : cFunc (Gm m) Tryd.prog false Tryd.f6 [] = some cf6 := by kernel_rfl

/-- provenance/provenancekeep1.within -/
def cf14 : CF :=
  ⟨21, [(.tmp 6)], (.seq (.reg [⟨(some 6), none, (.mv (.c (.int .i64 0)))⟩]) (.seq (.reg [⟨(some 8), none, (.mv (.t 2))⟩, ⟨(some 9), none, (.mv (.t 1))⟩, ⟨(some 10), none, (.bin .sub (.t 8) (.t 9))⟩, ⟨(some 11), none, (.bin .add (.t 10) (.c (.int .i64 1)))⟩, ⟨(some 7), none, (.mv (.t 11))⟩]) (.seq (.reg [⟨(some 12), none, (.mv (.t 1))⟩, ⟨(some 13), none, (.mv (.t 0))⟩, ⟨(some 14), none, (.mv (.t 7))⟩, ⟨(some 15), none, (.bin .rem (.t 13) (.t 14))⟩, ⟨(some 16), none, (.mv (.t 7))⟩, ⟨(some 17), none, (.bin .add (.t 15) (.t 16))⟩, ⟨(some 18), none, (.mv (.t 7))⟩, ⟨(some 19), none, (.bin .rem (.t 17) (.t 18))⟩, ⟨(some 20), none, (.bin .add (.t 12) (.t 19))⟩, ⟨(some 6), none, (.mv (.t 20))⟩]) .ret)))⟩
theorem ok14 (m : Int) : cFunc (Gm m) Tryd.prog false Tryd.f14 [] = some cf14 := by kernel_rfl

def cf20_l0 : CC :=
  (.seq (.reg [⟨(some 34), none, (.bin .lss (.t 33) (.t 32))⟩]) (.seq (.cond (.t 34) .skip (.exit 1)) (.seq (.block 2 (.reg [⟨(some 35), none, (.mv (.t 10))⟩, ⟨(some 36), none, (.mv (.t 0))⟩, ⟨(some 37), none, (.mv (.t 10))⟩, ⟨(some 38), none, (.sls (.t 36) (some (.t 37)) none)⟩, ⟨(some 39), none, (.call 53 [(.t 38), (.c (.int .u8 10))])⟩, ⟨(some 40), none, (.bin .add (.t 39) (.c (.int .i64 1)))⟩, ⟨(some 41), none, (.bin .add (.t 35) (.t 40))⟩, ⟨(some 10), none, (.mv (.t 41))⟩])) (.reg [⟨(some 42), none, (.bin .add (.t 33) (.c (.int .i64 1)))⟩, ⟨(some 33), none, (.mv (.t 42))⟩]))))
/-- provenance/source.Offset -/
def cf20 : CF :=
  ⟨47, [(.tmp 6), (.tmp 7)], (.seq (.reg [⟨(some 6), none, (.mv (.c (.int .i64 0)))⟩, ⟨(some 7), none, (.mv (.c (.int .i64 0)))⟩]) (.seq (.reg [⟨(some 12), none, (.mv (.t 0))⟩, ⟨(some 13), none, (.mv (.t 1))⟩, ⟨(some 14), none, (.call 23 [(.t 12), (.t 13)])⟩, ⟨(some 11), none, (.mv (.t 14))⟩, ⟨(some 15), none, (.ext (.t 11) 0)⟩, ⟨(some 16), none, (.ext (.t 11) 1)⟩, ⟨(some 8), none, (.mv (.t 15))⟩, ⟨(some 9), none, (.mv (.t 16))⟩]) (.seq (.block 0 (.seq (.reg [⟨(some 18), none, (.mv (.t 9))⟩, ⟨(some 19), none, (.bin .neq (.t 18) (.c (.int .i64 0)))⟩, ⟨(some 17), none, (.mv (.t 19))⟩]) (.cond (.t 17) (.seq (.reg [⟨(some 20), none, (.mv (.t 9))⟩, ⟨(some 6), none, (.mv (.c (.int .i64 0)))⟩, ⟨(some 7), none, (.mv (.t 20))⟩]) .ret) (.seq (.reg [⟨(some 22), none, (.mv (.t 2))⟩, ⟨(some 23), none, (.bin .lss (.t 22) (.c (.int .i64 1)))⟩, ⟨(some 24), none, (.mv (.t 23))⟩, ⟨(some 25), (some ((some 24), false)), (.mv (.t 2))⟩, ⟨(some 26), (some ((some 24), false)), (.mv (.t 8))⟩, ⟨(some 27), (some ((some 24), false)), (.lens (.t 26))⟩, ⟨(some 28), (some ((some 24), false)), (.bin .add (.t 27) (.c (.int .i64 1)))⟩, ⟨(some 29), (some ((some 24), false)), (.bin .gtr (.t 25) (.t 28))⟩, ⟨(some 30), none, (.pick (.t 24) (.c (.bool true)) (.t 29))⟩, ⟨(some 21), none, (.mv (.t 30))⟩]) (.cond (.t 21) (.seq (.reg [⟨(some 6), none, (.mv (.c (.int .i64 0)))⟩, ⟨(some 7), none, (.mv (.c (.int .i64 4)))⟩]) .ret) .skip))))) (.seq (.reg [⟨(some 10), none, (.mv (.c (.int .i64 0)))⟩]) (.seq (.seq (.reg [⟨(some 31), none, (.mv (.t 1))⟩, ⟨(some 32), none, (.bin .sub (.t 31) (.c (.int .i64 1)))⟩, ⟨(some 33), none, (.mv (.c (.int .i64 0)))⟩]) (.block 1 (.loop cf20_l0))) (.seq (.reg [⟨(some 43), none, (.mv (.t 10))⟩, ⟨(some 44), none, (.mv (.t 2))⟩, ⟨(some 45), none, (.bin .add (.t 43) (.t 44))⟩, ⟨(some 46), none, (.bin .sub (.t 45) (.c (.int .i64 1)))⟩, ⟨(some 6), none, (.mv (.t 46))⟩, ⟨(some 7), none, (.mv (.c (.int .i64 0)))⟩]) .ret))))))⟩
theorem ok20 (m : Int) : cFunc (Gm m) Tryd.prog false Tryd.f20 [] = some cf20 := by kernel_rfl

def cf21_l0 : CC :=
  (.seq (.reg [⟨(some 11), none, (.bin .lss (.t 10) (.t 9))⟩]) (.seq (.cond (.t 11) .skip (.exit 0)) (.seq (.block 1 (.seq (.reg [⟨(some 12), none, (.mv (.t 10))⟩, ⟨(some 3), none, (.mv (.t 12))⟩]) (.seq (.reg [⟨(some 13), none, (.mv (.t 0))⟩, ⟨(some 14), none, (.mv (.t 3))⟩, ⟨(some 15), none, (.idx (.t 13) (.t 14))⟩, ⟨(some 4), none, (.mv (.t 15))⟩]) (.seq (.reg [⟨(some 16), none, (.mv (.t 4))⟩, ⟨(some 17), none, (.bin .neq (.t 16) (.c (.int .u8 10)))⟩, ⟨(some 18), none, (.mv (.t 17))⟩, ⟨(some 19), (some ((some 18), true)), (.mv (.t 4))⟩, ⟨(some 20), (some ((some 18), true)), (.bin .lss (.t 19) (.c (.int .u8 32)))⟩, ⟨(some 21), (some ((some 18), true)), (.mv (.t 20))⟩, ⟨(some 22), (some ((some 21), false)), (.mv (.t 4))⟩, ⟨(some 23), (some ((some 21), false)), (.bin .gtr (.t 22) (.c (.int .u8 126)))⟩, ⟨(some 24), (some ((some 18), true)), (.pick (.t 21) (.c (.bool true)) (.t 23))⟩, ⟨(some 25), none, (.pick (.t 18) (.t 24) (.c (.bool false)))⟩]) (.cond (.t 25) (.seq (.reg [⟨(some 2), none, (.mv (.c (.int .i64 5)))⟩]) .ret) .skip))))) (.reg [⟨(some 26), none, (.bin .add (.t 10) (.c (.int .i64 1)))⟩, ⟨(some 10), none, (.mv (.t 26))⟩]))))
/-- provenance/source.Check -/
def cf21 : CF :=
  ⟨27, [(.tmp 2)], (.seq (.reg [⟨(some 2), none, (.mv (.c (.int .i64 0)))⟩]) (.seq (.seq (.reg [⟨(some 5), none, (.mv (.t 0))⟩, ⟨(some 6), none, (.lens (.t 5))⟩, ⟨(some 7), none, (.bin .gtr (.t 6) (.c (.int .i64 8192)))⟩]) (.cond (.t 7) (.seq (.reg [⟨(some 2), none, (.mv (.c (.int .i64 2)))⟩]) .ret) .skip)) (.seq (.seq (.reg [⟨(some 8), none, (.mv (.t 0))⟩, ⟨(some 9), none, (.lens (.t 8))⟩, ⟨(some 10), none, (.mv (.c (.int .i64 0)))⟩]) (.block 0 (.loop cf21_l0))) (.seq (.reg [⟨(some 2), none, (.mv (.c (.int .i64 0)))⟩]) .ret))))⟩
theorem ok21 (m : Int) : cFunc (Gm m) Tryd.prog false Tryd.f21 [] = some cf21 := by kernel_rfl

/-- provenance/source.Place -/
def cf22 : CF :=
  ⟨34, [(.tmp 4), (.tmp 5), (.tmp 6)], (.seq (.reg [⟨(some 4), none, (.mv (.c (.int .i64 0)))⟩, ⟨(some 5), none, (.mv (.c (.int .i64 0)))⟩, ⟨(some 6), none, (.mv (.c (.int .i64 0)))⟩]) (.seq (.reg [⟨(some 8), none, (.mv (.t 0))⟩, ⟨(some 9), none, (.call 21 [(.t 8)])⟩, ⟨(some 7), none, (.mv (.t 9))⟩]) (.seq (.block 0 (.seq (.reg [⟨(some 11), none, (.mv (.t 7))⟩, ⟨(some 12), none, (.bin .neq (.t 11) (.c (.int .i64 0)))⟩, ⟨(some 10), none, (.mv (.t 12))⟩]) (.cond (.t 10) (.seq (.reg [⟨(some 13), none, (.mv (.t 7))⟩, ⟨(some 4), none, (.mv (.c (.int .i64 0)))⟩, ⟨(some 5), none, (.mv (.c (.int .i64 0)))⟩, ⟨(some 6), none, (.mv (.t 13))⟩]) .ret) (.seq (.reg [⟨(some 15), none, (.mv (.t 1))⟩, ⟨(some 16), none, (.bin .lss (.t 15) (.c (.int .i64 0)))⟩, ⟨(some 17), none, (.mv (.t 16))⟩, ⟨(some 18), (some ((some 17), false)), (.mv (.t 1))⟩, ⟨(some 19), (some ((some 17), false)), (.mv (.t 0))⟩, ⟨(some 20), (some ((some 17), false)), (.lens (.t 19))⟩, ⟨(some 21), (some ((some 17), false)), (.bin .gtr (.t 18) (.t 20))⟩, ⟨(some 22), none, (.pick (.t 17) (.c (.bool true)) (.t 21))⟩, ⟨(some 14), none, (.mv (.t 22))⟩]) (.cond (.t 14) (.seq (.reg [⟨(some 4), none, (.mv (.c (.int .i64 0)))⟩, ⟨(some 5), none, (.mv (.c (.int .i64 0)))⟩, ⟨(some 6), none, (.mv (.c (.int .i64 4)))⟩]) .ret) .skip))))) (.seq (.dreg [⟨(some 23), none, (.mv (.t 0))⟩, ⟨(some 24), none, (.mv (.t 1))⟩, ⟨(some 25), none, (.sls (.t 23) none (some (.t 24)))⟩, ⟨(some 26), none, (.call 24 [(.t 25), (.c (.str ⟨#[10]⟩))])⟩, ⟨(some 27), none, (.bin .add (.c (.int .i64 1)) (.t 26))⟩, ⟨(some 28), none, (.mv (.t 1))⟩, ⟨(some 29), none, (.mv (.t 0))⟩, ⟨(some 30), none, (.mv (.t 1))⟩, ⟨(some 31), none, (.sls (.t 29) none (some (.t 30)))⟩, ⟨(some 32), none, (.call 54 [(.t 31), (.c (.int .u8 10))])⟩, ⟨(some 33), none, (.bin .sub (.t 28) (.t 32))⟩, ⟨(some 4), none, (.mv (.t 27))⟩, ⟨(some 5), none, (.mv (.t 33))⟩, ⟨(some 6), none, (.mv (.c (.int .i64 0)))⟩] []) .ret))))⟩
theorem ok22 (m : Int) : cFunc (Gm m) Tryd.prog false Tryd.f22 [] = some cf22 := by kernel_rfl

/-- provenance/source.Line -/
def cf23 : CF :=
  ⟨29, [(.tmp 4), (.tmp 5)], (.seq (.reg [⟨(some 4), none, (.mv (.c (.str ⟨#[]⟩)))⟩, ⟨(some 5), none, (.mv (.c (.int .i64 0)))⟩]) (.seq (.seq (.reg [⟨(some 8), none, (.mv (.t 0))⟩, ⟨(some 9), none, (.call 21 [(.t 8)])⟩, ⟨(some 6), none, (.mv (.t 9))⟩]) (.seq (.reg [⟨(some 10), none, (.mv (.t 6))⟩, ⟨(some 11), none, (.bin .neq (.t 10) (.c (.int .i64 0)))⟩]) (.cond (.t 11) (.seq (.reg [⟨(some 12), none, (.mv (.t 6))⟩, ⟨(some 4), none, (.mv (.c (.str ⟨#[]⟩)))⟩, ⟨(some 5), none, (.mv (.t 12))⟩]) .ret) .skip))) (.seq (.reg [⟨(some 13), none, (.mv (.t 0))⟩, ⟨(some 14), none, (.call 35 [(.t 13), (.c (.str ⟨#[10]⟩))])⟩, ⟨(some 7), none, (.mv (.t 14))⟩]) (.seq (.seq (.reg [⟨(some 15), none, (.mv (.t 1))⟩, ⟨(some 16), none, (.bin .lss (.t 15) (.c (.int .i64 1)))⟩, ⟨(some 17), none, (.mv (.t 16))⟩, ⟨(some 18), (some ((some 17), false)), (.mv (.t 1))⟩, ⟨(some 19), (some ((some 17), false)), (.mv (.t 7))⟩, ⟨(some 20), (some ((some 17), false)), (.len (.t 19))⟩, ⟨(some 21), (some ((some 17), false)), (.bin .gtr (.t 18) (.t 20))⟩, ⟨(some 22), none, (.pick (.t 17) (.c (.bool true)) (.t 21))⟩]) (.cond (.t 22) (.seq (.reg [⟨(some 4), none, (.mv (.c (.str ⟨#[]⟩)))⟩, ⟨(some 5), none, (.mv (.c (.int .i64 4)))⟩]) .ret) .skip)) (.seq (.reg [⟨(some 23), none, (.mv (.t 7))⟩, ⟨(some 24), none, (.mv (.t 1))⟩, ⟨(some 25), none, (.bin .sub (.t 24) (.c (.int .i64 1)))⟩, ⟨(some 26), none, (.iaddr 1 (.t 23) (.t 25))⟩, ⟨(some 27), none, (.load false 1 (.t 26))⟩, ⟨(some 28), none, (.call 55 [(.t 27)])⟩, ⟨(some 4), none, (.mv (.t 28))⟩, ⟨(some 5), none, (.mv (.c (.int .i64 0)))⟩]) .ret)))))⟩
theorem ok23 (m : Int) : cFunc (Gm m) Tryd.prog false Tryd.f23 [] = some cf23 := by kernel_rfl

/-- strings.Clone -/
def cf55 : CF :=
  ⟨5, [(.tmp 2)], (.seq (.reg [⟨(some 2), none, (.mv (.c (.str ⟨#[]⟩)))⟩]) (.seq (.reg [⟨(some 3), none, (.mv (.t 0))⟩, ⟨(some 4), none, (.call 80 [(.t 3)])⟩, ⟨(some 2), none, (.mv (.t 4))⟩]) .ret))⟩
theorem ok55 (m : Int) : cFunc (Gm m) Tryd.prog false Tryd.f55 [] = some cf55 := by kernel_rfl

def T : Nat → Option CF
  | 5 => some cf5
  | 6 => some cf6
  | 14 => some cf14
  | 20 => some cf20
  | 21 => some cf21
  | 22 => some cf22
  | 23 => some cf23
  | 55 => some cf55
  | _ => none

theorem T5 : T 5 = some cf5 := rfl
theorem T6 : T 6 = some cf6 := rfl
theorem T14 : T 14 = some cf14 := rfl
theorem T20 : T 20 = some cf20 := rfl
theorem T21 : T 21 = some cf21 := rfl
theorem T22 : T 22 = some cf22 := rfl
theorem T23 : T 23 = some cf23 := rfl
theorem T55 : T 55 = some cf55 := rfl

theorem hT (m : Int) (f : Nat) (cf : CF) (h : T f = some cf) : ∃ fn mu fz, Tryd.prog.funcs[f]? = some fn ∧ cFunc (Gm m) Tryd.prog mu fn fz = some cf := by
  unfold T at h
  split at h
  · cases h; exact ⟨_, _, _, Tryd.func5, ok5 m⟩
  · cases h; exact ⟨_, _, _, Tryd.func6, ok6 m⟩
  · cases h; exact ⟨_, _, _, Tryd.func14, ok14 m⟩
  · cases h; exact ⟨_, _, _, Tryd.func20, ok20 m⟩
  · cases h; exact ⟨_, _, _, Tryd.func21, ok21 m⟩
  · cases h; exact ⟨_, _, _, Tryd.func22, ok22 m⟩
  · cases h; exact ⟨_, _, _, Tryd.func23, ok23 m⟩
  · cases h; exact ⟨_, _, _, Tryd.func55, ok55 m⟩
  · cases h

theorem good (m : Int) {X : Ext} (hX : ∀ f h, X f = some h → ∀ args s v s', h args s = some (v, s') → CallC (Gm m) Tryd.prog f args s v s') : Good (Gm m) Tryd.prog T X := ⟨by kernel_rfl, hT m, hX⟩
end Go.Am.S1
