/- The compiled texts, each checked. PRINTED BY wip/tools/gen.py. Conditions: none. -/
import Derived.Test.YtjhbakfgoaeeoaaAmS
import Derived.KernelRfl
import Derived.Test.YtjhbakfgoaeeoaaRows
namespace Go.Am.M1
open Go.Proofs
set_option maxRecDepth 100000
def G0 : Glob := fun _ => none

def cf3_l0 : CC :=
  (.seq (.reg [⟨(some 52), none, (.bin .lss (.t 51) (.t 50))⟩]) (.seq (.cond (.t 52) .skip (.exit 0)) (.seq (.block 1 (.seq (.reg [⟨(some 53), none, (.iaddr 1 (.t 49) (.t 51))⟩, ⟨(some 54), none, (.load false 1 (.t 53))⟩, ⟨(some 13), none, (.mv (.t 54))⟩]) (.seq (.reg [⟨(some 55), none, (.mv (.t 9))⟩, ⟨(some 56), none, (.mv (.t 13))⟩, ⟨(some 57), none, (.call 8 [(.t 55), (.t 56)])⟩, ⟨(some 58), none, (.un .not (.t 57))⟩]) (.cond (.t 58) (.seq (.reg [⟨(some 6), none, (.mv (.c (.bool false)))⟩]) .ret) .skip)))) (.reg [⟨(some 59), none, (.bin .add (.t 51) (.c (.int .i64 1)))⟩, ⟨(some 51), none, (.mv (.t 59))⟩]))))
/-- provenance/provenancekeep1.ModulesAffected -/
def cf3 : CF :=
  ⟨71, [(.tmp 6)], (.seq (.reg [⟨(some 6), none, (.mv (.c (.bool false)))⟩]) (.seq (.seq (.reg [⟨(some 15), none, (.bsl 1 2 [(.str ⟨#[]⟩), (.str ⟨#[]⟩)] [(0, (1, (.c (.str ⟨#[65]⟩)))), (1, (1, (.c (.str ⟨#[66]⟩))))])⟩, ⟨(some 16), none, (.bsl 1 1 [(.str ⟨#[]⟩)] [(0, (1, (.c (.str ⟨#[66]⟩))))])⟩, ⟨(some 17), none, (.bsl 1 2 [.nils, .nils] [(0, (1, (.t 16))), (1, (1, (.c .nils)))])⟩, ⟨(some 18), none, (.bsl 1 1 [(.str ⟨#[]⟩)] [(0, (1, (.c (.str ⟨#[66]⟩))))])⟩, ⟨(some 19), none, (.call 6 [(.t 15), (.t 17), (.t 18)])⟩, ⟨(some 14), none, (.mv (.t 19))⟩, ⟨(some 20), none, (.ext (.t 14) 0)⟩, ⟨(some 21), none, (.ext (.t 14) 1)⟩, ⟨(some 7), none, (.mv (.t 20))⟩, ⟨(some 8), none, (.mv (.t 21))⟩]) (.seq (.reg [⟨(some 22), none, (.mv (.t 8))⟩, ⟨(some 23), none, (.bin .neq (.t 22) (.c (.int .i64 0)))⟩, ⟨(some 24), none, (.mv (.t 23))⟩, ⟨(some 25), (some ((some 24), false)), (.mv (.t 7))⟩, ⟨(some 26), (some ((some 24), false)), (.bsl 1 2 [(.str ⟨#[]⟩), (.str ⟨#[]⟩)] [(0, (1, (.c (.str ⟨#[65]⟩)))), (1, (1, (.c (.str ⟨#[66]⟩))))])⟩, ⟨(some 27), (some ((some 24), false)), (.call 7 [(.t 25), (.t 26)])⟩, ⟨(some 28), (some ((some 24), false)), (.un .not (.t 27))⟩, ⟨(some 29), none, (.pick (.t 24) (.c (.bool true)) (.t 28))⟩]) (.cond (.t 29) (.seq (.reg [⟨(some 6), none, (.mv (.c (.bool false)))⟩]) .ret) .skip))) (.seq (.reg [⟨(some 31), none, (.mv (.t 0))⟩, ⟨(some 32), none, (.mv (.t 1))⟩, ⟨(some 33), none, (.mv (.t 2))⟩, ⟨(some 34), none, (.call 6 [(.t 31), (.t 32), (.t 33)])⟩, ⟨(some 30), none, (.mv (.t 34))⟩, ⟨(some 35), none, (.ext (.t 30) 0)⟩, ⟨(some 36), none, (.ext (.t 30) 1)⟩, ⟨(some 9), none, (.mv (.t 35))⟩, ⟨(some 10), none, (.mv (.t 36))⟩]) (.seq (.seq (.reg [⟨(some 37), none, (.mv (.t 10))⟩, ⟨(some 38), none, (.bin .neq (.t 37) (.c (.int .i64 0)))⟩]) (.cond (.t 38) (.seq (.reg [⟨(some 39), none, (.mv (.t 9))⟩, ⟨(some 40), none, (.len (.t 39))⟩, ⟨(some 41), none, (.bin .eql (.t 40) (.c (.int .i64 0)))⟩, ⟨(some 6), none, (.mv (.t 41))⟩]) .ret) .skip)) (.seq (.reg [⟨(some 43), none, (.mv (.t 0))⟩, ⟨(some 44), none, (.mv (.t 1))⟩, ⟨(some 45), none, (.mv (.t 9))⟩, ⟨(some 46), none, (.call 6 [(.t 43), (.t 44), (.t 45)])⟩, ⟨(some 42), none, (.mv (.t 46))⟩, ⟨(some 47), none, (.ext (.t 42) 0)⟩, ⟨(some 48), none, (.ext (.t 42) 1)⟩, ⟨(some 11), none, (.mv (.t 47))⟩, ⟨(some 10), none, (.mv (.t 48))⟩]) (.seq (.seq (.reg [⟨(some 49), none, (.mv (.t 2))⟩, ⟨(some 50), none, (.len (.t 49))⟩, ⟨(some 51), none, (.mv (.c (.int .i64 0)))⟩]) (.block 0 (.loop cf3_l0))) (.seq (.reg [⟨(some 60), none, (.mv (.t 10))⟩, ⟨(some 61), none, (.bin .eql (.t 60) (.c (.int .i64 0)))⟩, ⟨(some 62), none, (.mv (.t 61))⟩, ⟨(some 63), (some ((some 62), true)), (.mv (.t 9))⟩, ⟨(some 64), (some ((some 62), true)), (.mv (.t 11))⟩, ⟨(some 65), (some ((some 62), true)), (.call 7 [(.t 63), (.t 64)])⟩, ⟨(some 66), none, (.pick (.t 62) (.t 65) (.c (.bool false)))⟩, ⟨(some 67), none, (.mv (.t 66))⟩, ⟨(some 68), (some ((some 67), true)), (.mv (.t 9))⟩, ⟨(some 69), (some ((some 67), true)), (.call 9 [(.t 68)])⟩, ⟨(some 70), none, (.pick (.t 67) (.t 69) (.c (.bool false)))⟩, ⟨(some 6), none, (.mv (.t 70))⟩]) .ret)))))))⟩
theorem ok3 : cFunc G0 Try.prog false Try.f3 [] = some cf3 := by kernel_rfl

def cf6_l0 : CC :=
  (.seq (.reg [⟨(some 40), none, (.bin .lss (.t 39) (.t 38))⟩]) (.seq (.cond (.t 40) .skip (.exit 4)) (.seq (.block 5 (.seq (.reg [⟨(some 41), none, (.mv (.t 39))⟩, ⟨(some 42), none, (.iaddr 1 (.t 37) (.t 39))⟩, ⟨(some 43), none, (.load false 1 (.t 42))⟩, ⟨(some 13), none, (.mv (.t 41))⟩, ⟨(some 14), none, (.mv (.t 43))⟩]) (.seq (.reg [⟨(some 44), none, (.load false 1 (.t 9))⟩, ⟨(some 45), none, (.mv (.t 14))⟩, ⟨(some 46), none, (.call 8 [(.t 44), (.t 45)])⟩, ⟨(some 47), none, (.un .not (.t 46))⟩, ⟨(some 48), none, (.mv (.t 47))⟩, ⟨(some 49), (some ((some 48), true)), (.mv (.t 1))⟩, ⟨(some 50), (some ((some 48), true)), (.mv (.t 13))⟩, ⟨(some 51), (some ((some 48), true)), (.iaddr 1 (.t 49) (.t 50))⟩, ⟨(some 52), (some ((some 48), true)), (.load false 1 (.t 51))⟩, ⟨(some 53), (some ((some 48), true)), (.clo 15 [(.t 9)])⟩, ⟨(some 54), (some ((some 48), true)), (.call 14 [(.t 52), (.t 53)])⟩, ⟨(some 55), none, (.pick (.t 48) (.t 54) (.c (.bool false)))⟩]) (.cond (.t 55) (.reg [⟨(some 56), none, (.load false 1 (.t 9))⟩, ⟨(some 57), none, (.mv (.t 14))⟩, ⟨(some 58), none, (.bsl 1 1 [(.str ⟨#[]⟩)] [(0, (1, (.t 57)))])⟩, ⟨(some 59), none, (.app true 1 16 [(.str ⟨#[]⟩)] (.t 56) (.t 58))⟩, ⟨none, none, (.store 1 (.t 9) (.t 59))⟩, ⟨(some 12), none, (.mv (.c (.bool true)))⟩]) .skip)))) (.reg [⟨(some 60), none, (.bin .add (.t 39) (.c (.int .i64 1)))⟩, ⟨(some 39), none, (.mv (.t 60))⟩]))))
def cf6_l1 : CC :=
  (.seq (.seq (.reg [⟨(some 36), none, (.mv (.t 12))⟩]) (.cond (.t 36) .skip (.exit 2))) (.block 3 (.seq (.reg [⟨(some 12), none, (.mv (.c (.bool false)))⟩]) (.seq (.reg [⟨(some 37), none, (.mv (.t 0))⟩, ⟨(some 38), none, (.len (.t 37))⟩, ⟨(some 39), none, (.mv (.c (.int .i64 0)))⟩]) (.block 4 (.loop cf6_l0))))))
def cf6_l2 : CC :=
  (.seq (.reg [⟨(some 24), none, (.bin .lss (.t 23) (.t 22))⟩]) (.seq (.cond (.t 24) .skip (.exit 0)) (.seq (.block 1 (.seq (.reg [⟨(some 25), none, (.iaddr 1 (.t 21) (.t 23))⟩, ⟨(some 26), none, (.load false 1 (.t 25))⟩, ⟨(some 11), none, (.mv (.t 26))⟩]) (.seq (.seq (.reg [⟨(some 27), none, (.mv (.t 0))⟩, ⟨(some 28), none, (.mv (.t 11))⟩, ⟨(some 29), none, (.call 8 [(.t 27), (.t 28)])⟩, ⟨(some 30), none, (.un .not (.t 29))⟩]) (.cond (.t 30) (.seq (.reg [⟨(some 6), none, (.mv (.c .nils))⟩, ⟨(some 7), none, (.mv (.c (.int .i64 6)))⟩]) .ret) .skip)) (.reg [⟨(some 31), none, (.load false 1 (.t 9))⟩, ⟨(some 32), none, (.mv (.t 11))⟩, ⟨(some 33), none, (.bsl 1 1 [(.str ⟨#[]⟩)] [(0, (1, (.t 32)))])⟩, ⟨(some 34), none, (.app true 1 16 [(.str ⟨#[]⟩)] (.t 31) (.t 33))⟩, ⟨none, none, (.store 1 (.t 9) (.t 34))⟩])))) (.reg [⟨(some 35), none, (.bin .add (.t 23) (.c (.int .i64 1)))⟩, ⟨(some 23), none, (.mv (.t 35))⟩]))))
/-- provenance/modules.After -/
def cf6 : CF :=
  ⟨65, [(.tmp 6), (.tmp 7)], (.seq (.reg [⟨(some 6), none, (.mv (.c .nils))⟩, ⟨(some 7), none, (.mv (.c (.int .i64 0)))⟩]) (.seq (.seq (.reg [⟨(some 15), none, (.mv (.t 0))⟩, ⟨(some 16), none, (.mv (.t 1))⟩, ⟨(some 17), none, (.call 13 [(.t 15), (.t 16)])⟩, ⟨(some 8), none, (.mv (.t 17))⟩]) (.seq (.reg [⟨(some 18), none, (.mv (.t 8))⟩, ⟨(some 19), none, (.bin .neq (.t 18) (.c (.int .i64 0)))⟩]) (.cond (.t 19) (.seq (.reg [⟨(some 20), none, (.mv (.t 8))⟩, ⟨(some 6), none, (.mv (.c .nils))⟩, ⟨(some 7), none, (.mv (.t 20))⟩]) .ret) .skip))) (.seq (.reg [⟨(some 9), none, (.alloc [.nils])⟩]) (.seq (.seq (.reg [⟨(some 21), none, (.mv (.t 2))⟩, ⟨(some 22), none, (.len (.t 21))⟩, ⟨(some 23), none, (.mv (.c (.int .i64 0)))⟩]) (.block 0 (.loop cf6_l2))) (.seq (.seq (.reg [⟨(some 12), none, (.mv (.c (.bool true)))⟩]) (.block 2 (.loop cf6_l1))) (.seq (.reg [⟨(some 61), none, (.load false 1 (.t 9))⟩, ⟨(some 62), none, (.call 16 [(.t 61)])⟩]) (.seq (.reg [⟨(some 63), none, (.load false 1 (.t 9))⟩, ⟨(some 64), none, (.call 17 [(.t 63)])⟩, ⟨(some 6), none, (.mv (.t 64))⟩, ⟨(some 7), none, (.mv (.c (.int .i64 0)))⟩]) .ret)))))))⟩
theorem ok6 : cFunc G0 Try.prog true Try.f6 [] = some cf6 := by kernel_rfl

def cf7_l0 : CC :=
  (.seq (.reg [⟨(some 14), none, (.bin .lss (.t 13) (.t 12))⟩]) (.seq (.cond (.t 14) .skip (.exit 0)) (.seq (.block 1 (.seq (.reg [⟨(some 15), none, (.mv (.t 13))⟩, ⟨(some 5), none, (.mv (.t 15))⟩]) (.seq (.dreg [⟨(some 16), none, (.mv (.t 0))⟩, ⟨(some 17), none, (.mv (.t 5))⟩, ⟨(some 18), none, (.iaddr 1 (.t 16) (.t 17))⟩, ⟨(some 19), none, (.load false 1 (.t 18))⟩, ⟨(some 20), none, (.mv (.t 1))⟩, ⟨(some 21), none, (.mv (.t 5))⟩, ⟨(some 22), none, (.iaddr 1 (.t 20) (.t 21))⟩, ⟨(some 23), none, (.load false 1 (.t 22))⟩, ⟨(some 24), none, (.bin .neq (.t 19) (.t 23))⟩] []) (.cond (.t 24) (.seq (.reg [⟨(some 4), none, (.mv (.c (.bool false)))⟩]) .ret) .skip)))) (.reg [⟨(some 25), none, (.bin .add (.t 13) (.c (.int .i64 1)))⟩, ⟨(some 13), none, (.mv (.t 25))⟩]))))
/-- slices.Equal[[]string,string] -/
def cf7 : CF :=
  ⟨26, [(.tmp 4)], (.seq (.reg [⟨(some 4), none, (.mv (.c (.bool false)))⟩]) (.seq (.seq (.reg [⟨(some 6), none, (.mv (.t 0))⟩, ⟨(some 7), none, (.len (.t 6))⟩, ⟨(some 8), none, (.mv (.t 1))⟩, ⟨(some 9), none, (.len (.t 8))⟩, ⟨(some 10), none, (.bin .neq (.t 7) (.t 9))⟩]) (.cond (.t 10) (.seq (.reg [⟨(some 4), none, (.mv (.c (.bool false)))⟩]) .ret) .skip)) (.seq (.seq (.reg [⟨(some 11), none, (.mv (.t 0))⟩, ⟨(some 12), none, (.len (.t 11))⟩, ⟨(some 13), none, (.mv (.c (.int .i64 0)))⟩]) (.block 0 (.loop cf7_l0))) (.seq (.reg [⟨(some 4), none, (.mv (.c (.bool true)))⟩]) .ret))))⟩
theorem ok7 : cFunc G0 Try.prog false Try.f7 [] = some cf7 := by kernel_rfl

/-- slices.Contains[[]string,string] -/
def cf8 : CF :=
  ⟨9, [(.tmp 4)], (.seq (.reg [⟨(some 4), none, (.mv (.c (.bool false)))⟩]) (.seq (.reg [⟨(some 5), none, (.mv (.t 0))⟩, ⟨(some 6), none, (.mv (.t 1))⟩, ⟨(some 7), none, (.call 11 [(.t 5), (.t 6)])⟩, ⟨(some 8), none, (.bin .geq (.t 7) (.c (.int .i64 0)))⟩, ⟨(some 4), none, (.mv (.t 8))⟩]) .ret))⟩
theorem ok8 : cFunc G0 Try.prog false Try.f8 [] = some cf8 := by kernel_rfl

def cf9_l0 : CC :=
  (.seq (.seq (.reg [⟨(some 7), none, (.mv (.t 3))⟩, ⟨(some 8), none, (.bin .gtr (.t 7) (.c (.int .i64 0)))⟩]) (.cond (.t 8) .skip (.exit 0))) (.seq (.block 1 (.seq (.dreg [⟨(some 11), none, (.mv (.t 0))⟩, ⟨(some 12), none, (.mv (.t 3))⟩, ⟨(some 13), none, (.iaddr 1 (.t 11) (.t 12))⟩, ⟨(some 14), none, (.load false 1 (.t 13))⟩, ⟨(some 15), none, (.mv (.t 0))⟩, ⟨(some 16), none, (.mv (.t 3))⟩, ⟨(some 17), none, (.bin .sub (.t 16) (.c (.int .i64 1)))⟩, ⟨(some 18), none, (.iaddr 1 (.t 15) (.t 17))⟩, ⟨(some 19), none, (.load false 1 (.t 18))⟩, ⟨(some 20), none, (.call 18 [(.t 14), (.t 19)])⟩] []) (.cond (.t 20) (.seq (.reg [⟨(some 2), none, (.mv (.c (.bool false)))⟩]) .ret) .skip))) (.reg [⟨(some 9), none, (.mv (.t 3))⟩, ⟨(some 10), none, (.bin .sub (.t 9) (.c (.int .i64 1)))⟩, ⟨(some 3), none, (.mv (.t 10))⟩])))
/-- slices.IsSorted[[]string,string] -/
def cf9 : CF :=
  ⟨21, [(.tmp 2)], (.seq (.reg [⟨(some 2), none, (.mv (.c (.bool false)))⟩]) (.seq (.seq (.reg [⟨(some 4), none, (.mv (.t 0))⟩, ⟨(some 5), none, (.len (.t 4))⟩, ⟨(some 6), none, (.bin .sub (.t 5) (.c (.int .i64 1)))⟩, ⟨(some 3), none, (.mv (.t 6))⟩]) (.block 0 (.loop cf9_l0))) (.seq (.reg [⟨(some 2), none, (.mv (.c (.bool true)))⟩]) .ret)))⟩
theorem ok9 : cFunc G0 Try.prog false Try.f9 [] = some cf9 := by kernel_rfl

def cf11_l0 : CC :=
  (.seq (.reg [⟨(some 9), none, (.bin .lss (.t 8) (.t 7))⟩]) (.seq (.cond (.t 9) .skip (.exit 0)) (.seq (.block 1 (.seq (.reg [⟨(some 10), none, (.mv (.t 8))⟩, ⟨(some 5), none, (.mv (.t 10))⟩]) (.seq (.reg [⟨(some 11), none, (.mv (.t 1))⟩, ⟨(some 12), none, (.mv (.t 0))⟩, ⟨(some 13), none, (.mv (.t 5))⟩, ⟨(some 14), none, (.iaddr 1 (.t 12) (.t 13))⟩, ⟨(some 15), none, (.load false 1 (.t 14))⟩, ⟨(some 16), none, (.bin .eql (.t 11) (.t 15))⟩]) (.cond (.t 16) (.seq (.reg [⟨(some 17), none, (.mv (.t 5))⟩, ⟨(some 4), none, (.mv (.t 17))⟩]) .ret) .skip)))) (.reg [⟨(some 18), none, (.bin .add (.t 8) (.c (.int .i64 1)))⟩, ⟨(some 8), none, (.mv (.t 18))⟩]))))
/-- slices.Index[[]string,string] -/
def cf11 : CF :=
  ⟨19, [(.tmp 4)], (.seq (.reg [⟨(some 4), none, (.mv (.c (.int .i64 0)))⟩]) (.seq (.seq (.reg [⟨(some 6), none, (.mv (.t 0))⟩, ⟨(some 7), none, (.len (.t 6))⟩, ⟨(some 8), none, (.mv (.c (.int .i64 0)))⟩]) (.block 0 (.loop cf11_l0))) (.seq (.reg [⟨(some 4), none, (.mv (.c (.int .i64 (-1))))⟩]) .ret)))⟩
theorem ok11 : cFunc G0 Try.prog false Try.f11 [] = some cf11 := by kernel_rfl

def cf13_l0 : CC :=
  (.seq (.reg [⟨(some 43), none, (.bin .lss (.t 42) (.t 41))⟩]) (.seq (.cond (.t 43) .skip (.exit 5)) (.seq (.block 6 (.seq (.reg [⟨(some 44), none, (.iaddr 1 (.t 40) (.t 42))⟩, ⟨(some 45), none, (.load false 1 (.t 44))⟩, ⟨(some 10), none, (.mv (.t 45))⟩]) (.seq (.reg [⟨(some 46), none, (.mv (.t 0))⟩, ⟨(some 47), none, (.mv (.t 10))⟩, ⟨(some 48), none, (.call 8 [(.t 46), (.t 47)])⟩, ⟨(some 49), none, (.un .not (.t 48))⟩]) (.cond (.t 49) (.seq (.reg [⟨(some 4), none, (.mv (.c (.int .i64 6)))⟩]) .ret) .skip)))) (.reg [⟨(some 50), none, (.bin .add (.t 42) (.c (.int .i64 1)))⟩, ⟨(some 42), none, (.mv (.t 50))⟩]))))
def cf13_l1 : CC :=
  (.seq (.reg [⟨(some 37), none, (.bin .lss (.t 36) (.t 35))⟩]) (.seq (.cond (.t 37) .skip (.exit 3)) (.seq (.block 4 (.seq (.reg [⟨(some 38), none, (.iaddr 1 (.t 34) (.t 36))⟩, ⟨(some 39), none, (.load false 1 (.t 38))⟩, ⟨(some 8), none, (.mv (.t 39))⟩]) (.seq (.reg [⟨(some 40), none, (.mv (.t 8))⟩, ⟨(some 41), none, (.len (.t 40))⟩, ⟨(some 42), none, (.mv (.c (.int .i64 0)))⟩]) (.block 5 (.loop cf13_l0))))) (.reg [⟨(some 51), none, (.bin .add (.t 36) (.c (.int .i64 1)))⟩, ⟨(some 36), none, (.mv (.t 51))⟩]))))
def cf13_l2 : CC :=
  (.seq (.reg [⟨(some 24), none, (.bin .lss (.t 23) (.t 22))⟩]) (.seq (.cond (.t 24) .skip (.exit 1)) (.seq (.block 2 (.seq (.reg [⟨(some 25), none, (.mv (.t 23))⟩, ⟨(some 26), none, (.iaddr 1 (.t 21) (.t 23))⟩, ⟨(some 27), none, (.load false 1 (.t 26))⟩, ⟨(some 5), none, (.mv (.t 25))⟩, ⟨(some 6), none, (.mv (.t 27))⟩]) (.seq (.reg [⟨(some 28), none, (.mv (.t 0))⟩, ⟨(some 29), none, (.mv (.t 5))⟩, ⟨(some 30), none, (.slc 1 (.t 28) none (some (.t 29)) none)⟩, ⟨(some 31), none, (.mv (.t 6))⟩, ⟨(some 32), none, (.call 8 [(.t 30), (.t 31)])⟩]) (.cond (.t 32) (.seq (.reg [⟨(some 4), none, (.mv (.c (.int .i64 7)))⟩]) .ret) .skip)))) (.reg [⟨(some 33), none, (.bin .add (.t 23) (.c (.int .i64 1)))⟩, ⟨(some 23), none, (.mv (.t 33))⟩]))))
/-- provenance/modules.Check -/
def cf13 : CF :=
  ⟨52, [(.tmp 4)], (.seq (.reg [⟨(some 4), none, (.mv (.c (.int .i64 0)))⟩]) (.seq (.block 0 (.seq (.reg [⟨(some 12), none, (.mv (.t 0))⟩, ⟨(some 13), none, (.len (.t 12))⟩, ⟨(some 14), none, (.bin .gtr (.t 13) (.c (.int .i64 16)))⟩, ⟨(some 11), none, (.mv (.t 14))⟩]) (.cond (.t 11) (.seq (.reg [⟨(some 4), none, (.mv (.c (.int .i64 2)))⟩]) .ret) (.seq (.reg [⟨(some 16), none, (.mv (.t 1))⟩, ⟨(some 17), none, (.len (.t 16))⟩, ⟨(some 18), none, (.mv (.t 0))⟩, ⟨(some 19), none, (.len (.t 18))⟩, ⟨(some 20), none, (.bin .neq (.t 17) (.t 19))⟩, ⟨(some 15), none, (.mv (.t 20))⟩]) (.cond (.t 15) (.seq (.reg [⟨(some 4), none, (.mv (.c (.int .i64 3)))⟩]) .ret) .skip))))) (.seq (.seq (.reg [⟨(some 21), none, (.mv (.t 0))⟩, ⟨(some 22), none, (.len (.t 21))⟩, ⟨(some 23), none, (.mv (.c (.int .i64 0)))⟩]) (.block 1 (.loop cf13_l2))) (.seq (.seq (.reg [⟨(some 34), none, (.mv (.t 1))⟩, ⟨(some 35), none, (.len (.t 34))⟩, ⟨(some 36), none, (.mv (.c (.int .i64 0)))⟩]) (.block 3 (.loop cf13_l1))) (.seq (.reg [⟨(some 4), none, (.mv (.c (.int .i64 0)))⟩]) .ret)))))⟩
theorem ok13 : cFunc G0 Try.prog false Try.f13 [] = some cf13 := by kernel_rfl

/-- slices.ContainsFunc[[]string,string] -/
def cf14 : CF :=
  ⟨9, [(.tmp 4)], (.seq (.reg [⟨(some 4), none, (.mv (.c (.bool false)))⟩]) (.seq (.reg [⟨(some 5), none, (.mv (.t 0))⟩, ⟨(some 6), none, (.mv (.t 1))⟩, ⟨(some 7), none, (.call 23 [(.t 5), (.t 6)])⟩, ⟨(some 8), none, (.bin .geq (.t 7) (.c (.int .i64 0)))⟩, ⟨(some 4), none, (.mv (.t 8))⟩]) .ret))⟩
theorem ok14 : cFunc G0 Try.prog false Try.f14 [] = some cf14 := by kernel_rfl

/-- provenance/modules.After$1 -/
def cf15 : CF :=
  ⟨7, [(.tmp 3)], (.seq (.reg [⟨(some 3), none, (.mv (.c (.bool false)))⟩]) (.seq (.reg [⟨(some 4), none, (.load false 1 (.t 1))⟩, ⟨(some 5), none, (.mv (.t 0))⟩, ⟨(some 6), none, (.call 8 [(.t 4), (.t 5)])⟩, ⟨(some 3), none, (.mv (.t 6))⟩]) .ret))⟩
theorem ok15 : cFunc G0 Try.prog false Try.f15 [] = some cf15 := by kernel_rfl

/-- cmp.Less[string] -/
def cf18 : CF :=
  ⟨17, [(.tmp 4)], (.seq (.reg [⟨(some 4), none, (.mv (.c (.bool false)))⟩]) (.seq (.reg [⟨(some 5), none, (.mv (.t 0))⟩, ⟨(some 6), none, (.call 26 [(.t 5)])⟩, ⟨(some 7), none, (.mv (.t 6))⟩, ⟨(some 8), (some ((some 7), true)), (.mv (.t 1))⟩, ⟨(some 9), (some ((some 7), true)), (.call 26 [(.t 8)])⟩, ⟨(some 10), (some ((some 7), true)), (.un .not (.t 9))⟩, ⟨(some 11), none, (.pick (.t 7) (.t 10) (.c (.bool false)))⟩, ⟨(some 12), none, (.mv (.t 11))⟩, ⟨(some 13), (some ((some 12), false)), (.mv (.t 0))⟩, ⟨(some 14), (some ((some 12), false)), (.mv (.t 1))⟩, ⟨(some 15), (some ((some 12), false)), (.bin .lss (.t 13) (.t 14))⟩, ⟨(some 16), none, (.pick (.t 12) (.c (.bool true)) (.t 15))⟩, ⟨(some 4), none, (.mv (.t 16))⟩]) .ret))⟩
theorem ok18 : cFunc G0 Try.prog false Try.f18 [] = some cf18 := by kernel_rfl

def cf23_l0 : CC :=
  (.seq (.reg [⟨(some 9), none, (.bin .lss (.t 8) (.t 7))⟩]) (.seq (.cond (.t 9) .skip (.exit 0)) (.seq (.block 1 (.seq (.reg [⟨(some 10), none, (.mv (.t 8))⟩, ⟨(some 5), none, (.mv (.t 10))⟩]) (.seq (.reg [⟨(some 11), none, (.mv (.t 1))⟩, ⟨(some 12), none, (.mv (.t 0))⟩, ⟨(some 13), none, (.mv (.t 5))⟩, ⟨(some 14), none, (.iaddr 1 (.t 12) (.t 13))⟩, ⟨(some 15), none, (.load false 1 (.t 14))⟩, ⟨(some 16), none, (.callv (.t 11) [(.t 15)])⟩]) (.cond (.t 16) (.seq (.reg [⟨(some 17), none, (.mv (.t 5))⟩, ⟨(some 4), none, (.mv (.t 17))⟩]) .ret) .skip)))) (.reg [⟨(some 18), none, (.bin .add (.t 8) (.c (.int .i64 1)))⟩, ⟨(some 8), none, (.mv (.t 18))⟩]))))
/-- slices.IndexFunc[[]string,string] -/
def cf23 : CF :=
  ⟨19, [(.tmp 4)], (.seq (.reg [⟨(some 4), none, (.mv (.c (.int .i64 0)))⟩]) (.seq (.seq (.reg [⟨(some 6), none, (.mv (.t 0))⟩, ⟨(some 7), none, (.len (.t 6))⟩, ⟨(some 8), none, (.mv (.c (.int .i64 0)))⟩]) (.block 0 (.loop cf23_l0))) (.seq (.reg [⟨(some 4), none, (.mv (.c (.int .i64 (-1))))⟩]) .ret)))⟩
theorem ok23 : cFunc G0 Try.prog false Try.f23 [] = some cf23 := by kernel_rfl

/-- cmp.isNaN[string] -/
def cf26 : CF :=
  ⟨6, [(.tmp 2)], (.seq (.reg [⟨(some 2), none, (.mv (.c (.bool false)))⟩]) (.seq (.reg [⟨(some 3), none, (.mv (.t 0))⟩, ⟨(some 4), none, (.mv (.t 0))⟩, ⟨(some 5), none, (.bin .neq (.t 3) (.t 4))⟩, ⟨(some 2), none, (.mv (.t 5))⟩]) .ret))⟩
theorem ok26 : cFunc G0 Try.prog false Try.f26 [] = some cf26 := by kernel_rfl

def T : Nat → Option CF
  | 3 => some cf3
  | 6 => some cf6
  | 7 => some cf7
  | 8 => some cf8
  | 9 => some cf9
  | 11 => some cf11
  | 13 => some cf13
  | 14 => some cf14
  | 15 => some cf15
  | 18 => some cf18
  | 23 => some cf23
  | 26 => some cf26
  | _ => none

theorem T3 : T 3 = some cf3 := rfl
theorem T6 : T 6 = some cf6 := rfl
theorem T7 : T 7 = some cf7 := rfl
theorem T8 : T 8 = some cf8 := rfl
theorem T9 : T 9 = some cf9 := rfl
theorem T11 : T 11 = some cf11 := rfl
theorem T13 : T 13 = some cf13 := rfl
theorem T14 : T 14 = some cf14 := rfl
theorem T15 : T 15 = some cf15 := rfl
theorem T18 : T 18 = some cf18 := rfl
theorem T23 : T 23 = some cf23 := rfl
theorem T26 : T 26 = some cf26 := rfl

theorem hT (f : Nat) (cf : CF) (h : T f = some cf) : ∃ fn mu fz, Try.prog.funcs[f]? = some fn ∧ cFunc G0 Try.prog mu fn fz = some cf := by
  unfold T at h
  split at h
  · cases h; exact ⟨_, _, _, Try.func3, ok3⟩
  · cases h; exact ⟨_, _, _, Try.func6, ok6⟩
  · cases h; exact ⟨_, _, _, Try.func7, ok7⟩
  · cases h; exact ⟨_, _, _, Try.func8, ok8⟩
  · cases h; exact ⟨_, _, _, Try.func9, ok9⟩
  · cases h; exact ⟨_, _, _, Try.func11, ok11⟩
  · cases h; exact ⟨_, _, _, Try.func13, ok13⟩
  · cases h; exact ⟨_, _, _, Try.func14, ok14⟩
  · cases h; exact ⟨_, _, _, Try.func15, ok15⟩
  · cases h; exact ⟨_, _, _, Try.func18, ok18⟩
  · cases h; exact ⟨_, _, _, Try.func23, ok23⟩
  · cases h; exact ⟨_, _, _, Try.func26, ok26⟩
  · cases h

theorem good {X : Ext} (hX : ∀ f h, X f = some h → ∀ args s v s', h args s = some (v, s') → CallC G0 Try.prog f args s v s') : Good G0 Try.prog T X := ⟨by kernel_rfl, hT, hX⟩
end Go.Am.M1
