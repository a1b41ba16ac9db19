/- The compiled texts, each checked. PRINTED BY wip/tools/gen.py. Conditions: none. -/
import Derived.Test.YtjhbakfgoaeeoaaAmS
import Derived.KernelRfl
import Derived.Test.YtjhbakfgoaeeoaaRows
namespace Go.Am.M2
open Go.Proofs
set_option maxRecDepth 100000
def G0 : Glob := fun _ => none

def cf3_l0 : CC :=
  (.seq (.reg [⟨(some 52), none, (.bin .lss (.t 51) (.t 50))⟩]) (.seq (.cond (.t 52) .skip (.exit 0)) (.seq (.block 1 (.seq (.reg [⟨(some 53), none, (.iaddr 1 (.t 49) (.t 51))⟩, ⟨(some 54), none, (.load false 1 (.t 53))⟩, ⟨(some 13), none, (.mv (.t 54))⟩]) (.seq (.reg [⟨(some 55), none, (.mv (.t 9))⟩, ⟨(some 56), none, (.mv (.t 13))⟩, ⟨(some 57), none, (.call 8 [(.t 55), (.t 56)])⟩, ⟨(some 58), none, (.un .not (.t 57))⟩]) (.cond (.t 58) (.seq (.reg [⟨(some 6), none, (.mv (.c (.bool false)))⟩]) .ret) .skip)))) (.reg [⟨(some 59), none, (.bin .add (.t 51) (.c (.int .i64 1)))⟩, ⟨(some 51), none, (.mv (.t 59))⟩]))))
/-- provenance/provenancekeep1.ModulesAffected -/
def cf3 : CF :=
  ⟨71, [(.tmp 6)], (.seq (.reg [⟨(some 6), none, (.mv (.c (.bool false)))⟩]) (.seq (.seq (.reg [⟨(some 15), none, (.bsl 1 2 [(.str ⟨#[]⟩), (.str ⟨#[]⟩)] [(0, (1, (.c (.str ⟨#[65]⟩)))), (1, (1, (.c (.str ⟨#[66]⟩))))])⟩, ⟨(some 16), none, (.bsl 1 1 [(.str ⟨#[]⟩)] [(0, (1, (.c (.str ⟨#[66]⟩))))])⟩, ⟨(some 17), none, (.bsl 1 2 [.nils, .nils] [(0, (1, (.t 16))), (1, (1, (.c .nils)))])⟩, ⟨(some 18), none, (.bsl 1 1 [(.str ⟨#[]⟩)] [(0, (1, (.c (.str ⟨#[66]⟩))))])⟩, ⟨(some 19), none, (.call 6 [(.t 15), (.t 17), (.t 18)])⟩, ⟨(some 14), none, (.mv (.t 19))⟩, ⟨(some 20), none, (.ext (.t 14) 0)⟩, ⟨(some 21), none, (.ext (.t 14) 1)⟩, ⟨(some 7), none, (.mv (.t 20))⟩, ⟨(some 8), none, (.mv (.t 21))⟩]) (.seq (.reg [⟨(some 22), none, (.mv (.t 8))⟩, ⟨(some 23), none, (.bin .neq (.t 22) (.c (.int .i64 0)))⟩, ⟨(some 24), none, (.mv (.t 23))⟩, ⟨(some 25), (some ((some 24), false)), (.mv (.t 7))⟩, ⟨(some 26), (some ((some 24), false)), (.bsl 1 2 [(.str ⟨#[]⟩), (.str ⟨#[]⟩)] [(0, (1, (.c (.str ⟨#[65]⟩)))), (1, (1, (.c (.str ⟨#[66]⟩))))])⟩, ⟨(some 27), (some ((some 24), false)), (.call 7 [(.t 25), (.t 26)])⟩, ⟨(some 28), (some ((some 24), false)), (.un .not (.t 27))⟩, ⟨(some 29), none, (.pick (.t 24) (.c (.bool true)) (.t 28))⟩]) (.cond (.t 29) (.seq (.reg [⟨(some 6), none, (.mv (.c (.bool false)))⟩]) .ret) .skip))) (.seq (.reg [⟨(some 31), none, (.mv (.t 0))⟩, ⟨(some 32), none, (.mv (.t 1))⟩, ⟨(some 33), none, (.mv (.t 2))⟩, ⟨(some 34), none, (.call 6 [(.t 31), (.t 32), (.t 33)])⟩, ⟨(some 30), none, (.mv (.t 34))⟩, ⟨(some 35), none, (.ext (.t 30) 0)⟩, ⟨(some 36), none, (.ext (.t 30) 1)⟩, ⟨(some 9), none, (.mv (.t 35))⟩, ⟨(some 10), none, (.mv (.t 36))⟩]) (.seq (.seq (.reg [⟨(some 37), none, (.mv (.t 10))⟩, ⟨(some 38), none, (.bin .neq (.t 37) (.c (.int .i64 0)))⟩]) (.cond (.t 38) (.seq (.reg [⟨(some 39), none, (.mv (.t 9))⟩, ⟨(some 40), none, (.len (.t 39))⟩, ⟨(some 41), none, (.bin .eql (.t 40) (.c (.int .i64 0)))⟩, ⟨(some 6), none, (.mv (.t 41))⟩]) .ret) .skip)) (.seq (.reg [⟨(some 43), none, (.mv (.t 0))⟩, ⟨(some 44), none, (.mv (.t 1))⟩, ⟨(some 45), none, (.mv (.t 9))⟩, ⟨(some 46), none, (.call 6 [(.t 43), (.t 44), (.t 45)])⟩, ⟨(some 42), none, (.mv (.t 46))⟩, ⟨(some 47), none, (.ext (.t 42) 0)⟩, ⟨(some 48), none, (.ext (.t 42) 1)⟩, ⟨(some 11), none, (.mv (.t 47))⟩, ⟨(some 10), none, (.mv (.t 48))⟩]) (.seq (.seq (.reg [⟨(some 49), none, (.mv (.t 2))⟩, ⟨(some 50), none, (.len (.t 49))⟩, ⟨(some 51), none, (.mv (.c (.int .i64 0)))⟩]) (.block 0 (.loop cf3_l0))) (.seq (.reg [⟨(some 60), none, (.mv (.t 10))⟩, ⟨(some 61), none, (.bin .eql (.t 60) (.c (.int .i64 0)))⟩, ⟨(some 62), none, (.mv (.t 61))⟩, ⟨(some 63), (some ((some 62), true)), (.mv (.t 9))⟩, ⟨(some 64), (some ((some 62), true)), (.mv (.t 11))⟩, ⟨(some 65), (some ((some 62), true)), (.call 7 [(.t 63), (.t 64)])⟩, ⟨(some 66), none, (.pick (.t 62) (.t 65) (.c (.bool false)))⟩, ⟨(some 67), none, (.mv (.t 66))⟩, ⟨(some 68), (some ((some 67), true)), (.mv (.t 9))⟩, ⟨(some 69), (some ((some 67), true)), (.call 9 [(.t 68)])⟩, ⟨(some 70), none, (.pick (.t 67) (.t 69) (.c (.bool false)))⟩, ⟨(some 6), none, (.mv (.t 70))⟩]) .ret)))))))⟩
theorem ok3 : cFunc G0 Try.prog false Try.f3 [] = some cf3 := by kernel_rfl

def cf4_l0 : CC :=
  (.seq (.reg [⟨(some 42), none, (.bin .lss (.t 41) (.t 40))⟩]) (.seq (.cond (.t 42) .skip (.exit 0)) (.seq (.block 1 (.seq (.reg [⟨(some 43), none, (.mv (.t 41))⟩, ⟨(some 44), none, (.iaddr 1 (.t 39) (.t 41))⟩, ⟨(some 45), none, (.load false 1 (.t 44))⟩, ⟨(some 9), none, (.mv (.t 43))⟩, ⟨(some 10), none, (.mv (.t 45))⟩]) (.seq (.reg [⟨(some 46), none, (.mv (.t 7))⟩, ⟨(some 47), none, (.mv (.t 9))⟩, ⟨(some 48), none, (.bin .add (.t 47) (.c (.int .i64 1)))⟩, ⟨(some 49), none, (.mv (.t 7))⟩, ⟨(some 50), none, (.len (.t 49))⟩, ⟨(some 51), none, (.bin .rem (.t 48) (.t 50))⟩, ⟨(some 52), none, (.iaddr 1 (.t 46) (.t 51))⟩, ⟨(some 53), none, (.load false 1 (.t 52))⟩, ⟨(some 11), none, (.mv (.t 53))⟩]) (.seq (.reg [⟨(some 54), none, (.mv (.t 1))⟩, ⟨(some 55), none, (.mv (.t 0))⟩, ⟨(some 56), none, (.mv (.t 10))⟩, ⟨(some 57), none, (.call 11 [(.t 55), (.t 56)])⟩, ⟨(some 58), none, (.iaddr 1 (.t 54) (.t 57))⟩, ⟨(some 59), none, (.load false 1 (.t 58))⟩, ⟨(some 60), none, (.mv (.t 11))⟩, ⟨(some 61), none, (.call 8 [(.t 59), (.t 60)])⟩, ⟨(some 62), none, (.un .not (.t 61))⟩, ⟨(some 63), none, (.mv (.t 62))⟩, ⟨(some 64), (some ((some 63), false)), (.mv (.t 10))⟩, ⟨(some 65), (some ((some 63), false)), (.mv (.t 7))⟩, ⟨(some 66), (some ((some 63), false)), (.iaddr 1 (.t 65) (.c (.int .i64 0)))⟩, ⟨(some 67), (some ((some 63), false)), (.load false 1 (.t 66))⟩, ⟨(some 68), (some ((some 63), false)), (.bin .lss (.t 64) (.t 67))⟩, ⟨(some 69), none, (.pick (.t 63) (.c (.bool true)) (.t 68))⟩]) (.cond (.t 69) (.seq (.reg [⟨(some 4), none, (.mv (.c (.bool false)))⟩]) .ret) .skip))))) (.reg [⟨(some 70), none, (.bin .add (.t 41) (.c (.int .i64 1)))⟩, ⟨(some 41), none, (.mv (.t 70))⟩]))))
/-- provenance/provenancekeep1.ModulesCycleReal -/
def cf4 : CF :=
  ⟨74, [(.tmp 4)], (.seq (.reg [⟨(some 4), none, (.mv (.c (.bool false)))⟩]) (.seq (.seq (.reg [⟨(some 13), none, (.bsl 1 2 [(.str ⟨#[]⟩), (.str ⟨#[]⟩)] [(0, (1, (.c (.str ⟨#[65]⟩)))), (1, (1, (.c (.str ⟨#[66]⟩))))])⟩, ⟨(some 14), none, (.bsl 1 1 [(.str ⟨#[]⟩)] [(0, (1, (.c (.str ⟨#[66]⟩))))])⟩, ⟨(some 15), none, (.bsl 1 1 [(.str ⟨#[]⟩)] [(0, (1, (.c (.str ⟨#[65]⟩))))])⟩, ⟨(some 16), none, (.bsl 1 2 [.nils, .nils] [(0, (1, (.t 14))), (1, (1, (.t 15)))])⟩, ⟨(some 17), none, (.call 10 [(.t 13), (.t 16)])⟩, ⟨(some 12), none, (.mv (.t 17))⟩, ⟨(some 18), none, (.ext (.t 12) 0)⟩, ⟨(some 19), none, (.ext (.t 12) 1)⟩, ⟨(some 5), none, (.mv (.t 18))⟩, ⟨(some 6), none, (.mv (.t 19))⟩]) (.seq (.reg [⟨(some 20), none, (.mv (.t 6))⟩, ⟨(some 21), none, (.bin .neq (.t 20) (.c (.int .i64 0)))⟩, ⟨(some 22), none, (.mv (.t 21))⟩, ⟨(some 23), (some ((some 22), false)), (.mv (.t 5))⟩, ⟨(some 24), (some ((some 22), false)), (.bsl 1 2 [(.str ⟨#[]⟩), (.str ⟨#[]⟩)] [(0, (1, (.c (.str ⟨#[65]⟩)))), (1, (1, (.c (.str ⟨#[66]⟩))))])⟩, ⟨(some 25), (some ((some 22), false)), (.call 7 [(.t 23), (.t 24)])⟩, ⟨(some 26), (some ((some 22), false)), (.un .not (.t 25))⟩, ⟨(some 27), none, (.pick (.t 22) (.c (.bool true)) (.t 26))⟩]) (.cond (.t 27) (.seq (.reg [⟨(some 4), none, (.mv (.c (.bool false)))⟩]) .ret) .skip))) (.seq (.reg [⟨(some 29), none, (.mv (.t 0))⟩, ⟨(some 30), none, (.mv (.t 1))⟩, ⟨(some 31), none, (.call 10 [(.t 29), (.t 30)])⟩, ⟨(some 28), none, (.mv (.t 31))⟩, ⟨(some 32), none, (.ext (.t 28) 0)⟩, ⟨(some 33), none, (.ext (.t 28) 1)⟩, ⟨(some 7), none, (.mv (.t 32))⟩, ⟨(some 8), none, (.mv (.t 33))⟩]) (.seq (.seq (.reg [⟨(some 34), none, (.mv (.t 8))⟩, ⟨(some 35), none, (.bin .neq (.t 34) (.c (.int .i64 0)))⟩]) (.cond (.t 35) (.seq (.reg [⟨(some 36), none, (.mv (.t 7))⟩, ⟨(some 37), none, (.len (.t 36))⟩, ⟨(some 38), none, (.bin .eql (.t 37) (.c (.int .i64 0)))⟩, ⟨(some 4), none, (.mv (.t 38))⟩]) .ret) .skip)) (.seq (.seq (.reg [⟨(some 39), none, (.mv (.t 7))⟩, ⟨(some 40), none, (.len (.t 39))⟩, ⟨(some 41), none, (.mv (.c (.int .i64 0)))⟩]) (.block 0 (.loop cf4_l0))) (.seq (.reg [⟨(some 71), none, (.mv (.t 7))⟩, ⟨(some 72), none, (.len (.t 71))⟩, ⟨(some 73), none, (.bin .gtr (.t 72) (.c (.int .i64 0)))⟩, ⟨(some 4), none, (.mv (.t 73))⟩]) .ret))))))⟩
theorem ok4 : cFunc G0 Try.prog false Try.f4 [] = some cf4 := by kernel_rfl

def cf5_l0 : CC :=
  (.seq (.reg [⟨(some 63), none, (.bin .lss (.t 62) (.t 61))⟩]) (.seq (.cond (.t 63) .skip (.exit 2)) (.seq (.block 3 (.seq (.reg [⟨(some 64), none, (.iaddr 1 (.t 60) (.t 62))⟩, ⟨(some 65), none, (.load false 1 (.t 64))⟩, ⟨(some 15), none, (.mv (.t 65))⟩]) (.seq (.reg [⟨(some 66), none, (.mv (.t 11))⟩, ⟨(some 67), none, (.mv (.t 15))⟩, ⟨(some 68), none, (.call 8 [(.t 66), (.t 67)])⟩, ⟨(some 69), none, (.un .not (.t 68))⟩]) (.cond (.t 69) (.seq (.reg [⟨(some 4), none, (.mv (.c (.bool false)))⟩]) .ret) .skip)))) (.reg [⟨(some 70), none, (.bin .add (.t 62) (.c (.int .i64 1)))⟩, ⟨(some 62), none, (.mv (.t 70))⟩]))))
def cf5_l1 : CC :=
  (.seq (.reg [⟨(some 54), none, (.bin .lss (.t 53) (.t 52))⟩]) (.seq (.cond (.t 54) .skip (.exit 0)) (.seq (.block 1 (.seq (.reg [⟨(some 55), none, (.iaddr 1 (.t 51) (.t 53))⟩, ⟨(some 56), none, (.load false 1 (.t 55))⟩, ⟨(some 13), none, (.mv (.t 56))⟩]) (.seq (.seq (.reg [⟨(some 57), none, (.mv (.t 1))⟩, ⟨(some 58), none, (.mv (.t 13))⟩, ⟨(some 59), none, (.iaddr 1 (.t 57) (.t 58))⟩, ⟨(some 60), none, (.load false 1 (.t 59))⟩, ⟨(some 61), none, (.len (.t 60))⟩, ⟨(some 62), none, (.mv (.c (.int .i64 0)))⟩]) (.block 2 (.loop cf5_l0))) (.reg [⟨(some 71), none, (.mv (.t 11))⟩, ⟨(some 72), none, (.mv (.t 0))⟩, ⟨(some 73), none, (.mv (.t 13))⟩, ⟨(some 74), none, (.iaddr 1 (.t 72) (.t 73))⟩, ⟨(some 75), none, (.load false 1 (.t 74))⟩, ⟨(some 76), none, (.bsl 1 1 [(.str ⟨#[]⟩)] [(0, (1, (.t 75)))])⟩, ⟨(some 77), none, (.app false 1 16 [(.str ⟨#[]⟩)] (.t 71) (.t 76))⟩, ⟨(some 11), none, (.mv (.t 77))⟩])))) (.reg [⟨(some 78), none, (.bin .add (.t 53) (.c (.int .i64 1)))⟩, ⟨(some 53), none, (.mv (.t 78))⟩]))))
/-- provenance/provenancekeep1.ModulesTopological -/
def cf5 : CF :=
  ⟨88, [(.tmp 4)], (.seq (.reg [⟨(some 4), none, (.mv (.c (.bool false)))⟩]) (.seq (.seq (.reg [⟨(some 17), none, (.bsl 1 1 [(.str ⟨#[]⟩)] [(0, (1, (.c (.str ⟨#[65]⟩))))])⟩, ⟨(some 18), none, (.bsl 1 1 [(.str ⟨#[]⟩)] [(0, (1, (.c (.str ⟨#[65]⟩))))])⟩, ⟨(some 19), none, (.bsl 1 1 [.nils] [(0, (1, (.t 18)))])⟩, ⟨(some 20), none, (.call 12 [(.t 17), (.t 19)])⟩, ⟨(some 16), none, (.mv (.t 20))⟩, ⟨(some 21), none, (.ext (.t 16) 0)⟩, ⟨(some 22), none, (.ext (.t 16) 1)⟩, ⟨(some 5), none, (.mv (.t 21))⟩, ⟨(some 6), none, (.mv (.t 22))⟩]) (.seq (.reg [⟨(some 23), none, (.mv (.t 6))⟩, ⟨(some 24), none, (.bin .neq (.t 23) (.c (.int .i64 8)))⟩]) (.cond (.t 24) (.seq (.reg [⟨(some 4), none, (.mv (.c (.bool false)))⟩]) .ret) .skip))) (.seq (.reg [⟨(some 26), none, (.mv (.t 0))⟩, ⟨(some 27), none, (.mv (.t 1))⟩, ⟨(some 28), none, (.call 12 [(.t 26), (.t 27)])⟩, ⟨(some 25), none, (.mv (.t 28))⟩, ⟨(some 29), none, (.ext (.t 25) 0)⟩, ⟨(some 30), none, (.ext (.t 25) 1)⟩, ⟨(some 7), none, (.mv (.t 29))⟩, ⟨(some 8), none, (.mv (.t 30))⟩]) (.seq (.reg [⟨(some 32), none, (.mv (.t 0))⟩, ⟨(some 33), none, (.mv (.t 1))⟩, ⟨(some 34), none, (.call 10 [(.t 32), (.t 33)])⟩, ⟨(some 31), none, (.mv (.t 34))⟩, ⟨(some 35), none, (.ext (.t 31) 0)⟩, ⟨(some 36), none, (.ext (.t 31) 1)⟩, ⟨(some 9), none, (.mv (.t 35))⟩, ⟨(some 10), none, (.mv (.t 36))⟩]) (.seq (.seq (.reg [⟨(some 37), none, (.mv (.t 8))⟩, ⟨(some 38), none, (.bin .eql (.t 37) (.c (.int .i64 8)))⟩]) (.cond (.t 38) (.seq (.reg [⟨(some 39), none, (.mv (.t 10))⟩, ⟨(some 40), none, (.bin .eql (.t 39) (.c (.int .i64 0)))⟩, ⟨(some 41), none, (.mv (.t 40))⟩, ⟨(some 42), (some ((some 41), true)), (.mv (.t 9))⟩, ⟨(some 43), (some ((some 41), true)), (.len (.t 42))⟩, ⟨(some 44), (some ((some 41), true)), (.bin .gtr (.t 43) (.c (.int .i64 0)))⟩, ⟨(some 45), none, (.pick (.t 41) (.t 44) (.c (.bool false)))⟩, ⟨(some 4), none, (.mv (.t 45))⟩]) .ret) .skip)) (.seq (.seq (.reg [⟨(some 46), none, (.mv (.t 8))⟩, ⟨(some 47), none, (.bin .neq (.t 46) (.c (.int .i64 0)))⟩]) (.cond (.t 47) (.seq (.reg [⟨(some 48), none, (.mv (.t 10))⟩, ⟨(some 49), none, (.mv (.t 8))⟩, ⟨(some 50), none, (.bin .eql (.t 48) (.t 49))⟩, ⟨(some 4), none, (.mv (.t 50))⟩]) .ret) .skip)) (.seq (.reg [⟨(some 11), none, (.mv (.c .nils))⟩]) (.seq (.seq (.reg [⟨(some 51), none, (.mv (.t 7))⟩, ⟨(some 52), none, (.len (.t 51))⟩, ⟨(some 53), none, (.mv (.c (.int .i64 0)))⟩]) (.block 0 (.loop cf5_l1))) (.seq (.reg [⟨(some 79), none, (.mv (.t 10))⟩, ⟨(some 80), none, (.bin .eql (.t 79) (.c (.int .i64 12)))⟩, ⟨(some 81), none, (.mv (.t 80))⟩, ⟨(some 82), (some ((some 81), true)), (.mv (.t 11))⟩, ⟨(some 83), (some ((some 81), true)), (.len (.t 82))⟩, ⟨(some 84), (some ((some 81), true)), (.mv (.t 0))⟩, ⟨(some 85), (some ((some 81), true)), (.len (.t 84))⟩, ⟨(some 86), (some ((some 81), true)), (.bin .eql (.t 83) (.t 85))⟩, ⟨(some 87), none, (.pick (.t 81) (.t 86) (.c (.bool false)))⟩, ⟨(some 4), none, (.mv (.t 87))⟩]) .ret)))))))))⟩
theorem ok5 : cFunc G0 Try.prog false Try.f5 [] = some cf5 := by kernel_rfl

def cf6_l0 : CC :=
  (.seq (.reg [⟨(some 40), none, (.bin .lss (.t 39) (.t 38))⟩]) (.seq (.cond (.t 40) .skip (.exit 4)) (.seq (.block 5 (.seq (.reg [⟨(some 41), none, (.mv (.t 39))⟩, ⟨(some 42), none, (.iaddr 1 (.t 37) (.t 39))⟩, ⟨(some 43), none, (.load false 1 (.t 42))⟩, ⟨(some 13), none, (.mv (.t 41))⟩, ⟨(some 14), none, (.mv (.t 43))⟩]) (.seq (.reg [⟨(some 44), none, (.load false 1 (.t 9))⟩, ⟨(some 45), none, (.mv (.t 14))⟩, ⟨(some 46), none, (.call 8 [(.t 44), (.t 45)])⟩, ⟨(some 47), none, (.un .not (.t 46))⟩, ⟨(some 48), none, (.mv (.t 47))⟩, ⟨(some 49), (some ((some 48), true)), (.mv (.t 1))⟩, ⟨(some 50), (some ((some 48), true)), (.mv (.t 13))⟩, ⟨(some 51), (some ((some 48), true)), (.iaddr 1 (.t 49) (.t 50))⟩, ⟨(some 52), (some ((some 48), true)), (.load false 1 (.t 51))⟩, ⟨(some 53), (some ((some 48), true)), (.clo 15 [(.t 9)])⟩, ⟨(some 54), (some ((some 48), true)), (.call 14 [(.t 52), (.t 53)])⟩, ⟨(some 55), none, (.pick (.t 48) (.t 54) (.c (.bool false)))⟩]) (.cond (.t 55) (.reg [⟨(some 56), none, (.load false 1 (.t 9))⟩, ⟨(some 57), none, (.mv (.t 14))⟩, ⟨(some 58), none, (.bsl 1 1 [(.str ⟨#[]⟩)] [(0, (1, (.t 57)))])⟩, ⟨(some 59), none, (.app true 1 16 [(.str ⟨#[]⟩)] (.t 56) (.t 58))⟩, ⟨none, none, (.store 1 (.t 9) (.t 59))⟩, ⟨(some 12), none, (.mv (.c (.bool true)))⟩]) .skip)))) (.reg [⟨(some 60), none, (.bin .add (.t 39) (.c (.int .i64 1)))⟩, ⟨(some 39), none, (.mv (.t 60))⟩]))))
def cf6_l1 : CC :=
  (.seq (.seq (.reg [⟨(some 36), none, (.mv (.t 12))⟩]) (.cond (.t 36) .skip (.exit 2))) (.block 3 (.seq (.reg [⟨(some 12), none, (.mv (.c (.bool false)))⟩]) (.seq (.reg [⟨(some 37), none, (.mv (.t 0))⟩, ⟨(some 38), none, (.len (.t 37))⟩, ⟨(some 39), none, (.mv (.c (.int .i64 0)))⟩]) (.block 4 (.loop cf6_l0))))))
def cf6_l2 : CC :=
  (.seq (.reg [⟨(some 24), none, (.bin .lss (.t 23) (.t 22))⟩]) (.seq (.cond (.t 24) .skip (.exit 0)) (.seq (.block 1 (.seq (.reg [⟨(some 25), none, (.iaddr 1 (.t 21) (.t 23))⟩, ⟨(some 26), none, (.load false 1 (.t 25))⟩, ⟨(some 11), none, (.mv (.t 26))⟩]) (.seq (.seq (.reg [⟨(some 27), none, (.mv (.t 0))⟩, ⟨(some 28), none, (.mv (.t 11))⟩, ⟨(some 29), none, (.call 8 [(.t 27), (.t 28)])⟩, ⟨(some 30), none, (.un .not (.t 29))⟩]) (.cond (.t 30) (.seq (.reg [⟨(some 6), none, (.mv (.c .nils))⟩, ⟨(some 7), none, (.mv (.c (.int .i64 6)))⟩]) .ret) .skip)) (.reg [⟨(some 31), none, (.load false 1 (.t 9))⟩, ⟨(some 32), none, (.mv (.t 11))⟩, ⟨(some 33), none, (.bsl 1 1 [(.str ⟨#[]⟩)] [(0, (1, (.t 32)))])⟩, ⟨(some 34), none, (.app true 1 16 [(.str ⟨#[]⟩)] (.t 31) (.t 33))⟩, ⟨none, none, (.store 1 (.t 9) (.t 34))⟩])))) (.reg [⟨(some 35), none, (.bin .add (.t 23) (.c (.int .i64 1)))⟩, ⟨(some 23), none, (.mv (.t 35))⟩]))))
/-- provenance/modules.After -/
def cf6 : CF :=
  ⟨65, [(.tmp 6), (.tmp 7)], (.seq (.reg [⟨(some 6), none, (.mv (.c .nils))⟩, ⟨(some 7), none, (.mv (.c (.int .i64 0)))⟩]) (.seq (.seq (.reg [⟨(some 15), none, (.mv (.t 0))⟩, ⟨(some 16), none, (.mv (.t 1))⟩, ⟨(some 17), none, (.call 13 [(.t 15), (.t 16)])⟩, ⟨(some 8), none, (.mv (.t 17))⟩]) (.seq (.reg [⟨(some 18), none, (.mv (.t 8))⟩, ⟨(some 19), none, (.bin .neq (.t 18) (.c (.int .i64 0)))⟩]) (.cond (.t 19) (.seq (.reg [⟨(some 20), none, (.mv (.t 8))⟩, ⟨(some 6), none, (.mv (.c .nils))⟩, ⟨(some 7), none, (.mv (.t 20))⟩]) .ret) .skip))) (.seq (.reg [⟨(some 9), none, (.alloc [.nils])⟩]) (.seq (.seq (.reg [⟨(some 21), none, (.mv (.t 2))⟩, ⟨(some 22), none, (.len (.t 21))⟩, ⟨(some 23), none, (.mv (.c (.int .i64 0)))⟩]) (.block 0 (.loop cf6_l2))) (.seq (.seq (.reg [⟨(some 12), none, (.mv (.c (.bool true)))⟩]) (.block 2 (.loop cf6_l1))) (.seq (.reg [⟨(some 61), none, (.load false 1 (.t 9))⟩, ⟨(some 62), none, (.call 16 [(.t 61)])⟩]) (.seq (.reg [⟨(some 63), none, (.load false 1 (.t 9))⟩, ⟨(some 64), none, (.call 17 [(.t 63)])⟩, ⟨(some 6), none, (.mv (.t 64))⟩, ⟨(some 7), none, (.mv (.c (.int .i64 0)))⟩]) .ret)))))))⟩
theorem ok6 : cFunc G0 Try.prog true Try.f6 [] = some cf6 := by kernel_rfl

def cf7_l0 : CC :=
  (.seq (.reg [⟨(some 14), none, (.bin .lss (.t 13) (.t 12))⟩]) (.seq (.cond (.t 14) .skip (.exit 0)) (.seq (.block 1 (.seq (.reg [⟨(some 15), none, (.mv (.t 13))⟩, ⟨(some 5), none, (.mv (.t 15))⟩]) (.seq (.dreg [⟨(some 16), none, (.mv (.t 0))⟩, ⟨(some 17), none, (.mv (.t 5))⟩, ⟨(some 18), none, (.iaddr 1 (.t 16) (.t 17))⟩, ⟨(some 19), none, (.load false 1 (.t 18))⟩, ⟨(some 20), none, (.mv (.t 1))⟩, ⟨(some 21), none, (.mv (.t 5))⟩, ⟨(some 22), none, (.iaddr 1 (.t 20) (.t 21))⟩, ⟨(some 23), none, (.load false 1 (.t 22))⟩, ⟨(some 24), none, (.bin .neq (.t 19) (.t 23))⟩] []) (.cond (.t 24) (.seq (.reg [⟨(some 4), none, (.mv (.c (.bool false)))⟩]) .ret) .skip)))) (.reg [⟨(some 25), none, (.bin .add (.t 13) (.c (.int .i64 1)))⟩, ⟨(some 13), none, (.mv (.t 25))⟩]))))
/-- slices.Equal[[]string,string] -/
def cf7 : CF :=
  ⟨26, [(.tmp 4)], (.seq (.reg [⟨(some 4), none, (.mv (.c (.bool false)))⟩]) (.seq (.seq (.reg [⟨(some 6), none, (.mv (.t 0))⟩, ⟨(some 7), none, (.len (.t 6))⟩, ⟨(some 8), none, (.mv (.t 1))⟩, ⟨(some 9), none, (.len (.t 8))⟩, ⟨(some 10), none, (.bin .neq (.t 7) (.t 9))⟩]) (.cond (.t 10) (.seq (.reg [⟨(some 4), none, (.mv (.c (.bool false)))⟩]) .ret) .skip)) (.seq (.seq (.reg [⟨(some 11), none, (.mv (.t 0))⟩, ⟨(some 12), none, (.len (.t 11))⟩, ⟨(some 13), none, (.mv (.c (.int .i64 0)))⟩]) (.block 0 (.loop cf7_l0))) (.seq (.reg [⟨(some 4), none, (.mv (.c (.bool true)))⟩]) .ret))))⟩
theorem ok7 : cFunc G0 Try.prog false Try.f7 [] = some cf7 := by kernel_rfl

/-- slices.Contains[[]string,string] -/
def cf8 : CF :=
  ⟨9, [(.tmp 4)], (.seq (.reg [⟨(some 4), none, (.mv (.c (.bool false)))⟩]) (.seq (.reg [⟨(some 5), none, (.mv (.t 0))⟩, ⟨(some 6), none, (.mv (.t 1))⟩, ⟨(some 7), none, (.call 11 [(.t 5), (.t 6)])⟩, ⟨(some 8), none, (.bin .geq (.t 7) (.c (.int .i64 0)))⟩, ⟨(some 4), none, (.mv (.t 8))⟩]) .ret))⟩
theorem ok8 : cFunc G0 Try.prog false Try.f8 [] = some cf8 := by kernel_rfl

def cf9_l0 : CC :=
  (.seq (.seq (.reg [⟨(some 7), none, (.mv (.t 3))⟩, ⟨(some 8), none, (.bin .gtr (.t 7) (.c (.int .i64 0)))⟩]) (.cond (.t 8) .skip (.exit 0))) (.seq (.block 1 (.seq (.dreg [⟨(some 11), none, (.mv (.t 0))⟩, ⟨(some 12), none, (.mv (.t 3))⟩, ⟨(some 13), none, (.iaddr 1 (.t 11) (.t 12))⟩, ⟨(some 14), none, (.load false 1 (.t 13))⟩, ⟨(some 15), none, (.mv (.t 0))⟩, ⟨(some 16), none, (.mv (.t 3))⟩, ⟨(some 17), none, (.bin .sub (.t 16) (.c (.int .i64 1)))⟩, ⟨(some 18), none, (.iaddr 1 (.t 15) (.t 17))⟩, ⟨(some 19), none, (.load false 1 (.t 18))⟩, ⟨(some 20), none, (.call 18 [(.t 14), (.t 19)])⟩] []) (.cond (.t 20) (.seq (.reg [⟨(some 2), none, (.mv (.c (.bool false)))⟩]) .ret) .skip))) (.reg [⟨(some 9), none, (.mv (.t 3))⟩, ⟨(some 10), none, (.bin .sub (.t 9) (.c (.int .i64 1)))⟩, ⟨(some 3), none, (.mv (.t 10))⟩])))
/-- slices.IsSorted[[]string,string] -/
def cf9 : CF :=
  ⟨21, [(.tmp 2)], (.seq (.reg [⟨(some 2), none, (.mv (.c (.bool false)))⟩]) (.seq (.seq (.reg [⟨(some 4), none, (.mv (.t 0))⟩, ⟨(some 5), none, (.len (.t 4))⟩, ⟨(some 6), none, (.bin .sub (.t 5) (.c (.int .i64 1)))⟩, ⟨(some 3), none, (.mv (.t 6))⟩]) (.block 0 (.loop cf9_l0))) (.seq (.reg [⟨(some 2), none, (.mv (.c (.bool true)))⟩]) .ret)))⟩
theorem ok9 : cFunc G0 Try.prog false Try.f9 [] = some cf9 := by kernel_rfl

def cf10_l0 : CC :=
  (.seq (.reg [⟨(some 30), none, (.bin .lss (.t 29) (.t 28))⟩]) (.seq (.cond (.t 30) .skip (.exit 2)) (.seq (.block 3 (.seq (.reg [⟨(some 31), none, (.iaddr 1 (.t 27) (.t 29))⟩, ⟨(some 32), none, (.load false 1 (.t 31))⟩, ⟨(some 10), none, (.mv (.t 32))⟩]) (.seq (.reg [⟨(some 33), none, (.mv (.t 0))⟩, ⟨(some 34), none, (.mv (.t 1))⟩, ⟨(some 35), none, (.mv (.t 10))⟩, ⟨(some 36), none, (.bsl 1 1 [(.str ⟨#[]⟩)] [(0, (1, (.t 35)))])⟩, ⟨(some 37), none, (.mv (.t 8))⟩, ⟨(some 38), none, (.call 21 [(.t 33), (.t 34), (.t 36), (.t 37)])⟩, ⟨(some 11), none, (.mv (.t 38))⟩]) (.seq (.reg [⟨(some 39), none, (.mv (.t 11))⟩, ⟨(some 40), none, (.eqnil false true (.t 39))⟩]) (.cond (.t 40) (.seq (.reg [⟨(some 41), none, (.mv (.t 11))⟩, ⟨(some 4), none, (.mv (.t 41))⟩, ⟨(some 5), none, (.mv (.c (.int .i64 0)))⟩]) .ret) .skip))))) (.reg [⟨(some 42), none, (.bin .add (.t 29) (.c (.int .i64 1)))⟩, ⟨(some 29), none, (.mv (.t 42))⟩]))))
def cf10_l1 : CC :=
  (.seq (.seq (.reg [⟨(some 21), none, (.mv (.t 8))⟩, ⟨(some 22), none, (.mv (.t 0))⟩, ⟨(some 23), none, (.len (.t 22))⟩, ⟨(some 24), none, (.bin .leq (.t 21) (.t 23))⟩]) (.cond (.t 24) .skip (.exit 0))) (.seq (.block 1 (.seq (.reg [⟨(some 27), none, (.mv (.t 7))⟩, ⟨(some 28), none, (.len (.t 27))⟩, ⟨(some 29), none, (.mv (.c (.int .i64 0)))⟩]) (.block 2 (.loop cf10_l0)))) (.reg [⟨(some 25), none, (.mv (.t 8))⟩, ⟨(some 26), none, (.bin .add (.t 25) (.c (.int .i64 1)))⟩, ⟨(some 8), none, (.mv (.t 26))⟩])))
/-- provenance/modules.Cycle -/
def cf10 : CF :=
  ⟨43, [(.tmp 4), (.tmp 5)], (.seq (.reg [⟨(some 4), none, (.mv (.c .nils))⟩, ⟨(some 5), none, (.mv (.c (.int .i64 0)))⟩]) (.seq (.seq (.reg [⟨(some 12), none, (.mv (.t 0))⟩, ⟨(some 13), none, (.mv (.t 1))⟩, ⟨(some 14), none, (.call 13 [(.t 12), (.t 13)])⟩, ⟨(some 6), none, (.mv (.t 14))⟩]) (.seq (.reg [⟨(some 15), none, (.mv (.t 6))⟩, ⟨(some 16), none, (.bin .neq (.t 15) (.c (.int .i64 0)))⟩]) (.cond (.t 16) (.seq (.reg [⟨(some 17), none, (.mv (.t 6))⟩, ⟨(some 4), none, (.mv (.c .nils))⟩, ⟨(some 5), none, (.mv (.t 17))⟩]) .ret) .skip))) (.seq (.reg [⟨(some 18), none, (.mv (.t 0))⟩, ⟨(some 19), none, (.call 20 [(.t 18)])⟩, ⟨(some 20), none, (.call 19 [(.t 19)])⟩, ⟨(some 7), none, (.mv (.t 20))⟩]) (.seq (.seq (.reg [⟨(some 8), none, (.mv (.c (.int .i64 1)))⟩]) (.block 0 (.loop cf10_l1))) (.seq (.reg [⟨(some 4), none, (.mv (.c .nils))⟩, ⟨(some 5), none, (.mv (.c (.int .i64 12)))⟩]) .ret)))))⟩
theorem ok10 : cFunc G0 Try.prog false Try.f10 [] = some cf10 := by kernel_rfl

def cf11_l0 : CC :=
  (.seq (.reg [⟨(some 9), none, (.bin .lss (.t 8) (.t 7))⟩]) (.seq (.cond (.t 9) .skip (.exit 0)) (.seq (.block 1 (.seq (.reg [⟨(some 10), none, (.mv (.t 8))⟩, ⟨(some 5), none, (.mv (.t 10))⟩]) (.seq (.reg [⟨(some 11), none, (.mv (.t 1))⟩, ⟨(some 12), none, (.mv (.t 0))⟩, ⟨(some 13), none, (.mv (.t 5))⟩, ⟨(some 14), none, (.iaddr 1 (.t 12) (.t 13))⟩, ⟨(some 15), none, (.load false 1 (.t 14))⟩, ⟨(some 16), none, (.bin .eql (.t 11) (.t 15))⟩]) (.cond (.t 16) (.seq (.reg [⟨(some 17), none, (.mv (.t 5))⟩, ⟨(some 4), none, (.mv (.t 17))⟩]) .ret) .skip)))) (.reg [⟨(some 18), none, (.bin .add (.t 8) (.c (.int .i64 1)))⟩, ⟨(some 8), none, (.mv (.t 18))⟩]))))
/-- slices.Index[[]string,string] -/
def cf11 : CF :=
  ⟨19, [(.tmp 4)], (.seq (.reg [⟨(some 4), none, (.mv (.c (.int .i64 0)))⟩]) (.seq (.seq (.reg [⟨(some 6), none, (.mv (.t 0))⟩, ⟨(some 7), none, (.len (.t 6))⟩, ⟨(some 8), none, (.mv (.c (.int .i64 0)))⟩]) (.block 0 (.loop cf11_l0))) (.seq (.reg [⟨(some 4), none, (.mv (.c (.int .i64 (-1))))⟩]) .ret)))⟩
theorem ok11 : cFunc G0 Try.prog false Try.f11 [] = some cf11 := by kernel_rfl

def cf12_l0 : CC :=
  (.seq (.reg [⟨(some 27), none, (.bin .lss (.t 26) (.t 25))⟩]) (.seq (.cond (.t 27) .skip (.exit 2)) (.seq (.block 3 (.seq (.reg [⟨(some 28), none, (.mv (.t 26))⟩, ⟨(some 29), none, (.iaddr 1 (.t 24) (.t 26))⟩, ⟨(some 30), none, (.load false 1 (.t 29))⟩, ⟨(some 10), none, (.mv (.t 28))⟩, ⟨(some 11), none, (.mv (.t 30))⟩]) (.seq (.reg [⟨(some 31), none, (.load false 1 (.t 8))⟩, ⟨(some 32), none, (.mv (.t 11))⟩, ⟨(some 33), none, (.call 8 [(.t 31), (.t 32)])⟩, ⟨(some 34), none, (.un .not (.t 33))⟩, ⟨(some 35), none, (.mv (.t 34))⟩, ⟨(some 36), (some ((some 35), true)), (.mv (.t 1))⟩, ⟨(some 37), (some ((some 35), true)), (.mv (.t 10))⟩, ⟨(some 38), (some ((some 35), true)), (.iaddr 1 (.t 36) (.t 37))⟩, ⟨(some 39), (some ((some 35), true)), (.load false 1 (.t 38))⟩, ⟨(some 40), (some ((some 35), true)), (.clo 22 [(.t 8)])⟩, ⟨(some 41), (some ((some 35), true)), (.call 14 [(.t 39), (.t 40)])⟩, ⟨(some 42), (some ((some 35), true)), (.un .not (.t 41))⟩, ⟨(some 43), none, (.pick (.t 35) (.t 42) (.c (.bool false)))⟩, ⟨(some 12), none, (.mv (.t 43))⟩]) (.seq (.reg [⟨(some 44), none, (.mv (.t 12))⟩, ⟨(some 45), none, (.mv (.t 44))⟩, ⟨(some 46), (some ((some 45), true)), (.mv (.t 9))⟩, ⟨(some 47), (some ((some 45), true)), (.bin .lss (.t 46) (.c (.int .i64 0)))⟩, ⟨(some 48), (some ((some 45), true)), (.mv (.t 47))⟩, ⟨(some 49), (some ((some 48), false)), (.mv (.t 11))⟩, ⟨(some 50), (some ((some 48), false)), (.mv (.t 0))⟩, ⟨(some 51), (some ((some 48), false)), (.mv (.t 9))⟩, ⟨(some 52), (some ((some 48), false)), (.iaddr 1 (.t 50) (.t 51))⟩, ⟨(some 53), (some ((some 48), false)), (.load false 1 (.t 52))⟩, ⟨(some 54), (some ((some 48), false)), (.bin .lss (.t 49) (.t 53))⟩, ⟨(some 55), (some ((some 45), true)), (.pick (.t 48) (.c (.bool true)) (.t 54))⟩, ⟨(some 56), none, (.pick (.t 45) (.t 55) (.c (.bool false)))⟩]) (.cond (.t 56) (.reg [⟨(some 57), none, (.mv (.t 10))⟩, ⟨(some 9), none, (.mv (.t 57))⟩]) .skip))))) (.reg [⟨(some 58), none, (.bin .add (.t 26) (.c (.int .i64 1)))⟩, ⟨(some 26), none, (.mv (.t 58))⟩]))))
def cf12_l1 : CC :=
  (.seq (.seq (.reg [⟨(some 19), none, (.mv (.t 7))⟩, ⟨(some 20), none, (.len (.t 19))⟩, ⟨(some 21), none, (.mv (.t 0))⟩, ⟨(some 22), none, (.len (.t 21))⟩, ⟨(some 23), none, (.bin .lss (.t 20) (.t 22))⟩]) (.cond (.t 23) .skip (.exit 0))) (.block 1 (.seq (.reg [⟨(some 9), none, (.mv (.c (.int .i64 (-1))))⟩]) (.seq (.seq (.reg [⟨(some 24), none, (.mv (.t 0))⟩, ⟨(some 25), none, (.len (.t 24))⟩, ⟨(some 26), none, (.mv (.c (.int .i64 0)))⟩]) (.block 2 (.loop cf12_l0))) (.seq (.seq (.reg [⟨(some 59), none, (.mv (.t 9))⟩, ⟨(some 60), none, (.bin .lss (.t 59) (.c (.int .i64 0)))⟩]) (.cond (.t 60) (.seq (.reg [⟨(some 4), none, (.mv (.c .nils))⟩, ⟨(some 5), none, (.mv (.c (.int .i64 8)))⟩]) .ret) .skip)) (.dreg [⟨(some 61), none, (.mv (.t 7))⟩, ⟨(some 62), none, (.mv (.t 9))⟩, ⟨(some 63), none, (.bsl 1 1 [(.int .i64 0)] [(0, (1, (.t 62)))])⟩, ⟨(some 64), none, (.app false 1 8 [(.int .i64 0)] (.t 61) (.t 63))⟩, ⟨(some 65), none, (.load false 1 (.t 8))⟩, ⟨(some 66), none, (.mv (.t 0))⟩, ⟨(some 67), none, (.mv (.t 9))⟩, ⟨(some 68), none, (.iaddr 1 (.t 66) (.t 67))⟩, ⟨(some 69), none, (.load false 1 (.t 68))⟩, ⟨(some 70), none, (.bsl 1 1 [(.str ⟨#[]⟩)] [(0, (1, (.t 69)))])⟩, ⟨(some 71), none, (.app false 1 16 [(.str ⟨#[]⟩)] (.t 65) (.t 70))⟩, ⟨(some 7), none, (.mv (.t 64))⟩, ⟨none, none, (.store 1 (.t 8) (.t 71))⟩] [(4, 3), (8, 3)]))))))
/-- provenance/modules.Order -/
def cf12 : CF :=
  ⟨73, [(.tmp 4), (.tmp 5)], (.seq (.reg [⟨(some 4), none, (.mv (.c .nils))⟩, ⟨(some 5), none, (.mv (.c (.int .i64 0)))⟩]) (.seq (.seq (.reg [⟨(some 13), none, (.mv (.t 0))⟩, ⟨(some 14), none, (.mv (.t 1))⟩, ⟨(some 15), none, (.call 13 [(.t 13), (.t 14)])⟩, ⟨(some 6), none, (.mv (.t 15))⟩]) (.seq (.reg [⟨(some 16), none, (.mv (.t 6))⟩, ⟨(some 17), none, (.bin .neq (.t 16) (.c (.int .i64 0)))⟩]) (.cond (.t 17) (.seq (.reg [⟨(some 18), none, (.mv (.t 6))⟩, ⟨(some 4), none, (.mv (.c .nils))⟩, ⟨(some 5), none, (.mv (.t 18))⟩]) .ret) .skip))) (.seq (.reg [⟨(some 7), none, (.mv (.c .nils))⟩]) (.seq (.reg [⟨(some 8), none, (.alloc [.nils])⟩]) (.seq (.block 0 (.loop cf12_l1)) (.seq (.reg [⟨(some 72), none, (.mv (.t 7))⟩, ⟨(some 4), none, (.mv (.t 72))⟩, ⟨(some 5), none, (.mv (.c (.int .i64 0)))⟩]) .ret))))))⟩
theorem ok12 : cFunc G0 Try.prog false Try.f12 [] = some cf12 := by kernel_rfl

def cf13_l0 : CC :=
  (.seq (.reg [⟨(some 43), none, (.bin .lss (.t 42) (.t 41))⟩]) (.seq (.cond (.t 43) .skip (.exit 5)) (.seq (.block 6 (.seq (.reg [⟨(some 44), none, (.iaddr 1 (.t 40) (.t 42))⟩, ⟨(some 45), none, (.load false 1 (.t 44))⟩, ⟨(some 10), none, (.mv (.t 45))⟩]) (.seq (.reg [⟨(some 46), none, (.mv (.t 0))⟩, ⟨(some 47), none, (.mv (.t 10))⟩, ⟨(some 48), none, (.call 8 [(.t 46), (.t 47)])⟩, ⟨(some 49), none, (.un .not (.t 48))⟩]) (.cond (.t 49) (.seq (.reg [⟨(some 4), none, (.mv (.c (.int .i64 6)))⟩]) .ret) .skip)))) (.reg [⟨(some 50), none, (.bin .add (.t 42) (.c (.int .i64 1)))⟩, ⟨(some 42), none, (.mv (.t 50))⟩]))))
def cf13_l1 : CC :=
  (.seq (.reg [⟨(some 37), none, (.bin .lss (.t 36) (.t 35))⟩]) (.seq (.cond (.t 37) .skip (.exit 3)) (.seq (.block 4 (.seq (.reg [⟨(some 38), none, (.iaddr 1 (.t 34) (.t 36))⟩, ⟨(some 39), none, (.load false 1 (.t 38))⟩, ⟨(some 8), none, (.mv (.t 39))⟩]) (.seq (.reg [⟨(some 40), none, (.mv (.t 8))⟩, ⟨(some 41), none, (.len (.t 40))⟩, ⟨(some 42), none, (.mv (.c (.int .i64 0)))⟩]) (.block 5 (.loop cf13_l0))))) (.reg [⟨(some 51), none, (.bin .add (.t 36) (.c (.int .i64 1)))⟩, ⟨(some 36), none, (.mv (.t 51))⟩]))))
def cf13_l2 : CC :=
  (.seq (.reg [⟨(some 24), none, (.bin .lss (.t 23) (.t 22))⟩]) (.seq (.cond (.t 24) .skip (.exit 1)) (.seq (.block 2 (.seq (.reg [⟨(some 25), none, (.mv (.t 23))⟩, ⟨(some 26), none, (.iaddr 1 (.t 21) (.t 23))⟩, ⟨(some 27), none, (.load false 1 (.t 26))⟩, ⟨(some 5), none, (.mv (.t 25))⟩, ⟨(some 6), none, (.mv (.t 27))⟩]) (.seq (.reg [⟨(some 28), none, (.mv (.t 0))⟩, ⟨(some 29), none, (.mv (.t 5))⟩, ⟨(some 30), none, (.slc 1 (.t 28) none (some (.t 29)) none)⟩, ⟨(some 31), none, (.mv (.t 6))⟩, ⟨(some 32), none, (.call 8 [(.t 30), (.t 31)])⟩]) (.cond (.t 32) (.seq (.reg [⟨(some 4), none, (.mv (.c (.int .i64 7)))⟩]) .ret) .skip)))) (.reg [⟨(some 33), none, (.bin .add (.t 23) (.c (.int .i64 1)))⟩, ⟨(some 23), none, (.mv (.t 33))⟩]))))
/-- provenance/modules.Check -/
def cf13 : CF :=
  ⟨52, [(.tmp 4)], (.seq (.reg [⟨(some 4), none, (.mv (.c (.int .i64 0)))⟩]) (.seq (.block 0 (.seq (.reg [⟨(some 12), none, (.mv (.t 0))⟩, ⟨(some 13), none, (.len (.t 12))⟩, ⟨(some 14), none, (.bin .gtr (.t 13) (.c (.int .i64 16)))⟩, ⟨(some 11), none, (.mv (.t 14))⟩]) (.cond (.t 11) (.seq (.reg [⟨(some 4), none, (.mv (.c (.int .i64 2)))⟩]) .ret) (.seq (.reg [⟨(some 16), none, (.mv (.t 1))⟩, ⟨(some 17), none, (.len (.t 16))⟩, ⟨(some 18), none, (.mv (.t 0))⟩, ⟨(some 19), none, (.len (.t 18))⟩, ⟨(some 20), none, (.bin .neq (.t 17) (.t 19))⟩, ⟨(some 15), none, (.mv (.t 20))⟩]) (.cond (.t 15) (.seq (.reg [⟨(some 4), none, (.mv (.c (.int .i64 3)))⟩]) .ret) .skip))))) (.seq (.seq (.reg [⟨(some 21), none, (.mv (.t 0))⟩, ⟨(some 22), none, (.len (.t 21))⟩, ⟨(some 23), none, (.mv (.c (.int .i64 0)))⟩]) (.block 1 (.loop cf13_l2))) (.seq (.seq (.reg [⟨(some 34), none, (.mv (.t 1))⟩, ⟨(some 35), none, (.len (.t 34))⟩, ⟨(some 36), none, (.mv (.c (.int .i64 0)))⟩]) (.block 3 (.loop cf13_l1))) (.seq (.reg [⟨(some 4), none, (.mv (.c (.int .i64 0)))⟩]) .ret)))))⟩
theorem ok13 : cFunc G0 Try.prog false Try.f13 [] = some cf13 := by kernel_rfl

/-- slices.ContainsFunc[[]string,string] -/
def cf14 : CF :=
  ⟨9, [(.tmp 4)], (.seq (.reg [⟨(some 4), none, (.mv (.c (.bool false)))⟩]) (.seq (.reg [⟨(some 5), none, (.mv (.t 0))⟩, ⟨(some 6), none, (.mv (.t 1))⟩, ⟨(some 7), none, (.call 23 [(.t 5), (.t 6)])⟩, ⟨(some 8), none, (.bin .geq (.t 7) (.c (.int .i64 0)))⟩, ⟨(some 4), none, (.mv (.t 8))⟩]) .ret))⟩
theorem ok14 : cFunc G0 Try.prog false Try.f14 [] = some cf14 := by kernel_rfl

/-- provenance/modules.After$1 -/
def cf15 : CF :=
  ⟨7, [(.tmp 3)], (.seq (.reg [⟨(some 3), none, (.mv (.c (.bool false)))⟩]) (.seq (.reg [⟨(some 4), none, (.load false 1 (.t 1))⟩, ⟨(some 5), none, (.mv (.t 0))⟩, ⟨(some 6), none, (.call 8 [(.t 4), (.t 5)])⟩, ⟨(some 3), none, (.mv (.t 6))⟩]) .ret))⟩
theorem ok15 : cFunc G0 Try.prog false Try.f15 [] = some cf15 := by kernel_rfl

/-- cmp.Less[string] -/
def cf18 : CF :=
  ⟨17, [(.tmp 4)], (.seq (.reg [⟨(some 4), none, (.mv (.c (.bool false)))⟩]) (.seq (.reg [⟨(some 5), none, (.mv (.t 0))⟩, ⟨(some 6), none, (.call 26 [(.t 5)])⟩, ⟨(some 7), none, (.mv (.t 6))⟩, ⟨(some 8), (some ((some 7), true)), (.mv (.t 1))⟩, ⟨(some 9), (some ((some 7), true)), (.call 26 [(.t 8)])⟩, ⟨(some 10), (some ((some 7), true)), (.un .not (.t 9))⟩, ⟨(some 11), none, (.pick (.t 7) (.t 10) (.c (.bool false)))⟩, ⟨(some 12), none, (.mv (.t 11))⟩, ⟨(some 13), (some ((some 12), false)), (.mv (.t 0))⟩, ⟨(some 14), (some ((some 12), false)), (.mv (.t 1))⟩, ⟨(some 15), (some ((some 12), false)), (.bin .lss (.t 13) (.t 14))⟩, ⟨(some 16), none, (.pick (.t 12) (.c (.bool true)) (.t 15))⟩, ⟨(some 4), none, (.mv (.t 16))⟩]) .ret))⟩
theorem ok18 : cFunc G0 Try.prog false Try.f18 [] = some cf18 := by kernel_rfl

/-- slices.Sorted[string] -/
def cf19 : CF :=
  ⟨9, [(.tmp 2)], (.seq (.reg [⟨(some 2), none, (.mv (.c .nils))⟩]) (.seq (.reg [⟨(some 4), none, (.mv (.t 0))⟩, ⟨(some 5), none, (.call 27 [(.t 4)])⟩, ⟨(some 3), none, (.mv (.t 5))⟩]) (.seq (.reg [⟨(some 6), none, (.mv (.t 3))⟩, ⟨(some 7), none, (.call 16 [(.t 6)])⟩]) (.seq (.reg [⟨(some 8), none, (.mv (.t 3))⟩, ⟨(some 2), none, (.mv (.t 8))⟩]) .ret))))⟩
theorem ok19 : cFunc G0 Try.prog false Try.f19 [] = some cf19 := by kernel_rfl

/-- slices.Values[[]string,string] -/
def cf20 : CF :=
  ⟨4, [(.tmp 2)], (.seq (.reg [⟨(some 1), none, (.box (.t 0))⟩, ⟨(some 2), none, (.mv (.c .nilf))⟩]) (.seq (.reg [⟨(some 3), none, (.clo 28 [(.t 1)])⟩, ⟨(some 2), none, (.mv (.t 3))⟩]) .ret))⟩
theorem ok20 : cFunc G0 Try.prog false Try.f20 [] = some cf20 := by kernel_rfl

def cf21_l0 : CC :=
  (.seq (.reg [⟨(some 57), none, (.bin .lss (.t 56) (.t 55))⟩]) (.seq (.cond (.t 57) .skip (.exit 0)) (.seq (.block 1 (.seq (.reg [⟨(some 58), none, (.iaddr 1 (.t 54) (.t 56))⟩, ⟨(some 59), none, (.load false 1 (.t 58))⟩, ⟨(some 11), none, (.mv (.t 59))⟩]) (.seq (.seq (.reg [⟨(some 60), none, (.mv (.t 11))⟩, ⟨(some 61), none, (.mv (.t 2))⟩, ⟨(some 62), none, (.iaddr 1 (.t 61) (.c (.int .i64 0)))⟩, ⟨(some 63), none, (.load false 1 (.t 62))⟩, ⟨(some 64), none, (.bin .leq (.t 60) (.t 63))⟩, ⟨(some 65), none, (.mv (.t 64))⟩, ⟨(some 66), (some ((some 65), false)), (.mv (.t 2))⟩, ⟨(some 67), (some ((some 65), false)), (.mv (.t 11))⟩, ⟨(some 68), (some ((some 65), false)), (.call 8 [(.t 66), (.t 67)])⟩, ⟨(some 69), none, (.pick (.t 65) (.c (.bool true)) (.t 68))⟩]) (.cond (.t 69) (.exit 1) .skip)) (.seq (.reg [⟨(some 70), none, (.mv (.t 0))⟩, ⟨(some 71), none, (.mv (.t 1))⟩, ⟨(some 72), none, (.mv (.t 2))⟩, ⟨(some 73), none, (.call 30 [(.t 72)])⟩, ⟨(some 74), none, (.mv (.t 11))⟩, ⟨(some 75), none, (.bsl 1 1 [(.str ⟨#[]⟩)] [(0, (1, (.t 74)))])⟩, ⟨(some 76), none, (.app false 1 16 [(.str ⟨#[]⟩)] (.t 73) (.t 75))⟩, ⟨(some 77), none, (.mv (.t 3))⟩, ⟨(some 78), none, (.call 21 [(.t 70), (.t 71), (.t 76), (.t 77)])⟩, ⟨(some 12), none, (.mv (.t 78))⟩]) (.seq (.reg [⟨(some 79), none, (.mv (.t 12))⟩, ⟨(some 80), none, (.eqnil false true (.t 79))⟩]) (.cond (.t 80) (.seq (.reg [⟨(some 81), none, (.mv (.t 12))⟩, ⟨(some 8), none, (.mv (.t 81))⟩]) .ret) .skip)))))) (.reg [⟨(some 82), none, (.bin .add (.t 56) (.c (.int .i64 1)))⟩, ⟨(some 56), none, (.mv (.t 82))⟩]))))
/-- provenance/modules.walk -/
def cf21 : CF :=
  ⟨83, [(.tmp 8)], (.seq (.reg [⟨(some 8), none, (.mv (.c .nils))⟩]) (.seq (.reg [⟨(some 13), none, (.mv (.t 1))⟩, ⟨(some 14), none, (.mv (.t 0))⟩, ⟨(some 15), none, (.mv (.t 2))⟩, ⟨(some 16), none, (.mv (.t 2))⟩, ⟨(some 17), none, (.len (.t 16))⟩, ⟨(some 18), none, (.bin .sub (.t 17) (.c (.int .i64 1)))⟩, ⟨(some 19), none, (.iaddr 1 (.t 15) (.t 18))⟩, ⟨(some 20), none, (.load false 1 (.t 19))⟩, ⟨(some 21), none, (.call 11 [(.t 14), (.t 20)])⟩, ⟨(some 22), none, (.iaddr 1 (.t 13) (.t 21))⟩, ⟨(some 23), none, (.load false 1 (.t 22))⟩, ⟨(some 24), none, (.call 20 [(.t 23)])⟩, ⟨(some 25), none, (.call 19 [(.t 24)])⟩, ⟨(some 9), none, (.mv (.t 25))⟩]) (.seq (.seq (.reg [⟨(some 26), none, (.mv (.t 2))⟩, ⟨(some 27), none, (.len (.t 26))⟩, ⟨(some 28), none, (.mv (.t 3))⟩, ⟨(some 29), none, (.bin .eql (.t 27) (.t 28))⟩]) (.cond (.t 29) (.seq (.seq (.reg [⟨(some 30), none, (.mv (.t 9))⟩, ⟨(some 31), none, (.mv (.t 2))⟩, ⟨(some 32), none, (.iaddr 1 (.t 31) (.c (.int .i64 0)))⟩, ⟨(some 33), none, (.load false 1 (.t 32))⟩, ⟨(some 34), none, (.call 8 [(.t 30), (.t 33)])⟩]) (.cond (.t 34) (.seq (.reg [⟨(some 35), none, (.mv (.t 2))⟩, ⟨(some 8), none, (.mv (.t 35))⟩]) .ret) .skip)) (.seq (.reg [⟨(some 8), none, (.mv (.c .nils))⟩]) .ret)) .skip)) (.seq (.seq (.dreg [⟨(some 36), none, (.mv (.t 0))⟩, ⟨(some 37), none, (.mv (.t 1))⟩, ⟨(some 38), none, (.mv (.t 2))⟩, ⟨(some 39), none, (.mv (.t 2))⟩, ⟨(some 40), none, (.len (.t 39))⟩, ⟨(some 41), none, (.bin .sub (.t 40) (.c (.int .i64 1)))⟩, ⟨(some 42), none, (.iaddr 1 (.t 38) (.t 41))⟩, ⟨(some 43), none, (.load false 1 (.t 42))⟩, ⟨(some 44), none, (.mv (.t 2))⟩, ⟨(some 45), none, (.iaddr 1 (.t 44) (.c (.int .i64 0)))⟩, ⟨(some 46), none, (.load false 1 (.t 45))⟩, ⟨(some 47), none, (.mv (.t 3))⟩, ⟨(some 48), none, (.mv (.t 2))⟩, ⟨(some 49), none, (.len (.t 48))⟩, ⟨(some 50), none, (.bin .sub (.t 47) (.t 49))⟩, ⟨(some 51), none, (.bin .add (.t 50) (.c (.int .i64 1)))⟩, ⟨(some 52), none, (.call 29 [(.t 36), (.t 37), (.t 43), (.t 46), (.t 51)])⟩, ⟨(some 53), none, (.un .not (.t 52))⟩] []) (.cond (.t 53) (.seq (.reg [⟨(some 8), none, (.mv (.c .nils))⟩]) .ret) .skip)) (.seq (.seq (.reg [⟨(some 54), none, (.mv (.t 9))⟩, ⟨(some 55), none, (.len (.t 54))⟩, ⟨(some 56), none, (.mv (.c (.int .i64 0)))⟩]) (.block 0 (.loop cf21_l0))) (.seq (.reg [⟨(some 8), none, (.mv (.c .nils))⟩]) .ret))))))⟩
theorem ok21 : cFunc G0 Try.prog false Try.f21 [] = some cf21 := by kernel_rfl

/-- provenance/modules.Order$1 -/
def cf22 : CF :=
  ⟨8, [(.tmp 3)], (.seq (.reg [⟨(some 3), none, (.mv (.c (.bool false)))⟩]) (.seq (.reg [⟨(some 4), none, (.load false 1 (.t 1))⟩, ⟨(some 5), none, (.mv (.t 0))⟩, ⟨(some 6), none, (.call 8 [(.t 4), (.t 5)])⟩, ⟨(some 7), none, (.un .not (.t 6))⟩, ⟨(some 3), none, (.mv (.t 7))⟩]) .ret))⟩
theorem ok22 : cFunc G0 Try.prog false Try.f22 [] = some cf22 := by kernel_rfl

def cf23_l0 : CC :=
  (.seq (.reg [⟨(some 9), none, (.bin .lss (.t 8) (.t 7))⟩]) (.seq (.cond (.t 9) .skip (.exit 0)) (.seq (.block 1 (.seq (.reg [⟨(some 10), none, (.mv (.t 8))⟩, ⟨(some 5), none, (.mv (.t 10))⟩]) (.seq (.reg [⟨(some 11), none, (.mv (.t 1))⟩, ⟨(some 12), none, (.mv (.t 0))⟩, ⟨(some 13), none, (.mv (.t 5))⟩, ⟨(some 14), none, (.iaddr 1 (.t 12) (.t 13))⟩, ⟨(some 15), none, (.load false 1 (.t 14))⟩, ⟨(some 16), none, (.callv (.t 11) [(.t 15)])⟩]) (.cond (.t 16) (.seq (.reg [⟨(some 17), none, (.mv (.t 5))⟩, ⟨(some 4), none, (.mv (.t 17))⟩]) .ret) .skip)))) (.reg [⟨(some 18), none, (.bin .add (.t 8) (.c (.int .i64 1)))⟩, ⟨(some 8), none, (.mv (.t 18))⟩]))))
/-- slices.IndexFunc[[]string,string] -/
def cf23 : CF :=
  ⟨19, [(.tmp 4)], (.seq (.reg [⟨(some 4), none, (.mv (.c (.int .i64 0)))⟩]) (.seq (.seq (.reg [⟨(some 6), none, (.mv (.t 0))⟩, ⟨(some 7), none, (.len (.t 6))⟩, ⟨(some 8), none, (.mv (.c (.int .i64 0)))⟩]) (.block 0 (.loop cf23_l0))) (.seq (.reg [⟨(some 4), none, (.mv (.c (.int .i64 (-1))))⟩]) .ret)))⟩
theorem ok23 : cFunc G0 Try.prog false Try.f23 [] = some cf23 := by kernel_rfl

/-- cmp.isNaN[string] -/
def cf26 : CF :=
  ⟨6, [(.tmp 2)], (.seq (.reg [⟨(some 2), none, (.mv (.c (.bool false)))⟩]) (.seq (.reg [⟨(some 3), none, (.mv (.t 0))⟩, ⟨(some 4), none, (.mv (.t 0))⟩, ⟨(some 5), none, (.bin .neq (.t 3) (.t 4))⟩, ⟨(some 2), none, (.mv (.t 5))⟩]) .ret))⟩
theorem ok26 : cFunc G0 Try.prog false Try.f26 [] = some cf26 := by kernel_rfl

def cf29_l0 : CC :=
  (.seq (.reg [⟨(some 23), none, (.bin .lss (.t 22) (.t 21))⟩]) (.seq (.cond (.t 23) .skip (.exit 2)) (.seq (.block 3 (.seq (.reg [⟨(some 24), none, (.iaddr 1 (.t 20) (.t 22))⟩, ⟨(some 25), none, (.load false 1 (.t 24))⟩, ⟨(some 14), none, (.mv (.t 25))⟩]) (.reg [⟨(some 26), none, (.mv (.t 12))⟩, ⟨(some 27), none, (.mv (.t 1))⟩, ⟨(some 28), none, (.mv (.t 0))⟩, ⟨(some 29), none, (.mv (.t 14))⟩, ⟨(some 30), none, (.call 11 [(.t 28), (.t 29)])⟩, ⟨(some 31), none, (.iaddr 1 (.t 27) (.t 30))⟩, ⟨(some 32), none, (.load false 1 (.t 31))⟩, ⟨(some 33), none, (.app true 1 16 [(.str ⟨#[]⟩)] (.t 26) (.t 32))⟩, ⟨(some 12), none, (.mv (.t 33))⟩]))) (.reg [⟨(some 34), none, (.bin .add (.t 22) (.c (.int .i64 1)))⟩, ⟨(some 22), none, (.mv (.t 34))⟩]))))
def cf29_l1 : CC :=
  (.seq (.reg [⟨(some 19), none, (.bin .lss (.t 18) (.t 17))⟩]) (.seq (.cond (.t 19) .skip (.exit 0)) (.seq (.block 1 (.seq (.reg [⟨(some 12), none, (.mv (.c .nils))⟩]) (.seq (.seq (.reg [⟨(some 20), none, (.mv (.t 11))⟩, ⟨(some 21), none, (.len (.t 20))⟩, ⟨(some 22), none, (.mv (.c (.int .i64 0)))⟩]) (.block 2 (.loop cf29_l0))) (.seq (.reg [⟨(some 35), none, (.mv (.t 12))⟩, ⟨(some 36), none, (.call 16 [(.t 35)])⟩]) (.seq (.reg [⟨(some 37), none, (.mv (.t 12))⟩, ⟨(some 38), none, (.call 17 [(.t 37)])⟩, ⟨(some 11), none, (.mv (.t 38))⟩]) (.seq (.reg [⟨(some 39), none, (.mv (.t 11))⟩, ⟨(some 40), none, (.mv (.t 3))⟩, ⟨(some 41), none, (.call 8 [(.t 39), (.t 40)])⟩]) (.cond (.t 41) (.seq (.reg [⟨(some 10), none, (.mv (.c (.bool true)))⟩]) .ret) .skip))))))) (.reg [⟨(some 42), none, (.bin .add (.t 18) (.c (.int .i64 1)))⟩, ⟨(some 18), none, (.mv (.t 42))⟩]))))
/-- provenance/modules.reaches -/
def cf29 : CF :=
  ⟨43, [(.tmp 10)], (.seq (.reg [⟨(some 10), none, (.mv (.c (.bool false)))⟩]) (.seq (.reg [⟨(some 15), none, (.mv (.t 2))⟩, ⟨(some 16), none, (.bsl 1 1 [(.str ⟨#[]⟩)] [(0, (1, (.t 15)))])⟩, ⟨(some 11), none, (.mv (.t 16))⟩]) (.seq (.seq (.reg [⟨(some 17), none, (.mv (.t 4))⟩, ⟨(some 18), none, (.mv (.c (.int .i64 0)))⟩]) (.block 0 (.loop cf29_l1))) (.seq (.reg [⟨(some 10), none, (.mv (.c (.bool false)))⟩]) .ret))))⟩
theorem ok29 : cFunc G0 Try.prog true Try.f29 [] = some cf29 := by kernel_rfl

/-- slices.Clone[[]string,string] -/
def cf30 : CF :=
  ⟨8, [(.tmp 2)], (.seq (.reg [⟨(some 2), none, (.mv (.c .nils))⟩]) (.seq (.seq (.reg [⟨(some 3), none, (.mv (.t 0))⟩, ⟨(some 4), none, (.eqnil false false (.t 3))⟩]) (.cond (.t 4) (.seq (.reg [⟨(some 2), none, (.mv (.c .nils))⟩]) .ret) .skip)) (.seq (.reg [⟨(some 5), none, (.bsl 1 0 [] [])⟩, ⟨(some 6), none, (.mv (.t 0))⟩, ⟨(some 7), none, (.app false 1 16 [(.str ⟨#[]⟩)] (.t 5) (.t 6))⟩, ⟨(some 2), none, (.mv (.t 7))⟩]) .ret)))⟩
theorem ok30 : cFunc G0 Try.prog false Try.f30 [] = some cf30 := by kernel_rfl

def T : Nat → Option CF
  | 3 => some cf3
  | 4 => some cf4
  | 5 => some cf5
  | 6 => some cf6
  | 7 => some cf7
  | 8 => some cf8
  | 9 => some cf9
  | 10 => some cf10
  | 11 => some cf11
  | 12 => some cf12
  | 13 => some cf13
  | 14 => some cf14
  | 15 => some cf15
  | 18 => some cf18
  | 19 => some cf19
  | 20 => some cf20
  | 21 => some cf21
  | 22 => some cf22
  | 23 => some cf23
  | 26 => some cf26
  | 29 => some cf29
  | 30 => some cf30
  | _ => none

theorem T3 : T 3 = some cf3 := rfl
theorem T4 : T 4 = some cf4 := rfl
theorem T5 : T 5 = some cf5 := rfl
theorem T6 : T 6 = some cf6 := rfl
theorem T7 : T 7 = some cf7 := rfl
theorem T8 : T 8 = some cf8 := rfl
theorem T9 : T 9 = some cf9 := rfl
theorem T10 : T 10 = some cf10 := rfl
theorem T11 : T 11 = some cf11 := rfl
theorem T12 : T 12 = some cf12 := rfl
theorem T13 : T 13 = some cf13 := rfl
theorem T14 : T 14 = some cf14 := rfl
theorem T15 : T 15 = some cf15 := rfl
theorem T18 : T 18 = some cf18 := rfl
theorem T19 : T 19 = some cf19 := rfl
theorem T20 : T 20 = some cf20 := rfl
theorem T21 : T 21 = some cf21 := rfl
theorem T22 : T 22 = some cf22 := rfl
theorem T23 : T 23 = some cf23 := rfl
theorem T26 : T 26 = some cf26 := rfl
theorem T29 : T 29 = some cf29 := rfl
theorem T30 : T 30 = some cf30 := rfl

theorem hT (f : Nat) (cf : CF) (h : T f = some cf) : ∃ fn mu fz, Try.prog.funcs[f]? = some fn ∧ cFunc G0 Try.prog mu fn fz = some cf := by
  unfold T at h
  split at h
  · cases h; exact ⟨_, _, _, Try.func3, ok3⟩
  · cases h; exact ⟨_, _, _, Try.func4, ok4⟩
  · cases h; exact ⟨_, _, _, Try.func5, ok5⟩
  · cases h; exact ⟨_, _, _, Try.func6, ok6⟩
  · cases h; exact ⟨_, _, _, Try.func7, ok7⟩
  · cases h; exact ⟨_, _, _, Try.func8, ok8⟩
  · cases h; exact ⟨_, _, _, Try.func9, ok9⟩
  · cases h; exact ⟨_, _, _, Try.func10, ok10⟩
  · cases h; exact ⟨_, _, _, Try.func11, ok11⟩
  · cases h; exact ⟨_, _, _, Try.func12, ok12⟩
  · cases h; exact ⟨_, _, _, Try.func13, ok13⟩
  · cases h; exact ⟨_, _, _, Try.func14, ok14⟩
  · cases h; exact ⟨_, _, _, Try.func15, ok15⟩
  · cases h; exact ⟨_, _, _, Try.func18, ok18⟩
  · cases h; exact ⟨_, _, _, Try.func19, ok19⟩
  · cases h; exact ⟨_, _, _, Try.func20, ok20⟩
  · cases h; exact ⟨_, _, _, Try.func21, ok21⟩
  · cases h; exact ⟨_, _, _, Try.func22, ok22⟩
  · cases h; exact ⟨_, _, _, Try.func23, ok23⟩
  · cases h; exact ⟨_, _, _, Try.func26, ok26⟩
  · cases h; exact ⟨_, _, _, Try.func29, ok29⟩
  · cases h; exact ⟨_, _, _, Try.func30, ok30⟩
  · cases h

theorem good {X : Ext} (hX : ∀ f h, X f = some h → ∀ args s v s', h args s = some (v, s') → CallC G0 Try.prog f args s v s') : Good G0 Try.prog T X := ⟨by kernel_rfl, hT, hX⟩
end Go.Am.M2
