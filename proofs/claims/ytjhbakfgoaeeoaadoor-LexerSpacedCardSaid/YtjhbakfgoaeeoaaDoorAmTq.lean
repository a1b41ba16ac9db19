/- The compiled texts, each checked. PRINTED BY wip/tools/gen.py. Conditions: none. -/
import Derived.Test.YtjhbakfgoaeeoaaDoorAmS
import Derived.KernelRfl
import Derived.Test.YtjhbakfgoaeeoaaDoorRows
set_option linter.unusedSimpArgs false
set_option linter.unusedVariables false
namespace Go.Am.Y3
open Go.Proofs
set_option maxRecDepth 100000
def G0 : Glob := fun _ => none

def cf30_l0 : CC :=
  (.seq (.reg [⟨(some 18), none, (.bin .lss (.t 17) (.t 16))⟩]) (.seq (.cond (.t 18) .skip (.exit 0)) (.seq (.block 1 (.seq (.reg [⟨(some 19), none, (.mv (.t 17))⟩, ⟨(some 20), none, (.iaddr 5 (.t 15) (.t 17))⟩, ⟨(some 21), none, (.load true 5 (.t 20))⟩, ⟨(some 8), none, (.alloc [(.int .i64 0), (.str ⟨#[]⟩), (.int .i64 0), (.int .i64 0), (.int .i64 0)])⟩, ⟨(some 7), none, (.mv (.t 19))⟩, ⟨none, none, (.store 5 (.t 8) (.t 21))⟩]) (.seq (.reg [⟨(some 22), none, (.mv (.t 1))⟩, ⟨(some 23), none, (.mv (.t 7))⟩, ⟨(some 24), none, (.iaddr 5 (.t 22) (.t 23))⟩, ⟨(some 25), none, (.load true 5 (.t 24))⟩, ⟨(some 9), none, (.alloc [(.int .i64 0), (.str ⟨#[]⟩), (.int .i64 0), (.int .i64 0), (.int .i64 0)])⟩, ⟨none, none, (.store 5 (.t 9) (.t 25))⟩]) (.seq (.reg [⟨(some 26), none, (.mv (.t 2))⟩, ⟨(some 27), none, (.load true 5 (.t 8))⟩, ⟨(some 28), none, (.load true 5 (.t 9))⟩, ⟨(some 29), none, (.callv (.t 26) [(.t 27), (.t 28)])⟩, ⟨(some 30), none, (.un .not (.t 29))⟩]) (.cond (.t 30) (.seq (.reg [⟨(some 6), none, (.mv (.c (.bool false)))⟩]) .ret) .skip))))) (.reg [⟨(some 31), none, (.bin .add (.t 17) (.c (.int .i64 1)))⟩, ⟨(some 17), none, (.mv (.t 31))⟩]))))
/-- slices.EqualFunc[[]provenance/api.Token,[]provenance/api.Token,provenance/api.Token,provenance/api.Token] -/
def cf30 : CF :=
  ⟨32, [(.tmp 6)], (.seq (.reg [⟨(some 6), none, (.mv (.c (.bool false)))⟩]) (.seq (.seq (.reg [⟨(some 10), none, (.mv (.t 0))⟩, ⟨(some 11), none, (.len (.t 10))⟩, ⟨(some 12), none, (.mv (.t 1))⟩, ⟨(some 13), none, (.len (.t 12))⟩, ⟨(some 14), none, (.bin .neq (.t 11) (.t 13))⟩]) (.cond (.t 14) (.seq (.reg [⟨(some 6), none, (.mv (.c (.bool false)))⟩]) .ret) .skip)) (.seq (.seq (.reg [⟨(some 15), none, (.mv (.t 0))⟩, ⟨(some 16), none, (.len (.t 15))⟩, ⟨(some 17), none, (.mv (.c (.int .i64 0)))⟩]) (.block 0 (.loop cf30_l0))) (.seq (.reg [⟨(some 6), none, (.mv (.c (.bool true)))⟩]) .ret))))⟩
theorem ok30 : cFunc G0 Tryd.prog false Tryd.f30 [] = some cf30 := by kernel_rfl

/-- provenance/provenancekeep1.LexerSpaced$1 -/
def cf31 : CF :=
  ⟨24, [(.tmp 4)], (.seq (.reg [⟨(some 2), none, (.box (.t 0))⟩, ⟨(some 3), none, (.box (.t 1))⟩, ⟨(some 4), none, (.mv (.c (.bool false)))⟩]) (.seq (.reg [⟨(some 5), none, (.faddr 0 (.t 2))⟩, ⟨(some 6), none, (.load false 1 (.t 5))⟩, ⟨(some 7), none, (.faddr 0 (.t 3))⟩, ⟨(some 8), none, (.load false 1 (.t 7))⟩, ⟨(some 9), none, (.bin .eql (.t 6) (.t 8))⟩, ⟨(some 10), none, (.mv (.t 9))⟩, ⟨(some 11), (some ((some 10), true)), (.faddr 1 (.t 2))⟩, ⟨(some 12), (some ((some 10), true)), (.load false 1 (.t 11))⟩, ⟨(some 13), (some ((some 10), true)), (.faddr 1 (.t 3))⟩, ⟨(some 14), (some ((some 10), true)), (.load false 1 (.t 13))⟩, ⟨(some 15), (some ((some 10), true)), (.bin .eql (.t 12) (.t 14))⟩, ⟨(some 16), none, (.pick (.t 10) (.t 15) (.c (.bool false)))⟩, ⟨(some 17), none, (.mv (.t 16))⟩, ⟨(some 18), (some ((some 17), true)), (.faddr 2 (.t 2))⟩, ⟨(some 19), (some ((some 17), true)), (.load false 1 (.t 18))⟩, ⟨(some 20), (some ((some 17), true)), (.faddr 2 (.t 3))⟩, ⟨(some 21), (some ((some 17), true)), (.load false 1 (.t 20))⟩, ⟨(some 22), (some ((some 17), true)), (.bin .eql (.t 19) (.t 21))⟩, ⟨(some 23), none, (.pick (.t 17) (.t 22) (.c (.bool false)))⟩, ⟨(some 4), none, (.mv (.t 23))⟩]) .ret))⟩
theorem ok31 : cFunc G0 Tryd.prog false Tryd.f31 [] = some cf31 := by kernel_rfl

def T : Nat → Option CF
  | 30 => some cf30
  | 31 => some cf31
  | _ => none

theorem T30 : T 30 = some cf30 := rfl
theorem T31 : T 31 = some cf31 := rfl

theorem hT (f : Nat) (cf : CF) (h : T f = some cf) : ∃ fn mu fz, Tryd.prog.funcs[f]? = some fn ∧ cFunc G0 Tryd.prog mu fn fz = some cf := by
  unfold T at h
  split at h
  · cases h; exact ⟨_, _, _, Tryd.func30, ok30⟩
  · cases h; exact ⟨_, _, _, Tryd.func31, ok31⟩
  · cases h

theorem good {X : Ext} (hX : ∀ f h, X f = some h → ∀ args s v s', h args s = some (v, s') → CallC G0 Tryd.prog f args s v s') : Good G0 Tryd.prog T X := ⟨by kernel_rfl, hT, hX⟩
end Go.Am.Y3
