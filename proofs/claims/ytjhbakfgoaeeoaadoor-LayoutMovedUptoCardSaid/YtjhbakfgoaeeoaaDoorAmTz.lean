/- The compiled texts, each checked. PRINTED BY wip/tools/gen.py. Conditions: none. -/
import Derived.Test.YtjhbakfgoaeeoaaDoorAmS
import Derived.KernelRfl
import Derived.Test.YtjhbakfgoaeeoaaDoorAmTy
set_option linter.unusedSimpArgs false
set_option linter.unusedVariables false
namespace Go.Am.Y2
open Go.Proofs
set_option maxRecDepth 100000
open Go.Am.Y1 (Gm)
/- the package variables of Y1: def Gm (m : Int) -/

def cf11_l0 : CC :=
  (.seq (.reg [⟨(some 58), none, (.bin .lss (.t 57) (.t 56))⟩]) (.seq (.cond (.t 58) .skip (.exit 0)) (.seq (.block 1 (.seq (.reg [⟨(some 59), none, (.mv (.t 57))⟩, ⟨(some 15), none, (.mv (.t 59))⟩]) (.reg [⟨(some 60), none, (.mv (.t 13))⟩, ⟨(some 61), none, (.mv (.t 15))⟩, ⟨(some 62), none, (.iaddr 5 (.t 60) (.t 61))⟩, ⟨(some 63), none, (.faddr 4 (.t 62))⟩, ⟨(some 64), none, (.load false 1 (.t 63))⟩, ⟨(some 65), none, (.mv (.t 1))⟩, ⟨(some 66), none, (.bin .sub (.t 64) (.t 65))⟩, ⟨(some 67), none, (.iaddr 5 (.t 60) (.t 61))⟩, ⟨(some 68), none, (.faddr 4 (.t 67))⟩, ⟨none, none, (.store 1 (.t 68) (.t 66))⟩]))) (.reg [⟨(some 69), none, (.bin .add (.t 57) (.c (.int .i64 1)))⟩, ⟨(some 57), none, (.mv (.t 69))⟩]))))
/-- provenance/provenancekeep1.LayoutMoved -/
def cf11 : CF :=
  ⟨73, [(.tmp 4)], (.seq (.reg [⟨(some 4), none, (.mv (.c (.bool false)))⟩]) (.seq (.seq (.reg [⟨(some 17), none, (.call 33 [(.c (.str ⟨#[111, 102, 10, 32, 97, 10, 32, 98]⟩))])⟩, ⟨(some 16), none, (.mv (.t 17))⟩, ⟨(some 18), none, (.ext (.t 16) 0)⟩, ⟨(some 19), none, (.ext (.t 16) 1)⟩, ⟨(some 20), none, (.ext (.t 16) 2)⟩, ⟨(some 5), none, (.mv (.t 18))⟩, ⟨(some 6), none, (.mv (.t 19))⟩, ⟨(some 7), none, (.mv (.t 20))⟩]) (.seq (.reg [⟨(some 21), none, (.mv (.t 7))⟩, ⟨(some 22), none, (.un .not (.t 21))⟩, ⟨(some 23), none, (.mv (.t 22))⟩, ⟨(some 24), (some ((some 23), false)), (.mv (.t 6))⟩, ⟨(some 25), (some ((some 23), false)), (.len (.t 24))⟩, ⟨(some 26), (some ((some 23), false)), (.bin .neq (.t 25) (.c (.int .i64 7)))⟩, ⟨(some 27), none, (.pick (.t 23) (.c (.bool true)) (.t 26))⟩]) (.cond (.t 27) (.seq (.reg [⟨(some 4), none, (.mv (.c (.bool false)))⟩]) .ret) .skip))) (.seq (.reg [⟨(some 29), none, (.mv (.t 0))⟩, ⟨(some 30), none, (.call 33 [(.t 29)])⟩, ⟨(some 28), none, (.mv (.t 30))⟩, ⟨(some 31), none, (.ext (.t 28) 0)⟩, ⟨(some 32), none, (.ext (.t 28) 1)⟩, ⟨(some 33), none, (.ext (.t 28) 2)⟩, ⟨(some 8), none, (.mv (.t 31))⟩, ⟨(some 9), none, (.mv (.t 32))⟩, ⟨(some 10), none, (.mv (.t 33))⟩]) (.seq (.reg [⟨(some 34), none, (.mv (.t 1))⟩, ⟨(some 35), none, (.call 14 [(.t 34), (.c (.int .i64 0)), (.c (.int .i64 6))])⟩, ⟨(some 1), none, (.mv (.t 35))⟩]) (.seq (.reg [⟨(some 36), none, (.mv (.t 1))⟩, ⟨(some 37), none, (.call 37 [(.c (.str ⟨#[32]⟩)), (.t 36)])⟩, ⟨(some 11), none, (.mv (.t 37))⟩]) (.seq (.reg [⟨(some 39), none, (.mv (.t 11))⟩, ⟨(some 40), none, (.mv (.t 0))⟩, ⟨(some 41), none, (.mv (.t 11))⟩, ⟨(some 42), none, (.bin .add (.c (.str ⟨#[10]⟩)) (.t 41))⟩, ⟨(some 43), none, (.call 38 [(.t 40), (.c (.str ⟨#[10]⟩)), (.t 42)])⟩, ⟨(some 44), none, (.bin .add (.t 39) (.t 43))⟩, ⟨(some 45), none, (.call 33 [(.t 44)])⟩, ⟨(some 38), none, (.mv (.t 45))⟩, ⟨(some 46), none, (.ext (.t 38) 0)⟩, ⟨(some 47), none, (.ext (.t 38) 1)⟩, ⟨(some 48), none, (.ext (.t 38) 2)⟩, ⟨(some 12), none, (.mv (.t 46))⟩, ⟨(some 13), none, (.mv (.t 47))⟩, ⟨(some 14), none, (.mv (.t 48))⟩]) (.seq (.seq (.reg [⟨(some 49), none, (.mv (.t 10))⟩, ⟨(some 50), none, (.un .not (.t 49))⟩, ⟨(some 51), none, (.mv (.t 50))⟩, ⟨(some 52), (some ((some 51), false)), (.mv (.t 14))⟩, ⟨(some 53), (some ((some 51), false)), (.un .not (.t 52))⟩, ⟨(some 54), none, (.pick (.t 51) (.c (.bool true)) (.t 53))⟩]) (.cond (.t 54) (.seq (.reg [⟨(some 4), none, (.mv (.c (.bool true)))⟩]) .ret) .skip)) (.seq (.seq (.reg [⟨(some 55), none, (.mv (.t 13))⟩, ⟨(some 56), none, (.len (.t 55))⟩, ⟨(some 57), none, (.mv (.c (.int .i64 0)))⟩]) (.block 0 (.loop cf11_l0))) (.seq (.reg [⟨(some 70), none, (.mv (.t 9))⟩, ⟨(some 71), none, (.mv (.t 13))⟩, ⟨(some 72), none, (.call 32 [(.t 70), (.t 71)])⟩, ⟨(some 4), none, (.mv (.t 72))⟩]) .ret)))))))))⟩
theorem ok11 (m : Int) : cFunc (Gm m) Tryd.prog false Tryd.f11 [] = some cf11 := by kernel_rfl

/-- provenance/provenancekeep1.within -/
def cf14 : CF :=
  ⟨21, [(.tmp 6)], (.seq (.reg [⟨(some 6), none, (.mv (.c (.int .i64 0)))⟩]) (.seq (.reg [⟨(some 8), none, (.mv (.t 2))⟩, ⟨(some 9), none, (.mv (.t 1))⟩, ⟨(some 10), none, (.bin .sub (.t 8) (.t 9))⟩, ⟨(some 11), none, (.bin .add (.t 10) (.c (.int .i64 1)))⟩, ⟨(some 7), none, (.mv (.t 11))⟩]) (.seq (.reg [⟨(some 12), none, (.mv (.t 1))⟩, ⟨(some 13), none, (.mv (.t 0))⟩, ⟨(some 14), none, (.mv (.t 7))⟩, ⟨(some 15), none, (.bin .rem (.t 13) (.t 14))⟩, ⟨(some 16), none, (.mv (.t 7))⟩, ⟨(some 17), none, (.bin .add (.t 15) (.t 16))⟩, ⟨(some 18), none, (.mv (.t 7))⟩, ⟨(some 19), none, (.bin .rem (.t 17) (.t 18))⟩, ⟨(some 20), none, (.bin .add (.t 12) (.t 19))⟩, ⟨(some 6), none, (.mv (.t 20))⟩]) .ret)))⟩
theorem ok14 (m : Int) : cFunc (Gm m) Tryd.prog false Tryd.f14 [] = some cf14 := by kernel_rfl

def T : Nat → Option CF
  | 11 => some cf11
  | 14 => some cf14
  | _ => none

theorem T11 : T 11 = some cf11 := rfl
theorem T14 : T 14 = some cf14 := rfl

theorem hT (m : Int) (f : Nat) (cf : CF) (h : T f = some cf) : ∃ fn mu fz, Tryd.prog.funcs[f]? = some fn ∧ cFunc (Gm m) Tryd.prog mu fn fz = some cf := by
  unfold T at h
  split at h
  · cases h; exact ⟨_, _, _, Tryd.func11, ok11 m⟩
  · cases h; exact ⟨_, _, _, Tryd.func14, ok14 m⟩
  · cases h

theorem good (m : Int) {X : Ext} (hX : ∀ f h, X f = some h → ∀ args s v s', h args s = some (v, s') → CallC (Gm m) Tryd.prog f args s v s') : Good (Gm m) Tryd.prog T X := ⟨by kernel_rfl, hT m, hX⟩
end Go.Am.Y2
