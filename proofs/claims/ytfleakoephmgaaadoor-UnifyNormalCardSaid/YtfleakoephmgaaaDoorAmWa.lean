/- Guarded steps, blocks and clear in regions of no order. Conditions: none. -/
import Derived.Test.YtfleakoephmgaaaDoorAmV
set_option linter.unusedSimpArgs false
set_option linter.unusedVariables false
namespace Go.Am
set_option maxRecDepth 100000
set_option linter.unusedSimpArgs false

/-- A guarded step of a region whose order is open. -/
def GrdT (T : Nat → Option CF) (X : Ext) (b : Bool) (d : Option Nat) (o : COp) (r : List CO) (e : Env) (s : St) (U : List (Env × St) → Env → St → Prop) : Prop :=
  if b = true then (∃ v s1, evOp noCall o e s = some (v, s1) ∧ WT T X r (e.put d v) s1 (Tr e s U)) else WT T X r (e.put d undefA) s (Tr e s U)
theorem wt_grd {T : Nat → Option CF} {X : Ext} {d : Option Nat} {o : COp} {r : List CO} {g : Option Nat × Bool} {e : Env} {s : St} {U : List (Env × St) → Env → St → Prop} (hc : opk o = 0) : WT T X (⟨d, some g, o⟩ :: r) e s U ↔ GrdT T X (wantedA e (some g)) d o r e s U := by
  have ha := opk_alloc hc
  unfold GrdT
  constructor
  · rintro ⟨n, e', s', h, hq⟩
    by_cases hg : wantedA e (some g) = true
    · rw [if_pos hg]
      simp only [evRest, ha] at h
      rw [if_neg (by simp), if_pos hg, evOp_pure (by omega)] at h
      split at h
      · rename_i v s1 h1
        refine ⟨v, s1, h1, n, e', s', h, ?_⟩
        simp only [evTr, ha] at hq
        rw [if_neg (by simp), if_pos hg, evOp_pure (by omega), h1] at hq
        exact hq
      · cases h
    · rw [if_neg hg]
      simp only [evRest, ha] at h
      rw [if_neg (by simp), if_neg hg] at h
      refine ⟨n, e', s', h, ?_⟩
      simp only [evTr, ha] at hq
      rw [if_neg (by simp), if_neg hg] at hq
      exact hq
  · intro h
    split at h
    · rename_i hg
      obtain ⟨v, s1, h1, h2⟩ := h
      exact WT_op ha hg h1 h2
    · rename_i hg
      exact WT_off ha (by simpa using hg) h
theorem wt_gs : (∀ (T : Nat → Option CF) (X : Ext) (d : Option Nat) (r : List CO) (g : Option Nat × Bool) (e : Env) (s : St) (U : List (Env × St) → Env → St → Prop) x0, WT T X (⟨d, some g, .mv x0⟩ :: r) e s U ↔ GrdT T X (wantedA e (some g)) d (.mv x0) r e s U) ∧
    (∀ (T : Nat → Option CF) (X : Ext) (d : Option Nat) (r : List CO) (g : Option Nat × Bool) (e : Env) (s : St) (U : List (Env × St) → Env → St → Prop) x0 x1 x2, WT T X (⟨d, some g, .bin x0 x1 x2⟩ :: r) e s U ↔ GrdT T X (wantedA e (some g)) d (.bin x0 x1 x2) r e s U) ∧
    (∀ (T : Nat → Option CF) (X : Ext) (d : Option Nat) (r : List CO) (g : Option Nat × Bool) (e : Env) (s : St) (U : List (Env × St) → Env → St → Prop) x0 x1 x2, WT T X (⟨d, some g, .load x0 x1 x2⟩ :: r) e s U ↔ GrdT T X (wantedA e (some g)) d (.load x0 x1 x2) r e s U) ∧
    (∀ (T : Nat → Option CF) (X : Ext) (d : Option Nat) (r : List CO) (g : Option Nat × Bool) (e : Env) (s : St) (U : List (Env × St) → Env → St → Prop) x0 x1 x2, WT T X (⟨d, some g, .iaddr x0 x1 x2⟩ :: r) e s U ↔ GrdT T X (wantedA e (some g)) d (.iaddr x0 x1 x2) r e s U) ∧
    (∀ (T : Nat → Option CF) (X : Ext) (d : Option Nat) (r : List CO) (g : Option Nat × Bool) (e : Env) (s : St) (U : List (Env × St) → Env → St → Prop) x0 x1 x2, WT T X (⟨d, some g, .pick x0 x1 x2⟩ :: r) e s U ↔ GrdT T X (wantedA e (some g)) d (.pick x0 x1 x2) r e s U) ∧
    (∀ (T : Nat → Option CF) (X : Ext) (d : Option Nat) (r : List CO) (g : Option Nat × Bool) (e : Env) (s : St) (U : List (Env × St) → Env → St → Prop) x0, WT T X (⟨d, some g, .len x0⟩ :: r) e s U ↔ GrdT T X (wantedA e (some g)) d (.len x0) r e s U) ∧
    (∀ (T : Nat → Option CF) (X : Ext) (d : Option Nat) (r : List CO) (g : Option Nat × Bool) (e : Env) (s : St) (U : List (Env × St) → Env → St → Prop) x0, WT T X (⟨d, some g, .lens x0⟩ :: r) e s U ↔ GrdT T X (wantedA e (some g)) d (.lens x0) r e s U) ∧
    (∀ (T : Nat → Option CF) (X : Ext) (d : Option Nat) (r : List CO) (g : Option Nat × Bool) (e : Env) (s : St) (U : List (Env × St) → Env → St → Prop) x0 x1, WT T X (⟨d, some g, .faddr x0 x1⟩ :: r) e s U ↔ GrdT T X (wantedA e (some g)) d (.faddr x0 x1) r e s U) ∧
    (∀ (T : Nat → Option CF) (X : Ext) (d : Option Nat) (r : List CO) (g : Option Nat × Bool) (e : Env) (s : St) (U : List (Env × St) → Env → St → Prop) x0, WT T X (⟨d, some g, .nilc x0⟩ :: r) e s U ↔ GrdT T X (wantedA e (some g)) d (.nilc x0) r e s U) ∧
    (∀ (T : Nat → Option CF) (X : Ext) (d : Option Nat) (r : List CO) (g : Option Nat × Bool) (e : Env) (s : St) (U : List (Env × St) → Env → St → Prop) x0 x1 x2 x3, WT T X (⟨d, some g, .fld x0 x1 x2 x3⟩ :: r) e s U ↔ GrdT T X (wantedA e (some g)) d (.fld x0 x1 x2 x3) r e s U) := by
  refine ⟨?_, ?_, ?_, ?_, ?_, ?_, ?_, ?_, ?_, ?_⟩ <;> intros <;> exact wt_grd rfl
theorem grdT_t {T : Nat → Option CF} {X : Ext} {d : Option Nat} {o : COp} {r : List CO} {e : Env} {s : St} {U : List (Env × St) → Env → St → Prop} : GrdT T X true d o r e s U ↔ StpT T X (evOp noCall o e s) d r e (Tr e s U) := by simp [GrdT, StpT]
theorem grdT_f {T : Nat → Option CF} {X : Ext} {d : Option Nat} {o : COp} {r : List CO} {e : Env} {s : St} {U : List (Env × St) → Env → St → Prop} : GrdT T X false d o r e s U ↔ WT T X r (e.put d undefA) s (Tr e s U) := by simp [GrdT]
theorem WT_callg {T : Nat → Option CF} {X : Ext} {d : Option Nat} {f : Nat} {args : List Opd} {r : List CO} {g : Option (Option Nat × Bool)} {e : Env} {s : St} {U : List (Env × St) → Env → St → Prop} (as' : List AV) (hg : wantedA e g = true) (ha : args.map (Opd.ev e) = as')
    (h : WC T X f as' s (fun v s1 => WT T X r (e.put d v) s1 (Tr e s U))) : WT T X (⟨d, g, .call f args⟩ :: r) e s U := by
  subst ha; exact WT_call hg h

theorem wt_alloc {T : Nat → Option CF} {X : Ext} {d : Option Nat} {g : Option (Option Nat × Bool)} {zs : List AV} {r : List CO} {e : Env} {s : St} {U : List (Env × St) → Env → St → Prop} : WT T X (⟨d, g, .alloc zs⟩ :: r) e s U ↔ WT T X r e s (Tr e s U) := by
  refine ⟨fun ⟨n, e', s', h1, h2⟩ => ⟨n, e', s', by simpa [evRest, isAlloc] using h1, by have := h2; simp only [evTr, isAlloc, if_true] at this; exact this⟩, WT_alloc⟩

theorem wo_clr {T : Nat → Option CF} {X : Ext} {d : Option Nat} {r : List CO} {e : Env} {s : St} {R : Env → St → Prop} {zs : List AV} {x : Opd} : WO T X (⟨d, none, .clr zs x⟩ :: r) e s R ↔ StpO T X (evOp noCall (.clr zs x) e s) d r e R := wo_op (by simp only [opk]; omega)
end Go.Am
