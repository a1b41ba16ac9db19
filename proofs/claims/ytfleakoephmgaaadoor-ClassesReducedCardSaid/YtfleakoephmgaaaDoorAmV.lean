/- The rules of weakest runs, as rewritings. Conditions: none. -/
import Derived.Test.YtfleakoephmgaaaDoorAmR
set_option linter.unusedSimpArgs false
set_option linter.unusedVariables false
namespace Go.Am
section
variable {T : Nat → Option CF} {X : Ext}

def WR (T : Nat → Option CF) (X : Ext) (ops : List CO) (e : Env) (s : St) (Q : Env → St → Prop) : Prop :=
  ∃ n e' s', evRest (evCall T X n) ops e s = some (e', s') ∧ Q e' s'

variable {e : Env} {s : St} {Q : CX → Env → St → Prop} {R : Env → St → Prop} {U : List (Env × St) → Env → St → Prop}

theorem ev_pos {n : Nat} {c : CC} {r : CX × Env × St} (h : ev T X n c e s = some r) : ∃ m, n = m + 1 := by
  cases n with
  | zero => simp [ev] at h
  | succ m => exact ⟨m, rfl⟩

theorem wskip : W T X .skip e s Q ↔ Q .normal e s :=
  ⟨fun ⟨n, x, e', s', h, hq⟩ => by obtain ⟨m, rfl⟩ := ev_pos h; simp only [ev, Option.some.injEq, Prod.mk.injEq] at h; obtain ⟨rfl, rfl, rfl⟩ := h; exact hq, W_skip⟩
theorem wret : W T X .ret e s Q ↔ Q .ret e s :=
  ⟨fun ⟨n, x, e', s', h, hq⟩ => by obtain ⟨m, rfl⟩ := ev_pos h; simp only [ev, Option.some.injEq, Prod.mk.injEq] at h; obtain ⟨rfl, rfl, rfl⟩ := h; exact hq, W_ret⟩
theorem wexit {i : Nat} : W T X (.exit i) e s Q ↔ Q (.exit i) e s :=
  ⟨fun ⟨n, x, e', s', h, hq⟩ => by obtain ⟨m, rfl⟩ := ev_pos h; simp only [ev, Option.some.injEq, Prod.mk.injEq] at h; obtain ⟨rfl, rfl, rfl⟩ := h; exact hq, W_exit⟩

theorem wseq {a b : CC} : W T X (.seq a b) e s Q ↔ W T X a e s (Then T X b Q) := by
  refine ⟨fun ⟨n, x, e', s', h, hq⟩ => ?_, W_seq⟩
  obtain ⟨m, rfl⟩ := ev_pos h
  rw [ev] at h
  split at h
  · rename_i e1 s1 h1
    exact ⟨m, _, _, _, h1, m, _, _, _, h, hq⟩
  · rename_i hn
    refine ⟨m, _, _, _, h, ?_⟩
    cases x with
    | normal => exact absurd h (hn _ _)
    | _ => exact hq

theorem wcond {c : Opd} {a b : CC} : W T X (.cond c a b) e s Q ↔ ∃ t, c.ev e = .bool t ∧ (if t = true then W T X a e s Q else W T X b e s Q) := by
  refine ⟨fun ⟨n, x, e', s', h, hq⟩ => ?_, fun ⟨t, h1, h2⟩ => W_cond t h1 (fun ht => by rwa [if_pos ht] at h2) (fun ht => by rwa [if_neg (by simp [ht])] at h2)⟩
  obtain ⟨m, rfl⟩ := ev_pos h
  rw [ev] at h
  split at h
  · rename_i hc; exact ⟨true, hc, by rw [if_pos rfl]; exact ⟨m, _, _, _, h, hq⟩⟩
  · rename_i hc; exact ⟨false, hc, by rw [if_neg (by simp)]; exact ⟨m, _, _, _, h, hq⟩⟩
  · cases h

theorem wblock {id : Nat} {b : CC} : W T X (.block id b) e s Q ↔ W T X b e s (Catch id Q) := by
  refine ⟨fun ⟨n, x, e', s', h, hq⟩ => ?_, W_block⟩
  obtain ⟨m, rfl⟩ := ev_pos h
  rw [ev] at h
  split at h
  · rename_i j e1 s1 h1
    refine ⟨m, _, _, _, h1, ?_⟩
    simp only [Catch]
    split at h
    · rename_i hj; rw [if_pos hj]; cases h; exact hq
    · rename_i hj; rw [if_neg hj]; cases h; exact hq
  · rename_i hn
    refine ⟨m, _, _, _, h, ?_⟩
    cases x with
    | exit j => exact absurd h (hn _ _ _)
    | _ => exact hq

theorem wreg {ops : List CO} : W T X (.reg ops) e s Q ↔ WO T X ops e s (Q .normal) := by
  refine ⟨fun ⟨n, x, e', s', h, hq⟩ => ?_, W_reg⟩
  obtain ⟨m, rfl⟩ := ev_pos h
  rw [ev] at h
  split at h
  · rename_i e1 s1 h1; cases h; exact ⟨m, _, _, h1, hq⟩
  · cases h

theorem wdreg {ops : List CO} : W T X (.dreg ops []) e s Q ↔ WR T X ops (evAllocs ops e s).1 (evAllocs ops e s).2 (Q .normal) := by
  constructor
  · rintro ⟨n, x, e', s', h, hq⟩
    obtain ⟨m, rfl⟩ := ev_pos h
    rw [ev] at h
    split at h
    · rename_i e1 s1 h1
      rw [if_pos (by rfl)] at h
      cases h
      exact ⟨m, _, _, h1, hq⟩
    · cases h
  · rintro ⟨n, e', s', h, hq⟩
    exact ⟨n + 1, _, _, _, by rw [ev, h]; simp only [List.all_nil, if_true], hq⟩

theorem then_n {b : CC} : Then T X b Q .normal e s ↔ W T X b e s Q := Iff.rfl
theorem then_x {b : CC} {i : Nat} : Then T X b Q (.exit i) e s ↔ Q (.exit i) e s := Iff.rfl
theorem then_r {b : CC} : Then T X b Q .ret e s ↔ Q .ret e s := Iff.rfl
theorem catch_n {i : Nat} : Catch i Q .normal e s ↔ Q .normal e s := Iff.rfl
theorem catch_x {i j : Nat} : Catch i Q (.exit j) e s ↔ if j = i then Q .normal e s else Q (.exit j) e s := Iff.rfl
theorem catch_r {i : Nat} : Catch i Q .ret e s ↔ Q .ret e s := Iff.rfl

def opk : COp → Nat
  | .mv _ => 0
  | .pick _ _ _ => 0
  | .alloc _ => 1
  | .box _ => 0
  | .build _ _ => 0
  | .bsl _ _ _ _ => 0
  | .load _ _ _ => 0
  | .store _ _ _ => 0
  | .nilc _ => 0
  | .bin _ _ _ => 0
  | .eqb _ _ _ => 0
  | .eqnil _ _ _ => 0
  | .un _ _ => 0
  | .conv _ _ => 0
  | .clo _ _ => 0
  | .slc _ _ _ _ _ => 0
  | .sls _ _ _ => 0
  | .faddr _ _ => 0
  | .fld _ _ _ _ => 0
  | .iaddr _ _ _ => 0
  | .idx _ _ => 0
  | .ext _ _ => 0
  | .len _ => 0
  | .lens _ => 0
  | .app _ _ _ _ _ _ => 0
  | .eqs _ _ _ _ => 0
  | .shf _ _ _ => 0
  | .builda _ _ => 0
  | .idxa _ _ _ _ _ => 0
  | .mm _ _ => 0
  | .mksl _ _ _ _ _ => 0
  | .frz _ => 0
  | .stuck => 0
  | .iaddra _ _ _ _ => 0
  | .bslm _ _ _ _ => 0
  | .mkif _ _ => 0
  | .asrt _ _ _ _ => 0
  | .eqni _ _ => 0
  | .rcv => 0
  | .dfr _ _ => 0
  | .pan _ => 0
  | .s2b _ => 0
  | .mmk => 0
  | .mlk _ _ _ => 0
  | .mup _ _ _ => 0
  | .mdl _ _ => 0
  | .eqp _ _ _ => 0
  | .clr _ _ => 0
  | .call _ _ => 2
  | .callv _ _ => 2

theorem opk_alloc {o : COp} (h : opk o = 0) : isAlloc o = false := by cases o <;> first | rfl | cases h

theorem evOp_pure {c : CallF} {o : COp} (h : opk o ≠ 2) : evOp c o e s = evOp noCall o e s := by
  cases o <;> first | rfl | exact absurd rfl h

theorem wo_nil : WO T X [] e s R ↔ R e s := ⟨fun ⟨n, e', s', h, hq⟩ => by cases h; exact hq, WO_nil⟩
theorem wo_op {d : Option Nat} {o : COp} {r : List CO} (hc : opk o ≠ 2) : WO T X (⟨d, none, o⟩ :: r) e s R ↔ ∃ v s1, evOp noCall o e s = some (v, s1) ∧ WO T X r (e.put d v) s1 R := by
  refine ⟨fun ⟨n, e', s', h, hq⟩ => ?_, fun ⟨v, s1, h1, h2⟩ => WO_op rfl h1 h2⟩
  simp only [evOps, wantedA, if_true] at h
  rw [evOp_pure hc] at h
  split at h
  · rename_i v s1 h1; exact ⟨v, s1, h1, n, e', s', h, hq⟩
  · cases h
theorem wo_guard {d : Option Nat} {o : COp} {r : List CO} {g : Option Nat × Bool} : WO T X (⟨d, some g, o⟩ :: r) e s R ↔ if wantedA e (some g) = true then WO T X (⟨d, none, o⟩ :: r) e s R else WO T X r (e.put d undefA) s R := by
  by_cases hg : wantedA e (some g) = true
  · rw [if_pos hg]; unfold WO; simp only [evOps, hg, if_true]; rfl
  · rw [if_neg hg]; unfold WO; simp only [evOps, hg]; rfl

theorem wanted_none : wantedA e none = true := rfl
theorem wr_nil : WR T X [] e s R ↔ R e s := ⟨fun ⟨n, e', s', h, hq⟩ => by cases h; exact hq, fun h => ⟨0, _, _, rfl, h⟩⟩
theorem wr_alloc {d : Option Nat} {g : Option (Option Nat × Bool)} {zs : List AV} {r : List CO} : WR T X (⟨d, g, .alloc zs⟩ :: r) e s R ↔ WR T X r e s R := by
  unfold WR; simp only [evRest, isAlloc, if_true]
theorem wr_op {d : Option Nat} {o : COp} {r : List CO} (hc : opk o = 0) : WR T X (⟨d, none, o⟩ :: r) e s R ↔ ∃ v s1, evOp noCall o e s = some (v, s1) ∧ WR T X r (e.put d v) s1 R := by
  have ha := opk_alloc hc
  constructor
  · rintro ⟨n, e', s', h, hq⟩
    simp only [evRest, ha, wantedA, if_true] at h
    rw [if_neg (by simp), evOp_pure (by omega)] at h
    split at h
    · rename_i v s1 h1; exact ⟨v, s1, h1, n, e', s', h, hq⟩
    · cases h
  · rintro ⟨v, s1, h1, n, e', s', h, hq⟩
    refine ⟨n, e', s', ?_, hq⟩
    simp only [evRest, ha, wantedA, if_true]
    rw [if_neg (by simp), evOp_pure (by omega), h1]
    exact h
theorem wr_guard {d : Option Nat} {o : COp} {r : List CO} {g : Option Nat × Bool} (hc : opk o = 0 ∨ opk o = 2) : WR T X (⟨d, some g, o⟩ :: r) e s R ↔ if wantedA e (some g) = true then WR T X (⟨d, none, o⟩ :: r) e s R else WR T X r (e.put d undefA) s R := by
  have ha : isAlloc o = false := by cases o <;> first | rfl | (simp only [opk] at hc; omega)
  by_cases hg : wantedA e (some g) = true
  · rw [if_pos hg]; unfold WR; simp only [evRest, hg, ha, wanted_none, if_true]
  · rw [if_neg hg]; unfold WR; simp only [evRest, hg, ha]; rfl

theorem wt_nil : WT T X [] e s U ↔ U [(e, s)] e s := ⟨fun ⟨n, e', s', h, hq⟩ => by cases h; exact hq, WT_nil⟩
theorem wt_op {d : Option Nat} {o : COp} {r : List CO} (hc : opk o = 0) :
    WT T X (⟨d, none, o⟩ :: r) e s U ↔ ∃ v s1, evOp noCall o e s = some (v, s1) ∧ WT T X r (e.put d v) s1 (fun tr => U ((e, s) :: tr)) := by
  have ha := opk_alloc hc
  refine ⟨fun ⟨n, e', s', h, hq⟩ => ?_, fun ⟨v, s1, h1, h2⟩ => WT_op ha rfl h1 h2⟩
  simp only [evRest, ha, wantedA, if_true] at h
  rw [if_neg (by simp), evOp_pure (by omega)] at h
  split at h
  · rename_i v s1 h1
    refine ⟨v, s1, h1, n, e', s', h, ?_⟩
    simp only [evTr, ha, wantedA, if_true] at hq
    rw [if_neg (by simp), evOp_pure (by omega), h1] at hq
    exact hq
  · cases h

/-! ### Looking up -/
theorem eset_app (e : Env) (k : Nat) (v : AV) (j : Nat) : (e.set k v) j = if j = k then v else e j := rfl
theorem eput_some (e : Env) (k : Nat) (v : AV) : e.put (some k) v = e.set k v := rfl
theorem eput_none (e : Env) (v : AV) : e.put none v = e := rfl
theorem env0_app (l : List AV) (j : Nat) : env0 l j = l.getD j undefA := rfl
theorem snew_size (s : St) (o : AO) : (s.new o).size = s.size + 1 := rfl
theorem sput_size (s : St) (i : Nat) (o : Option AO) : (s.put i o).size = s.size := rfl
theorem snew_obj (s : St) (o : AO) (j : Nat) : (s.new o).obj j = if j = s.size then some o else s.obj j := rfl
theorem sput_obj (s : St) (i : Nat) (o : Option AO) (j : Nat) : (s.put i o).obj j = if j = i then o else s.obj j := rfl
/-! ### The operations one by one: no binder stands where the rewriting goes -/
def StpO (T : Nat → Option CF) (X : Ext) (x : Option (AV × St)) (d : Option Nat) (r : List CO) (e : Env) (R : Env → St → Prop) : Prop := ∃ v s1, x = some (v, s1) ∧ WO T X r (e.put d v) s1 R
def StpR (T : Nat → Option CF) (X : Ext) (x : Option (AV × St)) (d : Option Nat) (r : List CO) (e : Env) (R : Env → St → Prop) : Prop := ∃ v s1, x = some (v, s1) ∧ WR T X r (e.put d v) s1 R
def Tr (e : Env) (s : St) (U : List (Env × St) → Env → St → Prop) (tr : List (Env × St)) : Env → St → Prop := U ((e, s) :: tr)
def StpT (T : Nat → Option CF) (X : Ext) (x : Option (AV × St)) (d : Option Nat) (r : List CO) (e : Env) (U : List (Env × St) → Env → St → Prop) : Prop := ∃ v s1, x = some (v, s1) ∧ WT T X r (e.put d v) s1 U
def GrdO (T : Nat → Option CF) (X : Ext) (b : Bool) (d : Option Nat) (o : COp) (r : List CO) (e : Env) (s : St) (R : Env → St → Prop) : Prop := if b = true then WO T X (⟨d, none, o⟩ :: r) e s R else WO T X r (e.put d undefA) s R
def GrdR (T : Nat → Option CF) (X : Ext) (b : Bool) (d : Option Nat) (o : COp) (r : List CO) (e : Env) (s : St) (R : Env → St → Prop) : Prop := if b = true then WR T X (⟨d, none, o⟩ :: r) e s R else WR T X r (e.put d undefA) s R
def Cnd (T : Nat → Option CF) (X : Ext) (v : AV) (a b : CC) (e : Env) (s : St) (Q : CX → Env → St → Prop) : Prop := ∃ t, v = .bool t ∧ (if t = true then W T X a e s Q else W T X b e s Q)
theorem stpO {v : AV} {s1 : St} {d : Option Nat} {r : List CO} : StpO T X (some (v, s1)) d r e R ↔ WO T X r (e.put d v) s1 R := ⟨fun ⟨_, _, h, hp⟩ => by cases h; exact hp, fun h => ⟨v, s1, rfl, h⟩⟩
theorem stpR {v : AV} {s1 : St} {d : Option Nat} {r : List CO} : StpR T X (some (v, s1)) d r e R ↔ WR T X r (e.put d v) s1 R := ⟨fun ⟨_, _, h, hp⟩ => by cases h; exact hp, fun h => ⟨v, s1, rfl, h⟩⟩
theorem stpT {v : AV} {s1 : St} {d : Option Nat} {r : List CO} : StpT T X (some (v, s1)) d r e U ↔ WT T X r (e.put d v) s1 U := ⟨fun ⟨_, _, h, hp⟩ => by cases h; exact hp, fun h => ⟨v, s1, rfl, h⟩⟩
theorem grdO_t {d : Option Nat} {o : COp} {r : List CO} : GrdO T X true d o r e s R ↔ WO T X (⟨d, none, o⟩ :: r) e s R := by simp [GrdO]
theorem grdO_f {d : Option Nat} {o : COp} {r : List CO} : GrdO T X false d o r e s R ↔ WO T X r (e.put d undefA) s R := by simp [GrdO]
theorem grdR_t {d : Option Nat} {o : COp} {r : List CO} : GrdR T X true d o r e s R ↔ WR T X (⟨d, none, o⟩ :: r) e s R := by simp [GrdR]
theorem grdR_f {d : Option Nat} {o : COp} {r : List CO} : GrdR T X false d o r e s R ↔ WR T X r (e.put d undefA) s R := by simp [GrdR]
theorem cnd_t {a b : CC} : Cnd T X (.bool true) a b e s Q ↔ W T X a e s Q := ⟨fun ⟨_, h, hp⟩ => by cases h; simpa using hp, fun h => ⟨true, rfl, by simpa using h⟩⟩
theorem cnd_f {a b : CC} : Cnd T X (.bool false) a b e s Q ↔ W T X b e s Q := ⟨fun ⟨_, h, hp⟩ => by cases h; simpa using hp, fun h => ⟨false, rfl, by simpa using h⟩⟩
theorem wcnd {c : Opd} {a b : CC} : W T X (.cond c a b) e s Q ↔ Cnd T X (c.ev e) a b e s Q := wcond
theorem wo_grd {d : Option Nat} {o : COp} {r : List CO} {g : Option Nat × Bool} : WO T X (⟨d, some g, o⟩ :: r) e s R ↔ GrdO T X (wantedA e (some g)) d o r e s R := wo_guard

theorem wo_ops : (∀ (T : Nat → Option CF) (X : Ext) (d : Option Nat) (r : List CO) (e : Env) (s : St) (R : Env → St → Prop) x0, WO T X (⟨d, none, .mv x0⟩ :: r) e s R ↔ StpO T X (evOp noCall (.mv x0) e s) d r e R) ∧
    (∀ (T : Nat → Option CF) (X : Ext) (d : Option Nat) (r : List CO) (e : Env) (s : St) (R : Env → St → Prop) x0 x1 x2, WO T X (⟨d, none, .pick x0 x1 x2⟩ :: r) e s R ↔ StpO T X (evOp noCall (.pick x0 x1 x2) e s) d r e R) ∧
    (∀ (T : Nat → Option CF) (X : Ext) (d : Option Nat) (r : List CO) (e : Env) (s : St) (R : Env → St → Prop) x0, WO T X (⟨d, none, .alloc x0⟩ :: r) e s R ↔ StpO T X (evOp noCall (.alloc x0) e s) d r e R) ∧
    (∀ (T : Nat → Option CF) (X : Ext) (d : Option Nat) (r : List CO) (e : Env) (s : St) (R : Env → St → Prop) x0, WO T X (⟨d, none, .box x0⟩ :: r) e s R ↔ StpO T X (evOp noCall (.box x0) e s) d r e R) ∧
    (∀ (T : Nat → Option CF) (X : Ext) (d : Option Nat) (r : List CO) (e : Env) (s : St) (R : Env → St → Prop) x0 x1, WO T X (⟨d, none, .build x0 x1⟩ :: r) e s R ↔ StpO T X (evOp noCall (.build x0 x1) e s) d r e R) ∧
    (∀ (T : Nat → Option CF) (X : Ext) (d : Option Nat) (r : List CO) (e : Env) (s : St) (R : Env → St → Prop) x0 x1 x2 x3, WO T X (⟨d, none, .bsl x0 x1 x2 x3⟩ :: r) e s R ↔ StpO T X (evOp noCall (.bsl x0 x1 x2 x3) e s) d r e R) ∧
    (∀ (T : Nat → Option CF) (X : Ext) (d : Option Nat) (r : List CO) (e : Env) (s : St) (R : Env → St → Prop) x0 x1 x2, WO T X (⟨d, none, .load x0 x1 x2⟩ :: r) e s R ↔ StpO T X (evOp noCall (.load x0 x1 x2) e s) d r e R) ∧
    (∀ (T : Nat → Option CF) (X : Ext) (d : Option Nat) (r : List CO) (e : Env) (s : St) (R : Env → St → Prop) x0 x1 x2, WO T X (⟨d, none, .store x0 x1 x2⟩ :: r) e s R ↔ StpO T X (evOp noCall (.store x0 x1 x2) e s) d r e R) ∧
    (∀ (T : Nat → Option CF) (X : Ext) (d : Option Nat) (r : List CO) (e : Env) (s : St) (R : Env → St → Prop) x0, WO T X (⟨d, none, .nilc x0⟩ :: r) e s R ↔ StpO T X (evOp noCall (.nilc x0) e s) d r e R) ∧
    (∀ (T : Nat → Option CF) (X : Ext) (d : Option Nat) (r : List CO) (e : Env) (s : St) (R : Env → St → Prop) x0 x1 x2, WO T X (⟨d, none, .bin x0 x1 x2⟩ :: r) e s R ↔ StpO T X (evOp noCall (.bin x0 x1 x2) e s) d r e R) ∧
    (∀ (T : Nat → Option CF) (X : Ext) (d : Option Nat) (r : List CO) (e : Env) (s : St) (R : Env → St → Prop) x0 x1 x2, WO T X (⟨d, none, .eqb x0 x1 x2⟩ :: r) e s R ↔ StpO T X (evOp noCall (.eqb x0 x1 x2) e s) d r e R) ∧
    (∀ (T : Nat → Option CF) (X : Ext) (d : Option Nat) (r : List CO) (e : Env) (s : St) (R : Env → St → Prop) x0 x1 x2, WO T X (⟨d, none, .eqnil x0 x1 x2⟩ :: r) e s R ↔ StpO T X (evOp noCall (.eqnil x0 x1 x2) e s) d r e R) ∧
    (∀ (T : Nat → Option CF) (X : Ext) (d : Option Nat) (r : List CO) (e : Env) (s : St) (R : Env → St → Prop) x0 x1, WO T X (⟨d, none, .un x0 x1⟩ :: r) e s R ↔ StpO T X (evOp noCall (.un x0 x1) e s) d r e R) ∧
    (∀ (T : Nat → Option CF) (X : Ext) (d : Option Nat) (r : List CO) (e : Env) (s : St) (R : Env → St → Prop) x0 x1, WO T X (⟨d, none, .conv x0 x1⟩ :: r) e s R ↔ StpO T X (evOp noCall (.conv x0 x1) e s) d r e R) ∧
    (∀ (T : Nat → Option CF) (X : Ext) (d : Option Nat) (r : List CO) (e : Env) (s : St) (R : Env → St → Prop) x0 x1, WO T X (⟨d, none, .clo x0 x1⟩ :: r) e s R ↔ StpO T X (evOp noCall (.clo x0 x1) e s) d r e R) ∧
    (∀ (T : Nat → Option CF) (X : Ext) (d : Option Nat) (r : List CO) (e : Env) (s : St) (R : Env → St → Prop) x0 x1 x2 x3 x4, WO T X (⟨d, none, .slc x0 x1 x2 x3 x4⟩ :: r) e s R ↔ StpO T X (evOp noCall (.slc x0 x1 x2 x3 x4) e s) d r e R) ∧
    (∀ (T : Nat → Option CF) (X : Ext) (d : Option Nat) (r : List CO) (e : Env) (s : St) (R : Env → St → Prop) x0 x1 x2, WO T X (⟨d, none, .sls x0 x1 x2⟩ :: r) e s R ↔ StpO T X (evOp noCall (.sls x0 x1 x2) e s) d r e R) ∧
    (∀ (T : Nat → Option CF) (X : Ext) (d : Option Nat) (r : List CO) (e : Env) (s : St) (R : Env → St → Prop) x0 x1, WO T X (⟨d, none, .faddr x0 x1⟩ :: r) e s R ↔ StpO T X (evOp noCall (.faddr x0 x1) e s) d r e R) ∧
    (∀ (T : Nat → Option CF) (X : Ext) (d : Option Nat) (r : List CO) (e : Env) (s : St) (R : Env → St → Prop) x0 x1 x2 x3, WO T X (⟨d, none, .fld x0 x1 x2 x3⟩ :: r) e s R ↔ StpO T X (evOp noCall (.fld x0 x1 x2 x3) e s) d r e R) ∧
    (∀ (T : Nat → Option CF) (X : Ext) (d : Option Nat) (r : List CO) (e : Env) (s : St) (R : Env → St → Prop) x0 x1 x2, WO T X (⟨d, none, .iaddr x0 x1 x2⟩ :: r) e s R ↔ StpO T X (evOp noCall (.iaddr x0 x1 x2) e s) d r e R) ∧
    (∀ (T : Nat → Option CF) (X : Ext) (d : Option Nat) (r : List CO) (e : Env) (s : St) (R : Env → St → Prop) x0 x1, WO T X (⟨d, none, .idx x0 x1⟩ :: r) e s R ↔ StpO T X (evOp noCall (.idx x0 x1) e s) d r e R) ∧
    (∀ (T : Nat → Option CF) (X : Ext) (d : Option Nat) (r : List CO) (e : Env) (s : St) (R : Env → St → Prop) x0 x1, WO T X (⟨d, none, .ext x0 x1⟩ :: r) e s R ↔ StpO T X (evOp noCall (.ext x0 x1) e s) d r e R) ∧
    (∀ (T : Nat → Option CF) (X : Ext) (d : Option Nat) (r : List CO) (e : Env) (s : St) (R : Env → St → Prop) x0, WO T X (⟨d, none, .len x0⟩ :: r) e s R ↔ StpO T X (evOp noCall (.len x0) e s) d r e R) ∧
    (∀ (T : Nat → Option CF) (X : Ext) (d : Option Nat) (r : List CO) (e : Env) (s : St) (R : Env → St → Prop) x0, WO T X (⟨d, none, .lens x0⟩ :: r) e s R ↔ StpO T X (evOp noCall (.lens x0) e s) d r e R) ∧
    (∀ (T : Nat → Option CF) (X : Ext) (d : Option Nat) (r : List CO) (e : Env) (s : St) (R : Env → St → Prop) x0 x1 x2 x3 x4 x5, WO T X (⟨d, none, .app x0 x1 x2 x3 x4 x5⟩ :: r) e s R ↔ StpO T X (evOp noCall (.app x0 x1 x2 x3 x4 x5) e s) d r e R) ∧
    (∀ (T : Nat → Option CF) (X : Ext) (d : Option Nat) (r : List CO) (e : Env) (s : St) (R : Env → St → Prop) x0 x1 x2 x3, WO T X (⟨d, none, .eqs x0 x1 x2 x3⟩ :: r) e s R ↔ StpO T X (evOp noCall (.eqs x0 x1 x2 x3) e s) d r e R) ∧
    (∀ (T : Nat → Option CF) (X : Ext) (d : Option Nat) (r : List CO) (e : Env) (s : St) (R : Env → St → Prop) x0 x1 x2, WO T X (⟨d, none, .shf x0 x1 x2⟩ :: r) e s R ↔ StpO T X (evOp noCall (.shf x0 x1 x2) e s) d r e R) ∧
    (∀ (T : Nat → Option CF) (X : Ext) (d : Option Nat) (r : List CO) (e : Env) (s : St) (R : Env → St → Prop) x0 x1, WO T X (⟨d, none, .builda x0 x1⟩ :: r) e s R ↔ StpO T X (evOp noCall (.builda x0 x1) e s) d r e R) ∧
    (∀ (T : Nat → Option CF) (X : Ext) (d : Option Nat) (r : List CO) (e : Env) (s : St) (R : Env → St → Prop) x0 x1 x2 x3 x4, WO T X (⟨d, none, .idxa x0 x1 x2 x3 x4⟩ :: r) e s R ↔ StpO T X (evOp noCall (.idxa x0 x1 x2 x3 x4) e s) d r e R) ∧
    (∀ (T : Nat → Option CF) (X : Ext) (d : Option Nat) (r : List CO) (e : Env) (s : St) (R : Env → St → Prop) x0 x1, WO T X (⟨d, none, .mm x0 x1⟩ :: r) e s R ↔ StpO T X (evOp noCall (.mm x0 x1) e s) d r e R) ∧
    (∀ (T : Nat → Option CF) (X : Ext) (d : Option Nat) (r : List CO) (e : Env) (s : St) (R : Env → St → Prop) x0 x1 x2 x3 x4, WO T X (⟨d, none, .mksl x0 x1 x2 x3 x4⟩ :: r) e s R ↔ StpO T X (evOp noCall (.mksl x0 x1 x2 x3 x4) e s) d r e R) ∧
    (∀ (T : Nat → Option CF) (X : Ext) (d : Option Nat) (r : List CO) (e : Env) (s : St) (R : Env → St → Prop) x0, WO T X (⟨d, none, .frz x0⟩ :: r) e s R ↔ StpO T X (evOp noCall (.frz x0) e s) d r e R) ∧
    (∀ (T : Nat → Option CF) (X : Ext) (d : Option Nat) (r : List CO) (e : Env) (s : St) (R : Env → St → Prop) x0 x1 x2 x3, WO T X (⟨d, none, .iaddra x0 x1 x2 x3⟩ :: r) e s R ↔ StpO T X (evOp noCall (.iaddra x0 x1 x2 x3) e s) d r e R) := by
  refine ⟨?_, ?_, ?_, ?_, ?_, ?_, ?_, ?_, ?_, ?_, ?_, ?_, ?_, ?_, ?_, ?_, ?_, ?_, ?_, ?_, ?_, ?_, ?_, ?_, ?_, ?_, ?_, ?_, ?_, ?_, ?_, ?_, ?_⟩ <;> intros <;> exact wo_op (by simp only [opk]; omega)

theorem wr_ops : (∀ (T : Nat → Option CF) (X : Ext) (d : Option Nat) (r : List CO) (e : Env) (s : St) (R : Env → St → Prop) x0, WR T X (⟨d, none, .mv x0⟩ :: r) e s R ↔ StpR T X (evOp noCall (.mv x0) e s) d r e R) ∧
    (∀ (T : Nat → Option CF) (X : Ext) (d : Option Nat) (r : List CO) (e : Env) (s : St) (R : Env → St → Prop) x0 x1 x2, WR T X (⟨d, none, .pick x0 x1 x2⟩ :: r) e s R ↔ StpR T X (evOp noCall (.pick x0 x1 x2) e s) d r e R) ∧
    (∀ (T : Nat → Option CF) (X : Ext) (d : Option Nat) (r : List CO) (e : Env) (s : St) (R : Env → St → Prop) x0, WR T X (⟨d, none, .box x0⟩ :: r) e s R ↔ StpR T X (evOp noCall (.box x0) e s) d r e R) ∧
    (∀ (T : Nat → Option CF) (X : Ext) (d : Option Nat) (r : List CO) (e : Env) (s : St) (R : Env → St → Prop) x0 x1, WR T X (⟨d, none, .build x0 x1⟩ :: r) e s R ↔ StpR T X (evOp noCall (.build x0 x1) e s) d r e R) ∧
    (∀ (T : Nat → Option CF) (X : Ext) (d : Option Nat) (r : List CO) (e : Env) (s : St) (R : Env → St → Prop) x0 x1 x2 x3, WR T X (⟨d, none, .bsl x0 x1 x2 x3⟩ :: r) e s R ↔ StpR T X (evOp noCall (.bsl x0 x1 x2 x3) e s) d r e R) ∧
    (∀ (T : Nat → Option CF) (X : Ext) (d : Option Nat) (r : List CO) (e : Env) (s : St) (R : Env → St → Prop) x0 x1 x2, WR T X (⟨d, none, .load x0 x1 x2⟩ :: r) e s R ↔ StpR T X (evOp noCall (.load x0 x1 x2) e s) d r e R) ∧
    (∀ (T : Nat → Option CF) (X : Ext) (d : Option Nat) (r : List CO) (e : Env) (s : St) (R : Env → St → Prop) x0 x1 x2, WR T X (⟨d, none, .store x0 x1 x2⟩ :: r) e s R ↔ StpR T X (evOp noCall (.store x0 x1 x2) e s) d r e R) ∧
    (∀ (T : Nat → Option CF) (X : Ext) (d : Option Nat) (r : List CO) (e : Env) (s : St) (R : Env → St → Prop) x0, WR T X (⟨d, none, .nilc x0⟩ :: r) e s R ↔ StpR T X (evOp noCall (.nilc x0) e s) d r e R) ∧
    (∀ (T : Nat → Option CF) (X : Ext) (d : Option Nat) (r : List CO) (e : Env) (s : St) (R : Env → St → Prop) x0 x1 x2, WR T X (⟨d, none, .bin x0 x1 x2⟩ :: r) e s R ↔ StpR T X (evOp noCall (.bin x0 x1 x2) e s) d r e R) ∧
    (∀ (T : Nat → Option CF) (X : Ext) (d : Option Nat) (r : List CO) (e : Env) (s : St) (R : Env → St → Prop) x0 x1 x2, WR T X (⟨d, none, .eqb x0 x1 x2⟩ :: r) e s R ↔ StpR T X (evOp noCall (.eqb x0 x1 x2) e s) d r e R) ∧
    (∀ (T : Nat → Option CF) (X : Ext) (d : Option Nat) (r : List CO) (e : Env) (s : St) (R : Env → St → Prop) x0 x1 x2, WR T X (⟨d, none, .eqnil x0 x1 x2⟩ :: r) e s R ↔ StpR T X (evOp noCall (.eqnil x0 x1 x2) e s) d r e R) ∧
    (∀ (T : Nat → Option CF) (X : Ext) (d : Option Nat) (r : List CO) (e : Env) (s : St) (R : Env → St → Prop) x0 x1, WR T X (⟨d, none, .un x0 x1⟩ :: r) e s R ↔ StpR T X (evOp noCall (.un x0 x1) e s) d r e R) ∧
    (∀ (T : Nat → Option CF) (X : Ext) (d : Option Nat) (r : List CO) (e : Env) (s : St) (R : Env → St → Prop) x0 x1, WR T X (⟨d, none, .conv x0 x1⟩ :: r) e s R ↔ StpR T X (evOp noCall (.conv x0 x1) e s) d r e R) ∧
    (∀ (T : Nat → Option CF) (X : Ext) (d : Option Nat) (r : List CO) (e : Env) (s : St) (R : Env → St → Prop) x0 x1, WR T X (⟨d, none, .clo x0 x1⟩ :: r) e s R ↔ StpR T X (evOp noCall (.clo x0 x1) e s) d r e R) ∧
    (∀ (T : Nat → Option CF) (X : Ext) (d : Option Nat) (r : List CO) (e : Env) (s : St) (R : Env → St → Prop) x0 x1 x2 x3 x4, WR T X (⟨d, none, .slc x0 x1 x2 x3 x4⟩ :: r) e s R ↔ StpR T X (evOp noCall (.slc x0 x1 x2 x3 x4) e s) d r e R) ∧
    (∀ (T : Nat → Option CF) (X : Ext) (d : Option Nat) (r : List CO) (e : Env) (s : St) (R : Env → St → Prop) x0 x1 x2, WR T X (⟨d, none, .sls x0 x1 x2⟩ :: r) e s R ↔ StpR T X (evOp noCall (.sls x0 x1 x2) e s) d r e R) ∧
    (∀ (T : Nat → Option CF) (X : Ext) (d : Option Nat) (r : List CO) (e : Env) (s : St) (R : Env → St → Prop) x0 x1, WR T X (⟨d, none, .faddr x0 x1⟩ :: r) e s R ↔ StpR T X (evOp noCall (.faddr x0 x1) e s) d r e R) ∧
    (∀ (T : Nat → Option CF) (X : Ext) (d : Option Nat) (r : List CO) (e : Env) (s : St) (R : Env → St → Prop) x0 x1 x2 x3, WR T X (⟨d, none, .fld x0 x1 x2 x3⟩ :: r) e s R ↔ StpR T X (evOp noCall (.fld x0 x1 x2 x3) e s) d r e R) ∧
    (∀ (T : Nat → Option CF) (X : Ext) (d : Option Nat) (r : List CO) (e : Env) (s : St) (R : Env → St → Prop) x0 x1 x2, WR T X (⟨d, none, .iaddr x0 x1 x2⟩ :: r) e s R ↔ StpR T X (evOp noCall (.iaddr x0 x1 x2) e s) d r e R) ∧
    (∀ (T : Nat → Option CF) (X : Ext) (d : Option Nat) (r : List CO) (e : Env) (s : St) (R : Env → St → Prop) x0 x1, WR T X (⟨d, none, .idx x0 x1⟩ :: r) e s R ↔ StpR T X (evOp noCall (.idx x0 x1) e s) d r e R) ∧
    (∀ (T : Nat → Option CF) (X : Ext) (d : Option Nat) (r : List CO) (e : Env) (s : St) (R : Env → St → Prop) x0 x1, WR T X (⟨d, none, .ext x0 x1⟩ :: r) e s R ↔ StpR T X (evOp noCall (.ext x0 x1) e s) d r e R) ∧
    (∀ (T : Nat → Option CF) (X : Ext) (d : Option Nat) (r : List CO) (e : Env) (s : St) (R : Env → St → Prop) x0, WR T X (⟨d, none, .len x0⟩ :: r) e s R ↔ StpR T X (evOp noCall (.len x0) e s) d r e R) ∧
    (∀ (T : Nat → Option CF) (X : Ext) (d : Option Nat) (r : List CO) (e : Env) (s : St) (R : Env → St → Prop) x0, WR T X (⟨d, none, .lens x0⟩ :: r) e s R ↔ StpR T X (evOp noCall (.lens x0) e s) d r e R) ∧
    (∀ (T : Nat → Option CF) (X : Ext) (d : Option Nat) (r : List CO) (e : Env) (s : St) (R : Env → St → Prop) x0 x1 x2 x3 x4 x5, WR T X (⟨d, none, .app x0 x1 x2 x3 x4 x5⟩ :: r) e s R ↔ StpR T X (evOp noCall (.app x0 x1 x2 x3 x4 x5) e s) d r e R) ∧
    (∀ (T : Nat → Option CF) (X : Ext) (d : Option Nat) (r : List CO) (e : Env) (s : St) (R : Env → St → Prop) x0 x1 x2 x3, WR T X (⟨d, none, .eqs x0 x1 x2 x3⟩ :: r) e s R ↔ StpR T X (evOp noCall (.eqs x0 x1 x2 x3) e s) d r e R) ∧
    (∀ (T : Nat → Option CF) (X : Ext) (d : Option Nat) (r : List CO) (e : Env) (s : St) (R : Env → St → Prop) x0 x1 x2, WR T X (⟨d, none, .shf x0 x1 x2⟩ :: r) e s R ↔ StpR T X (evOp noCall (.shf x0 x1 x2) e s) d r e R) ∧
    (∀ (T : Nat → Option CF) (X : Ext) (d : Option Nat) (r : List CO) (e : Env) (s : St) (R : Env → St → Prop) x0 x1, WR T X (⟨d, none, .builda x0 x1⟩ :: r) e s R ↔ StpR T X (evOp noCall (.builda x0 x1) e s) d r e R) ∧
    (∀ (T : Nat → Option CF) (X : Ext) (d : Option Nat) (r : List CO) (e : Env) (s : St) (R : Env → St → Prop) x0 x1 x2 x3 x4, WR T X (⟨d, none, .idxa x0 x1 x2 x3 x4⟩ :: r) e s R ↔ StpR T X (evOp noCall (.idxa x0 x1 x2 x3 x4) e s) d r e R) ∧
    (∀ (T : Nat → Option CF) (X : Ext) (d : Option Nat) (r : List CO) (e : Env) (s : St) (R : Env → St → Prop) x0 x1, WR T X (⟨d, none, .mm x0 x1⟩ :: r) e s R ↔ StpR T X (evOp noCall (.mm x0 x1) e s) d r e R) ∧
    (∀ (T : Nat → Option CF) (X : Ext) (d : Option Nat) (r : List CO) (e : Env) (s : St) (R : Env → St → Prop) x0 x1 x2 x3 x4, WR T X (⟨d, none, .mksl x0 x1 x2 x3 x4⟩ :: r) e s R ↔ StpR T X (evOp noCall (.mksl x0 x1 x2 x3 x4) e s) d r e R) ∧
    (∀ (T : Nat → Option CF) (X : Ext) (d : Option Nat) (r : List CO) (e : Env) (s : St) (R : Env → St → Prop) x0, WR T X (⟨d, none, .frz x0⟩ :: r) e s R ↔ StpR T X (evOp noCall (.frz x0) e s) d r e R) ∧
    (∀ (T : Nat → Option CF) (X : Ext) (d : Option Nat) (r : List CO) (e : Env) (s : St) (R : Env → St → Prop) x0 x1 x2 x3, WR T X (⟨d, none, .iaddra x0 x1 x2 x3⟩ :: r) e s R ↔ StpR T X (evOp noCall (.iaddra x0 x1 x2 x3) e s) d r e R) := by
  refine ⟨?_, ?_, ?_, ?_, ?_, ?_, ?_, ?_, ?_, ?_, ?_, ?_, ?_, ?_, ?_, ?_, ?_, ?_, ?_, ?_, ?_, ?_, ?_, ?_, ?_, ?_, ?_, ?_, ?_, ?_, ?_, ?_⟩ <;> intros <;> exact wr_op rfl

theorem wt_ops : (∀ (T : Nat → Option CF) (X : Ext) (d : Option Nat) (r : List CO) (e : Env) (s : St) (U : List (Env × St) → Env → St → Prop) x0, WT T X (⟨d, none, .mv x0⟩ :: r) e s U ↔ StpT T X (evOp noCall (.mv x0) e s) d r e (Tr e s U)) ∧
    (∀ (T : Nat → Option CF) (X : Ext) (d : Option Nat) (r : List CO) (e : Env) (s : St) (U : List (Env × St) → Env → St → Prop) x0 x1 x2, WT T X (⟨d, none, .pick x0 x1 x2⟩ :: r) e s U ↔ StpT T X (evOp noCall (.pick x0 x1 x2) e s) d r e (Tr e s U)) ∧
    (∀ (T : Nat → Option CF) (X : Ext) (d : Option Nat) (r : List CO) (e : Env) (s : St) (U : List (Env × St) → Env → St → Prop) x0, WT T X (⟨d, none, .box x0⟩ :: r) e s U ↔ StpT T X (evOp noCall (.box x0) e s) d r e (Tr e s U)) ∧
    (∀ (T : Nat → Option CF) (X : Ext) (d : Option Nat) (r : List CO) (e : Env) (s : St) (U : List (Env × St) → Env → St → Prop) x0 x1, WT T X (⟨d, none, .build x0 x1⟩ :: r) e s U ↔ StpT T X (evOp noCall (.build x0 x1) e s) d r e (Tr e s U)) ∧
    (∀ (T : Nat → Option CF) (X : Ext) (d : Option Nat) (r : List CO) (e : Env) (s : St) (U : List (Env × St) → Env → St → Prop) x0 x1 x2 x3, WT T X (⟨d, none, .bsl x0 x1 x2 x3⟩ :: r) e s U ↔ StpT T X (evOp noCall (.bsl x0 x1 x2 x3) e s) d r e (Tr e s U)) ∧
    (∀ (T : Nat → Option CF) (X : Ext) (d : Option Nat) (r : List CO) (e : Env) (s : St) (U : List (Env × St) → Env → St → Prop) x0 x1 x2, WT T X (⟨d, none, .load x0 x1 x2⟩ :: r) e s U ↔ StpT T X (evOp noCall (.load x0 x1 x2) e s) d r e (Tr e s U)) ∧
    (∀ (T : Nat → Option CF) (X : Ext) (d : Option Nat) (r : List CO) (e : Env) (s : St) (U : List (Env × St) → Env → St → Prop) x0 x1 x2, WT T X (⟨d, none, .store x0 x1 x2⟩ :: r) e s U ↔ StpT T X (evOp noCall (.store x0 x1 x2) e s) d r e (Tr e s U)) ∧
    (∀ (T : Nat → Option CF) (X : Ext) (d : Option Nat) (r : List CO) (e : Env) (s : St) (U : List (Env × St) → Env → St → Prop) x0, WT T X (⟨d, none, .nilc x0⟩ :: r) e s U ↔ StpT T X (evOp noCall (.nilc x0) e s) d r e (Tr e s U)) ∧
    (∀ (T : Nat → Option CF) (X : Ext) (d : Option Nat) (r : List CO) (e : Env) (s : St) (U : List (Env × St) → Env → St → Prop) x0 x1 x2, WT T X (⟨d, none, .bin x0 x1 x2⟩ :: r) e s U ↔ StpT T X (evOp noCall (.bin x0 x1 x2) e s) d r e (Tr e s U)) ∧
    (∀ (T : Nat → Option CF) (X : Ext) (d : Option Nat) (r : List CO) (e : Env) (s : St) (U : List (Env × St) → Env → St → Prop) x0 x1 x2, WT T X (⟨d, none, .eqb x0 x1 x2⟩ :: r) e s U ↔ StpT T X (evOp noCall (.eqb x0 x1 x2) e s) d r e (Tr e s U)) ∧
    (∀ (T : Nat → Option CF) (X : Ext) (d : Option Nat) (r : List CO) (e : Env) (s : St) (U : List (Env × St) → Env → St → Prop) x0 x1 x2, WT T X (⟨d, none, .eqnil x0 x1 x2⟩ :: r) e s U ↔ StpT T X (evOp noCall (.eqnil x0 x1 x2) e s) d r e (Tr e s U)) ∧
    (∀ (T : Nat → Option CF) (X : Ext) (d : Option Nat) (r : List CO) (e : Env) (s : St) (U : List (Env × St) → Env → St → Prop) x0 x1, WT T X (⟨d, none, .un x0 x1⟩ :: r) e s U ↔ StpT T X (evOp noCall (.un x0 x1) e s) d r e (Tr e s U)) ∧
    (∀ (T : Nat → Option CF) (X : Ext) (d : Option Nat) (r : List CO) (e : Env) (s : St) (U : List (Env × St) → Env → St → Prop) x0 x1, WT T X (⟨d, none, .conv x0 x1⟩ :: r) e s U ↔ StpT T X (evOp noCall (.conv x0 x1) e s) d r e (Tr e s U)) ∧
    (∀ (T : Nat → Option CF) (X : Ext) (d : Option Nat) (r : List CO) (e : Env) (s : St) (U : List (Env × St) → Env → St → Prop) x0 x1, WT T X (⟨d, none, .clo x0 x1⟩ :: r) e s U ↔ StpT T X (evOp noCall (.clo x0 x1) e s) d r e (Tr e s U)) ∧
    (∀ (T : Nat → Option CF) (X : Ext) (d : Option Nat) (r : List CO) (e : Env) (s : St) (U : List (Env × St) → Env → St → Prop) x0 x1 x2 x3 x4, WT T X (⟨d, none, .slc x0 x1 x2 x3 x4⟩ :: r) e s U ↔ StpT T X (evOp noCall (.slc x0 x1 x2 x3 x4) e s) d r e (Tr e s U)) ∧
    (∀ (T : Nat → Option CF) (X : Ext) (d : Option Nat) (r : List CO) (e : Env) (s : St) (U : List (Env × St) → Env → St → Prop) x0 x1 x2, WT T X (⟨d, none, .sls x0 x1 x2⟩ :: r) e s U ↔ StpT T X (evOp noCall (.sls x0 x1 x2) e s) d r e (Tr e s U)) ∧
    (∀ (T : Nat → Option CF) (X : Ext) (d : Option Nat) (r : List CO) (e : Env) (s : St) (U : List (Env × St) → Env → St → Prop) x0 x1, WT T X (⟨d, none, .faddr x0 x1⟩ :: r) e s U ↔ StpT T X (evOp noCall (.faddr x0 x1) e s) d r e (Tr e s U)) ∧
    (∀ (T : Nat → Option CF) (X : Ext) (d : Option Nat) (r : List CO) (e : Env) (s : St) (U : List (Env × St) → Env → St → Prop) x0 x1 x2 x3, WT T X (⟨d, none, .fld x0 x1 x2 x3⟩ :: r) e s U ↔ StpT T X (evOp noCall (.fld x0 x1 x2 x3) e s) d r e (Tr e s U)) ∧
    (∀ (T : Nat → Option CF) (X : Ext) (d : Option Nat) (r : List CO) (e : Env) (s : St) (U : List (Env × St) → Env → St → Prop) x0 x1 x2, WT T X (⟨d, none, .iaddr x0 x1 x2⟩ :: r) e s U ↔ StpT T X (evOp noCall (.iaddr x0 x1 x2) e s) d r e (Tr e s U)) ∧
    (∀ (T : Nat → Option CF) (X : Ext) (d : Option Nat) (r : List CO) (e : Env) (s : St) (U : List (Env × St) → Env → St → Prop) x0 x1, WT T X (⟨d, none, .idx x0 x1⟩ :: r) e s U ↔ StpT T X (evOp noCall (.idx x0 x1) e s) d r e (Tr e s U)) ∧
    (∀ (T : Nat → Option CF) (X : Ext) (d : Option Nat) (r : List CO) (e : Env) (s : St) (U : List (Env × St) → Env → St → Prop) x0 x1, WT T X (⟨d, none, .ext x0 x1⟩ :: r) e s U ↔ StpT T X (evOp noCall (.ext x0 x1) e s) d r e (Tr e s U)) ∧
    (∀ (T : Nat → Option CF) (X : Ext) (d : Option Nat) (r : List CO) (e : Env) (s : St) (U : List (Env × St) → Env → St → Prop) x0, WT T X (⟨d, none, .len x0⟩ :: r) e s U ↔ StpT T X (evOp noCall (.len x0) e s) d r e (Tr e s U)) ∧
    (∀ (T : Nat → Option CF) (X : Ext) (d : Option Nat) (r : List CO) (e : Env) (s : St) (U : List (Env × St) → Env → St → Prop) x0, WT T X (⟨d, none, .lens x0⟩ :: r) e s U ↔ StpT T X (evOp noCall (.lens x0) e s) d r e (Tr e s U)) ∧
    (∀ (T : Nat → Option CF) (X : Ext) (d : Option Nat) (r : List CO) (e : Env) (s : St) (U : List (Env × St) → Env → St → Prop) x0 x1 x2 x3 x4 x5, WT T X (⟨d, none, .app x0 x1 x2 x3 x4 x5⟩ :: r) e s U ↔ StpT T X (evOp noCall (.app x0 x1 x2 x3 x4 x5) e s) d r e (Tr e s U)) ∧
    (∀ (T : Nat → Option CF) (X : Ext) (d : Option Nat) (r : List CO) (e : Env) (s : St) (U : List (Env × St) → Env → St → Prop) x0 x1 x2 x3, WT T X (⟨d, none, .eqs x0 x1 x2 x3⟩ :: r) e s U ↔ StpT T X (evOp noCall (.eqs x0 x1 x2 x3) e s) d r e (Tr e s U)) ∧
    (∀ (T : Nat → Option CF) (X : Ext) (d : Option Nat) (r : List CO) (e : Env) (s : St) (U : List (Env × St) → Env → St → Prop) x0 x1 x2, WT T X (⟨d, none, .shf x0 x1 x2⟩ :: r) e s U ↔ StpT T X (evOp noCall (.shf x0 x1 x2) e s) d r e (Tr e s U)) ∧
    (∀ (T : Nat → Option CF) (X : Ext) (d : Option Nat) (r : List CO) (e : Env) (s : St) (U : List (Env × St) → Env → St → Prop) x0 x1, WT T X (⟨d, none, .builda x0 x1⟩ :: r) e s U ↔ StpT T X (evOp noCall (.builda x0 x1) e s) d r e (Tr e s U)) ∧
    (∀ (T : Nat → Option CF) (X : Ext) (d : Option Nat) (r : List CO) (e : Env) (s : St) (U : List (Env × St) → Env → St → Prop) x0 x1 x2 x3 x4, WT T X (⟨d, none, .idxa x0 x1 x2 x3 x4⟩ :: r) e s U ↔ StpT T X (evOp noCall (.idxa x0 x1 x2 x3 x4) e s) d r e (Tr e s U)) ∧
    (∀ (T : Nat → Option CF) (X : Ext) (d : Option Nat) (r : List CO) (e : Env) (s : St) (U : List (Env × St) → Env → St → Prop) x0 x1, WT T X (⟨d, none, .mm x0 x1⟩ :: r) e s U ↔ StpT T X (evOp noCall (.mm x0 x1) e s) d r e (Tr e s U)) ∧
    (∀ (T : Nat → Option CF) (X : Ext) (d : Option Nat) (r : List CO) (e : Env) (s : St) (U : List (Env × St) → Env → St → Prop) x0 x1 x2 x3 x4, WT T X (⟨d, none, .mksl x0 x1 x2 x3 x4⟩ :: r) e s U ↔ StpT T X (evOp noCall (.mksl x0 x1 x2 x3 x4) e s) d r e (Tr e s U)) ∧
    (∀ (T : Nat → Option CF) (X : Ext) (d : Option Nat) (r : List CO) (e : Env) (s : St) (U : List (Env × St) → Env → St → Prop) x0, WT T X (⟨d, none, .frz x0⟩ :: r) e s U ↔ StpT T X (evOp noCall (.frz x0) e s) d r e (Tr e s U)) ∧
    (∀ (T : Nat → Option CF) (X : Ext) (d : Option Nat) (r : List CO) (e : Env) (s : St) (U : List (Env × St) → Env → St → Prop) x0 x1 x2 x3, WT T X (⟨d, none, .iaddra x0 x1 x2 x3⟩ :: r) e s U ↔ StpT T X (evOp noCall (.iaddra x0 x1 x2 x3) e s) d r e (Tr e s U)) := by
  refine ⟨?_, ?_, ?_, ?_, ?_, ?_, ?_, ?_, ?_, ?_, ?_, ?_, ?_, ?_, ?_, ?_, ?_, ?_, ?_, ?_, ?_, ?_, ?_, ?_, ?_, ?_, ?_, ?_, ?_, ?_, ?_, ?_⟩ <;> intros <;> exact wt_op rfl

theorem wr_guards : (∀ (T : Nat → Option CF) (X : Ext) (d : Option Nat) (g : Option Nat × Bool) (r : List CO) (e : Env) (s : St) (R : Env → St → Prop) x0, WR T X (⟨d, some g, .mv x0⟩ :: r) e s R ↔ GrdR T X (wantedA e (some g)) d (.mv x0) r e s R) ∧
    (∀ (T : Nat → Option CF) (X : Ext) (d : Option Nat) (g : Option Nat × Bool) (r : List CO) (e : Env) (s : St) (R : Env → St → Prop) x0 x1 x2, WR T X (⟨d, some g, .pick x0 x1 x2⟩ :: r) e s R ↔ GrdR T X (wantedA e (some g)) d (.pick x0 x1 x2) r e s R) ∧
    (∀ (T : Nat → Option CF) (X : Ext) (d : Option Nat) (g : Option Nat × Bool) (r : List CO) (e : Env) (s : St) (R : Env → St → Prop) x0, WR T X (⟨d, some g, .box x0⟩ :: r) e s R ↔ GrdR T X (wantedA e (some g)) d (.box x0) r e s R) ∧
    (∀ (T : Nat → Option CF) (X : Ext) (d : Option Nat) (g : Option Nat × Bool) (r : List CO) (e : Env) (s : St) (R : Env → St → Prop) x0 x1, WR T X (⟨d, some g, .build x0 x1⟩ :: r) e s R ↔ GrdR T X (wantedA e (some g)) d (.build x0 x1) r e s R) ∧
    (∀ (T : Nat → Option CF) (X : Ext) (d : Option Nat) (g : Option Nat × Bool) (r : List CO) (e : Env) (s : St) (R : Env → St → Prop) x0 x1 x2 x3, WR T X (⟨d, some g, .bsl x0 x1 x2 x3⟩ :: r) e s R ↔ GrdR T X (wantedA e (some g)) d (.bsl x0 x1 x2 x3) r e s R) ∧
    (∀ (T : Nat → Option CF) (X : Ext) (d : Option Nat) (g : Option Nat × Bool) (r : List CO) (e : Env) (s : St) (R : Env → St → Prop) x0 x1 x2, WR T X (⟨d, some g, .load x0 x1 x2⟩ :: r) e s R ↔ GrdR T X (wantedA e (some g)) d (.load x0 x1 x2) r e s R) ∧
    (∀ (T : Nat → Option CF) (X : Ext) (d : Option Nat) (g : Option Nat × Bool) (r : List CO) (e : Env) (s : St) (R : Env → St → Prop) x0 x1 x2, WR T X (⟨d, some g, .store x0 x1 x2⟩ :: r) e s R ↔ GrdR T X (wantedA e (some g)) d (.store x0 x1 x2) r e s R) ∧
    (∀ (T : Nat → Option CF) (X : Ext) (d : Option Nat) (g : Option Nat × Bool) (r : List CO) (e : Env) (s : St) (R : Env → St → Prop) x0, WR T X (⟨d, some g, .nilc x0⟩ :: r) e s R ↔ GrdR T X (wantedA e (some g)) d (.nilc x0) r e s R) ∧
    (∀ (T : Nat → Option CF) (X : Ext) (d : Option Nat) (g : Option Nat × Bool) (r : List CO) (e : Env) (s : St) (R : Env → St → Prop) x0 x1 x2, WR T X (⟨d, some g, .bin x0 x1 x2⟩ :: r) e s R ↔ GrdR T X (wantedA e (some g)) d (.bin x0 x1 x2) r e s R) ∧
    (∀ (T : Nat → Option CF) (X : Ext) (d : Option Nat) (g : Option Nat × Bool) (r : List CO) (e : Env) (s : St) (R : Env → St → Prop) x0 x1 x2, WR T X (⟨d, some g, .eqb x0 x1 x2⟩ :: r) e s R ↔ GrdR T X (wantedA e (some g)) d (.eqb x0 x1 x2) r e s R) ∧
    (∀ (T : Nat → Option CF) (X : Ext) (d : Option Nat) (g : Option Nat × Bool) (r : List CO) (e : Env) (s : St) (R : Env → St → Prop) x0 x1 x2, WR T X (⟨d, some g, .eqnil x0 x1 x2⟩ :: r) e s R ↔ GrdR T X (wantedA e (some g)) d (.eqnil x0 x1 x2) r e s R) ∧
    (∀ (T : Nat → Option CF) (X : Ext) (d : Option Nat) (g : Option Nat × Bool) (r : List CO) (e : Env) (s : St) (R : Env → St → Prop) x0 x1, WR T X (⟨d, some g, .un x0 x1⟩ :: r) e s R ↔ GrdR T X (wantedA e (some g)) d (.un x0 x1) r e s R) ∧
    (∀ (T : Nat → Option CF) (X : Ext) (d : Option Nat) (g : Option Nat × Bool) (r : List CO) (e : Env) (s : St) (R : Env → St → Prop) x0 x1, WR T X (⟨d, some g, .conv x0 x1⟩ :: r) e s R ↔ GrdR T X (wantedA e (some g)) d (.conv x0 x1) r e s R) ∧
    (∀ (T : Nat → Option CF) (X : Ext) (d : Option Nat) (g : Option Nat × Bool) (r : List CO) (e : Env) (s : St) (R : Env → St → Prop) x0 x1, WR T X (⟨d, some g, .clo x0 x1⟩ :: r) e s R ↔ GrdR T X (wantedA e (some g)) d (.clo x0 x1) r e s R) ∧
    (∀ (T : Nat → Option CF) (X : Ext) (d : Option Nat) (g : Option Nat × Bool) (r : List CO) (e : Env) (s : St) (R : Env → St → Prop) x0 x1 x2 x3 x4, WR T X (⟨d, some g, .slc x0 x1 x2 x3 x4⟩ :: r) e s R ↔ GrdR T X (wantedA e (some g)) d (.slc x0 x1 x2 x3 x4) r e s R) ∧
    (∀ (T : Nat → Option CF) (X : Ext) (d : Option Nat) (g : Option Nat × Bool) (r : List CO) (e : Env) (s : St) (R : Env → St → Prop) x0 x1 x2, WR T X (⟨d, some g, .sls x0 x1 x2⟩ :: r) e s R ↔ GrdR T X (wantedA e (some g)) d (.sls x0 x1 x2) r e s R) ∧
    (∀ (T : Nat → Option CF) (X : Ext) (d : Option Nat) (g : Option Nat × Bool) (r : List CO) (e : Env) (s : St) (R : Env → St → Prop) x0 x1, WR T X (⟨d, some g, .faddr x0 x1⟩ :: r) e s R ↔ GrdR T X (wantedA e (some g)) d (.faddr x0 x1) r e s R) ∧
    (∀ (T : Nat → Option CF) (X : Ext) (d : Option Nat) (g : Option Nat × Bool) (r : List CO) (e : Env) (s : St) (R : Env → St → Prop) x0 x1 x2 x3, WR T X (⟨d, some g, .fld x0 x1 x2 x3⟩ :: r) e s R ↔ GrdR T X (wantedA e (some g)) d (.fld x0 x1 x2 x3) r e s R) ∧
    (∀ (T : Nat → Option CF) (X : Ext) (d : Option Nat) (g : Option Nat × Bool) (r : List CO) (e : Env) (s : St) (R : Env → St → Prop) x0 x1 x2, WR T X (⟨d, some g, .iaddr x0 x1 x2⟩ :: r) e s R ↔ GrdR T X (wantedA e (some g)) d (.iaddr x0 x1 x2) r e s R) ∧
    (∀ (T : Nat → Option CF) (X : Ext) (d : Option Nat) (g : Option Nat × Bool) (r : List CO) (e : Env) (s : St) (R : Env → St → Prop) x0 x1, WR T X (⟨d, some g, .idx x0 x1⟩ :: r) e s R ↔ GrdR T X (wantedA e (some g)) d (.idx x0 x1) r e s R) ∧
    (∀ (T : Nat → Option CF) (X : Ext) (d : Option Nat) (g : Option Nat × Bool) (r : List CO) (e : Env) (s : St) (R : Env → St → Prop) x0 x1, WR T X (⟨d, some g, .ext x0 x1⟩ :: r) e s R ↔ GrdR T X (wantedA e (some g)) d (.ext x0 x1) r e s R) ∧
    (∀ (T : Nat → Option CF) (X : Ext) (d : Option Nat) (g : Option Nat × Bool) (r : List CO) (e : Env) (s : St) (R : Env → St → Prop) x0, WR T X (⟨d, some g, .len x0⟩ :: r) e s R ↔ GrdR T X (wantedA e (some g)) d (.len x0) r e s R) ∧
    (∀ (T : Nat → Option CF) (X : Ext) (d : Option Nat) (g : Option Nat × Bool) (r : List CO) (e : Env) (s : St) (R : Env → St → Prop) x0, WR T X (⟨d, some g, .lens x0⟩ :: r) e s R ↔ GrdR T X (wantedA e (some g)) d (.lens x0) r e s R) ∧
    (∀ (T : Nat → Option CF) (X : Ext) (d : Option Nat) (g : Option Nat × Bool) (r : List CO) (e : Env) (s : St) (R : Env → St → Prop) x0 x1 x2 x3 x4 x5, WR T X (⟨d, some g, .app x0 x1 x2 x3 x4 x5⟩ :: r) e s R ↔ GrdR T X (wantedA e (some g)) d (.app x0 x1 x2 x3 x4 x5) r e s R) ∧
    (∀ (T : Nat → Option CF) (X : Ext) (d : Option Nat) (g : Option Nat × Bool) (r : List CO) (e : Env) (s : St) (R : Env → St → Prop) x0 x1 x2 x3, WR T X (⟨d, some g, .eqs x0 x1 x2 x3⟩ :: r) e s R ↔ GrdR T X (wantedA e (some g)) d (.eqs x0 x1 x2 x3) r e s R) ∧
    (∀ (T : Nat → Option CF) (X : Ext) (d : Option Nat) (g : Option Nat × Bool) (r : List CO) (e : Env) (s : St) (R : Env → St → Prop) x0 x1 x2, WR T X (⟨d, some g, .shf x0 x1 x2⟩ :: r) e s R ↔ GrdR T X (wantedA e (some g)) d (.shf x0 x1 x2) r e s R) ∧
    (∀ (T : Nat → Option CF) (X : Ext) (d : Option Nat) (g : Option Nat × Bool) (r : List CO) (e : Env) (s : St) (R : Env → St → Prop) x0 x1, WR T X (⟨d, some g, .builda x0 x1⟩ :: r) e s R ↔ GrdR T X (wantedA e (some g)) d (.builda x0 x1) r e s R) ∧
    (∀ (T : Nat → Option CF) (X : Ext) (d : Option Nat) (g : Option Nat × Bool) (r : List CO) (e : Env) (s : St) (R : Env → St → Prop) x0 x1 x2 x3 x4, WR T X (⟨d, some g, .idxa x0 x1 x2 x3 x4⟩ :: r) e s R ↔ GrdR T X (wantedA e (some g)) d (.idxa x0 x1 x2 x3 x4) r e s R) ∧
    (∀ (T : Nat → Option CF) (X : Ext) (d : Option Nat) (g : Option Nat × Bool) (r : List CO) (e : Env) (s : St) (R : Env → St → Prop) x0 x1, WR T X (⟨d, some g, .mm x0 x1⟩ :: r) e s R ↔ GrdR T X (wantedA e (some g)) d (.mm x0 x1) r e s R) ∧
    (∀ (T : Nat → Option CF) (X : Ext) (d : Option Nat) (g : Option Nat × Bool) (r : List CO) (e : Env) (s : St) (R : Env → St → Prop) x0 x1 x2 x3 x4, WR T X (⟨d, some g, .mksl x0 x1 x2 x3 x4⟩ :: r) e s R ↔ GrdR T X (wantedA e (some g)) d (.mksl x0 x1 x2 x3 x4) r e s R) ∧
    (∀ (T : Nat → Option CF) (X : Ext) (d : Option Nat) (g : Option Nat × Bool) (r : List CO) (e : Env) (s : St) (R : Env → St → Prop) x0, WR T X (⟨d, some g, .frz x0⟩ :: r) e s R ↔ GrdR T X (wantedA e (some g)) d (.frz x0) r e s R) ∧
    (∀ (T : Nat → Option CF) (X : Ext) (d : Option Nat) (g : Option Nat × Bool) (r : List CO) (e : Env) (s : St) (R : Env → St → Prop) x0 x1 x2 x3, WR T X (⟨d, some g, .iaddra x0 x1 x2 x3⟩ :: r) e s R ↔ GrdR T X (wantedA e (some g)) d (.iaddra x0 x1 x2 x3) r e s R) ∧
    (∀ (T : Nat → Option CF) (X : Ext) (d : Option Nat) (g : Option Nat × Bool) (r : List CO) (e : Env) (s : St) (R : Env → St → Prop) x0 x1, WR T X (⟨d, some g, .call x0 x1⟩ :: r) e s R ↔ GrdR T X (wantedA e (some g)) d (.call x0 x1) r e s R) := by
  refine ⟨?_, ?_, ?_, ?_, ?_, ?_, ?_, ?_, ?_, ?_, ?_, ?_, ?_, ?_, ?_, ?_, ?_, ?_, ?_, ?_, ?_, ?_, ?_, ?_, ?_, ?_, ?_, ?_, ?_, ?_, ?_, ?_, ?_⟩ <;> intros <;> first | exact wr_guard (Or.inl rfl) | exact wr_guard (Or.inr rfl)

/-! ### Numbers and places -/
theorem n0 (n : Nat) : (n = n + 1) = False := by simp
theorem n1 (n : Nat) : (n = n + 1 + 1) = False := by simp only [eq_iff_iff, iff_false]; omega
theorem n2 (n : Nat) : (n = n + 1 + 1 + 1) = False := by simp only [eq_iff_iff, iff_false]; omega
theorem n3 (n : Nat) : (n = n + 1 + 1 + 1 + 1) = False := by simp only [eq_iff_iff, iff_false]; omega
theorem n4 (n : Nat) : (n = n + 1 + 1 + 1 + 1 + 1) = False := by simp only [eq_iff_iff, iff_false]; omega
theorem m0 (n : Nat) : (n + 1 = n) = False := by simp
theorem m1 (n : Nat) : (n + 1 + 1 = n) = False := by simp only [eq_iff_iff, iff_false]; omega
theorem m2 (n : Nat) : (n + 1 + 1 + 1 = n) = False := by simp only [eq_iff_iff, iff_false]; omega
theorem m3 (n : Nat) : (n + 1 + 1 + 1 + 1 = n) = False := by simp only [eq_iff_iff, iff_false]; omega
theorem l0 {i n : Nat} (h : i < n) : (i = n) = False := by simp only [eq_iff_iff, iff_false]; omega
theorem l1 {i n : Nat} (h : i < n) : (i = n + 1) = False := by simp only [eq_iff_iff, iff_false]; omega
theorem l2 {i n : Nat} (h : i < n) : (i = n + 1 + 1) = False := by simp only [eq_iff_iff, iff_false]; omega
theorem l3 {i n : Nat} (h : i < n) : (i = n + 1 + 1 + 1) = False := by simp only [eq_iff_iff, iff_false]; omega
theorem r0 {i n : Nat} (h : i < n) : (n = i) = False := by simp only [eq_iff_iff, iff_false]; omega
theorem r1 {i n : Nat} (h : i < n) : (n + 1 = i) = False := by simp only [eq_iff_iff, iff_false]; omega
theorem r2 {i n : Nat} (h : i < n) : (n + 1 + 1 = i) = False := by simp only [eq_iff_iff, iff_false]; omega
theorem c1 (a b : Nat) : (a + 1 = b + 1) = (a = b) := by simp
theorem bt (b : Bool) : (b == true) = b := by cases b <;> rfl
theorem bf (b : Bool) : (b == false) = !b := by cases b <;> rfl

theorem av_cells : (∀ cs, AV.cells (.agg cs) = cs) ∧
    (∀ b, AV.cells (.bool b) = [.bool b]) ∧
    (∀ k n, AV.cells (.int k n) = [.int k n]) ∧
    (∀ b, AV.cells (.str b) = [.str b]) ∧
    (AV.cells (.nilp) = [.nilp]) ∧
    (∀ i o, AV.cells (.ptr i o) = [.ptr i o]) ∧
    (∀ cs, AV.cells (.eptr cs) = [.eptr cs]) ∧
    (AV.cells (.nils) = [.nils]) ∧
    (∀ cs n f t, AV.cells (.sl cs n f t) = [.sl cs n f t]) ∧
    (∀ i o n z, AV.cells (.msl i o n z) = [.msl i o n z]) ∧
    (∀ f cs, AV.cells (.func f cs) = [.func f cs]) ∧
    (AV.cells (.nilf) = [.nilf]) ∧
    (∀ t v, AV.cells (.iface t v) = [.iface t v]) ∧
    (AV.cells (.niliface) = [.niliface]) := by
  refine ⟨?_, ?_, ?_, ?_, ?_, ?_, ?_, ?_, ?_, ?_, ?_, ?_, ?_, ?_⟩ <;> intros <;> rfl
theorem av_one : (∀ cs, AV.one (.agg cs) = false) ∧
    (∀ b, AV.one (.bool b) = true) ∧
    (∀ k n, AV.one (.int k n) = true) ∧
    (∀ b, AV.one (.str b) = true) ∧
    (AV.one (.nilp) = true) ∧
    (∀ i o, AV.one (.ptr i o) = true) ∧
    (∀ cs, AV.one (.eptr cs) = true) ∧
    (AV.one (.nils) = true) ∧
    (∀ cs n f t, AV.one (.sl cs n f t) = true) ∧
    (∀ i o n z, AV.one (.msl i o n z) = true) ∧
    (∀ f cs, AV.one (.func f cs) = true) ∧
    (AV.one (.nilf) = true) ∧
    (∀ t v, AV.one (.iface t v) = true) ∧
    (AV.one (.niliface) = true) := by
  refine ⟨?_, ?_, ?_, ?_, ?_, ?_, ?_, ?_, ?_, ?_, ?_, ?_, ?_, ?_⟩ <;> intros <;> rfl
theorem av_still : (∀ cs, AV.still (.agg cs) = false) ∧
    (∀ b, AV.still (.bool b) = true) ∧
    (∀ k n, AV.still (.int k n) = true) ∧
    (∀ b, AV.still (.str b) = true) ∧
    (AV.still (.nilp) = true) ∧
    (∀ i o, AV.still (.ptr i o) = true) ∧
    (∀ cs, AV.still (.eptr cs) = true) ∧
    (AV.still (.nils) = true) ∧
    (∀ cs n f t, AV.still (.sl cs n f t) = true) ∧
    (∀ i o n z, AV.still (.msl i o n z) = false) ∧
    (∀ f cs, AV.still (.func f cs) = true) ∧
    (AV.still (.nilf) = true) ∧
    (∀ t v, AV.still (.iface t v) = true) ∧
    (AV.still (.niliface) = true) := by
  refine ⟨?_, ?_, ?_, ?_, ?_, ?_, ?_, ?_, ?_, ?_, ?_, ?_, ?_, ?_⟩ <;> intros <;> rfl
theorem av_strip : (∀ b, AV.strip (.bool b) = .bool b) ∧
    (∀ k n, AV.strip (.int k n) = .int k n) ∧
    (∀ b, AV.strip (.str b) = .str b) ∧
    (AV.strip (.nilp) = .nilp) ∧
    (∀ i o, AV.strip (.ptr i o) = .ptr i o) ∧
    (∀ cs, AV.strip (.eptr cs) = .eptr cs) ∧
    (AV.strip (.nils) = .sl [] 0 false none) ∧
    (∀ cs n f t, AV.strip (.sl cs n f t) = .sl cs n false none) ∧
    (∀ i o n z, AV.strip (.msl i o n z) = .msl i o n z) ∧
    (∀ f cs, AV.strip (.func f cs) = .func f cs) ∧
    (AV.strip (.nilf) = .nilf) ∧
    (∀ t v, AV.strip (.iface t v) = .iface t v) ∧
    (AV.strip (.niliface) = .niliface) := by
  refine ⟨?_, ?_, ?_, ?_, ?_, ?_, ?_, ?_, ?_, ?_, ?_, ?_, ?_⟩ <;> intros <;> rfl

end
end Go.Am
