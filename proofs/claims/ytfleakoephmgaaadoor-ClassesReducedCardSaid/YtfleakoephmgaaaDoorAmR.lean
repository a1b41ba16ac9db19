/- Reasoning about runs of the abstract machine. Conditions: none. -/
import Derived.Test.YtfleakoephmgaaaDoorAmA
import Derived.Test.YtfleakoephmgaaaDoorAmL
import Derived.Carry
set_option linter.unusedSimpArgs false
set_option linter.unusedVariables false
namespace Go.Am

abbrev CallF := Nat → List AV → St → Option (AV × St)

def CLe (c1 c2 : CallF) : Prop := ∀ f a s r, c1 f a s = some r → c2 f a s = some r

def noCall : CallF := fun _ _ _ => none
theorem noCall_le (c : CallF) : CLe noCall c := fun _ _ _ _ h => by cases h

theorem evOp_mono {c1 c2 : CallF} (h : CLe c1 c2) {o : COp} {e : Env} {s : St} {r : AV × St} (hr : evOp c1 o e s = some r) : evOp c2 o e s = some r := by
  cases o with
  | call f args => exact h _ _ _ _ hr
  | callv x args =>
    simp only [evOp] at hr ⊢
    split at hr
    · exact h _ _ _ _ hr
    · cases hr
  | _ => exact hr

theorem evOps_mono {c1 c2 : CallF} (h : CLe c1 c2) : ∀ (ops : List CO) (e : Env) (s : St) (r : Env × St), evOps c1 ops e s = some r → evOps c2 ops e s = some r
  | [], _, _, _, hr => hr
  | o :: ops, e, s, r, hr => by
    simp only [evOps] at hr ⊢
    split
    · rename_i hg
      rw [if_pos hg] at hr
      split at hr
      · rename_i v s' hv
        rw [evOp_mono h hv]
        exact evOps_mono h ops _ _ _ hr
      · cases hr
    · rename_i hg
      rw [if_neg hg] at hr
      exact evOps_mono h ops _ _ _ hr

theorem evRest_mono {c1 c2 : CallF} (h : CLe c1 c2) : ∀ (ops : List CO) (e : Env) (s : St) (r : Env × St), evRest c1 ops e s = some r → evRest c2 ops e s = some r
  | [], _, _, _, hr => hr
  | o :: ops, e, s, r, hr => by
    simp only [evRest] at hr ⊢
    split
    · rename_i ha
      rw [if_pos ha] at hr
      exact evRest_mono h ops _ _ _ hr
    · rename_i ha
      rw [if_neg ha] at hr
      split
      · rename_i hg
        rw [if_pos hg] at hr
        split at hr
        · rename_i v s' hv
          rw [evOp_mono h hv]
          exact evRest_mono h ops _ _ _ hr
        · cases hr
      · rename_i hg
        rw [if_neg hg] at hr
        exact evRest_mono h ops _ _ _ hr

theorem evTr_mono {c1 c2 : CallF} (h : CLe c1 c2) : ∀ (ops : List CO) (e : Env) (s : St) (k : Nat) (x : Env × St), (evTr c1 ops e s)[k]? = some x → (evTr c2 ops e s)[k]? = some x
  | [], _, _, _, _, hr => hr
  | o :: ops, e, s, k, x, hr => by
    cases k with
    | zero => simpa [evTr] using hr
    | succ k =>
      simp only [evTr, List.getElem?_cons_succ] at hr ⊢
      split
      · rename_i ha
        rw [if_pos ha] at hr
        exact evTr_mono h ops _ _ _ _ hr
      · rename_i ha
        rw [if_neg ha] at hr
        split
        · rename_i hg
          rw [if_pos hg] at hr
          split at hr
          · rename_i v s' hv
            rw [evOp_mono h hv]
            exact evTr_mono h ops _ _ _ _ hr
          · simp at hr
        · rename_i hg
          rw [if_neg hg] at hr
          exact evTr_mono h ops _ _ _ _ hr

theorem chk1_mono {c1 c2 : CallF} (h : CLe c1 c2) {ops : List CO} {tr tr' : List (Env × St)} (ht : ∀ (k : Nat) x, tr[k]? = some x → tr'[k]? = some x) {p : Nat × Nat} (hc : chk1 c1 ops tr p = true) : chk1 c2 ops tr' p = true := by
  unfold chk1 at hc ⊢
  split at hc
  · rename_i c x y h1 h2 h3
    rw [h1, ht _ _ h2, ht _ _ h3]
    simp only
    by_cases hst : c.op.isStore = true
    · rw [if_pos hst] at hc ⊢
      unfold apartS at hc ⊢
      split at hc
      · rename_i c' x' d y' g1 g2 g3 g4
        rw [g1, ht _ _ g2, g3, ht _ _ g4]
        exact hc
      · cases hc
    rw [if_neg hst] at hc ⊢
    simp only [Bool.or_eq_true] at hc ⊢
    rcases hc with hc | hc
    · exact Or.inl hc
    · right
      split at hc
      · rename_i v _ u _ h4 h5
        rw [evOp_mono h h4, evOp_mono h h5]
        exact hc
      · cases hc
  · cases hc

theorem mono1 (T : Nat → Option CF) (X : Ext) : ∀ n, (∀ c e s r, ev T X n c e s = some r → ev T X (n + 1) c e s = some r) ∧ CLe (evCall T X n) (evCall T X (n + 1))
  | 0 => ⟨fun c e s r h => by simp [ev] at h, fun f a s r h => by simp [evCall] at h⟩
  | n + 1 => by
    obtain ⟨h1, h2⟩ := mono1 T X n
    refine ⟨fun c e s r h => ?_, fun f a s r h => ?_⟩
    · cases c with
      | skip => simpa [ev] using h
      | exit => simpa [ev] using h
      | ret => simpa [ev] using h
      | bad => simp [ev] at h
      | back => simp [ev] at h
      | reg ops =>
        simp only [ev] at h ⊢
        split at h
        · rename_i e' s' ho
          have := evOps_mono h2 _ _ _ _ ho
          simp only [this]; exact h
        · cases h
      | dreg ops chk =>
        simp only [ev] at h ⊢
        split at h
        · rename_i e' s' ho
          have := evRest_mono h2 _ _ _ _ ho
          simp only [this]
          split at h
          · rename_i hc
            rw [if_pos]
            · exact h
            · rw [List.all_eq_true] at hc ⊢
              exact fun p hp => chk1_mono h2 (fun k x hk => evTr_mono h2 _ _ _ _ _ hk) (hc p hp)
          · cases h
        · cases h
      | seq a b =>
        rw [ev] at h ⊢
        split at h
        · rename_i e' s' ha
          rw [h1 _ _ _ _ ha]
          exact h1 _ _ _ _ h
        · rename_i hn
          cases ho : ev T X n a e s with
          | none => rw [ho] at h; cases h
          | some q =>
            rw [ho] at h
            rw [h1 _ _ _ _ ho]
            obtain ⟨x, e', s'⟩ := q
            cases x with
            | normal => exact absurd ho (by simpa using hn e' s')
            | exit j => exact h
            | ret => exact h
      | cond c a b =>
        rw [ev] at h ⊢
        split at h
        · exact h1 _ _ _ _ h
        · exact h1 _ _ _ _ h
        · cases h
      | block id b =>
        rw [ev] at h ⊢
        cases ho : ev T X n b e s with
        | none => rw [ho] at h; cases h
        | some q => rw [ho] at h; rw [h1 _ _ _ _ ho]; exact h
      | loop b =>
        rw [ev] at h ⊢
        split at h
        · rename_i e' s' ha
          rw [h1 _ _ _ _ ha]
          exact h1 _ _ _ _ h
        · rename_i hn
          cases ho : ev T X n b e s with
          | none => rw [ho] at h; cases h
          | some q =>
            rw [ho] at h
            rw [h1 _ _ _ _ ho]
            obtain ⟨x, e', s'⟩ := q
            cases x with
            | normal => exact absurd ho (by simpa using hn e' s')
            | exit j => exact h
            | ret => exact h
    · rw [evCall] at h ⊢
      split at h
      · exact h
      · split at h
        · cases h
        · rename_i cf hT
          split at h
          · rename_i hl
            rw [if_pos hl]
            cases ho : ev T X n cf.body (env0 a) s with
            | none => rw [ho] at h; cases h
            | some q => rw [ho] at h; rw [h1 _ _ _ _ ho]; exact h
          · cases h

theorem ev_mono {T : Nat → Option CF} {X : Ext} {n m : Nat} (h : n ≤ m) {c : CC} {e : Env} {s : St} {r : CX × Env × St} (hr : ev T X n c e s = some r) : ev T X m c e s = some r := by
  induction h with
  | refl => exact hr
  | step _ ih => exact (mono1 T X _).1 _ _ _ _ ih

theorem call_mono {T : Nat → Option CF} {X : Ext} {n m : Nat} (h : n ≤ m) : CLe (evCall T X n) (evCall T X m) := by
  intro f a s r hr
  induction h with
  | refl => exact hr
  | step _ ih => exact (mono1 T X _).2 _ _ _ _ ih

/-! ### Weakest runs -/
section
variable {T : Nat → Option CF} {X : Ext}

def W (T : Nat → Option CF) (X : Ext) (c : CC) (e : Env) (s : St) (Q : CX → Env → St → Prop) : Prop := ∃ n x e' s', ev T X n c e s = some (x, e', s') ∧ Q x e' s'
def WC (T : Nat → Option CF) (X : Ext) (f : Nat) (args : List AV) (s : St) (Q : AV → St → Prop) : Prop := ∃ n v s', evCall T X n f args s = some (v, s') ∧ Q v s'
/-- The operations one after the other, with the states on the way. -/
def WT (T : Nat → Option CF) (X : Ext) (ops : List CO) (e : Env) (s : St) (Q : List (Env × St) → Env → St → Prop) : Prop :=
  ∃ n e' s', evRest (evCall T X n) ops e s = some (e', s') ∧ Q (evTr (evCall T X n) ops e s) e' s'
def WO (T : Nat → Option CF) (X : Ext) (ops : List CO) (e : Env) (s : St) (Q : Env → St → Prop) : Prop :=
  ∃ n e' s', evOps (evCall T X n) ops e s = some (e', s') ∧ Q e' s'

theorem W.mono {c : CC} {e : Env} {s : St} {Q R : CX → Env → St → Prop} (h : W T X c e s Q) (hq : ∀ x e' s', Q x e' s' → R x e' s') : W T X c e s R :=
  let ⟨n, x, e', s', h1, h2⟩ := h
  ⟨n, x, e', s', h1, hq _ _ _ h2⟩
theorem WC.mono {f : Nat} {args : List AV} {s : St} {Q R : AV → St → Prop} (h : WC T X f args s Q) (hq : ∀ v s', Q v s' → R v s') : WC T X f args s R :=
  let ⟨n, v, s', h1, h2⟩ := h
  ⟨n, v, s', h1, hq _ _ h2⟩

theorem W_skip {e : Env} {s : St} {Q : CX → Env → St → Prop} (h : Q .normal e s) : W T X .skip e s Q := ⟨1, _, _, _, rfl, h⟩
theorem W_ret {e : Env} {s : St} {Q : CX → Env → St → Prop} (h : Q .ret e s) : W T X .ret e s Q := ⟨1, _, _, _, rfl, h⟩
theorem W_exit {i : Nat} {e : Env} {s : St} {Q : CX → Env → St → Prop} (h : Q (.exit i) e s) : W T X (.exit i) e s Q := ⟨1, _, _, _, rfl, h⟩

/-- What comes after. -/
def Then (T : Nat → Option CF) (X : Ext) (b : CC) (Q : CX → Env → St → Prop) (x : CX) (e : Env) (s : St) : Prop :=
  match x with
  | .normal => W T X b e s Q
  | y => Q y e s

theorem W_seq {a b : CC} {e : Env} {s : St} {Q : CX → Env → St → Prop} (h : W T X a e s (Then T X b Q)) : W T X (.seq a b) e s Q := by
  obtain ⟨n, x, e', s', h1, h2⟩ := h
  cases x with
  | normal =>
    obtain ⟨m, y, e2, s2, h3, h4⟩ := h2
    refine ⟨max n m + 1, y, e2, s2, ?_, h4⟩
    rw [ev, ev_mono (Nat.le_max_left n m) h1]
    exact ev_mono (Nat.le_max_right n m) h3
  | exit j => exact ⟨n + 1, _, _, _, by rw [ev, h1], h2⟩
  | ret => exact ⟨n + 1, _, _, _, by rw [ev, h1], h2⟩

theorem W_loop {b : CC} {e : Env} {s : St} {Q : CX → Env → St → Prop} (h : W T X b e s (Then T X (.loop b) Q)) : W T X (.loop b) e s Q := by
  obtain ⟨n, x, e', s', h1, h2⟩ := h
  cases x with
  | normal =>
    obtain ⟨m, y, e2, s2, h3, h4⟩ := h2
    refine ⟨max n m + 1, y, e2, s2, ?_, h4⟩
    rw [ev, ev_mono (Nat.le_max_left n m) h1]
    exact ev_mono (Nat.le_max_right n m) h3
  | exit j => exact ⟨n + 1, _, _, _, by rw [ev, h1], h2⟩
  | ret => exact ⟨n + 1, _, _, _, by rw [ev, h1], h2⟩

def Catch (id : Nat) (Q : CX → Env → St → Prop) (x : CX) (e : Env) (s : St) : Prop :=
  match x with
  | .exit j => if j = id then Q .normal e s else Q (.exit j) e s
  | y => Q y e s

theorem W_block {id : Nat} {b : CC} {e : Env} {s : St} {Q : CX → Env → St → Prop} (h : W T X b e s (Catch id Q)) : W T X (.block id b) e s Q := by
  obtain ⟨n, x, e', s', h1, h2⟩ := h
  cases x with
  | exit j =>
    simp only [Catch] at h2
    by_cases hj : j = id
    · rw [if_pos hj] at h2; exact ⟨n + 1, _, _, _, by rw [ev, h1]; simp only [if_pos hj], h2⟩
    · rw [if_neg hj] at h2; exact ⟨n + 1, _, _, _, by rw [ev, h1]; simp only [if_neg hj], h2⟩
  | normal => exact ⟨n + 1, _, _, _, by rw [ev, h1], h2⟩
  | ret => exact ⟨n + 1, _, _, _, by rw [ev, h1], h2⟩

theorem W_cond {c : Opd} {a b : CC} {e : Env} {s : St} {Q : CX → Env → St → Prop} (t : Bool) (hc : c.ev e = .bool t) (h1 : t = true → W T X a e s Q) (h2 : t = false → W T X b e s Q) : W T X (.cond c a b) e s Q := by
  cases t with
  | true => obtain ⟨n, x, e', s', h3, h4⟩ := h1 rfl; exact ⟨n + 1, x, e', s', by rw [ev, hc]; exact h3, h4⟩
  | false => obtain ⟨n, x, e', s', h3, h4⟩ := h2 rfl; exact ⟨n + 1, x, e', s', by rw [ev, hc]; exact h3, h4⟩

theorem W_reg {ops : List CO} {e : Env} {s : St} {Q : CX → Env → St → Prop} (h : WO T X ops e s (Q .normal)) : W T X (.reg ops) e s Q := by
  obtain ⟨n, e', s', h1, h2⟩ := h
  exact ⟨n + 1, _, _, _, by simp only [ev, h1], h2⟩

theorem W_dreg {ops : List CO} {chk : List (Nat × Nat)} {e : Env} {s : St} {Q : CX → Env → St → Prop}
    (h : WT T X ops (evAllocs ops e s).1 (evAllocs ops e s).2 (fun tr e' s' => chk.all (chk1 noCall ops tr) = true ∧ Q .normal e' s')) : W T X (.dreg ops chk) e s Q := by
  obtain ⟨n, e', s', h1, h2, h3⟩ := h
  refine ⟨n + 1, _, _, _, ?_, h3⟩
  simp only [ev, h1]
  rw [if_pos]
  rw [List.all_eq_true] at h2 ⊢
  exact fun p hp => chk1_mono (noCall_le _) (fun k x hk => hk) (h2 p hp)

theorem WO_nil {e : Env} {s : St} {Q : Env → St → Prop} (h : Q e s) : WO T X [] e s Q := ⟨0, _, _, rfl, h⟩

/-- An operation that calls nothing. -/
theorem WO_op {o : CO} {r : List CO} {e : Env} {s : St} {Q : Env → St → Prop} {v : AV} {s1 : St} (hg : wantedA e o.guard = true) (ho : evOp noCall o.op e s = some (v, s1)) (h : WO T X r (e.put o.dst v) s1 Q) : WO T X (o :: r) e s Q := by
  obtain ⟨n, e', s', h1, h2⟩ := h
  refine ⟨n, e', s', ?_, h2⟩
  simp only [evOps]
  rw [if_pos hg, evOp_mono (noCall_le _) ho]
  exact h1

theorem WO_call {d : Option Nat} {g : Option (Option Nat × Bool)} {f : Nat} {args : List Opd} {r : List CO} {e : Env} {s : St} {Q : Env → St → Prop} (hg : wantedA e g = true)
    (h : WC T X f (args.map (Opd.ev e)) s (fun v s1 => WO T X r (e.put d v) s1 Q)) : WO T X (⟨d, g, .call f args⟩ :: r) e s Q := by
  obtain ⟨n, v, s1, h1, m, e', s', h2, h3⟩ := h
  refine ⟨max n m, e', s', ?_, h3⟩
  simp only [evOps]
  rw [if_pos hg]
  simp only [evOp]
  rw [call_mono (Nat.le_max_left n m) _ _ _ _ h1]
  exact evOps_mono (call_mono (Nat.le_max_right n m)) _ _ _ _ h2

theorem WO_callv {d : Option Nat} {g : Option (Option Nat × Bool)} {x : Opd} {args : List Opd} {r : List CO} {e : Env} {s : St} {Q : Env → St → Prop} {f : Nat} {cap : List AV} (hg : wantedA e g = true) (hx : x.ev e = .func f cap)
    (h : WC T X f (args.map (Opd.ev e) ++ cap) s (fun v s1 => WO T X r (e.put d v) s1 Q)) : WO T X (⟨d, g, .callv x args⟩ :: r) e s Q := by
  obtain ⟨n, v, s1, h1, m, e', s', h2, h3⟩ := h
  refine ⟨max n m, e', s', ?_, h3⟩
  simp only [evOps]
  rw [if_pos hg]
  simp only [evOp, hx]
  rw [call_mono (Nat.le_max_left n m) _ _ _ _ h1]
  exact evOps_mono (call_mono (Nat.le_max_right n m)) _ _ _ _ h2

theorem WT_nil {e : Env} {s : St} {Q : List (Env × St) → Env → St → Prop} (h : Q [(e, s)] e s) : WT T X [] e s Q := ⟨0, _, _, rfl, h⟩

theorem WT_alloc {d : Option Nat} {g : Option (Option Nat × Bool)} {zs : List AV} {r : List CO} {e : Env} {s : St} {Q : List (Env × St) → Env → St → Prop} (h : WT T X r e s (fun tr => Q ((e, s) :: tr))) : WT T X (⟨d, g, .alloc zs⟩ :: r) e s Q := by
  obtain ⟨n, e', s', h1, h2⟩ := h
  exact ⟨n, e', s', by simpa [evRest, isAlloc] using h1, by simpa [evTr, isAlloc] using h2⟩

theorem WT_op {o : CO} {r : List CO} {e : Env} {s : St} {Q : List (Env × St) → Env → St → Prop} {v : AV} {s1 : St} (ha : isAlloc o.op = false) (hg : wantedA e o.guard = true) (ho : evOp noCall o.op e s = some (v, s1))
    (h : WT T X r (e.put o.dst v) s1 (fun tr => Q ((e, s) :: tr))) : WT T X (o :: r) e s Q := by
  obtain ⟨n, e', s', h1, h2⟩ := h
  refine ⟨n, e', s', ?_, ?_⟩
  · simp only [evRest, ha]
    rw [if_neg (by simp), if_pos hg, evOp_mono (noCall_le _) ho]
    exact h1
  · simp only [evTr, ha]
    rw [if_neg (by simp), if_pos hg, evOp_mono (noCall_le _) ho]
    exact h2

theorem WT_off {o : CO} {r : List CO} {e : Env} {s : St} {Q : List (Env × St) → Env → St → Prop} (ha : isAlloc o.op = false) (hg : wantedA e o.guard = false)
    (h : WT T X r (e.put o.dst undefA) s (fun tr => Q ((e, s) :: tr))) : WT T X (o :: r) e s Q := by
  obtain ⟨n, e', s', h1, h2⟩ := h
  refine ⟨n, e', s', ?_, ?_⟩
  · simp only [evRest, ha, hg]; simpa using h1
  · simp only [evTr, ha, hg]; simpa using h2

theorem evTr_same {c1 c2 : CallF} (h : CLe c1 c2) : ∀ (ops : List CO) (e : Env) (s : St) (r : Env × St), evRest c1 ops e s = some r → evTr c2 ops e s = evTr c1 ops e s
  | [], _, _, _, _ => rfl
  | o :: ops, e, s, r, hr => by
    simp only [evRest] at hr
    simp only [evTr]
    congr 1
    split at hr
    · rename_i ha; rw [if_pos ha, if_pos ha]; exact evTr_same h _ _ _ _ hr
    · rename_i ha; rw [if_neg ha, if_neg ha]
      split at hr
      · rename_i hg; rw [if_pos hg, if_pos hg]
        split at hr
        · rename_i v s' hv
          rw [evOp_mono h hv]
          exact evTr_same h _ _ _ _ hr
        · cases hr
      · rename_i hg; rw [if_neg hg, if_neg hg]; exact evTr_same h _ _ _ _ hr

theorem WT_call {d : Option Nat} {g : Option (Option Nat × Bool)} {f : Nat} {args : List Opd} {r : List CO} {e : Env} {s : St} {Q : List (Env × St) → Env → St → Prop} (hg : wantedA e g = true)
    (h : WC T X f (args.map (Opd.ev e)) s (fun v s1 => WT T X r (e.put d v) s1 (fun tr => Q ((e, s) :: tr)))) : WT T X (⟨d, g, .call f args⟩ :: r) e s Q := by
  obtain ⟨n, v, s1, h1, m, e', s', h2, h3⟩ := h
  have k1 := call_mono (Nat.le_max_left n m) _ _ _ _ h1
  refine ⟨max n m, e', s', ?_, ?_⟩
  · simp only [evRest, isAlloc]
    rw [if_neg (by simp), if_pos hg]
    simp only [evOp]
    rw [k1]
    exact evRest_mono (call_mono (Nat.le_max_right n m)) _ _ _ _ h2
  · simp only [evTr, isAlloc]
    rw [if_neg (by simp), if_pos hg]
    simp only [evOp]
    rw [k1]
    simp only
    rw [evTr_same (call_mono (Nat.le_max_right n m)) _ _ _ _ h2]
    exact h3

theorem WC_fn {f : Nat} {args : List AV} {s : St} {Q : AV → St → Prop} (cf : CF) (hX : X f = none) (hT : T f = some cf) (hl : args.length ≤ cf.ntmps)
    (h : W T X cf.body (env0 args) s (fun x e' s' => (∀ j, x ≠ .exit j) ∧ ∃ v, retA e' s' cf.results = some v ∧ Q v s')) : WC T X f args s Q := by
  obtain ⟨n, x, e', s', h1, hx, v, h2, h3⟩ := h
  refine ⟨n + 1, v, s', ?_, h3⟩
  rw [evCall, hX]
  simp only [hT]
  rw [if_pos hl, h1]
  cases x with
  | normal => simp only [h2]
  | ret => simp only [h2]
  | exit j => exact absurd rfl (hx j)

theorem WC_ext {f : Nat} {args : List AV} {s : St} {Q : AV → St → Prop} {h : List AV → St → Option (AV × St)} (hX : X f = some h) {v : AV} {s' : St} (hh : h args s = some (v, s')) (hq : Q v s') : WC T X f args s Q :=
  ⟨1, v, s', by rw [evCall, hX]; exact hh, hq⟩

end
end Go.Am

/- A law of the abstract machine is one of Go. Conditions: none. -/
namespace Go.Am
open Go.RowKit

section
variable {R : Nat} {H : Type} {enc : TypeId × Value → H} {G : Glob} {P : Program} {W : World} {T : Nat → Option CF} {X : Ext}

theorem back (hl : laidOutB P = true) {W' : World} (hb : Below W.heap.size W W') : ∀ (pts : List TypeId) (vs : List Value) (ds : List (DataW H)) (ps : List MemPlace), pts.all (fun t => P.readableRec t && decide (t < P.types.size)) = true →
    DataW.TrodAll enc P W 0 (fun _ => true) true pts vs ds ps → (∀ x, x ∈ ps → x.block < W.heap.size) → DataW.TrodAll enc P W' 0 (fun b => decide (b < W.heap.size)) true pts vs ds ps
  | [], vs, ds, ps, _, h, _ => by
    obtain ⟨rfl, rfl, rfl⟩ := ChangeShapes.trodAll_nil h
    rfl
  | t :: pts, vs, ds, ps, hr, h, hlt => by
    obtain ⟨v, vs1, d, ds1, p, q, rfl, rfl, rfl, h1, h2⟩ := ChangeShapes.trodAll_cons h
    simp only [List.all_cons, Bool.and_eq_true, decide_eq_true_eq] at hr
    exact ⟨p, q, Below.trod hl hr.1.1 hr.1.2 h1 hb (fun x hx => hlt x (by simp [hx])), back hl hb pts vs1 ds1 q hr.2 h2 (fun x hx => hlt x (by simp [hx])), rfl⟩

theorem calls_true (hG : Good G P T X) (hgl : GlobR G (rho0 W) W 0) {f : Nat} {as : List AV} {args : Array Value} (h : WC T X f as st0 (fun v _ => v = .bool true)) (hV : Vs (rho0 W) W 0 as args.toList) :
    Calls P f args W (fun e W' => e = .returned (.bool true) ∧ Below W.heap.size W W') := by
  obtain ⟨n, v, s', h1, rfl⟩ := h
  obtain ⟨_, h2⟩ := (sound hG n).2.2 f as st0 _ s' h1 (rho0 W) W args.toList (sim0 W) hgl hV
  rw [show args.toList.toArray = args by simp] at h2
  refine h2.mono fun e w' ⟨ρ', v', he, hF, _, hv⟩ => ?_
  cases hv
  exact ⟨he, below_of hF⟩

theorem law_calls (hG : Good G P T X) (hgl : GlobR G (rho0 W) W 0) {ts pts : List TypeId} {f : Nat} (hc : closedB P ts = true) (hin : pts.all (fun t => ts.contains t) = true) (hl : laidOutB P = true) (hr : pts.all (fun t => P.readableRec t && decide (t < P.types.size)) = true)
    (hlaw : ∀ as, TyAsR R P pts as → WC T X f as st0 (fun v _ => v = .bool true)) {base : Nat} {r : Reach} {args : Array Value} {ds : List (DataW H)} {ps : List MemPlace}
    (hval : ∀ (j : Nat) t v, pts[j]? = some t → args[j]? = some v → Value.okWide P W r base t v) (hA : DataW.TrodAll enc P W 0 (fun _ => true) true pts args.toList ds ps)
    (hsz : (DataW.weightsEach P pts ds).all (· ≤ R) = true) (hlt : ∀ x, x ∈ ps → x.block < W.heap.size) :
    Calls P f args W (fun e W' => e = .returned (.bool true) ∧ Below W.heap.size W W' ∧ DataW.TrodAll enc P W' 0 (fun b => decide (b < W.heap.size)) true pts args.toList ds ps) := by
  obtain ⟨as, h1, h2⟩ := read_args hc pts args.toList ds ps (fun t ht => by simpa using List.all_eq_true.1 hin t ht) (fun j t v ht hv => hval j t v ht (by simpa using hv)) hA hsz
  exact (calls_true hG hgl (hlaw as h1) h2).mono fun e W' ⟨he, hb⟩ => ⟨he, hb, back hl hb pts _ _ _ hr hA hlt⟩

end
end Go.Am

/- A law of a table's function holds in a table with more functions. Conditions: none. -/
namespace Go.Am

/-- A table with more functions. -/
structure Sub (T : Nat → Option CF) (X : Ext) (T' : Nat → Option CF) (X' : Ext) : Prop where
  ext : ∀ f h, X f = some h → ∃ h', X' f = some h' ∧ ∀ a s r, h a s = some r → h' a s = some r
  fn : ∀ f cf, X f = none → T f = some cf → X' f = none ∧ T' f = some cf

theorem sub1 {T T' : Nat → Option CF} {X X' : Ext} (hs : Sub T X T' X') : ∀ n, (∀ c e s r, ev T X n c e s = some r → ev T' X' n c e s = some r) ∧ CLe (evCall T X n) (evCall T' X' n)
  | 0 => ⟨fun c e s r h => by simp [ev] at h, fun f a s r h => by simp [evCall] at h⟩
  | n + 1 => by
    obtain ⟨h1, h2⟩ := sub1 hs n
    refine ⟨fun c e s r h => ?_, fun f a s r h => ?_⟩
    · cases c with
      | skip => simpa [ev] using h
      | exit => simpa [ev] using h
      | ret => simpa [ev] using h
      | bad => simp [ev] at h
      | back => simp [ev] at h
      | reg ops =>
        simp only [ev] at h ⊢
        split at h
        · rename_i e' s' ho
          have := evOps_mono h2 _ _ _ _ ho
          simp only [this]; exact h
        · cases h
      | dreg ops chk =>
        simp only [ev] at h ⊢
        split at h
        · rename_i e' s' ho
          have := evRest_mono h2 _ _ _ _ ho
          simp only [this]
          split at h
          · rename_i hc
            rw [if_pos]
            · exact h
            · rw [List.all_eq_true] at hc ⊢
              exact fun p hp => chk1_mono h2 (fun k x hk => evTr_mono h2 _ _ _ _ _ hk) (hc p hp)
          · cases h
        · cases h
      | seq a b =>
        rw [ev] at h ⊢
        split at h
        · rename_i e' s' ha
          rw [h1 _ _ _ _ ha]
          exact h1 _ _ _ _ h
        · rename_i hn
          cases ho : ev T X n a e s with
          | none => rw [ho] at h; cases h
          | some q =>
            rw [ho] at h
            rw [h1 _ _ _ _ ho]
            obtain ⟨x, e', s'⟩ := q
            cases x with
            | normal => exact absurd ho (by simpa using hn e' s')
            | exit j => exact h
            | ret => exact h
      | cond c a b =>
        rw [ev] at h ⊢
        split at h
        · exact h1 _ _ _ _ h
        · exact h1 _ _ _ _ h
        · cases h
      | block id b =>
        rw [ev] at h ⊢
        cases ho : ev T X n b e s with
        | none => rw [ho] at h; cases h
        | some q => rw [ho] at h; rw [h1 _ _ _ _ ho]; exact h
      | loop b =>
        rw [ev] at h ⊢
        split at h
        · rename_i e' s' ha
          rw [h1 _ _ _ _ ha]
          exact h1 _ _ _ _ h
        · rename_i hn
          cases ho : ev T X n b e s with
          | none => rw [ho] at h; cases h
          | some q =>
            rw [ho] at h
            rw [h1 _ _ _ _ ho]
            obtain ⟨x, e', s'⟩ := q
            cases x with
            | normal => exact absurd ho (by simpa using hn e' s')
            | exit j => exact h
            | ret => exact h
    · rw [evCall] at h ⊢
      split at h
      · rename_i g hX
        obtain ⟨h', hX', hle⟩ := hs.ext _ _ hX
        rw [hX']
        exact hle _ _ _ h
      · rename_i hX
        split at h
        · cases h
        · rename_i cf hT
          obtain ⟨hX', hT'⟩ := hs.fn _ _ hX hT
          simp only [hX', hT']
          split at h
          · rename_i hl
            rw [if_pos hl]
            cases ho : ev T X n cf.body (env0 a) s with
            | none => rw [ho] at h; cases h
            | some q => rw [ho] at h; rw [h1 _ _ _ _ ho]; exact h
          · cases h

theorem WC.sub {T T' : Nat → Option CF} {X X' : Ext} (hs : Sub T X T' X') {f : Nat} {args : List AV} {s : St} {Q : AV → St → Prop} (h : WC T X f args s Q) : WC T' X' f args s Q :=
  let ⟨n, v, s', h1, h2⟩ := h
  ⟨n, v, s', (sub1 hs n).2 _ _ _ _ h1, h2⟩
end Go.Am
