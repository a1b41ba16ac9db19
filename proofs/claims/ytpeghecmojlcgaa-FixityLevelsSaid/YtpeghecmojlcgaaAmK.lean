/- Regions, texts and calls: the abstract machine's run tells Go's. Conditions: none. -/
import Derived.Test.YtpeghecmojlcgaaAmJ
namespace Go.Am

def actOk (a : Act) (nt : Nat) : Prop := a.tmps.size = nt ∧ a.defers = []

theorem put_tmps (a : Act) (d : Option Nat) (v : Value) : (a.put d v).tmps = (match d with | some k => a.tmps.setIfInBounds k v | none => a.tmps) := by
  cases d <;> rfl

theorem put_ok {a : Act} {nt : Nat} (h : actOk a nt) (d : Option Nat) (v : Value) : actOk (a.put d v) nt := by
  cases d with
  | none => exact h
  | some k => exact ⟨by simp [Act.put, h.1], h.2⟩

theorem put_env {ρ : Rho} {w : World} {n : Nat} {e : Env} {a : Act} {nt : Nat} (hE : EnvR ρ w n e a.tmps) (ha : actOk a nt) {d : Option Nat} (hd : d.all (· < nt) = true) {av : AV} {v : Value} (hV : V ρ w n av v) :
    EnvR ρ w n (e.put d av) (a.put d v).tmps := by
  cases d with
  | none => exact hE
  | some k =>
    simp only [Option.all_some, decide_eq_true_eq] at hd
    exact hE.put (by rw [ha.1]; exact hd) hV

section
variable {P : Program} {ρ : Rho} {s : St} {w : World} {a : Act} {o : Oper} {e : Env} {nt : Nat}

/-- One operation, calls among them. -/
theorem oper_wp {call : Nat → List AV → St → Option (AV × St)} (hcall : CallOk P call) {mu : Bool} {c : COp} {v : AV} {s' : St} (hS : Sim ρ s w) (hE : EnvR ρ w s.size e a.tmps) (hc : cOp P mu o.op = some c)
    (h : evOp call c e s = some (v, s')) {next : Act → World → Prop} {Q : Exit → Act → World → Prop}
    (hnext : ∀ ρ' w' v', Fr ρ s w ρ' s' w' → Sim ρ' s' w' → V ρ' w' s'.size v v' → next (a.put o.dst v') w') : o.wp P a w next Q := by
  rcases op_sound hS hE hc h with ⟨ρ', w', hF, hS', ⟨v', hr, hV⟩ | ⟨hr, rfl⟩⟩ | ⟨f, args, argv, hcl, hargs, hrun⟩
  · unfold Oper.wp
    rw [hr]
    exact hnext ρ' w' v' hF hS' hV
  · unfold Oper.wp
    rw [hr]
    exact hnext ρ' w' undef hF hS' undef_V
  · obtain ⟨h1, h2⟩ := hcall f args s v s' hcl ρ w argv hS hargs
    unfold Oper.wp
    rw [hrun, h1 w, Oper.upon_enter]
    refine h2.mono ?_
    rintro en w' ⟨ρ', v', rfl, hF, hS', hV⟩
    exact hnext ρ' w' v' hF hS' hV

theorem wanted_eq {ops : Array Oper} (hE : EnvR ρ w s.size e a.tmps) : Region.wanted o (yielded ops a.tmps) = wantedA e (cGuard ops o.guard) := by
  unfold Region.wanted cGuard
  cases hg : o.guard with
  | none => rfl
  | some g =>
    obtain ⟨j, want⟩ := g
    simp only [wantedA, yielded]
    cases hd : (ops[j]?).bind (·.dst) with
    | none => rfl
    | some d =>
      simp only [Option.bind_some]
      have hV := hE d
      rw [Array.getD_eq_getD_getElem?] at hV
      cases ht : a.tmps[d]? with
      | none =>
        rw [ht] at hV
        simp only [Option.getD_none] at hV
        generalize e d = q at hV
        unfold undef at hV
        cases hV with
        | tup _ vs hvs => rfl
      | some u =>
        rw [ht] at hV
        simp only [Option.getD_some] at hV
        generalize e d = q at hV
        cases hV <;> simp

theorem ops_wp {call : Nat → List AV → St → Option (AV × St)} (hcall : CallOk P call) {mu : Bool} {ops : Array Oper} {Q : Exit → Act → World → Prop} :
    ∀ (l : List Oper) (k : Nat) (cs : List CO) (ρ : Rho) (s : St) (w : World) (a : Act) (e e' : Env) (s' : St), (∀ j, l[j]? = ops[k + j]?) → cOpers P mu nt ops l = some cs → evOps call cs e s = some (e', s') →
      Sim ρ s w → EnvR ρ w s.size e a.tmps → actOk a nt →
      (∀ ρ' a' w', Fr ρ s w ρ' s' w' → Sim ρ' s' w' → EnvR ρ' w' s'.size e' a'.tmps → actOk a' nt → Q .normal a' w') →
      wpOps P ops Q (List.range' k l.length) a w
  | [], k, cs, ρ, s, w, a, e, e', s', hl, hc, h, hS, hE, ha, hQ => by
    cases hc
    cases h
    exact hQ ρ a w (Fr.refl _ _ _) hS hE ha
  | o :: r, k, cs, ρ, s, w, a, e, e', s', hl, hc, h, hS, hE, ha, hQ => by
    have ho : ops[k]? = some o := by have := hl 0; simpa using this.symm
    simp only [cOpers] at hc
    split at hc
    · rename_i c cs' h1 h2
      split at hc
      · rename_i hd
        cases hc
        have hl' : ∀ j, r[j]? = ops[k + 1 + j]? := fun j => by have := hl (j + 1); rw [show k + (j + 1) = k + 1 + j by omega] at this; simpa using this
        simp only [List.length_cons, List.range'_succ, wpOps, ho]
        rw [wanted_eq hE]
        simp only [evOps] at h
        split at h
        · rename_i hw
          rw [if_pos hw]
          split at h
          · rename_i v s1 hv
            refine Or.inl (oper_wp hcall hS hE h1 hv ?_)
            intro ρ1 w1 v1 hF hS1 hV
            exact ops_wp hcall r (k + 1) cs' ρ1 s1 w1 _ _ e' s' hl' h2 h hS1 (put_env (hE.mono hF.mono) ha hd hV) (put_ok ha _ _)
              (fun ρ' a' w' hF' => hQ ρ' a' w' (hF.trans hF'))
          · cases h
        · rename_i hw
          rw [if_neg hw]
          exact ops_wp hcall r (k + 1) cs' ρ s w _ _ e' s' hl' h2 h hS (put_env hE ha hd undef_V) (put_ok ha _ _) hQ
      · cases hc
    · cases hc

/-- What a text comes to. -/
def exOf : CX → Exit
  | .normal => .normal
  | .exit id => .exit id
  | .ret => .ret

end
end Go.Am
