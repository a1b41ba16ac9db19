/- Regions, texts and calls: the abstract machine's run tells Go's. Conditions: none. -/
import Derived.Test.YtfleakoephmgaaaDoorAmIm
set_option linter.unusedSimpArgs false
set_option linter.unusedVariables false
namespace Go.Am

def actOk (a : Act) (nt : Nat) : Prop := a.tmps.size = nt ∧ a.defers = []

theorem put_ok {a : Act} {nt : Nat} (h : actOk a nt) (d : Option Nat) (v : Value) : actOk (a.put d v) nt := by
  cases d with
  | none => exact h
  | some k => exact ⟨by simp [Act.put, h.1], h.2⟩

theorem put_env {G : Glob} {ρ : Rho} {w : World} {n : Nat} {e : Env} {a : Act} {nt : Nat} (hE : EnvR G ρ w n e a.tmps) (ha : actOk a nt) {d : Option Nat} (hd : d.all (· < nt) = true) {av : AV} {v : Value} (hV : V ρ w n av v) :
    EnvR G ρ w n (e.put d av) (a.put d v).tmps := by
  cases d with
  | none => exact hE
  | some k =>
    simp only [Option.all_some, decide_eq_true_eq] at hd
    exact hE.put (by rw [ha.1]; exact hd) hV

section
variable {G : Glob} {P : Program} {ρ : Rho} {s : St} {w : World} {a : Act} {o : Oper} {e : Env} {nt : Nat}

/-- One operation, calls among them. -/
theorem opres_wp {call : Nat → List AV → St → Option (AV × St)} (hcall : CallOk G P call) {v : AV} {s' : St} (hS : Sim ρ s w) (hE : EnvR G ρ w s.size e a.tmps)
    (h : OpRes P o a ρ s w v s' ∨ CallRes P call o a ρ s w v s') {next : Act → World → Prop} {Q : Exit → Act → World → Prop}
    (hnext : ∀ ρ' w' v', Fr ρ s w ρ' s' w' → Sim ρ' s' w' → V ρ' w' s'.size v v' → next (a.put o.dst v') w') : o.wp P a w next Q := by
  rcases h with ⟨ρ', w', hF, hS', ⟨v', hr, hV⟩ | ⟨hr, rfl⟩⟩ | ⟨f, args, argv, hcl, hargs, hrun⟩
  · unfold Oper.wp
    rw [hr]
    exact hnext ρ' w' v' hF hS' hV
  · unfold Oper.wp
    rw [hr]
    exact hnext ρ' w' undef hF hS' undef_V
  · obtain ⟨h1, h2⟩ := hcall f args s v s' hcl ρ w argv hS hE.2 hargs
    unfold Oper.wp
    rw [hrun, h1 w, Oper.upon_enter]
    refine h2.mono ?_
    rintro en w' ⟨ρ', v', rfl, hF, hS', hV⟩
    exact hnext ρ' w' v' hF hS' hV

theorem oper_wp {call : Nat → List AV → St → Option (AV × St)} (hcall : CallOk G P call) {mu : Bool} {c : COp} {v : AV} {s' : St} (hS : Sim ρ s w) (hE : EnvR G ρ w s.size e a.tmps) (hc : cOp G P mu o.op = some c)
    (h : evOp call c e s = some (v, s')) {next : Act → World → Prop} {Q : Exit → Act → World → Prop}
    (hnext : ∀ ρ' w' v', Fr ρ s w ρ' s' w' → Sim ρ' s' w' → V ρ' w' s'.size v v' → next (a.put o.dst v') w') : o.wp P a w next Q :=
  opres_wp hcall hS hE (op_sound hS hE hc h) hnext

/-- What was written is written no more: its block never changes from here on. -/
def Rho.still (ρ : Rho) (b : Nat) : Rho := { ρ with lab := fun c => if c = b then .ro else ρ.lab c }

theorem frz_sound {ρ : Rho} {s s' : St} {w : World} {va v : AV} {x : Value} (hS : Sim ρ s w) (hV : V ρ w s.size va x) (h : frzA s va = some (v, s')) : ∃ ρ', Fr ρ s w ρ' s' w ∧ Sim ρ' s' w ∧ V ρ' w s'.size v x := by
  unfold frzA at h
  split at h
  · rename_i i off len z
    split at h
    · rename_i cs hob
      split at h
      · rename_i hc
        cases h
        cases hV with
        | msl _ _ _ cap _ hi hp hl ht =>
          obtain ⟨-, hlab, vs, rest, ty, hh, hvs, htot⟩ := hS.cells i cs hob hp
          have hb := blk_lt hS hob hp
          have hm : Mono ρ w s.size (ρ.still (ρ.blk i)) w (s.put i (some (.froz (cs.map AV.strip)))).size := by
            refine ⟨Nat.le_refl _, fun b o hi => ⟨?_, rfl⟩, fun _ _ _ => rfl, fun _ _ _ => rfl, fun _ _ => rfl, fun _ _ h => h⟩
            simp only [Imm, Rho.still]
            split
            · trivial
            · exact hi
          have hat : At (ρ.still (ρ.blk i)) w (ρ.blk i) 0 vs := by
            intro j u hj
            refine ⟨by simp [Imm, ImmL, Rho.still], ?_⟩
            have hlt := (List.getElem?_eq_some_iff.1 hj).1
            simp only [World.cell?, hh]
            simp [List.getElem?_append_left hlt, hj]
          have hobj : ∀ j, j ≠ i → (s.put i (some (.froz (cs.map AV.strip)))).obj j = s.obj j := fun j hj => by simp only [St.put]; rw [if_neg hj]
          refine ⟨ρ.still (ρ.blk i), ⟨hm, rfl, rfl, rfl, Nat.le_refl _, ?_, ?_, fun _ => rfl⟩, ⟨?_, ?_, ?_, ?_, ?_, map_mono hS hm (fun j es h => by simp only [St.put] at h; split at h <;> first | exact h | cases h) (fun j es h0 _ hl _ => ⟨by simp only [Rho.still]; rw [if_neg (by intro he; rw [he, hlab] at hl; obtain rfl := Lab.obj.inj hl; rw [hob] at h0; cases h0)]; exact hl, rfl⟩)⟩, ?_⟩
          · intro b hb' hl'
            refine ⟨?_, rfl⟩
            simp only [Rho.still]
            rw [if_neg]
            rintro rfl
            rw [hlab] at hl'
            rcases hl' with hl' | hl' <;> cases hl'
          · intro j hj
            exact hobj j (by rintro rfl; rw [hp] at hj; cases hj)
          · intro b hb'
            simp only [Rho.still]
            rw [if_neg (by omega)]
            exact hS.free b hb'
          · intro j hj
            have hne : j ≠ i := by rintro rfl; rw [show ρ.pend j = true from hj] at hp; cases hp
            obtain ⟨h1, h2⟩ := hS.pn j hj
            exact ⟨h1, by rw [hobj j hne]; exact h2⟩
          · intro j cs' hj hpj
            have hne : j ≠ i := by rintro rfl; simp only [St.put, if_true] at hj; cases hj
            rw [hobj j hne] at hj
            obtain ⟨h1, h2, vs', rest', ty', h3, h4, h5⟩ := hS.cells j cs' hj hpj
            refine ⟨h1, ?_, vs', rest', ty', h3, h4.mono hm, h5⟩
            simp only [Rho.still]
            rw [if_neg]
            · exact h2
            · intro hbb
              rw [hbb, hlab] at h2
              cases h2
              exact hne rfl
          · intro t hj
            have hne : t ≠ i := by rintro rfl; simp only [St.put, if_true] at hj; cases hj
            rw [hobj t hne] at hj
            obtain ⟨h1, b, len', cap', z', h2, h3, vs', ty', h4, h5⟩ := hS.right t hj
            refine ⟨h1, b, len', cap', z', h2, ?_, vs', ty', h4, h5⟩
            simp only [Rho.still]
            rw [if_neg]
            · exact h3
            · rintro rfl; rw [hlab] at h3; cases h3
          · intro j cs' hj
            by_cases hne : j = i
            · subst hne
              simp only [St.put, if_true] at hj
              cases hj
              exact ⟨hi, hp, vs, (hvs.strip).mono hm, hat⟩
            · rw [hobj j hne] at hj
              obtain ⟨h1, h2, vs', h3, h4⟩ := hS.froz j cs' hj
              exact ⟨h1, h2, vs', h3.mono hm, h4.mono hm⟩
          · have hv' := ((hvs.drop off).take (len * z)).strip.mono hm
            have ha' := (hat.drop off).take (len * z)
            rw [Nat.zero_add] at ha'
            exact .sl _ _ _ _ _ _ false none hv' ha' (fun h => by cases h) hl (fun t ht => by cases ht)
      · cases h
    · rename_i cs hob
      split at h
      · rename_i hc
        cases h
        cases hV with
        | msl _ _ _ cap _ hi hp hl ht =>
          obtain ⟨-, -, vs, hvs, hat⟩ := hS.froz i cs hob
          have hv' := (hvs.drop off).take (len * z)
          have ha' := (hat.drop off).take (len * z)
          rw [Nat.zero_add] at ha'
          exact ⟨ρ, Fr.refl _ _ _, hS, .sl _ _ _ _ _ _ false none hv' ha' (fun h => by cases h) hl (fun t ht => by cases ht)⟩
      · cases h
    · cases h
  · cases h; exact ⟨ρ, Fr.refl _ _ _, hS, hV⟩
  · cases h; exact ⟨ρ, Fr.refl _ _ _, hS, hV⟩
  · cases h

/-- One operation, as the slots that are written no more have it. -/
theorem oper_wpf {call : Nat → List AV → St → Option (AV × St)} (hcall : CallOk G P call) {mu : Bool} {fz : List Nat} {d : Option Nat} {g : Option (Option Nat × Bool)} {c : COp} {v : AV} {s' : St} (hS : Sim ρ s w) (hE : EnvR G ρ w s.size e a.tmps) (hc : cOp G P mu o.op = some c)
    (h : evOp call (frzOf fz ⟨d, g, c⟩).op e s = some (v, s')) {next : Act → World → Prop} {Q : Exit → Act → World → Prop}
    (hnext : ∀ ρ' w' v', Fr ρ s w ρ' s' w' → Sim ρ' s' w' → V ρ' w' s'.size v v' → next (a.put o.dst v') w') : o.wp P a w next Q := by
  by_cases hf : (frzOf fz ⟨d, g, c⟩).op = c
  · rw [hf] at h
    exact oper_wp hcall hS hE hc h hnext
  · unfold frzOf at hf h
    split at hf
    · rename_i d' x hd hx
      simp only at hd hx
      subst hd hx
      simp only at h hf
      split at hf
      · rename_i hfz
        rw [if_pos hfz] at h
        refine oper_wp hcall hS hE hc (v := x.ev e) (s' := s) rfl ?_
        intro ρ1 w1 v1 hF1 hS1 hV1
        obtain ⟨ρ2, hF2, hS2, hV2⟩ := frz_sound hS1 hV1 h
        exact hnext ρ2 w1 v1 (hF1.trans hF2) hS2 hV2
      · exact absurd rfl hf
    · rename_i d' sz len zs ps hd hx
      simp only at hd hx
      subst hd hx
      simp only at h hf
      split at hf
      · rename_i hfz
        rw [if_pos hfz] at h
        have h0 : cOp0 G P mu false o.op = some (.bsl sz len zs ps) := by
          unfold cOp at hc
          cases h1 : cOp0 G P mu false o.op with
          | none => rw [h1] at hc; simp at hc
          | some c' => rw [h1] at hc; simpa using hc
        exact opres_wp hcall hS hE (op_sound0 hS hE (cOp0_bsl h0) h) hnext
      · exact absurd rfl hf
    · exact absurd rfl hf

theorem wanted_eq {ops : Array Oper} (hE : EnvR G ρ w s.size e a.tmps) : Region.wanted o (yielded ops a.tmps) = wantedA e (cGuard ops o.guard) := by
  unfold Region.wanted cGuard
  cases hg : o.guard with
  | none => rfl
  | some g =>
    obtain ⟨j, want⟩ := g
    simp only [wantedA, yielded]
    cases hd : (ops[j]?).bind (·.dst) with
    | none => rfl
    | some d =>
      simp only [Option.bind_some]
      have hV := hE.1 d
      rw [Array.getD_eq_getD_getElem?] at hV
      cases ht : a.tmps[d]? with
      | none =>
        rw [ht] at hV
        simp only [Option.getD_none] at hV
        generalize e d = q at hV
        unfold undef at hV
        cases hV with
        | tup _ vs hvs => rfl
      | some u =>
        rw [ht] at hV
        simp only [Option.getD_some] at hV
        generalize e d = q at hV
        cases hV <;> simp

theorem ops_wp {call : Nat → List AV → St → Option (AV × St)} (hcall : CallOk G P call) {mu : Bool} (fz : List Nat) {ops : Array Oper} {Q : Exit → Act → World → Prop} :
    ∀ (l : List Oper) (k : Nat) (cs : List CO) (ρ : Rho) (s : St) (w : World) (a : Act) (e e' : Env) (s' : St), (∀ j, l[j]? = ops[k + j]?) → cOpers G P mu nt ops l = some cs → evOps call (cs.map (frzOf fz)) e s = some (e', s') →
      Sim ρ s w → EnvR G ρ w s.size e a.tmps → actOk a nt →
      (∀ ρ' a' w', Fr ρ s w ρ' s' w' → Sim ρ' s' w' → EnvR G ρ' w' s'.size e' a'.tmps → actOk a' nt → Q .normal a' w') →
      wpOps P ops Q (List.range' k l.length) a w
  | [], k, cs, ρ, s, w, a, e, e', s', hl, hc, h, hS, hE, ha, hQ => by
    cases hc
    cases h
    exact hQ ρ a w (Fr.refl _ _ _) hS hE ha
  | o :: r, k, cs, ρ, s, w, a, e, e', s', hl, hc, h, hS, hE, ha, hQ => by
    have ho : ops[k]? = some o := by have := hl 0; simpa using this.symm
    simp only [cOpers] at hc
    split at hc
    · rename_i c cs' h1 h2
      split at hc
      · rename_i hd
        cases hc
        have hl' : ∀ j, r[j]? = ops[k + 1 + j]? := fun j => by have := hl (j + 1); rw [show k + (j + 1) = k + 1 + j by omega] at this; simpa using this
        simp only [List.length_cons, List.range'_succ, wpOps, ho]
        rw [wanted_eq hE]
        have hfd : (frzOf fz ⟨o.dst, cGuard ops o.guard, c⟩).dst = o.dst ∧ (frzOf fz ⟨o.dst, cGuard ops o.guard, c⟩).guard = cGuard ops o.guard := by
          unfold frzOf
          split
          · split <;> simp_all
          · split <;> simp_all
          · exact ⟨rfl, rfl⟩
        simp only [List.map_cons, evOps] at h
        rw [hfd.1, hfd.2] at h
        split at h
        · rename_i hw
          rw [if_pos hw]
          split at h
          · rename_i v s1 hv
            refine Or.inl (oper_wpf hcall hS hE h1 hv ?_)
            intro ρ1 w1 v1 hF hS1 hV
            exact ops_wp hcall fz r (k + 1) cs' ρ1 s1 w1 _ _ e' s' hl' h2 h hS1 (put_env (hE.mono hF.mono) ha hd hV) (put_ok ha _ _)
              (fun ρ' a' w' hF' => hQ ρ' a' w' (hF.trans hF'))
          · cases h
        · rename_i hw
          rw [if_neg hw]
          exact ops_wp hcall fz r (k + 1) cs' ρ s w _ _ e' s' hl' h2 h hS (put_env hE ha hd undef_V) (put_ok ha _ _) hQ
      · cases hc
    · cases hc

/-- What a text comes to. -/
def exOf : CX → Exit
  | .normal => .normal
  | .exit id => .exit id
  | .ret => .ret

end
end Go.Am
