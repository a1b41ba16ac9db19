/- Regions, texts and calls: the abstract machine's run tells Go's. Conditions: none. -/
import Derived.Test.YtfleakoephmgaaaDoorAmJ
set_option linter.unusedSimpArgs false
set_option linter.unusedVariables false
namespace Go.Am

def actOk (a : Act) (nt : Nat) : Prop := a.tmps.size = nt ∧ a.defers = []

theorem put_ok {a : Act} {nt : Nat} (h : actOk a nt) (d : Option Nat) (v : Value) : actOk (a.put d v) nt := by
  cases d with
  | none => exact h
  | some k => exact ⟨by simp [Act.put, h.1], h.2⟩

theorem put_env {G : Glob} {ρ : Rho} {w : World} {n : Nat} {e : Env} {a : Act} {nt : Nat} (hE : EnvR G ρ w n e a.tmps) (ha : actOk a nt) {d : Option Nat} (hd : d.all (· < nt) = true) {av : AV} {v : Value} (hV : V ρ w n av v) :
    EnvR G ρ w n (e.put d av) (a.put d v).tmps := by
  cases d with
  | none => exact hE
  | some k =>
    simp only [Option.all_some, decide_eq_true_eq] at hd
    exact hE.put (by rw [ha.1]; exact hd) hV

section
variable {G : Glob} {P : Program} {ρ : Rho} {s : St} {w : World} {a : Act} {o : Oper} {e : Env} {nt : Nat}

/-- One operation, calls among them. -/
theorem opres_wp {call : Nat → List AV → St → Option (AV × St)} (hcall : CallOk G P call) {v : AV} {s' : St} (hS : Sim ρ s w) (hE : EnvR G ρ w s.size e a.tmps)
    (h : OpRes P o a ρ s w v s' ∨ CallRes P call o a ρ s w v s') {next : Act → World → Prop} {Q : Exit → Act → World → Prop}
    (hnext : ∀ ρ' w' v', Fr ρ s w ρ' s' w' → Sim ρ' s' w' → V ρ' w' s'.size v v' → next (a.put o.dst v') w') : o.wp P a w next Q := by
  rcases h with ⟨ρ', w', hF, hS', ⟨v', hr, hV⟩ | ⟨hr, rfl⟩⟩ | ⟨f, args, argv, hcl, hargs, hrun⟩
  · unfold Oper.wp
    rw [hr]
    exact hnext ρ' w' v' hF hS' hV
  · unfold Oper.wp
    rw [hr]
    exact hnext ρ' w' undef hF hS' undef_V
  · obtain ⟨h1, h2⟩ := hcall f args s v s' hcl ρ w argv hS hE.2 hargs
    unfold Oper.wp
    rw [hrun, h1 w, Oper.upon_enter]
    refine h2.mono ?_
    rintro en w' ⟨ρ', v', rfl, hF, hS', hV⟩
    exact hnext ρ' w' v' hF hS' hV

theorem oper_wp {call : Nat → List AV → St → Option (AV × St)} (hcall : CallOk G P call) {mu : Bool} {c : COp} {v : AV} {s' : St} (hS : Sim ρ s w) (hE : EnvR G ρ w s.size e a.tmps) (hc : cOp G P mu o.op = some c)
    (h : evOp call c e s = some (v, s')) {next : Act → World → Prop} {Q : Exit → Act → World → Prop}
    (hnext : ∀ ρ' w' v', Fr ρ s w ρ' s' w' → Sim ρ' s' w' → V ρ' w' s'.size v v' → next (a.put o.dst v') w') : o.wp P a w next Q :=
  opres_wp hcall hS hE (op_sound hS hE hc h) hnext

/-- What was written is written no more: its block never changes from here on. -/
def Rho.still (ρ : Rho) (b : Nat) : Rho := { ρ with lab := fun c => if c = b then .ro else ρ.lab c }

theorem frz_sound {ρ : Rho} {s s' : St} {w : World} {va v : AV} {x : Value} (hS : Sim ρ s w) (hV : V ρ w s.size va x) (h : frzA s va = some (v, s')) : ∃ ρ', Fr ρ s w ρ' s' w ∧ Sim ρ' s' w ∧ V ρ' w s'.size v x := by
  unfold frzA at h
  split at h
  · rename_i i off len z
    split at h
    · rename_i cs hob
      split at h
      · rename_i hc
        cases h
        cases hV with
        | msl _ _ _ cap _ hi hp hl ht =>
          obtain ⟨-, hlab, vs, rest, ty, hh, hvs, htot⟩ := hS.cells i cs hob hp
          have hb := blk_lt hS hob hp
          have hm : Mono ρ w s.size (ρ.still (ρ.blk i)) w (s.put i (some (.froz (cs.map AV.strip)))).size := by
            refine ⟨Nat.le_refl _, fun b o hi => ⟨?_, rfl⟩, fun _ _ _ => rfl, fun _ _ _ => rfl, fun _ _ => rfl, fun _ _ h => h⟩
            simp only [Imm, Rho.still]
            split
            · trivial
            · exact hi
          have hat : At (ρ.still (ρ.blk i)) w (ρ.blk i) 0 vs := by
            intro j u hj
            refine ⟨by simp [Imm, ImmL, Rho.still], ?_⟩
            have hlt := (List.getElem?_eq_some_iff.1 hj).1
            simp only [World.cell?, hh]
            simp [List.getElem?_append_left hlt, hj]
          have hobj : ∀ j, j ≠ i → (s.put i (some (.froz (cs.map AV.strip)))).obj j = s.obj j := fun j hj => by simp only [St.put]; rw [if_neg hj]
          refine ⟨ρ.still (ρ.blk i), ⟨hm, rfl, rfl, rfl, Nat.le_refl _, ?_, ?_, fun _ => rfl⟩, ⟨?_, ?_, ?_, ?_, ?_, map_mono hS hm (fun j es h => by simp only [St.put] at h; split at h <;> first | exact h | cases h) (fun j es h0 _ hl _ => ⟨by simp only [Rho.still]; rw [if_neg (by intro he; rw [he, hlab] at hl; obtain rfl := Lab.obj.inj hl; rw [hob] at h0; cases h0)]; exact hl, rfl⟩)⟩, ?_⟩
          · intro b hb' hl'
            refine ⟨?_, rfl⟩
            simp only [Rho.still]
            rw [if_neg]
            rintro rfl
            rw [hlab] at hl'
            rcases hl' with hl' | hl' <;> cases hl'
          · intro j hj
            exact hobj j (by rintro rfl; rw [hp] at hj; cases hj)
          · intro b hb'
            simp only [Rho.still]
            rw [if_neg (by omega)]
            exact hS.free b hb'
          · intro j hj
            have hne : j ≠ i := by rintro rfl; rw [show ρ.pend j = true from hj] at hp; cases hp
            obtain ⟨h1, h2⟩ := hS.pn j hj
            exact ⟨h1, by rw [hobj j hne]; exact h2⟩
          · intro j cs' hj hpj
            have hne : j ≠ i := by rintro rfl; simp only [St.put, if_true] at hj; cases hj
            rw [hobj j hne] at hj
            obtain ⟨h1, h2, vs', rest', ty', h3, h4, h5⟩ := hS.cells j cs' hj hpj
            refine ⟨h1, ?_, vs', rest', ty', h3, h4.mono hm, h5⟩
            simp only [Rho.still]
            rw [if_neg]
            · exact h2
            · intro hbb
              rw [hbb, hlab] at h2
              cases h2
              exact hne rfl
          · intro t hj
            have hne : t ≠ i := by rintro rfl; simp only [St.put, if_true] at hj; cases hj
            rw [hobj t hne] at hj
            obtain ⟨h1, b, len', cap', z', h2, h3, vs', ty', h4, h5⟩ := hS.right t hj
            refine ⟨h1, b, len', cap', z', h2, ?_, vs', ty', h4, h5⟩
            simp only [Rho.still]
            rw [if_neg]
            · exact h3
            · rintro rfl; rw [hlab] at h3; cases h3
          · intro j cs' hj
            by_cases hne : j = i
            · subst hne
              simp only [St.put, if_true] at hj
              cases hj
              exact ⟨hi, hp, vs, (hvs.strip).mono hm, hat⟩
            · rw [hobj j hne] at hj
              obtain ⟨h1, h2, vs', h3, h4⟩ := hS.froz j cs' hj
              exact ⟨h1, h2, vs', h3.mono hm, h4.mono hm⟩
          · have hv' := ((hvs.drop off).take (len * z)).strip.mono hm
            have ha' := (hat.drop off).take (len * z)
            rw [Nat.zero_add] at ha'
            exact .sl _ _ _ _ _ _ false none hv' ha' (fun h => by cases h) hl (fun t ht => by cases ht)
      · cases h
    · rename_i cs hob
      split at h
      · rename_i hc
        cases h
        cases hV with
        | msl _ _ _ cap _ hi hp hl ht =>
          obtain ⟨-, -, vs, hvs, hat⟩ := hS.froz i cs hob
          have hv' := (hvs.drop off).take (len * z)
          have ha' := (hat.drop off).take (len * z)
          rw [Nat.zero_add] at ha'
          exact ⟨ρ, Fr.refl _ _ _, hS, .sl _ _ _ _ _ _ false none hv' ha' (fun h => by cases h) hl (fun t ht => by cases ht)⟩
      · cases h
    · cases h
  · cases h; exact ⟨ρ, Fr.refl _ _ _, hS, hV⟩
  · cases h; exact ⟨ρ, Fr.refl _ _ _, hS, hV⟩
  · cases h

/-- One operation, as the slots that are written no more have it. -/
theorem oper_wpf {call : Nat → List AV → St → Option (AV × St)} (hcall : CallOk G P call) {mu : Bool} {fz : List Nat} {d : Option Nat} {g : Option (Option Nat × Bool)} {c : COp} {v : AV} {s' : St} (hS : Sim ρ s w) (hE : EnvR G ρ w s.size e a.tmps) (hc : cOp G P mu o.op = some c)
    (h : evOp call (frzOf fz ⟨d, g, c⟩).op e s = some (v, s')) {next : Act → World → Prop} {Q : Exit → Act → World → Prop}
    (hnext : ∀ ρ' w' v', Fr ρ s w ρ' s' w' → Sim ρ' s' w' → V ρ' w' s'.size v v' → next (a.put o.dst v') w') : o.wp P a w next Q := by
  by_cases hf : (frzOf fz ⟨d, g, c⟩).op = c
  · rw [hf] at h
    exact oper_wp hcall hS hE hc h hnext
  · unfold frzOf at hf h
    split at hf
    · rename_i d' x hd hx
      simp only at hd hx
      subst hd hx
      simp only at h hf
      split at hf
      · rename_i hfz
        rw [if_pos hfz] at h
        refine oper_wp hcall hS hE hc (v := x.ev e) (s' := s) rfl ?_
        intro ρ1 w1 v1 hF1 hS1 hV1
        obtain ⟨ρ2, hF2, hS2, hV2⟩ := frz_sound hS1 hV1 h
        exact hnext ρ2 w1 v1 (hF1.trans hF2) hS2 hV2
      · exact absurd rfl hf
    · rename_i d' sz len zs ps hd hx
      simp only at hd hx
      subst hd hx
      simp only at h hf
      split at hf
      · rename_i hfz
        rw [if_pos hfz] at h
        have h0 : cOp0 G P mu false o.op = some (.bsl sz len zs ps) := by
          unfold cOp at hc
          cases h1 : cOp0 G P mu false o.op with
          | none => rw [h1] at hc; simp at hc
          | some c' => rw [h1] at hc; simpa using hc
        exact opres_wp hcall hS hE (op_sound0 hS hE (cOp0_bsl h0) h) hnext
      · exact absurd rfl hf
    · exact absurd rfl hf

theorem wanted_eq {ops : Array Oper} (hE : EnvR G ρ w s.size e a.tmps) : Region.wanted o (yielded ops a.tmps) = wantedA e (cGuard ops o.guard) := by
  unfold Region.wanted cGuard
  cases hg : o.guard with
  | none => rfl
  | some g =>
    obtain ⟨j, want⟩ := g
    simp only [wantedA, yielded]
    cases hd : (ops[j]?).bind (·.dst) with
    | none => rfl
    | some d =>
      simp only [Option.bind_some]
      have hV := hE.1 d
      rw [Array.getD_eq_getD_getElem?] at hV
      cases ht : a.tmps[d]? with
      | none =>
        rw [ht] at hV
        simp only [Option.getD_none] at hV
        generalize e d = q at hV
        unfold undef at hV
        cases hV with
        | tup _ vs hvs => rfl
      | some u =>
        rw [ht] at hV
        simp only [Option.getD_some] at hV
        generalize e d = q at hV
        cases hV <;> simp

theorem ops_wp {call : Nat → List AV → St → Option (AV × St)} (hcall : CallOk G P call) {mu : Bool} (fz : List Nat) {ops : Array Oper} {Q : Exit → Act → World → Prop} :
    ∀ (l : List Oper) (k : Nat) (cs : List CO) (ρ : Rho) (s : St) (w : World) (a : Act) (e e' : Env) (s' : St), (∀ j, l[j]? = ops[k + j]?) → cOpers G P mu nt ops l = some cs → evOps call (cs.map (frzOf fz)) e s = some (e', s') →
      Sim ρ s w → EnvR G ρ w s.size e a.tmps → actOk a nt →
      (∀ ρ' a' w', Fr ρ s w ρ' s' w' → Sim ρ' s' w' → EnvR G ρ' w' s'.size e' a'.tmps → actOk a' nt → Q .normal a' w') →
      wpOps P ops Q (List.range' k l.length) a w
  | [], k, cs, ρ, s, w, a, e, e', s', hl, hc, h, hS, hE, ha, hQ => by
    cases hc
    cases h
    exact hQ ρ a w (Fr.refl _ _ _) hS hE ha
  | o :: r, k, cs, ρ, s, w, a, e, e', s', hl, hc, h, hS, hE, ha, hQ => by
    have ho : ops[k]? = some o := by have := hl 0; simpa using this.symm
    simp only [cOpers] at hc
    split at hc
    · rename_i c cs' h1 h2
      split at hc
      · rename_i hd
        cases hc
        have hl' : ∀ j, r[j]? = ops[k + 1 + j]? := fun j => by have := hl (j + 1); rw [show k + (j + 1) = k + 1 + j by omega] at this; simpa using this
        simp only [List.length_cons, List.range'_succ, wpOps, ho]
        rw [wanted_eq hE]
        have hfd : (frzOf fz ⟨o.dst, cGuard ops o.guard, c⟩).dst = o.dst ∧ (frzOf fz ⟨o.dst, cGuard ops o.guard, c⟩).guard = cGuard ops o.guard := by
          unfold frzOf
          split
          · split <;> simp_all
          · split <;> simp_all
          · exact ⟨rfl, rfl⟩
        simp only [List.map_cons, evOps] at h
        rw [hfd.1, hfd.2] at h
        split at h
        · rename_i hw
          rw [if_pos hw]
          split at h
          · rename_i v s1 hv
            refine Or.inl (oper_wpf hcall hS hE h1 hv ?_)
            intro ρ1 w1 v1 hF hS1 hV
            exact ops_wp hcall fz r (k + 1) cs' ρ1 s1 w1 _ _ e' s' hl' h2 h hS1 (put_env (hE.mono hF.mono) ha hd hV) (put_ok ha _ _)
              (fun ρ' a' w' hF' => hQ ρ' a' w' (hF.trans hF'))
          · cases h
        · rename_i hw
          rw [if_neg hw]
          exact ops_wp hcall fz r (k + 1) cs' ρ s w _ _ e' s' hl' h2 h hS (put_env hE ha hd undef_V) (put_ok ha _ _) hQ
      · cases hc
    · cases hc

/-- What a text comes to. -/
def exOf : CX → Exit
  | .normal => .normal
  | .exit id => .exit id
  | .ret => .ret

end
end Go.Am

/- A region whose order is open comes to the same in every order. Conditions: none. -/
namespace Go.Am

/-! ### What stands before what -/
inductive Bef (ops : Array Oper) : Nat → Nat → Prop
  | edge (j : Nat) (o : Oper) (e : Edge) (ho : ops[j]? = some o) (he : e ∈ o.after.toList) (hb : Region.binds .any e = true) : Bef ops e.on j
  | step (i j : Nat) (o : Oper) (e : Edge) (ho : ops[j]? = some o) (he : e ∈ o.after.toList) (hb : Region.binds .any e = true) (h : Bef ops i e.on) : Bef ops i j

theorem mask_bit (acc : List Nat) (i : Nat) : ∀ (es : List Edge) (s : Nat), (es.foldl (fun s e => if Region.binds .any e then s ||| 2 ^ e.on ||| acc.getD e.on 0 else s) s).testBit i = true →
    s.testBit i = true ∨ ∃ e, e ∈ es ∧ Region.binds .any e = true ∧ (i = e.on ∨ (acc.getD e.on 0).testBit i = true)
  | [], s, h => Or.inl h
  | e :: es, s, h => by
    simp only [List.foldl_cons] at h
    rcases mask_bit acc i es _ h with h1 | ⟨e', he', hb, hx⟩
    · by_cases hb : Region.binds .any e = true
      · rw [if_pos hb] at h1
        simp only [Nat.testBit_or, Bool.or_eq_true] at h1
        rcases h1 with (h1 | h1) | h1
        · exact Or.inl h1
        · refine Or.inr ⟨e, by simp, hb, Or.inl ?_⟩
          rw [Nat.testBit_two_pow] at h1
          simpa [eq_comm] using h1
        · exact Or.inr ⟨e, by simp, hb, Or.inr h1⟩
      · rw [if_neg hb] at h1
        exact Or.inl h1
    · exact Or.inr ⟨e', by simp [he'], hb, hx⟩

theorem befs_sound {ops : Array Oper} : ∀ (l : List Oper) (acc : List Nat), (∀ j, l[j]? = ops[acc.length + j]?) → (∀ j i, (acc.getD j 0).testBit i = true → Bef ops i j) →
    ∀ j i, ((befs l acc).getD j 0).testBit i = true → Bef ops i j
  | [], acc, _, hacc, j, i, h => hacc j i h
  | o :: r, acc, hl, hacc, j, i, h => by
    simp only [befs] at h
    refine befs_sound r _ ?_ ?_ j i h
    · intro k
      have := hl (k + 1)
      simpa [Nat.add_assoc, Nat.add_comm 1 k] using this
    · intro k m hk
      by_cases hlt : k < acc.length
      · refine hacc k m ?_
        rw [List.getD_eq_getElem?_getD] at hk ⊢
        rwa [List.getElem?_append_left hlt] at hk
      · by_cases heq : k = acc.length
        · subst heq
          rw [List.getD_eq_getElem?_getD, List.getElem?_append_right (Nat.le_refl _)] at hk
          simp only [Nat.sub_self, List.getElem?_cons_zero, Option.getD_some, maskOf] at hk
          have ho : ops[acc.length]? = some o := by have := hl 0; simpa using this.symm
          rcases mask_bit acc m _ _ hk with h0 | ⟨e, he, hb, rfl | hx⟩
          · simp at h0
          · exact .edge _ o e ho he hb
          · exact .step m _ o e ho he hb (hacc _ _ hx)
        · rw [List.getD_eq_getElem?_getD, List.getElem?_eq_none (by simp; omega)] at hk
          simp at hk

/-- Two stores at the end that Go leaves in no order. -/
structure LateS (ops : Array Oper) (cs : List CO) (chk : List (Nat × Nat)) (m q : Nat) : Prop where
  lt : m < q
  sm : ∃ n x y, cs[m]? = some ⟨none, none, .store n x y⟩
  sq : ∃ n x y, cs[q]? = some ⟨none, none, .store n x y⟩
  bef : ∀ k c, cs[k]? = some c → k ≠ m → k ≠ q → (c.op.heavy = true ∨ c.op.isLoad = true ∨ isAlloc c.op = true) → Bef ops k m ∧ Bef ops k q
  mem : (q, m) ∈ chk

structure DOK (ops : Array Oper) (cs : List CO) (chk : List (Nat × Nat)) (lp : Option (Nat × Nat)) : Prop where
  h0 : ∀ (j : Nat) (o : Oper) (c : CO), ops[j]? = some o → cs[j]? = some c → ∀ e, e ∈ o.after.toList → Region.binds .any e = true → e.on < j
  hh : ∀ (i j : Nat) (d c : CO), cs[i]? = some d → cs[j]? = some c → i ≠ j → c.op.heavy = true → d.op.heavy = true → ((i < j → Bef ops i j) ∧ (j < i → Bef ops j i)) ∨ lp = some (i, j) ∨ lp = some (j, i)
  hr : ∀ (i j : Nat) (d c : CO) (t : Nat), cs[i]? = some d → cs[j]? = some c → i ≠ j → d.dst = some t → (t ∈ c.reads ∨ c.dst = some t) → (i < j → Bef ops i j) ∧ (j < i → Bef ops j i)
  ha1 : ∀ (j : Nat) (c : CO), cs[j]? = some c → isAlloc c.op = true → c.guard = none ∧ ∃ t, c.dst = some t
  ha2 : ∀ (i j : Nat) (d c : CO) (t : Nat), cs[i]? = some d → cs[j]? = some c → i ≠ j → isAlloc c.op = true → c.dst = some t → d.dst ≠ some t ∧ (i < j → t ∉ d.reads)
  hl : ∀ (i j : Nat) (d c : CO), cs[i]? = some d → cs[j]? = some c → i ≠ j → c.op.isLoad = true → d.op.heavy = true → ((i < j → Bef ops i j) ∧ (j < i → Bef ops j i)) ∨ (j, i) ∈ chk
  late : ∀ m q, lp = some (m, q) → LateS ops cs chk m q

theorem storeP_is {c : CO} (h : isStoreP c = true) : ∃ n x y, c = ⟨none, none, .store n x y⟩ := by
  obtain ⟨d, g, o⟩ := c
  simp only [isStoreP, Bool.and_eq_true, Option.isNone_iff_eq_none] at h
  obtain ⟨⟨h1, h2⟩, h3⟩ := h
  subst h1 h2
  cases o <;> first | exact ⟨_, _, _, rfl⟩ | (simp [COp.isStore] at h3)

theorem dok_of {ops : Array Oper} {cs : List CO} {chk : List (Nat × Nat)} (h : dOk ops cs chk = true) : DOK ops cs chk (lateOf (befs ops.toList []) cs) := by
  have hB : ∀ j i, ((befs ops.toList []).getD j 0).testBit i = true → Bef ops i j := befs_sound ops.toList [] (by simp) (by simp)
  simp only [dOk, Bool.and_eq_true] at h
  obtain ⟨⟨hlate, hmem⟩, h⟩ := h
  generalize lateOf (befs ops.toList []) cs = lp at *
  simp only [List.all_eq_true, List.mem_range] at h
  have hord : ∀ i j, i ≠ j → ordered (befs ops.toList []) i j = true → (i < j → Bef ops i j) ∧ (j < i → Bef ops j i) := by
    intro i j hne ho
    unfold ordered at ho
    by_cases hlt : i < j
    · rw [if_pos hlt] at ho
      exact ⟨fun _ => hB _ _ ho, fun h => absurd h (by omega)⟩
    · rw [if_neg hlt] at ho
      exact ⟨fun h => absurd h hlt, fun _ => hB _ _ ho⟩
  have key : ∀ (j : Nat) (c : CO), cs[j]? = some c → ∃ o, ops[j]? = some o ∧ oneOk j o c = true ∧ ∀ i d, cs[i]? = some d → i ≠ j → pairOk (befs ops.toList []) lp chk i j d c = true := by
    intro j c hc
    have hj := h j (List.getElem?_eq_some_iff.1 hc).1
    split at hj
    · rename_i o c' ho hc'
      rw [hc] at hc'
      cases hc'
      simp only [Bool.and_eq_true, List.all_eq_true, List.mem_range] at hj
      refine ⟨o, ho, hj.1, fun i d hd hne => ?_⟩
      have := hj.2 i (List.getElem?_eq_some_iff.1 hd).1
      simpa [hne, hd] using this
    · cases hj
  have kpair : ∀ (i j : Nat) (d c : CO), cs[i]? = some d → cs[j]? = some c → i ≠ j → pairOk (befs ops.toList []) lp chk i j d c = true := fun i j d c hd hc hne => by
    obtain ⟨o, -, -, hp⟩ := key j c hc
    exact hp i d hd hne
  refine ⟨?_, ?_, ?_, ?_, ?_, ?_, ?_⟩
  · intro j o c ho hc e he hb
    obtain ⟨o', ho', h1, -⟩ := key j c hc
    rw [ho] at ho'
    cases ho'
    simp only [oneOk, Bool.and_eq_true, List.all_eq_true] at h1
    have := h1.1 e he
    simpa [hb] using this
  · intro i j d c hd hc hne h1 h2
    have hp := kpair i j d c hd hc hne
    simp only [pairOk, Bool.and_eq_true] at hp
    have := hp.1.1.1
    simp only [h1, h2, Bool.and_self, Bool.not_true, Bool.false_or, Bool.or_eq_true, beq_iff_eq] at this
    rcases this with (h3 | h3) | h3
    · exact Or.inl (hord i j hne h3)
    · exact Or.inr (Or.inl h3)
    · exact Or.inr (Or.inr h3)
  · intro i j d c t hd hc hne h1 h2
    have hp := kpair i j d c hd hc hne
    simp only [pairOk, Bool.and_eq_true] at hp
    refine hord i j hne ?_
    have := hp.1.1.2
    rw [h1] at this
    simp only [Bool.or_eq_true, Bool.not_eq_true', Bool.or_eq_false_iff] at this
    rcases this with ⟨h3, h4⟩ | h5
    · rcases h2 with h2 | h2
      · simp [h2] at h3
      · simp [h2] at h4
    · exact h5
  · intro j c hc h1
    obtain ⟨o, -, h2, -⟩ := key j c hc
    simp only [oneOk, Bool.and_eq_true] at h2
    have := h2.2
    simp only [h1, Bool.not_true, Bool.false_or, Bool.and_eq_true, Option.isNone_iff_eq_none] at this
    exact ⟨this.1, Option.isSome_iff_exists.1 this.2⟩
  · intro i j d c t hd hc hne h1 h2
    have hp := kpair i j d c hd hc hne
    simp only [pairOk, Bool.and_eq_true] at hp
    have := hp.1.2
    rw [h2] at this
    simp only [h1, Bool.not_true, Bool.false_or, Bool.and_eq_true, Bool.not_eq_true', Bool.or_eq_true, decide_eq_true_eq] at this
    refine ⟨by intro hx; simp [hx] at this, fun hlt hm => ?_⟩
    rcases this.2 with h3 | h3
    · omega
    · simp [hm] at h3
  · intro i j d c hd hc hne h1 h2
    have hp := kpair i j d c hd hc hne
    simp only [pairOk, Bool.and_eq_true] at hp
    have := hp.2
    simp only [h1, h2, Bool.and_self, Bool.not_true, Bool.false_or, Bool.or_eq_true] at this
    rcases this with h3 | h3
    · exact Or.inl (hord i j hne h3)
    · exact Or.inr (by simpa using h3)
  · intro m q hlp
    subst hlp
    simp only [lateOk, Bool.and_eq_true, decide_eq_true_eq] at hlate
    obtain ⟨⟨h1, h2⟩, h3⟩ := hlate
    split at h2
    · rename_i d c hd hc
      simp only [Bool.and_eq_true] at h2
      obtain ⟨n1, x1, y1, rfl⟩ := storeP_is h2.1
      obtain ⟨n2, x2, y2, rfl⟩ := storeP_is h2.2
      refine ⟨h1, ⟨_, _, _, hd⟩, ⟨_, _, _, hc⟩, fun k c' hk hkm hkq hor => ?_, by simpa using hmem⟩
      simp only [List.all_eq_true, List.mem_range] at h3
      have := h3 k (List.getElem?_eq_some_iff.1 hk).1
      rw [hk] at this
      simp only [Bool.or_eq_true, beq_iff_eq, Bool.not_eq_true', Bool.or_eq_false_iff, Bool.and_eq_true] at this
      rcases this with (h4 | h4) | h4 | h4
      · exact absurd h4 hkm
      · exact absurd h4 hkq
      · rcases hor with h5 | h5 | h5
        · rw [h4.1.1] at h5; cases h5
        · rw [h4.1.2] at h5; cases h5
        · rw [h4.2] at h5; cases h5
      · exact ⟨hB _ _ h4.1, hB _ _ h4.2⟩
    · cases h2

/-! ### The run in the text's order, as a row of states -/
def StepT (call : Nat → List AV → St → Option (AV × St)) (c : CO) (x y : Env × St) : Prop :=
  if isAlloc c.op = true then y = x
  else if wantedA x.1 c.guard = true then ∃ v, evOp call c.op x.1 x.2 = some (v, y.2) ∧ y.1 = x.1.put c.dst v
  else y = (x.1.put c.dst undefA, x.2)

theorem trace {call : Nat → List AV → St → Option (AV × St)} : ∀ (cs : List CO) (e : Env) (s : St) (e' : Env) (s' : St), evRest call cs e s = some (e', s') →
    ∃ tr : Nat → Env × St, tr 0 = (e, s) ∧ tr cs.length = (e', s') ∧ (∀ (j : Nat) (c : CO), cs[j]? = some c → StepT call c (tr j) (tr (j + 1))) ∧ ∀ k, k ≤ cs.length → (evTr call cs e s)[k]? = some (tr k)
  | [], e, s, e', s', h => by
    cases h
    refine ⟨fun _ => (e, s), rfl, rfl, by simp, fun k hk => ?_⟩
    have hk0 : k = 0 := by simpa using hk
    subst hk0
    rfl
  | c :: r, e, s, e', s', h => by
    have key : ∀ e1 s1, evRest call r e1 s1 = some (e', s') → StepT call c (e, s) (e1, s1) → evTr call (c :: r) e s = (e, s) :: evTr call r e1 s1 → ∃ tr : Nat → Env × St, tr 0 = (e, s) ∧ tr (c :: r).length = (e', s') ∧ (∀ (j : Nat) (d : CO), (c :: r)[j]? = some d → StepT call d (tr j) (tr (j + 1))) ∧ ∀ k, k ≤ (c :: r).length → (evTr call (c :: r) e s)[k]? = some (tr k) := by
      intro e1 s1 h1 hst htr
      obtain ⟨tr, t0, tn, ts, tl⟩ := trace r e1 s1 e' s' h1
      refine ⟨fun k => match k with | 0 => (e, s) | k + 1 => tr k, rfl, tn, ?_, ?_⟩
      rotate_left
      · intro k hk
        rw [htr]
        cases k with
        | zero => rfl
        | succ k => exact tl k (by simpa using hk)
      intro j d hd
      cases j with
      | zero =>
        simp at hd
        subst hd
        show StepT call c (e, s) (tr 0)
        rw [t0]
        exact hst
      | succ j => exact ts j d (by simpa using hd)
    simp only [evRest] at h
    split at h
    · rename_i ha
      exact key e s h (by unfold StepT; rw [if_pos ha]) (by simp [evTr, ha])
    · rename_i ha
      split at h
      · rename_i hw
        split at h
        · rename_i v s1 hv
          exact key _ s1 h (by unfold StepT; rw [if_neg ha, if_pos hw]; exact ⟨v, hv, rfl⟩) (by simp [evTr, ha, hw, hv])
        · cases h
      · rename_i hw
        exact key _ s h (by unfold StepT; rw [if_neg ha, if_neg hw]) (by simp [evTr, ha, hw])

theorem evOp_congr {call : Nat → List AV → St → Option (AV × St)} {o : COp} {e e' : Env} (h : ∀ x, x ∈ o.opds → x.ev e = x.ev e') (s : St) : evOp call o e s = evOp call o e' s := by
  have hmap : ∀ l : List Opd, (∀ x, x ∈ l → x.ev e = x.ev e') → l.map (Opd.ev e) = l.map (Opd.ev e') := fun l hl => List.map_congr_left hl
  have hfill : ∀ (ps : List (Nat × Nat × Opd)) (zs : List AV), (∀ x, x ∈ ps.map (fun p => p.2.2) → x.ev e = x.ev e') → fillA zs e ps = fillA zs e' ps := by
    intro ps
    induction ps with
    | nil => intro zs _; rfl
    | cons p ps ih =>
      intro zs hp
      obtain ⟨off, sz, x⟩ := p
      simp only [List.map_cons, List.mem_cons, forall_eq_or_imp] at hp
      simp only [fillA, hp.1]
      split
      · exact ih _ hp.2
      · rfl
  have hopt : ∀ o : Option Opd, (∀ x, x ∈ o.toList → x.ev e = x.ev e') → o.map (Opd.ev e) = o.map (Opd.ev e') := by
    intro o ho
    cases o with
    | none => rfl
    | some x => simp [ho x (by simp)]
  cases o <;> simp only [COp.opds] at h <;> simp only [evOp]
  case build zs ps => rw [hfill ps zs h]
  case bsl a b zs ps => rw [hfill ps zs h]
  case bslm a b zs ps => rw [hfill ps zs h]
  case builda zs ps => rw [hfill ps zs h]
  case eqs a b x y => rw [h x (by simp), h y (by simp)]
  case shf a x y => rw [h x (by simp), h y (by simp)]
  case idxa a b c x y => rw [h x (by simp), h y (by simp)]
  case mm a args => rw [hmap args h]
  case eqp z x y => rw [h x (by simp), h y (by simp)]
  case mlk z x y => rw [h x (by simp), h y (by simp)]
  case mup x y z => rw [h x (by simp), h y (by simp), h z (by simp)]
  case mdl x y => rw [h x (by simp), h y (by simp)]
  case mksl a b c x y => rw [h x (by simp), h y (by simp)]
  case clo f cs => rw [hmap cs h]
  case call f args => rw [hmap args h]
  case callv x args => rw [h x (by simp), hmap args (fun y hy => h y (by simp [hy]))]
  case slc a x lo hi mx => rw [h x (by simp), hopt lo (fun y hy => h y (by simp [hy])), hopt hi (fun y hy => h y (by simp [hy])), hopt mx (fun y hy => h y (by simp [hy]))]
  case sls x lo hi => rw [h x (by simp), hopt lo (fun y hy => h y (by simp [hy])), hopt hi (fun y hy => h y (by simp [hy]))]
  case pick a b c => rw [h a (by simp), h b (by simp), h c (by simp)]
  case store a x y => rw [h x (by simp), h y (by simp)]
  case bin a x y => rw [h x (by simp), h y (by simp)]
  case eqb a x y => rw [h x (by simp), h y (by simp)]
  case iaddr a x y => rw [h x (by simp), h y (by simp)]
  case iaddra a b x y => rw [h x (by simp), h y (by simp)]
  case idx x y => rw [h x (by simp), h y (by simp)]
  case app a b c d x y => rw [h x (by simp), h y (by simp)]
  all_goals (try rw [h _ (by simp)])

theorem evOp_free {call : Nat → List AV → St → Option (AV × St)} {o : COp} (hh : o.heavy = false) (ha : isAlloc o = false) {e : Env} {s s' : St} {v : AV} (h : evOp call o e s = some (v, s')) :
    s' = s ∧ (o.isLoad = false → ∀ s2, evOp call o e s2 = some (v, s2)) := by
  cases o <;> first | (simp [COp.heavy] at hh; done) | (simp [isAlloc] at ha; done) | skip
  all_goals simp only [evOp, COp.isLoad] at h ⊢
  all_goals first
    | (cases h; exact ⟨rfl, fun _ _ => rfl⟩)
    | ((repeat' split at h) <;> first | (cases h; done) | (cases h; refine ⟨rfl, fun _ s2 => ?_⟩; simp_all))
    | ((repeat' split at h) <;> first | (cases h; done) | (cases h; exact ⟨rfl, fun hx => by simp at hx⟩))

mutual
theorem beq_eq : ∀ {a b : AV}, AV.beq a b = true → a = b
  | .bool a, b, h => by cases b <;> simp [AV.beq] at h; rw [h]
  | .int k a, b, h => by cases b <;> simp [AV.beq] at h; rw [h.1, h.2]
  | .str a, b, h => by cases b <;> simp [AV.beq] at h; rw [h]
  | .nilp, b, h => by cases b <;> simp [AV.beq] at h; rfl
  | .ptr i o, b, h => by cases b <;> simp [AV.beq] at h; rw [h.1, h.2]
  | .eptr cs, b, h => by
    cases b <;> simp [AV.beq] at h
    rw [beqs_eq h]
  | .nils, b, h => by cases b <;> simp [AV.beq] at h; rfl
  | .sl cs n f t, b, h => by
    cases b <;> simp [AV.beq] at h
    rw [beqs_eq h.1.1.1, h.1.1.2, h.1.2, h.2]
  | .msl i o n z, b, h => by cases b <;> simp [AV.beq] at h; rw [h.1.1.1, h.1.1.2, h.1.2, h.2]
  | .func f cs, b, h => by
    cases b <;> simp [AV.beq] at h
    rw [h.1, beqs_eq h.2]
  | .nilf, b, h => by cases b <;> simp [AV.beq] at h; rfl
  | .agg cs, b, h => by
    cases b <;> simp [AV.beq] at h
    rw [beqs_eq h]
  | .tup cs, b, h => by
    cases b <;> simp [AV.beq] at h
    rw [beqs_eq h]
  | .iface t a, b, h => by
    cases b <;> simp [AV.beq] at h
    rw [h.1, beq_eq h.2]
  | .niliface, b, h => by cases b <;> simp [AV.beq] at h; rfl
  | .mapv i, b, h => by cases b <;> simp [AV.beq] at h; rw [h]
  | .nilm, b, h => by cases b <;> simp [AV.beq] at h; rfl
theorem beqs_eq : ∀ {as bs : List AV}, AV.beqs as bs = true → as = bs
  | [], [], _ => rfl
  | [], _ :: _, h => by simp [AV.beqs] at h
  | _ :: _, [], h => by simp [AV.beqs] at h
  | a :: as, b :: bs, h => by
    simp only [AV.beqs, Bool.and_eq_true] at h
    rw [beq_eq h.1, beqs_eq h.2]
end

mutual
theorem beq_self : ∀ (a : AV), AV.beq a a = true
  | .bool _ => by simp [AV.beq]
  | .int _ _ => by simp [AV.beq]
  | .str _ => by simp [AV.beq]
  | .nilp => by simp [AV.beq]
  | .ptr _ _ => by simp [AV.beq]
  | .eptr cs => by simp [AV.beq, beqs_self cs]
  | .nils => by simp [AV.beq]
  | .sl cs _ _ _ => by simp [AV.beq, beqs_self cs]
  | .msl _ _ _ _ => by simp [AV.beq]
  | .func _ cs => by simp [AV.beq, beqs_self cs]
  | .nilf => by simp [AV.beq]
  | .agg cs => by simp [AV.beq, beqs_self cs]
  | .tup cs => by simp [AV.beq, beqs_self cs]
  | .iface _ a => by simp [AV.beq, beq_self a]
  | .niliface => by simp [AV.beq]
  | .mapv _ => by simp [AV.beq]
  | .nilm => by simp [AV.beq]
theorem beqs_self : ∀ (as : List AV), AV.beqs as as = true
  | [] => by simp [AV.beqs]
  | a :: as => by simp [AV.beqs, beq_self a, beqs_self as]
end

theorem first_of (p : Nat → Prop) : ∀ (m a : Nat), (∀ k, a ≤ k → k < a + m → ¬ p k) ∨ ∃ k, a ≤ k ∧ k < a + m ∧ p k ∧ ∀ i, a ≤ i → i < k → ¬ p i
  | 0, a => Or.inl fun k h1 h2 => by omega
  | m + 1, a => by
    by_cases h : p a
    · exact Or.inr ⟨a, Nat.le_refl _, by omega, h, fun i h1 h2 => by omega⟩
    · rcases first_of p m (a + 1) with h1 | ⟨k, h1, h2, h3, h4⟩
      · refine Or.inl fun k h2 h3 => ?_
        by_cases hk : k = a
        · subst hk; exact h
        · exact h1 k (by omega) (by omega)
      · refine Or.inr ⟨k, by omega, by omega, h3, fun i h5 h6 => ?_⟩
        by_cases hi : i = a
        · subst hi; exact h
        · exact h4 i (by omega) h6

theorem last_of (p : Nat → Prop) : ∀ (m a : Nat), (∀ k, a ≤ k → k < a + m → ¬ p k) ∨ ∃ k, a ≤ k ∧ k < a + m ∧ p k ∧ ∀ i, k < i → i < a + m → ¬ p i
  | 0, a => Or.inl fun k h1 h2 => by omega
  | m + 1, a => by
    by_cases h : p (a + m)
    · exact Or.inr ⟨a + m, by omega, by omega, h, fun i h1 h2 => by omega⟩
    · rcases last_of p m a with h1 | ⟨k, h1, h2, h3, h4⟩
      · refine Or.inl fun k h2 h3 => ?_
        by_cases hk : k = a + m
        · subst hk; exact h
        · exact h1 k (by omega) (by omega)
      · refine Or.inr ⟨k, by omega, by omega, h3, fun i h5 h6 => ?_⟩
        by_cases hi : i = a + m
        · subst hi; exact h
        · exact h4 i (by omega) (by omega)

end Go.Am
