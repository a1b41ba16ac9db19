/- Whole texts and calls: the abstract machine's run tells Go's. Conditions: none. -/
import Derived.Test.YtfleakoephmgaaaDoorAmN
set_option linter.unusedSimpArgs false
set_option linter.unusedVariables false
namespace Go.Am

section
variable {G : Glob} {P : Program}

theorem loadVar_sound {ρ : Rho} {s : St} {w : World} (hS : Sim ρ s w) {t : TypeId} {g : Bool} {i : TypeInfo} (hg : aggOf P t = some g) (hi : P.info? t = some i) {va v : AV} {x : Value}
    (h : loadA s g (if g then i.size else 1) va = some v) (hV : V ρ w s.size va x) : ∃ v', (do loadVar t (← asAddr x) : Sem Value).run P w = .ok v' w ∧ V ρ w s.size v v' := by
  obtain ⟨v', hr, hv⟩ := load_sound hS hg hi h hV
  refine ⟨v', ?_, hv⟩
  have hx : ∃ ad, x = .pointer (some ad) := by
    unfold loadA at h
    split at h
    · rename_i cs hcs
      obtain ⟨b, o, vs, rfl, -⟩ := rd_sound hS hcs hV
      exact ⟨_, rfl⟩
    · cases h
  obtain ⟨ad, rfl⟩ := hx
  simpa [Instr.loadAt, Instr.sureAddr, asAddr] using hr

def resF (tmps : Array Value) : ResultVar → Sem Value
  | .tmp t => pure (tmps.getD t undef)
  | .cell a t => do loadVar t (← asAddr (tmps.getD a undef))

theorem res_list {ρ : Rho} {s : St} {w : World} {e : Env} {tmps : Array Value} (hS : Sim ρ s w) (hE : EnvR G ρ w s.size e tmps) :
    ∀ (l : List ResultVar) (rs : List CR) (vs : List AV), cRes P l = some rs → resAs e s rs = some vs → ∃ us, (l.mapM (resF tmps)).run P w = .ok us w ∧ Vs ρ w s.size vs us
  | [], rs, vs, hc, h => by
    cases hc
    cases h
    exact ⟨[], by simp, .nil⟩
  | .tmp t :: l, rs, vs, hc, h => by
    simp only [cRes, Option.map_eq_some_iff] at hc
    obtain ⟨rs', hc', rfl⟩ := hc
    simp only [resAs, resA] at h
    split at h
    · rename_i v vs' h1 h2
      cases h1
      cases h
      obtain ⟨us, hr, hV⟩ := res_list hS hE l rs' vs' hc' h2
      refine ⟨tmps.getD t undef :: us, ?_, .cons _ _ _ _ (hE.1 t) hV⟩
      have h1 : (resF tmps (.tmp t)).run P w = .ok (tmps.getD t undef) w := rfl
      rw [List.mapM_cons]
      simp only [Sem.run_bind]
      rw [h1]
      simp only [Result.andThen]
      rw [hr]
      rfl
    · cases h
  | .cell a t :: l, rs, vs, hc, h => by
    simp only [cRes] at hc
    split at hc
    · rename_i g i rs' h1 h2 h3
      cases hc
      simp only [resAs, resA] at h
      split at h
      · rename_i v vs' h4 h5
        cases h
        obtain ⟨us, hr, hV⟩ := res_list hS hE l rs' vs' h3 h5
        obtain ⟨u, hru, hVu⟩ := loadVar_sound hS h1 h2 h4 (hE.1 a)
        refine ⟨u :: us, ?_, .cons _ _ _ _ hVu hV⟩
        have h6 : (resF tmps (.cell a t)).run P w = .ok u w := hru
        rw [List.mapM_cons]
        simp only [Sem.run_bind]
        rw [h6]
        simp only [Result.andThen]
        rw [hr]
        rfl
      · cases h
    · cases hc

theorem ret_sound {ρ : Rho} {s : St} {w : World} {e : Env} {tmps : Array Value} (hS : Sim ρ s w) (hE : EnvR G ρ w s.size e tmps) {fn : Func} {rs : List CR} {v : AV} (hc : cRes P fn.results.toList = some rs) (h : retA e s rs = some v) :
    ∃ v', (results fn tmps).run P w = .ok v' w ∧ V ρ w s.size v v' := by
  unfold retA at h
  have key : ∀ vs, resAs e s rs = some vs → ∃ us : List Value, (results fn tmps).run P w = .ok (if h : us.length = 1 then us[0] else .tuple us.toArray) w ∧ Vs ρ w s.size vs us := by
    intro vs hvs
    obtain ⟨us, hr, hV⟩ := res_list hS hE _ _ _ hc hvs
    refine ⟨us, ?_, hV⟩
    have hres : results fn tmps = (do
        let vs ← fn.results.mapM (resF tmps)
        pure (if h : vs.size = 1 then vs[0] else .tuple vs)) := by
      unfold results
      congr 2
    rw [hres, Array.mapM_eq_mapM_toList]
    simp only [Sem.run_bind, bind_pure_comp]
    simp [hr]
  split at h
  · rename_i v0 hvs
    cases h
    obtain ⟨us, hr, hV⟩ := key _ hvs
    match us, hV with
    | [u], .cons _ _ _ _ hu _ => exact ⟨u, by simpa using hr, hu⟩
  · rename_i vs hne hvs
    cases h
    obtain ⟨us, hr, hV⟩ := key _ hvs
    have hl : us.length ≠ 1 := by
      intro hl
      have hvl : vs.length = 1 := by rw [← hV.length]; exact hl
      obtain ⟨v0, rfl⟩ := List.length_eq_one_iff.1 hvl
      exact hne v0 rfl
    rw [dif_neg hl] at hr
    exact ⟨_, hr, .tup _ _ hV⟩
  · cases h

/-- The functions' texts are the program's, and what is told of the others holds. -/
structure Good (G : Glob) (P : Program) (T : Nat → Option CF) (X : Ext) : Prop where
  hm : P.follows .mixedOrders = true
  hT : ∀ f cf, T f = some cf → ∃ fn mu fz, P.funcs[f]? = some fn ∧ cFunc G P mu fn fz = some cf
  hX : ∀ f h, X f = some h → ∀ args s v s', h args s = some (v, s') → CallC G P f args s v s'

def SOk (G : Glob) (P : Program) (T : Nat → Option CF) (X : Ext) (n : Nat) : Prop :=
  ∀ (mu : Bool) (fz : List Nat) (nt : Nat) (c : Code) (cc : CC) (e e' : Env) (s s' : St) (x : CX), cCode G P mu fz nt c = some cc → ev T X n cc e s = some (x, e', s') →
    ∀ (ρ : Rho) (w : World) (a : Act) (Q : Exit → Act → World → Prop), Sim ρ s w → EnvR G ρ w s.size e a.tmps → actOk a nt →
      (∀ ρ' a' w', Fr ρ s w ρ' s' w' → Sim ρ' s' w' → EnvR G ρ' w' s'.size e' a'.tmps → actOk a' nt → Q (exOf x) a' w') → c.wp P Q a w

def LOk (G : Glob) (P : Program) (T : Nat → Option CF) (X : Ext) (n : Nat) : Prop :=
  ∀ (mu : Bool) (fz : List Nat) (nt : Nat) (c : Code) (cc : CC) (e e' : Env) (s s' : St) (x : CX), cCode G P mu fz nt c = some cc → ev T X n (.loop cc) e s = some (x, e', s') →
    ∀ (ρ : Rho) (w : World) (a : Act) (Q : Exit → Act → World → Prop), Sim ρ s w → EnvR G ρ w s.size e a.tmps → actOk a nt →
      (∀ ρ' a' w', Fr ρ s w ρ' s' w' → Sim ρ' s' w' → EnvR G ρ' w' s'.size e' a'.tmps → actOk a' nt → Q (exOf x) a' w') → Code.rounds P c Q n a w

theorem loop_step {T : Nat → Option CF} {X : Ext} {n : Nat} (hS : SOk G P T X n) (hL : LOk G P T X n) : LOk G P T X (n + 1) := by
  intro mu fz nt c cc e e' s s' x hc h ρ w a Q hsim hE ha hQ
  simp only [ev] at h
  rw [rounds_succ]
  split at h
  · rename_i e1 s1 h1
    refine hS mu fz nt c cc e e1 s s1 .normal hc h1 ρ w a _ hsim hE ha ?_
    intro ρ1 a1 w1 hF hsim1 hE1 ha1
    exact hL mu fz nt c cc e1 e' s1 s' x hc h ρ1 w1 a1 Q hsim1 hE1 ha1 (fun ρ' a' w' hF' => hQ ρ' a' w' (hF.trans hF'))
  · rename_i hne
    refine hS mu fz nt c cc e e' s s' x hc h ρ w a _ hsim hE ha ?_
    intro ρ1 a1 w1 hF hsim1 hE1 ha1
    have hq := hQ ρ1 a1 w1 hF hsim1 hE1 ha1
    cases x with
    | normal => exact absurd h (hne e' s')
    | exit j => exact hq
    | ret => exact hq

theorem code_step {T : Nat → Option CF} {X : Ext} {n : Nat} (hm : P.follows .mixedOrders = true) (hS : SOk G P T X n) (hL : LOk G P T X (n + 1)) (hC : CallOk G P (evCall T X n)) : SOk G P T X (n + 1) := by
  intro mu fz nt c cc e e' s s' x hc h ρ w a Q hsim hE ha hQ
  cases c with
  | skip =>
    cases hc
    cases h
    exact wp_skip (hQ ρ a w (Fr.refl _ _ _) hsim hE ha)
  | region id ops draw =>
    cases draw with
    | true =>
      simp only [cCode] at hc
      split at hc
      · rename_i cs hcs
        split at hc
        · rename_i hdk
          cases hc
          simp only [ev] at h
          split at h
          · rename_i e1 s1 h1
            split at h
            · rename_i hch
              cases h
              exact draw_wp hm hC hcs (dok_of hdk) h1 hch hsim hE ha hQ
            · cases h
          · cases h
        · cases hc; simp only [ev] at h; cases h
      · cases hc
    | false =>
      simp only [cCode, Option.map_eq_some_iff] at hc
      obtain ⟨cs, hcs, rfl⟩ := hc
      simp only [ev] at h
      split at h
      · rename_i e1 s1 h1
        cases h
        refine wp_region ?_
        rw [List.range_eq_range']
        have := ops_wp (nt := nt) hC fz (ops := ops) (Q := Q) ops.toList 0 cs ρ s w a e e' s' (fun j => by simp) hcs h1 hsim hE ha hQ
        rw [Array.length_toList] at this
        exact this
      · cases h
  | seq x1 x2 =>
    simp only [cCode] at hc
    split at hc
    · rename_i c1 c2 h1 h2
      cases hc
      simp only [ev] at h
      refine wp_seq ?_
      split at h
      · rename_i e1 s1 hr
        refine hS mu fz nt x1 c1 e e1 s s1 .normal h1 hr ρ w a _ hsim hE ha ?_
        intro ρ1 a1 w1 hF hsim1 hE1 ha1
        exact hS mu fz nt x2 c2 e1 e' s1 s' x h2 h ρ1 w1 a1 Q hsim1 hE1 ha1 (fun ρ' a' w' hF' => hQ ρ' a' w' (hF.trans hF'))
      · rename_i r hr hne
        refine hS mu fz nt x1 c1 e e' s s' x h1 h ρ w a _ hsim hE ha ?_
        intro ρ1 a1 w1 hF hsim1 hE1 ha1
        have hq := hQ ρ1 a1 w1 hF hsim1 hE1 ha1
        cases x with
        | normal => exact absurd h (hne e' s')
        | exit j => exact hq
        | ret => exact hq
    · cases hc
  | cond t x1 x2 =>
    simp only [cCode] at hc
    split at hc
    · rename_i q c1 c2 h0 h1 h2
      cases hc
      simp only [ev] at h
      have hx := cO_sound hE h0
      split at h
      · rename_i hv
        rw [hv] at hx
        have hxe : a.eval t = .bool true := by generalize a.eval t = y at hx; cases hx; rfl
        exact wp_cond_true hxe (hS mu fz nt x1 c1 e e' s s' x h1 h ρ w a Q hsim hE ha hQ)
      · rename_i hv
        rw [hv] at hx
        have hxe : a.eval t = .bool false := by generalize a.eval t = y at hx; cases hx; rfl
        exact wp_cond_false hxe (hS mu fz nt x2 c2 e e' s s' x h2 h ρ w a Q hsim hE ha hQ)
      · cases h
    · cases hc
  | block id b =>
    simp only [cCode, Option.map_eq_some_iff] at hc
    obtain ⟨bc, hb, rfl⟩ := hc
    simp only [ev] at h
    refine wp_block ?_
    split at h
    · rename_i j e1 s1 hr
      refine hS mu fz nt b bc e e1 s s1 (.exit j) hb hr ρ w a _ hsim hE ha ?_
      intro ρ1 a1 w1 hF hsim1 hE1 ha1
      simp only [exOf, Exit.inBlock]
      split at h
      · rename_i hj
        cases h
        rw [if_pos hj]
        exact hQ ρ1 a1 w1 hF hsim1 hE1 ha1
      · rename_i hj
        cases h
        rw [if_neg hj]
        exact hQ ρ1 a1 w1 hF hsim1 hE1 ha1
    · rename_i hne
      refine hS mu fz nt b bc e e' s s' x hb h ρ w a _ hsim hE ha ?_
      intro ρ1 a1 w1 hF hsim1 hE1 ha1
      have hq := hQ ρ1 a1 w1 hF hsim1 hE1 ha1
      cases x with
      | normal => exact hq
      | exit j => exact absurd h (hne j e' s')
      | ret => exact hq
  | loop b =>
    simp only [cCode, Option.map_eq_some_iff] at hc
    obtain ⟨bc, hb, rfl⟩ := hc
    exact wp_loop_rounds (n + 1) (hL mu fz nt b bc e e' s s' x hb h ρ w a Q hsim hE ha hQ)
  | exit id =>
    cases hc
    cases h
    exact wp_exit (hQ ρ a w (Fr.refl _ _ _) hsim hE ha)
  | ret =>
    cases hc
    cases h
    exact wp_ret (hQ ρ a w (Fr.refl _ _ _) hsim hE ha)
  | rangeFunc f ps x1 x2 =>
    simp only [cCode] at hc
    split at hc <;> (cases hc; simp only [ev] at h; cases h)
  | _ => cases hc; simp only [ev] at h; cases h

theorem env0_R {ρ : Rho} {w : World} {n nt : Nat} {args : List AV} {argv : List Value} (h : Vs ρ w n args argv) (hg : GlobR G ρ w n) : EnvR G ρ w n (env0 args) (argv.toArray ++ Array.replicate nt undef) := by
  refine ⟨?_, hg⟩
  intro t
  have hl := h.length
  unfold env0
  rw [Array.getD_eq_getD_getElem?, List.getD_eq_getElem?_getD]
  cases ht : args[t]? with
  | some v =>
    obtain ⟨u, hu, hV⟩ := h.get ht
    have hlt := (List.getElem?_eq_some_iff.1 hu).1
    rw [Array.getElem?_append_left (by simpa using hlt)]
    simp [hu, hV]
  | none =>
    have hge : args.length ≤ t := List.getElem?_eq_none_iff.1 ht
    rw [Array.getElem?_append_right (by simp; omega)]
    simp only [Option.getD_none, Array.getElem?_replicate]
    split <;> exact undef_V

theorem call_step {T : Nat → Option CF} {X : Ext} {n : Nat} (hG : Good G P T X) (hS : SOk G P T X n) : CallOk G P (evCall T X (n + 1)) := by
  intro f args s v s' h
  simp only [evCall] at h
  split at h
  · rename_i hx hX
    exact hG.hX f hx hX args s v s' h
  · split at h
    · cases h
    · rename_i cf hcf
      obtain ⟨fn, mu, fz, hf, hfn⟩ := hG.hT f cf hcf
      unfold cFunc at hfn
      split at hfn
      · rename_i body hb
        split at hfn
        · rename_i bc rs hbc hrs
          split at hfn
          · cases hfn
          · rename_i hname
            cases hfn
            intro ρ w argv hsim hgl hargs
            have hal := hargs.length
            have hname' : ¬ fn.name = "runtime.NumGoroutine" := by simpa using hname
            refine ⟨fun w1 => by simp [callFunc, hf, hname', hb], ?_⟩
            split at h
            · rename_i hlen
              simp only at hlen
              refine calls_of_wp hf hb ?_
              have hE : EnvR G ρ w s.size (env0 args) (argv.toArray ++ Array.replicate (fn.ntmps - argv.toArray.size) undef) := env0_R hargs hgl
              have ha : actOk { tmps := argv.toArray ++ Array.replicate (fn.ntmps - argv.toArray.size) undef, defers := [] } fn.ntmps := ⟨by simp; omega, rfl⟩
              split at h
              · rename_i e1 s1 hr
                split at h
                · rename_i v1 hret
                  cases h
                  refine hS mu fz fn.ntmps body bc _ e1 s s' .normal hbc hr ρ w _ _ hsim hE ha ?_
                  intro ρ1 a1 w1 hF hsim1 hE1 ha1
                  obtain ⟨v', hrun, hV⟩ := ret_sound hsim1 hE1 hrs hret
                  exact ⟨ha1.2, v', hrun, ρ1, v', rfl, hF, hsim1, hV⟩
                · cases h
              · rename_i e1 s1 hr
                split at h
                · rename_i v1 hret
                  cases h
                  refine hS mu fz fn.ntmps body bc _ e1 s s' .ret hbc hr ρ w _ _ hsim hE ha ?_
                  intro ρ1 a1 w1 hF hsim1 hE1 ha1
                  obtain ⟨v', hrun, hV⟩ := ret_sound hsim1 hE1 hrs hret
                  exact ⟨ha1.2, v', hrun, ρ1, v', rfl, hF, hsim1, hV⟩
                · cases h
              · cases h
            · cases h
        · cases hfn
      · cases hfn

/-- The abstract machine's run tells Go's. -/
theorem sound {T : Nat → Option CF} {X : Ext} (hG : Good G P T X) : ∀ n, SOk G P T X n ∧ LOk G P T X n ∧ CallOk G P (evCall T X n)
  | 0 => ⟨by intro mu fz nt c cc e e' s s' x hc h; simp [ev] at h, by intro mu fz nt c cc e e' s s' x hc h; simp [ev] at h, by intro f args s v s' h; simp [evCall] at h⟩
  | n + 1 => by
    obtain ⟨h1, h2, h3⟩ := sound hG n
    have h4 := loop_step h1 h2
    exact ⟨code_step hG.hm h1 h4 h3, h4, call_step hG h1⟩

end
end Go.Am
