/- Operations, regions, whole functions: what the abstract machine says holds of Go's run. Conditions: none. -/
import Derived.Test.YtfleakoephmgaaaDoorAmIm
import Derived.LoopN
set_option linter.unusedSimpArgs false
set_option linter.unusedVariables false
namespace Go.Am

/-- What is known of a call. -/
def CallC (G : Glob) (P : Program) (f : Nat) (args : List AV) (s : St) (v : AV) (s' : St) : Prop :=
  ∀ ρ w (argv : List Value), Sim ρ s w → GlobR G ρ w s.size → Vs ρ w s.size args argv →
    (∀ w1, (callFunc f argv.toArray).run P w1 = .ok (.enter f argv.toArray) w1) ∧
    Calls P f argv.toArray w fun en w' => ∃ ρ' v', en = .returned v' ∧ Fr ρ s w ρ' s' w' ∧ Sim ρ' s' w' ∧ V ρ' w' s'.size v v'

def CallOk (G : Glob) (P : Program) (call : Nat → List AV → St → Option (AV × St)) : Prop :=
  ∀ f args s v s', call f args s = some (v, s') → CallC G P f args s v s'

section
variable {G : Glob} {P : Program} {ρ : Rho} {s : St} {w : World} {a : Act} {o : Oper} {e : Env}

/-- What a call comes to. -/
def CallRes (P : Program) (call : Nat → List AV → St → Option (AV × St)) (o : Oper) (a : Act) (ρ : Rho) (s : St) (w : World) (v : AV) (s' : St) : Prop :=
  ∃ (f : Nat) (args : List AV) (argv : List Value), call f args s = some (v, s') ∧ Vs ρ w s.size args argv ∧ (execOp a.eval o).run P w = (callFunc f argv.toArray).run P w

theorem res_bin {op : BinOp} {t yt : TypeId} {x y : Operand} {v : AV} (hop : o.op = .binOp op t x y yt) (hS : Sim ρ s w)
    (h : ∃ v', (do eqGuard op t x y (a.eval x) (a.eval y); binOp op t (a.eval x) (a.eval y) : Sem Value).run P w = .ok v' w ∧ V ρ w s.size v v') : OpRes P o a ρ s w v s :=
  res_sem hS (by simp only [execOp, hop]) h

theorem cM_none {x : Option Operand} (h : cM G x = some none) : x = none := by
  cases x with
  | none => rfl
  | some y => simp [cM] at h

theorem zeroV_sound {t : TypeId} {za : AV} (h : zeroV P t = some za) : ∃ i z, P.info? t = some i ∧ i.zero = some z ∧ ∀ ρ w n, V ρ w n za z := by
  unfold zeroV at h
  split at h
  · rename_i i hi
    split at h
    · rename_i vs hz
      simp only [Option.map_eq_some_iff] at h
      obtain ⟨cs, hcs, rfl⟩ := h
      refine ⟨i, _, hi, hz, fun ρ w n => ?_⟩
      have := V.agg (ρ := ρ) (w := w) (n := n) cs vs.toList (Vs.ofVs hcs)
      simpa using this
    · rename_i v _ hz
      exact ⟨i, v, hi, hz, fun ρ w n => V.ofV h⟩
    · cases h
  · cases h

set_option maxHeartbeats 1000000 in
theorem op_sound0 {call : Nat → List AV → St → Option (AV × St)} {mu mb : Bool} {c : COp} {v : AV} {s' : St} (hS : Sim ρ s w) (hE : EnvR G ρ w s.size e a.tmps) (hc : cOp0 G P mu mb o.op = some c)
    (h : evOp call c e s = some (v, s')) : OpRes P o a ρ s w v s' ∨ CallRes P call o a ρ s w v s' := by
  cases hop : o.op <;> rw [hop] at hc <;> simp only [cOp0] at hc
  case move x =>
    left
    simp only [Option.map_eq_some_iff] at hc
    obtain ⟨q, hq, rfl⟩ := hc
    cases h
    exact res_still hS (v' := a.eval x) (by simp [execOp, hop]) (cO_sound hE hq)
  case assign x =>
    left
    simp only [Option.map_eq_some_iff] at hc
    obtain ⟨q, hq, rfl⟩ := hc
    cases h
    exact res_still hS (v' := a.eval x) (by simp [execOp, hop]) (cO_sound hE hq)
  case pick c x y =>
    left
    split at hc
    · rename_i c' x' y' h1 h2 h3
      cases hc
      simp only [evOp] at h
      split at h
      · rename_i t ht
        cases h
        have hcv := cO_sound hE h1
        rw [ht] at hcv
        have hcb : a.eval c = .bool t := by generalize a.eval c = q at hcv; cases hcv; rfl
        refine res_still hS (v' := if t then a.eval x else a.eval y) (by simp [execOp, hop, hcb, asBool]) ?_
        cases t
        · exact cO_sound hE h3
        · exact cO_sound hE h2
      · cases h
    · cases hc
  case alloc t =>
    left
    simp only [Option.map_eq_some_iff] at hc
    obtain ⟨q, hq, rfl⟩ := hc
    cases h
    exact alloc_sound hS hq hop
  case box t x =>
    left
    simp only [Option.map_eq_some_iff] at hc
    obtain ⟨q, hq, rfl⟩ := hc
    cases h
    exact box_sound hS (cO_sound hE hq) hop
  case build t ps =>
    left
    split at hc
    · rename_i fs zs h1 h2
      split at hc
      · rename_i pl hpl
        simp only [Option.map_eq_some_iff] at hc
        obtain ⟨q, hq, rfl⟩ := hc
        simp only [evOp] at h
        split at h
        · rename_i out hout
          cases h
          exact build_sound hS hE h1 h2 hpl hq hout hop
        · cases h
      · cases hc
    · rename_i len el zs h1 h2
      split at hc
      · rename_i i hi
        simp only [Option.map_eq_some_iff] at hc
        obtain ⟨q, hq, rfl⟩ := hc
        simp only [evOp] at h
        split at h
        · rename_i out hout
          cases h
          exact builda_sound hS hE h1 hi h2 hq hout hop
        · cases h
      · cases hc
    · cases hc
  case buildSlice t len ps =>
    left
    split at hc
    · rename_i el h1
      split at hc
      · rename_i i zs h2 h3
        split at hc
        · rename_i hcd
          obtain ⟨h0, hzl, hlim⟩ := hcd
          simp only [Option.map_eq_some_iff] at hc
          obtain ⟨q, hq, hqc⟩ := hc
          cases mb with
          | false =>
            simp only [Bool.false_eq_true, if_false] at hqc
            subst hqc
            simp only [evOp] at h
            split at h
            · rename_i out hout
              split at h
              · rename_i hst
                cases h
                exact bsl_sound hS hE h1 h2 h3 h0 hzl hlim hq hout hst.2 hop
              · cases h
            · cases h
          | true =>
            simp only [if_true] at hqc
            subst hqc
            simp only [evOp] at h
            split at h
            · rename_i out hout
              split at h
              · rename_i hst
                cases h
                exact bslm_sound hS hE h1 h2 h3 h0 hzl hlim hq hout hst.2 hop
              · cases h
            · cases h
        · cases hc
      · cases hc
    · cases hc
  case load t x =>
    left
    split at hc
    · rename_i g i q h1 h2 h3
      cases hc
      simp only [evOp] at h
      split at h
      · rename_i v' hv
        cases h
        exact res_sem hS (by simp [execOp, hop]) (load_sound hS h1 h2 hv (cO_sound hE h3))
      · cases h
    · cases hc
  case store t x y =>
    left
    split at hc
    · rename_i i xa ya h1 h2 h3
      cases hc
      simp only [evOp] at h
      split at h
      · rename_i s1 hv
        cases h
        exact store_sound hS h1 (cO_sound hE h2) (cO_sound hE h3) hv hop
      · cases h
    · cases hc
  case nilCheck x =>
    left
    simp only [Option.map_eq_some_iff] at hc
    obtain ⟨q, hq, rfl⟩ := hc
    have hx := cO_sound hE hq
    simp only [evOp] at h
    split at h
    · rename_i i off hv
      cases h
      rw [hv] at hx
      have hxe : a.eval x = .pointer (some ⟨ρ.blk i, off, none⟩) := by generalize a.eval x = q at hx; cases hx; rfl
      exact res_still hS (v' := a.eval x) (by simp [execOp, hop, hxe]) hx
    · rename_i cs hv
      cases h
      rw [hv] at hx
      have hxe : ∃ ad, a.eval x = .pointer (some ad) := by generalize a.eval x = q at hx; cases hx; exact ⟨_, rfl⟩
      obtain ⟨ad, hxe⟩ := hxe
      exact res_still hS (v' := a.eval x) (by simp [execOp, hop, hxe]) hx
    · cases h
  case binOp op t x y yt =>
    left
    unfold cBin at hc
    split at hc
    · rename_i k hk
      split at hc
      · rename_i xa ya h3 h4
        cases op <;> simp only [Option.some.injEq] at hc <;> subst hc <;> simp only [evOp] at h <;> split at h <;> first | (cases h; done) | skip
        all_goals
          rename_i v' hv
          cases h
          first
            | exact res_bin hop hS (binA_sound hv (cO_sound hE h3) (cO_sound hE h4) t x y)
            | exact res_bin hop hS (shf_sound hv (cO_sound hE h3) (cO_sound hE h4) t x y)
      · cases hc
    · rename_i fs hfs
      split at hc
      · rename_i hcd
        split at hc
        · rename_i xa ya ks h3 h4 h5
          cases hc
          simp only [evOp] at h
          split at h
          · rename_i v' hv
            cases h
            exact res_bin hop hS (eqs_sound (neq := false) hfs hcd.1 hcd.2 h5 hv (cO_sound hE h3) (cO_sound hE h4) x y)
          · cases h
        · rename_i xa ya ks h3 h4 h5
          cases hc
          simp only [evOp] at h
          split at h
          · rename_i v' hv
            cases h
            exact res_bin hop hS (eqs_sound (neq := true) hfs hcd.1 hcd.2 h5 hv (cO_sound hE h3) (cO_sound hE h4) x y)
          · cases h
        · cases hc
      · cases hc
    · split at hc
      · rename_i xa ya h3 h4
        cases hc
        simp only [evOp] at h
        split at h
        · rename_i v' hv
          cases h
          exact res_bin hop hS (binA_sound hv (cO_sound hE h3) (cO_sound hE h4) t x y)
        · cases h
      · cases hc
    · rename_i hb
      split at hc
      · rename_i xa ya h3 h4
        cases hc
        simp only [evOp] at h
        split at h
        · rename_i v' hv
          cases h
          exact res_bin hop hS (eqb_sound (neq := false) hb hv (cO_sound hE h3) (cO_sound hE h4) x y)
        · cases h
      · rename_i xa ya h3 h4
        cases hc
        simp only [evOp] at h
        split at h
        · rename_i v' hv
          cases h
          exact res_bin hop hS (eqb_sound (neq := true) hb hv (cO_sound hE h3) (cO_sound hE h4) x y)
        · cases h
      · cases hc
    · rename_i el hb
      split at hc
      · rename_i xa h3
        cases hc
        simp only [evOp] at h
        split at h
        · rename_i v' hv
          cases h
          exact res_bin hop hS (eqnilS_sound (neq := false) hb hv (cO_sound hE h3) x (.const (.slice none 0 0)))
        · cases h
      · rename_i xa h3
        cases hc
        simp only [evOp] at h
        split at h
        · rename_i v' hv
          cases h
          exact res_bin hop hS (eqnilS_sound (neq := true) hb hv (cO_sound hE h3) x (.const (.slice none 0 0)))
        · cases h
      · cases hc
    · rename_i ms hb
      split at hc
      · rename_i xa h3
        cases hc
        simp only [evOp] at h
        split at h
        · rename_i v' hv
          cases h
          exact res_bin hop hS (eqni_sound (neq := false) hb hv (cO_sound hE h3) x)
        · cases h
      · rename_i xa h3
        cases hc
        simp only [evOp] at h
        split at h
        · rename_i v' hv
          cases h
          exact res_bin hop hS (eqni_sound (neq := true) hb hv (cO_sound hE h3) x)
        · cases h
      · cases hc
    · rename_i el hb
      split at hc
      · rename_i xa h3
        cases hc
        simp only [evOp] at h
        split at h
        · rename_i v' hv
          cases h
          exact res_bin hop hS (eqnilP_sound (neq := false) hb hv (cO_sound hE h3) x (.const (.pointer none)))
        · cases h
      · rename_i xa h3
        cases hc
        simp only [evOp] at h
        split at h
        · rename_i v' hv
          cases h
          exact res_bin hop hS (eqnilP_sound (neq := true) hb hv (cO_sound hE h3) x (.const (.pointer none)))
        · cases h
      · rename_i xa h3 _ _
        unfold cPtr at hc
        split at hc
        · rename_i i ya hi h4
          split at hc
          · cases hc
          · rename_i hsz
            split at hc
            · cases hc
              simp only [evOp] at h
              split at h
              · rename_i v' hv
                cases h
                exact res_bin hop hS (eqp_sound (neq := false) hS hb hi hsz hv (cO_sound hE h3) (cO_sound hE h4) x _)
              · cases h
            · cases hc
              simp only [evOp] at h
              split at h
              · rename_i v' hv
                cases h
                exact res_bin hop hS (eqp_sound (neq := true) hS hb hi hsz hv (cO_sound hE h3) (cO_sound hE h4) x _)
              · cases h
            · cases hc
        · cases hc
      · cases hc
    · cases hc
  case unOp op t x =>
    left
    simp only [Option.map_eq_some_iff] at hc
    obtain ⟨q, hq, rfl⟩ := hc
    simp only [evOp] at h
    split at h
    · rename_i v' hv
      cases h
      exact res_sem hS (by simp [execOp, hop]) (un_sound hv (cO_sound hE hq))
    · cases h
  case convert src dst x =>
    left
    split at hc
    · rename_i k1 k2 q h1 h2 h3
      cases hc
      simp only [evOp] at h
      split at h
      · rename_i k m hv
        cases h
        have hx := cO_sound hE h3
        rw [hv] at hx
        have hxe : a.eval x = .int k m := by generalize a.eval x = q at hx; cases hx; rfl
        exact res_still hS (v' := .int k2 (k2.wrap m)) (by simp [execOp, hop, hxe, convert, run_underlying h1, run_underlying h2, Conv.intToInt]) (.int _ _)
      · cases h
    · rename_i el q h1 h2 h3
      split at hc
      · rename_i h4
        cases hc
        simp only [evOp] at h
        split at h
        · rename_i t hv
          cases h
          have hx := cO_sound hE h3
          rw [hv] at hx
          have hxe : a.eval x = .string t := by generalize a.eval x = q at hx; cases hx; rfl
          exact s2b_sound hS h1 h2 h4 hxe hop
        · cases h
      · cases hc
    · cases hc
  case makeFunc fn first caps =>
    left
    cases fn <;> simp only [cOp] at hc <;> try (cases hc; done)
    rename_i f
    split at hc
    · rename_i hf
      simp only [Option.map_eq_some_iff] at hc
      obtain ⟨q, hq, rfl⟩ := hc
      cases h
      have hv := cOs_sound hE hq
      have hf0 : first = #[] := Array.eq_empty_of_size_eq_zero hf
      refine res_still hS (v' := .func (.func f) #[] (caps.map a.eval)) (by simp [execOp, hop, Instr.makeFunc, hf0]) ?_
      have := V.func (ρ := ρ) (w := w) (n := s.size) f _ _ hv
      have he : (caps.toList.map a.eval).toArray = caps.map a.eval := by apply Array.ext'; simp
      rw [he] at this
      exact this
    · cases hc
  case slice t x lo hi mx =>
    left
    split at hc
    · rename_i q l hh h1 h2 h3 h4 h5
      cases hc
      simp only [evOp] at h
      split at h
      · rename_i v' hv
        cases h
        obtain ⟨a1, a2⟩ := optV hE h3
        obtain ⟨b1, b2⟩ := optV hE h4
        have hm := cM_none h5
        subst hm
        exact res_sem hS (x := Instr.sliceAt t (a.eval x) (lo.map a.eval) (hi.map a.eval) none) (by simp [execOp, hop]) (sls_sound h1 hv (cO_sound hE h2) a1 a2 b1 b2)
      · cases h
    · rename_i el q l hh m h1 h2 h3 h4 h5
      split at hc
      · rename_i i hi'
        split at hc
        · rename_i hcd
          cases hc
          simp only [evOp] at h
          split at h
          · rename_i v' hv
            cases h
            obtain ⟨a1, a2⟩ := optV hE h3
            obtain ⟨b1, b2⟩ := optV hE h4
            obtain ⟨c1, c2⟩ := optV hE h5
            refine res_sem hS (by simp [execOp, hop]) (slc_sound h1 hi' hv (cO_sound hE h2) a1 a2 b1 b2 c1 c2 ?_)
            intro hs
            have hms : mx.isSome = true := by
              cases mx with
              | none => cases h5; simp at hs
              | some y => rfl
            have := hcd.2 hms
            cases hi with
            | none => simp at this
            | some y =>
              simp only [cM, Option.map_eq_some_iff] at h4
              obtain ⟨z, -, rfl⟩ := h4
              rfl
          · cases h
        · cases hc
      · cases hc
    · cases hc
  case fieldAddr t x f =>
    left
    split at hc
    · rename_i fs q h1 h2
      split at hc
      · rename_i fl h3
        split at hc
        · rename_i i h4
          split at hc
          · rename_i h5
            cases hc
            simp only [evOp] at h
            split at h
            · rename_i v' hv
              cases h
              exact res_sem hS (by simp [execOp, hop]) (faddr_sound h1 h3 h4 h5 hv (cO_sound hE h2))
            · cases h
          · cases hc
        · cases hc
      · cases hc
    · cases hc
  case field t x f =>
    left
    split at hc
    · rename_i fs q h1 h2
      split at hc
      · rename_i fl h3
        split at hc
        · rename_i g i h4 h5
          cases hc
          simp only [evOp] at h
          split at h
          · rename_i v' hv
            cases h
            exact res_sem hS (by simp [execOp, hop]) (fld_sound h1 h3 h4 h5 hv (cO_sound hE h2))
          · cases h
        · cases hc
      · cases hc
    · cases hc
  case indexAddr t x j =>
    left
    split at hc
    · rename_i el q r h1 h2 h3
      split at hc
      · rename_i i h4
        cases hc
        simp only [evOp] at h
        split at h
        · rename_i v' hv
          cases h
          exact res_sem hS (by simp [execOp, hop]) (iaddr_sound h1 h4 hv (cO_sound hE h2) (cO_sound hE h3))
        · cases h
      · cases hc
    · rename_i len el q r h1 h2 h3
      split at hc
      · rename_i i h4
        cases hc
        simp only [evOp] at h
        split at h
        · rename_i v' hv
          cases h
          exact res_sem hS (by simp [execOp, hop]) (iaddra_sound h1 h4 hv (cO_sound hE h2) (cO_sound hE h3))
        · cases h
      · cases hc
    · cases hc
  case index t x j =>
    left
    split at hc
    · rename_i q r h1 h2 h3
      cases hc
      simp only [evOp] at h
      split at h
      · rename_i v' hv
        cases h
        exact res_sem hS (by simp [execOp, hop]) (idx_sound h1 hv (cO_sound hE h2) (cO_sound hE h3))
      · cases h
    · rename_i len el q r h1 h2 h3
      split at hc
      · rename_i g i h4 h5
        cases hc
        simp only [evOp] at h
        split at h
        · rename_i v' hv
          cases h
          exact res_sem hS (by simp [execOp, hop]) (idxa_sound h1 h4 h5 hv (cO_sound hE h2) (cO_sound hE h3))
        · cases h
      · cases hc
    · cases hc
  case makeSlice t x y =>
    left
    split at hc
    · rename_i el xa ya h1 h2 h3
      split at hc
      · rename_i i zs h4 h5
        split at hc
        · rename_i hcd
          cases hc
          exact mksl_sound hS h1 h4 h5 hcd.1 hcd.2.1 hcd.2.2 (cO_sound hE h2) (cO_sound hE h3) h hop
        · cases hc
      · cases hc
    · cases hc
  case makeInterface t x =>
    left
    split at hc
    · cases hc
    · rename_i d q hni hd hq
      cases hc
      cases h
      refine res_still hS (v' := .iface t (a.eval x)) ?_ (.iface _ _ _ (cO_sound hE hq))
      simp only [execOp, hop, Instr.makeInterface, run_underlying hd, Sem.run_bind, Result.andThen]
      cases d <;> first | rfl | exact absurd rfl (hni _)
    · cases hc
  case typeAssert x xt t ok =>
    left
    split at hc
    · cases hc
    · rename_i d za q hni hd hz hq
      obtain ⟨i, z, hi, hzz, hzv⟩ := zeroV_sound hz
      have hza := hzv ρ w s.size
      have hzr := zero_run hi hzz
      have hX := cO_sound hE hq
      have key : ∀ r, asrtA t ok za (q.ev e) = some r → OpRes P o a ρ s w r s := by
        intro r hr
        unfold asrtA at hr
        generalize hxe : a.eval x = y at hX
        split at hr
        · rename_i u v' hv
          rw [hv] at hX
          cases hX with
          | iface _ _ y' hy =>
            split at hr
            · rename_i hut
              subst hut
              cases hr
              refine res_still hS (v' := if ok then .tuple #[y', .bool true] else y') ?_ ?_
              · simp only [execOp, hop, hxe, Instr.typeAssert, run_underlying hd, Sem.run_bind, Result.andThen]
                cases d <;> first | exact absurd rfl (hni _) | (cases ok <;> simp)
              · cases ok
                · simpa using hy
                · exact .tup _ [y', .bool true] (.cons _ _ _ _ hy (.cons _ _ _ _ (.bool _) .nil))
            · rename_i hut
              split at hr
              · rename_i hok
                cases hr
                subst hok
                refine res_still hS (v' := .tuple #[z, .bool false]) ?_ (.tup _ [z, .bool false] (.cons _ _ _ _ hza (.cons _ _ _ _ (.bool _) .nil)))
                simp only [execOp, hop, hxe, Instr.typeAssert, run_underlying hd, Sem.run_bind, Result.andThen]
                cases d <;> first | exact absurd rfl (hni _) | simp [hut, hzr]
              · cases hr
        · rename_i hv
          rw [hv] at hX
          cases hX
          split at hr
          · rename_i hok
            cases hr
            subst hok
            refine res_still hS (v' := .tuple #[z, .bool false]) ?_ (.tup _ [z, .bool false] (.cons _ _ _ _ hza (.cons _ _ _ _ (.bool _) .nil)))
            simp only [execOp, hop, hxe, Instr.typeAssert, run_underlying hd, Sem.run_bind, Result.andThen]
            cases d <;> first | exact absurd rfl (hni _) | simp [hzr]
          · cases hr
        · cases hr
      cases hc
      simp only [evOp] at h
      split at h
      · rename_i r hr
        cases h
        exact key _ hr
      · cases h
    · cases hc
  case defer c' =>
    left
    split at hc
    · split at hc
      · cases hc; cases h
      · cases hc
    · cases hc
  case panic x =>
    left
    simp only [Option.map_eq_some_iff] at hc
    obtain ⟨q, hq, rfl⟩ := hc
    cases h
  case makeMap t r =>
    left
    cases r with
    | some _ => cases hc
    | none =>
      simp only at hc
      split at hc
      · rename_i kt el ht
        split at hc
        · cases hc
          cases h
          exact mmk_sound hS ht hop
        · cases hc
      · cases hc
  case lookup t m k ok =>
    left
    cases ok with
    | true => cases hc
    | false =>
      simp only at hc
      split at hc
      · rename_i kt el om okk ht hm hk
        split at hc
        · rename_i z hkt hz
          cases hc
          simp only [evOp] at h
          split at h
          · rename_i i es x hmo hka
            cases h
            obtain ⟨e1, e2⟩ := mapOf_some hmo
            obtain ⟨e3, e4⟩ := keyA_some hka
            have hVm := cO_sound hE hm
            have hVk := cO_sound hE hk
            rw [e1] at hVm
            rw [e3] at hVk
            exact mlk_sound hS ht hkt (zeroV_sound hz) hVm hVk e2 e4 hop
          · cases h
        · cases hc
      · cases hc
  case mapUpdate t m k x =>
    left
    split at hc
    · rename_i kt el om okk ox ht hm hk hx
      split at hc
      · rename_i hkt
        cases hc
        simp only [evOp] at h
        split at h
        · rename_i i es y hmo hka
          cases h
          obtain ⟨e1, e2⟩ := mapOf_some hmo
          obtain ⟨e3, e4⟩ := keyA_some hka
          have hVm := cO_sound hE hm
          have hVk := cO_sound hE hk
          rw [e1] at hVm
          rw [e3] at hVk
          exact mup_sound hS ht hkt hVm hVk (cO_sound hE hx) e2 e4 hop
        · cases h
      · cases hc
    · cases hc
  case extract x j =>
    left
    simp only [Option.map_eq_some_iff] at hc
    obtain ⟨q, hq, rfl⟩ := hc
    simp only [evOp] at h
    split at h
    · rename_i vs hv
      split at h
      · rename_i v' hv'
        cases h
        have hx := cO_sound hE hq
        rw [hv] at hx
        generalize hxe : a.eval x = y at hx
        cases hx with
        | tup _ us hus =>
          obtain ⟨u, hu, hVu⟩ := hus.get hv'
          exact res_still hS (v' := u) (by simp [execOp, hop, hxe, Instr.extract, hu]) hVu
      · cases h
    · cases h
  case call c' =>
    split at hc
    · left
      rename_i b hb
      unfold cBuiltin at hc
      split at hc
      · rename_i x t hargs hts
        split at hc
        · rename_i q h1 h2
          cases hc
          simp only [evOp] at h
          split at h
          · rename_i v' hv
            cases h
            have e1 : c'.args = #[x] := by apply Array.ext'; simpa using hargs
            have e2 : c'.argTypes = #[t] := by apply Array.ext'; simpa using hts
            obtain ⟨v2, hr, hV⟩ := lens_sound (P := P) (ty := o.type) h1 hv (cO_sound hE h2)
            refine res_still hS (v' := v2) ?_ hV
            simp [execOp, hop, resolve, hb, invoke, builtin, e1, e2, hr]
          · cases h
        · rename_i el q h1 h2
          cases hc
          simp only [evOp] at h
          split at h
          · rename_i v' hv
            cases h
            have e1 : c'.args = #[x] := by apply Array.ext'; simpa using hargs
            have e2 : c'.argTypes = #[t] := by apply Array.ext'; simpa using hts
            obtain ⟨v2, hr, hV⟩ := len_sound (P := P) (ty := o.type) h1 hv (cO_sound hE h2)
            refine res_still hS (v' := v2) ?_ hV
            simp [execOp, hop, resolve, hb, invoke, builtin, e1, e2, hr]
          · cases h
        · cases hc
      · rename_i x y t u hargs hts
        split at hc
        · rename_i el du xa ya h1 h2 h3 h4
          split at hc
          · rename_i i zs hdu h5 h6
            split at hc
            · rename_i hcd
              cases hc
              obtain ⟨hs0, hb0, hzl⟩ := hcd
              simp only [evOp] at h
              have e1 : c'.args = #[x, y] := by apply Array.ext'; simpa using hargs
              have e2 : c'.argTypes = #[t, u] := by apply Array.ext'; simpa using hts
              obtain ⟨i2, z, hi2, hz, hzv⟩ := zero_sound h6
              obtain rfl : i = i2 := Option.some.inj (h5.symm.trans hi2)
              have hzs : z.cells.size = i.size := by
                have := (hzv ρ w s.size).length
                rw [Array.length_toList, hzl] at this
                exact this
              obtain ⟨ρ', w', v2, hr, hF, hS', hV⟩ := app_sound (P := P) (ty := o.type) h1 h2 (fun k hk => by rw [hk] at hdu; cases hdu) h5 hz hzs hs0 hb0 hS h (cO_sound hE h3) (cO_sound hE h4)
              refine ⟨ρ', w', hF, hS', Or.inl ⟨v2, ?_, hV⟩⟩
              simp [execOp, hop, resolve, hb, invoke, builtin, e1, e2, hr]
            · cases hc
          · cases hc
        · cases hc
      · simp only [Option.map_eq_some_iff] at hc
        obtain ⟨q, hq, rfl⟩ := hc
        simp only [evOp] at h
        split at h
        · rename_i v' hv
          cases h
          obtain ⟨v2, hr, hV⟩ := mm_sound (P := P) (isMin := true) (cOs_sound hE hq) hv
          refine res_still hS (v' := v2) ?_ hV
          have he : (c'.args.map a.eval).toList = c'.args.toList.map a.eval := by simp
          simp only [if_true] at hr
          simp [execOp, hop, resolve, hb, invoke, builtin, Builtin.min_]
          cases hl : c'.args.toList.map a.eval with
          | nil => rw [hl] at hr; simp at hr
          | cons u us => rw [hl] at hr; simp only at hr; simp [hr]
        · cases h
      · simp only [Option.map_eq_some_iff] at hc
        obtain ⟨q, hq, rfl⟩ := hc
        simp only [evOp] at h
        split at h
        · rename_i v' hv
          cases h
          obtain ⟨v2, hr, hV⟩ := mm_sound (P := P) (isMin := false) (cOs_sound hE hq) hv
          refine res_still hS (v' := v2) ?_ hV
          simp only [Bool.false_eq_true, if_false] at hr
          simp [execOp, hop, resolve, hb, invoke, builtin, Builtin.max_]
          cases hl : c'.args.toList.map a.eval with
          | nil => rw [hl] at hr; simp at hr
          | cons u us => rw [hl] at hr; simp only at hr; simp [hr]
        · cases h
      · cases hc; cases h
      · rename_i x t hargs hts
        split at hc
        · rename_i el q h1 h2
          split at hc
          · rename_i i zs h3 h4
            split at hc
            · rename_i hcd
              cases hc
              simp only [evOp] at h
              split at h
              · rename_i s1 hcl
                cases h
                have a1 : c'.args = #[x] := by apply Array.ext'; simpa using hargs
                have a2 : c'.argTypes = #[t] := by apply Array.ext'; simpa using hts
                obtain ⟨ρ', w', hr, hF, hS'⟩ := clr_sound (P := P) (ty := o.type) hS h1 h3 h4 hcd.1 hcd.2 (cO_sound hE h2) hcl
                refine ⟨ρ', w', hF, hS', Or.inl ⟨.tuple #[], ?_, undef_V⟩⟩
                simp [execOp, hop, resolve, hb, invoke, builtin, a1, a2, hr]
              · cases h
            · cases hc
          · cases hc
        · cases hc
      · rename_i m k t kt hargs hts
        split at hc
        · rename_i kt' el om okk ht hkt hm hk
          split at hc
          · rename_i hkk
            cases hc
            simp only [evOp] at h
            split at h
            · rename_i i es y hmo hka
              cases h
              obtain ⟨e1, e2⟩ := mapOf_some hmo
              obtain ⟨e3, e4⟩ := keyA_some hka
              have hVm := cO_sound hE hm
              have hVk := cO_sound hE hk
              rw [e1] at hVm
              rw [e3] at hVk
              have a1 : c'.args = #[m, k] := by apply Array.ext'; simpa using hargs
              have a2 : c'.argTypes = #[t, kt] := by apply Array.ext'; simpa using hts
              obtain ⟨ρ', w', hr, hF, hS'⟩ := mdl_sound (P := P) (kt' := kt) (ty := o.type) hS ht (by rw [hkk]; exact hkt) hVm hVk e2 e4
              refine ⟨ρ', w', hF, hS', Or.inl ⟨.tuple #[], ?_, undef_V⟩⟩
              simp [execOp, hop, resolve, hb, invoke, builtin, a1, a2, hr]
            · cases h
          · cases hc
        · cases hc
      · cases hc
    · rename_i f hf
      right
      simp only [Option.map_eq_some_iff] at hc
      obtain ⟨q, hq, rfl⟩ := hc
      simp only [evOp] at h
      refine ⟨f, _, _, h, cOs_sound hE hq, ?_⟩
      have he : (c'.args.toList.map a.eval).toArray = c'.args.map a.eval := by apply Array.ext'; simp
      rw [he]
      simp [execOp, hop, resolve, hf, Act.eval, Deferred.ofValue, invoke]
    · rename_i t hf
      right
      simp only [Option.map_eq_some_iff] at hc
      obtain ⟨q, hq, rfl⟩ := hc
      simp only [evOp] at h
      split at h
      · rename_i f cap hv
        have hx := hE.1 t
        have hv' : e t = .func f cap := hv
        rw [hv'] at hx
        generalize hy : a.tmps.getD t undef = y at hx
        cases hx with
        | func _ _ vs hvs =>
          refine ⟨f, _, _, h, (cOs_sound hE hq).append hvs, ?_⟩
          have he : (c'.args.toList.map a.eval ++ vs).toArray = c'.args.map a.eval ++ vs.toArray := by apply Array.ext'; simp
          rw [he]
          have hy' : a.eval (.tmp t) = .func (.func f) #[] vs.toArray := hy
          simp only [execOp, hop, resolve, hf, hy', Deferred.ofValue, Sem.run_bind]
          simp [invoke]
      · cases h
    · cases hc
  all_goals cases hc

theorem op_sound {call : Nat → List AV → St → Option (AV × St)} {mu : Bool} {c : COp} {v : AV} {s' : St} (hS : Sim ρ s w) (hE : EnvR G ρ w s.size e a.tmps) (hc : cOp G P mu o.op = some c)
    (h : evOp call c e s = some (v, s')) : OpRes P o a ρ s w v s' ∨ CallRes P call o a ρ s w v s' := by
  unfold cOp at hc
  cases h0 : cOp0 G P mu false o.op with
  | none => rw [h0] at hc; cases hc; simp only [evOp] at h; cases h
  | some c' => rw [h0] at hc; cases hc; exact op_sound0 hS hE h0 h

theorem cOp0_bsl {mu : Bool} {o : Op} {sz len : Nat} {zs : List AV} {ps : List (Nat × Nat × Opd)} (h : cOp0 G P mu false o = some (.bsl sz len zs ps)) : cOp0 G P mu true o = some (.bslm sz len zs ps) := by
  cases o
  case buildSlice t n q =>
    simp only [cOp0] at h ⊢
    split at h
    · rename_i el h1
      split at h
      · rename_i i z h2 h3
        split at h
        · rename_i hcd
          simp only [Option.map_eq_some_iff] at h ⊢
          obtain ⟨q', hq, hb⟩ := h
          simp only [Bool.false_eq_true, if_false, COp.bsl.injEq] at hb
          obtain ⟨rfl, rfl, rfl, rfl⟩ := hb
          rw [if_pos hcd]
          simp [hq]
        · cases h
      · cases h
    · cases h
  all_goals exfalso
  case makeFunc fn first caps => cases fn <;> simp only [cOp0] at h <;> (try (split at h)) <;> simp at h
  case call c =>
    simp only [cOp0] at h
    split at h
    · unfold cBuiltin at h
      repeat' (split at h)
      all_goals simp at h
    all_goals simp at h
  case binOp op t x y yt =>
    simp only [cOp0] at h
    unfold cBin at h
    unfold cPtr at h
    repeat' (split at h)
    all_goals simp at h
  case makeMap t r =>
    cases r <;> simp only [cOp0] at h
    · split at h
      · split at h <;> cases h
      · cases h
    · cases h
  case lookup t m k ok =>
    cases ok <;> simp only [cOp0] at h
    · split at h
      · split at h <;> cases h
      · cases h
    · cases h
  case mapUpdate t m k x =>
    simp only [cOp0] at h
    split at h
    · split at h <;> cases h
    · cases h
  all_goals simp only [cOp0] at h
  all_goals (repeat' (split at h))
  all_goals simp at h
end
end Go.Am
