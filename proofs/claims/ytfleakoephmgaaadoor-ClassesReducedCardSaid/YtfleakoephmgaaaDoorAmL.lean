/- Whole texts and calls: the abstract machine's run tells Go's. Conditions: none. -/
import Derived.Test.YtfleakoephmgaaaDoorAmO
import Derived.SizedLaws
import Derived.WideShapes
import Derived.Below
import Derived.SliceStrings
import Derived.OpenShut
set_option linter.unusedSimpArgs false
set_option linter.unusedVariables false
namespace Go.Am

section
variable {G : Glob} {P : Program}

theorem loadVar_sound {ρ : Rho} {s : St} {w : World} (hS : Sim ρ s w) {t : TypeId} {g : Bool} {i : TypeInfo} (hg : aggOf P t = some g) (hi : P.info? t = some i) {va v : AV} {x : Value}
    (h : loadA s g (if g then i.size else 1) va = some v) (hV : V ρ w s.size va x) : ∃ v', (do loadVar t (← asAddr x) : Sem Value).run P w = .ok v' w ∧ V ρ w s.size v v' := by
  obtain ⟨v', hr, hv⟩ := load_sound hS hg hi h hV
  refine ⟨v', ?_, hv⟩
  have hx : ∃ ad, x = .pointer (some ad) := by
    unfold loadA at h
    split at h
    · rename_i cs hcs
      obtain ⟨b, o, vs, rfl, -⟩ := rd_sound hS hcs hV
      exact ⟨_, rfl⟩
    · cases h
  obtain ⟨ad, rfl⟩ := hx
  simpa [Instr.loadAt, Instr.sureAddr, asAddr] using hr

def resF (tmps : Array Value) : ResultVar → Sem Value
  | .tmp t => pure (tmps.getD t undef)
  | .cell a t => do loadVar t (← asAddr (tmps.getD a undef))

theorem res_list {ρ : Rho} {s : St} {w : World} {e : Env} {tmps : Array Value} (hS : Sim ρ s w) (hE : EnvR G ρ w s.size e tmps) :
    ∀ (l : List ResultVar) (rs : List CR) (vs : List AV), cRes P l = some rs → resAs e s rs = some vs → ∃ us, (l.mapM (resF tmps)).run P w = .ok us w ∧ Vs ρ w s.size vs us
  | [], rs, vs, hc, h => by
    cases hc
    cases h
    exact ⟨[], by simp, .nil⟩
  | .tmp t :: l, rs, vs, hc, h => by
    simp only [cRes, Option.map_eq_some_iff] at hc
    obtain ⟨rs', hc', rfl⟩ := hc
    simp only [resAs, resA] at h
    split at h
    · rename_i v vs' h1 h2
      cases h1
      cases h
      obtain ⟨us, hr, hV⟩ := res_list hS hE l rs' vs' hc' h2
      refine ⟨tmps.getD t undef :: us, ?_, .cons _ _ _ _ (hE.1 t) hV⟩
      have h1 : (resF tmps (.tmp t)).run P w = .ok (tmps.getD t undef) w := rfl
      rw [List.mapM_cons]
      simp only [Sem.run_bind]
      rw [h1]
      simp only [Result.andThen]
      rw [hr]
      rfl
    · cases h
  | .cell a t :: l, rs, vs, hc, h => by
    simp only [cRes] at hc
    split at hc
    · rename_i g i rs' h1 h2 h3
      cases hc
      simp only [resAs, resA] at h
      split at h
      · rename_i v vs' h4 h5
        cases h
        obtain ⟨us, hr, hV⟩ := res_list hS hE l rs' vs' h3 h5
        obtain ⟨u, hru, hVu⟩ := loadVar_sound hS h1 h2 h4 (hE.1 a)
        refine ⟨u :: us, ?_, .cons _ _ _ _ hVu hV⟩
        have h6 : (resF tmps (.cell a t)).run P w = .ok u w := hru
        rw [List.mapM_cons]
        simp only [Sem.run_bind]
        rw [h6]
        simp only [Result.andThen]
        rw [hr]
        rfl
      · cases h
    · cases hc

theorem ret_sound {ρ : Rho} {s : St} {w : World} {e : Env} {tmps : Array Value} (hS : Sim ρ s w) (hE : EnvR G ρ w s.size e tmps) {fn : Func} {rs : List CR} {v : AV} (hc : cRes P fn.results.toList = some rs) (h : retA e s rs = some v) :
    ∃ v', (results fn tmps).run P w = .ok v' w ∧ V ρ w s.size v v' := by
  unfold retA at h
  have key : ∀ vs, resAs e s rs = some vs → ∃ us : List Value, (results fn tmps).run P w = .ok (if h : us.length = 1 then us[0] else .tuple us.toArray) w ∧ Vs ρ w s.size vs us := by
    intro vs hvs
    obtain ⟨us, hr, hV⟩ := res_list hS hE _ _ _ hc hvs
    refine ⟨us, ?_, hV⟩
    have hres : results fn tmps = (do
        let vs ← fn.results.mapM (resF tmps)
        pure (if h : vs.size = 1 then vs[0] else .tuple vs)) := by
      unfold results
      congr 2
    rw [hres, Array.mapM_eq_mapM_toList]
    simp only [Sem.run_bind, bind_pure_comp]
    simp [hr]
  split at h
  · rename_i v0 hvs
    cases h
    obtain ⟨us, hr, hV⟩ := key _ hvs
    match us, hV with
    | [u], .cons _ _ _ _ hu _ => exact ⟨u, by simpa using hr, hu⟩
  · rename_i vs hne hvs
    cases h
    obtain ⟨us, hr, hV⟩ := key _ hvs
    have hl : us.length ≠ 1 := by
      intro hl
      have hvl : vs.length = 1 := by rw [← hV.length]; exact hl
      obtain ⟨v0, rfl⟩ := List.length_eq_one_iff.1 hvl
      exact hne v0 rfl
    rw [dif_neg hl] at hr
    exact ⟨_, hr, .tup _ _ hV⟩
  · cases h

/-- The functions' texts are the program's, and what is told of the others holds. -/
structure Good (G : Glob) (P : Program) (T : Nat → Option CF) (X : Ext) : Prop where
  hm : P.follows .mixedOrders = true
  hT : ∀ f cf, T f = some cf → ∃ fn mu fz, P.funcs[f]? = some fn ∧ cFunc G P mu fn fz = some cf
  hX : ∀ f h, X f = some h → ∀ args s v s', h args s = some (v, s') → CallC G P f args s v s'

def SOk (G : Glob) (P : Program) (T : Nat → Option CF) (X : Ext) (n : Nat) : Prop :=
  ∀ (mu : Bool) (fz : List Nat) (nt : Nat) (c : Code) (cc : CC) (e e' : Env) (s s' : St) (x : CX), cCode G P mu fz nt c = some cc → ev T X n cc e s = some (x, e', s') →
    ∀ (ρ : Rho) (w : World) (a : Act) (Q : Exit → Act → World → Prop), Sim ρ s w → EnvR G ρ w s.size e a.tmps → actOk a nt →
      (∀ ρ' a' w', Fr ρ s w ρ' s' w' → Sim ρ' s' w' → EnvR G ρ' w' s'.size e' a'.tmps → actOk a' nt → Q (exOf x) a' w') → c.wp P Q a w

def LOk (G : Glob) (P : Program) (T : Nat → Option CF) (X : Ext) (n : Nat) : Prop :=
  ∀ (mu : Bool) (fz : List Nat) (nt : Nat) (c : Code) (cc : CC) (e e' : Env) (s s' : St) (x : CX), cCode G P mu fz nt c = some cc → ev T X n (.loop cc) e s = some (x, e', s') →
    ∀ (ρ : Rho) (w : World) (a : Act) (Q : Exit → Act → World → Prop), Sim ρ s w → EnvR G ρ w s.size e a.tmps → actOk a nt →
      (∀ ρ' a' w', Fr ρ s w ρ' s' w' → Sim ρ' s' w' → EnvR G ρ' w' s'.size e' a'.tmps → actOk a' nt → Q (exOf x) a' w') → Code.rounds P c Q n a w

theorem loop_step {T : Nat → Option CF} {X : Ext} {n : Nat} (hS : SOk G P T X n) (hL : LOk G P T X n) : LOk G P T X (n + 1) := by
  intro mu fz nt c cc e e' s s' x hc h ρ w a Q hsim hE ha hQ
  simp only [ev] at h
  rw [rounds_succ]
  split at h
  · rename_i e1 s1 h1
    refine hS mu fz nt c cc e e1 s s1 .normal hc h1 ρ w a _ hsim hE ha ?_
    intro ρ1 a1 w1 hF hsim1 hE1 ha1
    exact hL mu fz nt c cc e1 e' s1 s' x hc h ρ1 w1 a1 Q hsim1 hE1 ha1 (fun ρ' a' w' hF' => hQ ρ' a' w' (hF.trans hF'))
  · rename_i hne
    refine hS mu fz nt c cc e e' s s' x hc h ρ w a _ hsim hE ha ?_
    intro ρ1 a1 w1 hF hsim1 hE1 ha1
    have hq := hQ ρ1 a1 w1 hF hsim1 hE1 ha1
    cases x with
    | normal => exact absurd h (hne e' s')
    | exit j => exact hq
    | ret => exact hq

theorem code_step {T : Nat → Option CF} {X : Ext} {n : Nat} (hm : P.follows .mixedOrders = true) (hS : SOk G P T X n) (hL : LOk G P T X (n + 1)) (hC : CallOk G P (evCall T X n)) : SOk G P T X (n + 1) := by
  intro mu fz nt c cc e e' s s' x hc h ρ w a Q hsim hE ha hQ
  cases c with
  | skip =>
    cases hc
    cases h
    exact wp_skip (hQ ρ a w (Fr.refl _ _ _) hsim hE ha)
  | region id ops draw =>
    cases draw with
    | true =>
      simp only [cCode] at hc
      split at hc
      · rename_i cs hcs
        split at hc
        · rename_i hdk
          cases hc
          simp only [ev] at h
          split at h
          · rename_i e1 s1 h1
            split at h
            · rename_i hch
              cases h
              exact draw_wp hm hC hcs (dok_of hdk) h1 hch hsim hE ha hQ
            · cases h
          · cases h
        · cases hc; simp only [ev] at h; cases h
      · cases hc
    | false =>
      simp only [cCode, Option.map_eq_some_iff] at hc
      obtain ⟨cs, hcs, rfl⟩ := hc
      simp only [ev] at h
      split at h
      · rename_i e1 s1 h1
        cases h
        refine wp_region ?_
        rw [List.range_eq_range']
        have := ops_wp (nt := nt) hC fz (ops := ops) (Q := Q) ops.toList 0 cs ρ s w a e e' s' (fun j => by simp) hcs h1 hsim hE ha hQ
        rw [Array.length_toList] at this
        exact this
      · cases h
  | seq x1 x2 =>
    simp only [cCode] at hc
    split at hc
    · rename_i c1 c2 h1 h2
      cases hc
      simp only [ev] at h
      refine wp_seq ?_
      split at h
      · rename_i e1 s1 hr
        refine hS mu fz nt x1 c1 e e1 s s1 .normal h1 hr ρ w a _ hsim hE ha ?_
        intro ρ1 a1 w1 hF hsim1 hE1 ha1
        exact hS mu fz nt x2 c2 e1 e' s1 s' x h2 h ρ1 w1 a1 Q hsim1 hE1 ha1 (fun ρ' a' w' hF' => hQ ρ' a' w' (hF.trans hF'))
      · rename_i r hr hne
        refine hS mu fz nt x1 c1 e e' s s' x h1 h ρ w a _ hsim hE ha ?_
        intro ρ1 a1 w1 hF hsim1 hE1 ha1
        have hq := hQ ρ1 a1 w1 hF hsim1 hE1 ha1
        cases x with
        | normal => exact absurd h (hne e' s')
        | exit j => exact hq
        | ret => exact hq
    · cases hc
  | cond t x1 x2 =>
    simp only [cCode] at hc
    split at hc
    · rename_i q c1 c2 h0 h1 h2
      cases hc
      simp only [ev] at h
      have hx := cO_sound hE h0
      split at h
      · rename_i hv
        rw [hv] at hx
        have hxe : a.eval t = .bool true := by generalize a.eval t = y at hx; cases hx; rfl
        exact wp_cond_true hxe (hS mu fz nt x1 c1 e e' s s' x h1 h ρ w a Q hsim hE ha hQ)
      · rename_i hv
        rw [hv] at hx
        have hxe : a.eval t = .bool false := by generalize a.eval t = y at hx; cases hx; rfl
        exact wp_cond_false hxe (hS mu fz nt x2 c2 e e' s s' x h2 h ρ w a Q hsim hE ha hQ)
      · cases h
    · cases hc
  | block id b =>
    simp only [cCode, Option.map_eq_some_iff] at hc
    obtain ⟨bc, hb, rfl⟩ := hc
    simp only [ev] at h
    refine wp_block ?_
    split at h
    · rename_i j e1 s1 hr
      refine hS mu fz nt b bc e e1 s s1 (.exit j) hb hr ρ w a _ hsim hE ha ?_
      intro ρ1 a1 w1 hF hsim1 hE1 ha1
      simp only [exOf, Exit.inBlock]
      split at h
      · rename_i hj
        cases h
        rw [if_pos hj]
        exact hQ ρ1 a1 w1 hF hsim1 hE1 ha1
      · rename_i hj
        cases h
        rw [if_neg hj]
        exact hQ ρ1 a1 w1 hF hsim1 hE1 ha1
    · rename_i hne
      refine hS mu fz nt b bc e e' s s' x hb h ρ w a _ hsim hE ha ?_
      intro ρ1 a1 w1 hF hsim1 hE1 ha1
      have hq := hQ ρ1 a1 w1 hF hsim1 hE1 ha1
      cases x with
      | normal => exact hq
      | exit j => exact absurd h (hne j e' s')
      | ret => exact hq
  | loop b =>
    simp only [cCode, Option.map_eq_some_iff] at hc
    obtain ⟨bc, hb, rfl⟩ := hc
    exact wp_loop_rounds (n + 1) (hL mu fz nt b bc e e' s s' x hb h ρ w a Q hsim hE ha hQ)
  | exit id =>
    cases hc
    cases h
    exact wp_exit (hQ ρ a w (Fr.refl _ _ _) hsim hE ha)
  | ret =>
    cases hc
    cases h
    exact wp_ret (hQ ρ a w (Fr.refl _ _ _) hsim hE ha)
  | rangeFunc f ps x1 x2 =>
    simp only [cCode] at hc
    split at hc <;> (cases hc; simp only [ev] at h; cases h)
  | _ => cases hc; simp only [ev] at h; cases h

theorem env0_R {ρ : Rho} {w : World} {n nt : Nat} {args : List AV} {argv : List Value} (h : Vs ρ w n args argv) (hg : GlobR G ρ w n) : EnvR G ρ w n (env0 args) (argv.toArray ++ Array.replicate nt undef) := by
  refine ⟨?_, hg⟩
  intro t
  have hl := h.length
  unfold env0
  rw [Array.getD_eq_getD_getElem?, List.getD_eq_getElem?_getD]
  cases ht : args[t]? with
  | some v =>
    obtain ⟨u, hu, hV⟩ := h.get ht
    have hlt := (List.getElem?_eq_some_iff.1 hu).1
    rw [Array.getElem?_append_left (by simpa using hlt)]
    simp [hu, hV]
  | none =>
    have hge : args.length ≤ t := List.getElem?_eq_none_iff.1 ht
    rw [Array.getElem?_append_right (by simp; omega)]
    simp only [Option.getD_none, Array.getElem?_replicate]
    split <;> exact undef_V

theorem call_step {T : Nat → Option CF} {X : Ext} {n : Nat} (hG : Good G P T X) (hS : SOk G P T X n) : CallOk G P (evCall T X (n + 1)) := by
  intro f args s v s' h
  simp only [evCall] at h
  split at h
  · rename_i hx hX
    exact hG.hX f hx hX args s v s' h
  · split at h
    · cases h
    · rename_i cf hcf
      obtain ⟨fn, mu, fz, hf, hfn⟩ := hG.hT f cf hcf
      unfold cFunc at hfn
      split at hfn
      · rename_i body hb
        split at hfn
        · rename_i bc rs hbc hrs
          split at hfn
          · cases hfn
          · rename_i hname
            cases hfn
            intro ρ w argv hsim hgl hargs
            have hal := hargs.length
            have hname' : ¬ fn.name = "runtime.NumGoroutine" := by simpa using hname
            refine ⟨fun w1 => by simp [callFunc, hf, hname', hb], ?_⟩
            split at h
            · rename_i hlen
              simp only at hlen
              refine calls_of_wp hf hb ?_
              have hE : EnvR G ρ w s.size (env0 args) (argv.toArray ++ Array.replicate (fn.ntmps - argv.toArray.size) undef) := env0_R hargs hgl
              have ha : actOk { tmps := argv.toArray ++ Array.replicate (fn.ntmps - argv.toArray.size) undef, defers := [] } fn.ntmps := ⟨by simp; omega, rfl⟩
              split at h
              · rename_i e1 s1 hr
                split at h
                · rename_i v1 hret
                  cases h
                  refine hS mu fz fn.ntmps body bc _ e1 s s' .normal hbc hr ρ w _ _ hsim hE ha ?_
                  intro ρ1 a1 w1 hF hsim1 hE1 ha1
                  obtain ⟨v', hrun, hV⟩ := ret_sound hsim1 hE1 hrs hret
                  exact ⟨ha1.2, v', hrun, ρ1, v', rfl, hF, hsim1, hV⟩
                · cases h
              · rename_i e1 s1 hr
                split at h
                · rename_i v1 hret
                  cases h
                  refine hS mu fz fn.ntmps body bc _ e1 s s' .ret hbc hr ρ w _ _ hsim hE ha ?_
                  intro ρ1 a1 w1 hF hsim1 hE1 ha1
                  obtain ⟨v', hrun, hV⟩ := ret_sound hsim1 hE1 hrs hret
                  exact ⟨ha1.2, v', hrun, ρ1, v', rfl, hF, hsim1, hV⟩
                · cases h
              · cases h
            · cases h
        · cases hfn
      · cases hfn

/-- The abstract machine's run tells Go's. -/
theorem sound {T : Nat → Option CF} {X : Ext} (hG : Good G P T X) : ∀ n, SOk G P T X n ∧ LOk G P T X n ∧ CallOk G P (evCall T X n)
  | 0 => ⟨by intro mu fz nt c cc e e' s s' x hc h; simp [ev] at h, by intro mu fz nt c cc e e' s s' x hc h; simp [ev] at h, by intro f args s v s' h; simp [evCall] at h⟩
  | n + 1 => by
    obtain ⟨h1, h2, h3⟩ := sound hG n
    have h4 := loop_step h1 h2
    exact ⟨code_step hG.hm h1 h4 h3, h4, call_step hG h1⟩

end
end Go.Am

/- A law's arguments, as the abstract machine has them. Conditions: none. -/
namespace Go.Am
open Go.RowKit

/-! ### Values of a type -/
mutual
inductive TyR (R : Nat) (P : Program) : TypeId → List AV → Prop
  | bool (t : TypeId) (b : Bool) (h : P.underlying t = some .bool) : TyR R P t [.bool b]
  | int (t : TypeId) (k : IntKind) (n : Int) (h : P.underlying t = some (.int k)) (hw : (Lit.int k n).wf = true) : TyR R P t [.int k n]
  | str (t : TypeId) (s : ByteArray) (h : P.underlying t = some .string) (hs : s.size ≤ R) : TyR R P t [.str s]
  | slice (t e : TypeId) (len : Nat) (cs : List AV) (h : P.underlying t = some (.slice e)) (hc : TyNR R P e len cs) (hb : len * P.bytesOf e ≤ R) : TyR R P t [.sl cs len false none]
  | struct (t : TypeId) (fs : Array Field) (cs : List AV) (h : P.underlying t = some (.struct fs)) (hc : TyFR R P fs.toList cs) : TyR R P t cs
inductive TyNR (R : Nat) (P : Program) : TypeId → Nat → List AV → Prop
  | zero (e : TypeId) : TyNR R P e 0 []
  | succ (e : TypeId) (n : Nat) (cs ds : List AV) (h : TyR R P e cs) (hl : cs.length = P.cellsOf e) (hs : TyNR R P e n ds) : TyNR R P e (n + 1) (cs ++ ds)
inductive TyFR (R : Nat) (P : Program) : List Field → List AV → Prop
  | nil : TyFR R P [] []
  | cons (f : Field) (r : List Field) (cs ds : List AV) (h : TyR R P f.type cs) (hl : cs.length = P.cellsOf f.type) (hs : TyFR R P r ds) : TyFR R P (f :: r) (cs ++ ds)
end

/-- An argument of a type. -/
def TyAR (R : Nat) (P : Program) (t : TypeId) (a : AV) : Prop :=
  match P.underlying t with
  | some (.struct _) => ∃ cs, a = .agg cs ∧ TyR R P t cs
  | some (.slice e) => a = .nils ∨ a = .sl [] 0 false (some 0) ∨ ∃ len cs, 0 < len ∧ a = .sl cs len false none ∧ TyNR R P e len cs ∧ len * P.bytesOf e ≤ R
  | _ => TyR R P t [a]

inductive TyAsR (R : Nat) (P : Program) : List TypeId → List AV → Prop
  | nil : TyAsR R P [] []
  | cons (t : TypeId) (a : AV) (ts : List TypeId) (as : List AV) (h : TyAR R P t a) (hs : TyAsR R P ts as) : TyAsR R P (t :: ts) (a :: as)

abbrev Ty := TyR reachBytes
abbrev TyN := TyNR reachBytes
abbrev TyF := TyFR reachBytes
abbrev TyA := TyAR reachBytes
abbrev TyAs := TyAsR reachBytes

/-- The fields lie one behind the other. -/
def contig (P : Program) : List Field → Nat → Option Nat
  | [], k => some k
  | f :: r, k => if f.offset = k then contig P r (k + P.cellsOf f.type) else none

/-- These types lead to no others than these, and to whole numbers, bools, strings, slices and structs alone. -/
def closedB (P : Program) (ts : List TypeId) : Bool :=
  ts.all fun t => match P.underlying t with
    | some .bool => true
    | some (.int _) => true
    | some .string => true
    | some (.slice e) => ts.contains e && 0 < P.cellsOf e
    | some (.struct fs) => contig P fs.toList 0 == some (P.cellsOf t) && fs.toList.all fun f => ts.contains f.type
    | _ => false

def rho0 (W : World) : Rho := { lab := fun b => if b < W.heap.size then .ro else .free, blk := fun _ => 0, tot := fun _ => 0, rt := fun _ => (0, 0, 0, 0), pend := fun _ => false }
def st0 : St := ⟨0, fun _ => none⟩

theorem sim0 (W : World) : Sim (rho0 W) st0 W :=
  ⟨fun b h => by simp only [rho0]; rw [if_neg (by omega)], fun i h => by simp [rho0] at h, fun i cs h => by simp [st0] at h, fun t h => by simp [st0] at h, fun i cs h => by simp [st0] at h, fun i es h => by simp [st0] at h⟩

theorem below_of {W W' : World} {ρ' : Rho} {s' : St} (h : Fr (rho0 W) st0 W ρ' s' W') : Below W.heap.size W W' :=
  ⟨h.os, h.tape, h.output, h.size, fun k hk => (h.keep k hk (Or.inr (by simp [rho0, hk]))).2⟩

theorem at0 {W : World} {b o : Nat} {vs : List Value} (h : ∀ j v, vs[j]? = some v → W.cell? ⟨b, o + j, none⟩ = some v) : At (rho0 W) W b o vs := by
  intro j v hj
  refine ⟨?_, h j v hj⟩
  have hlt : b < W.heap.size := World.block_lt_of_cell? W ⟨b, o + j, none⟩ (h j v hj)
  simp [Imm, ImmL, rho0, hlt]

section
variable {R : Nat} {H : Type} {enc : TypeId × Value → H} {P : Program} {W : World}

theorem mapM_some {α β : Type} {f : α → Option β} : ∀ {l : List α} {r : List β}, l.mapM f = some r → r.length = l.length ∧ ∀ (i : Nat) (x : α), l[i]? = some x → ∃ y, r[i]? = some y ∧ f x = some y
  | [], r, h => by simp at h; subst h; simp
  | a :: l, r, h => by
    simp only [List.mapM_cons, Option.bind_eq_bind, Option.bind_eq_some_iff, Option.pure_def, Option.some.injEq] at h
    obtain ⟨y, hy, ys, hys, rfl⟩ := h
    obtain ⟨h1, h2⟩ := mapM_some hys
    refine ⟨by simp [h1], ?_⟩
    intro i x hi
    cases i with
    | zero => simp at hi; subst hi; exact ⟨y, rfl, hy⟩
    | succ i => exact h2 i x (by simpa using hi)

theorem cells_some {a : Addr} {n : Nat} {cs : List Value} (h : W.cells? 0 a n = some cs) : cs.length = n ∧ ∀ j, j < n → W.cell? (a.add j) = cs[j]? := by
  unfold World.cells? at h
  rw [if_pos (Nat.zero_le _)] at h
  obtain ⟨h1, h2⟩ := mapM_some h
  refine ⟨by simpa using h1, fun j hj => ?_⟩
  obtain ⟨y, hy, hf⟩ := h2 j j (by simp [hj])
  rw [hf, hy]

theorem closed_at {ts : List TypeId} (hc : closedB P ts = true) {t : TypeId} (ht : t ∈ ts) :
    P.underlying t = some .bool ∨ (∃ k, P.underlying t = some (.int k)) ∨ P.underlying t = some .string ∨ (∃ e, P.underlying t = some (.slice e) ∧ e ∈ ts ∧ 0 < P.cellsOf e) ∨
      ∃ fs, P.underlying t = some (.struct fs) ∧ contig P fs.toList 0 = some (P.cellsOf t) ∧ ∀ f, f ∈ fs.toList → f.type ∈ ts := by
  have := List.all_eq_true.1 hc t ht
  split at this
  · exact Or.inl ‹_›
  · exact Or.inr (Or.inl ⟨_, ‹_›⟩)
  · exact Or.inr (Or.inr (Or.inl ‹_›))
  · rename_i e he
    simp only [Bool.and_eq_true, decide_eq_true_eq] at this
    exact Or.inr (Or.inr (Or.inr (Or.inl ⟨e, he, by simpa using this.1, this.2⟩)))
  · rename_i fs hf
    simp only [Bool.and_eq_true, beq_iff_eq, List.all_eq_true] at this
    exact Or.inr (Or.inr (Or.inr (Or.inr ⟨fs, hf, this.1, fun f hf => by simpa using this.2 f hf⟩)))
  · cases this

theorem weights_all {e : TypeId} : ∀ {l : List (DataW H)}, (DataW.weightsAll P e l).all (· ≤ R) = true → ∀ d, d ∈ l → (d.weights P e).all (· ≤ R) = true
  | [], _, d, hd => by simp at hd
  | x :: l, h, d, hd => by
    simp only [DataW.weightsAll, List.all_append, Bool.and_eq_true] at h
    rcases List.mem_cons.1 hd with rfl | hd
    · exact h.1
    · exact weights_all h.2 d hd

/-- So many elements, one behind the other. -/
theorem read_row {e : TypeId} {sz b o : Nat} (hsz : sz = P.cellsOf e) : ∀ (n k : Nat) (parts : Nat → List Value), (∀ i, i < n → (parts i).length = sz ∧ (∀ j v, (parts i)[j]? = some v → W.cell? ⟨b, o + (k + i) * sz + j, none⟩ = some v) ∧ ∃ as, TyR R P e as ∧ Vs (rho0 W) W 0 as (parts i)) →
    ∃ cs vs, TyNR R P e n cs ∧ Vs (rho0 W) W 0 cs vs ∧ vs.length = n * sz ∧ ∀ j v, vs[j]? = some v → W.cell? ⟨b, o + k * sz + j, none⟩ = some v
  | 0, k, parts, _ => ⟨[], [], .zero e, .nil, by simp, by simp⟩
  | n + 1, k, parts, h => by
    obtain ⟨h1, h2, as, h3, h4⟩ := h 0 (by omega)
    obtain ⟨cs, vs, h5, h6, h7, h8⟩ := read_row hsz n (k + 1) (fun i => parts (i + 1)) (fun i hi => by
      have := h (i + 1) (by omega)
      rwa [show k + (i + 1) = k + 1 + i by omega] at this)
    have hla := h4.length
    refine ⟨as ++ cs, parts 0 ++ vs, .succ e n as cs h3 (by omega) h5, h4.append h6, by rw [List.length_append, h1, h7, Nat.add_mul]; omega, ?_⟩
    intro j v hj
    by_cases hlt : j < (parts 0).length
    · rw [List.getElem?_append_left hlt] at hj
      exact h2 j v hj
    · rw [List.getElem?_append_right (by omega)] at hj
      have := h8 (j - (parts 0).length) v hj
      rw [h1] at this
      rw [show o + k * sz + j = o + (k + 1) * sz + (j - sz) by rw [Nat.add_mul]; omega]
      exact this

theorem contig_le : ∀ (fs : List Field) (k tot : Nat), contig P fs k = some tot → k ≤ tot
  | [], k, tot, h => by cases h; exact Nat.le_refl _
  | f :: fs, k, tot, h => by
    simp only [contig] at h
    split at h
    · have := contig_le fs _ _ h; omega
    · cases h

theorem read_fields {ts : List TypeId} {fuel : Nat} (ih : ∀ (t : TypeId) (cs : List Value) (d : DataW H) (ps : List MemPlace), t ∈ ts → DataW.trod enc P W 0 (fun _ => true) true fuel t cs = some (d, ps) → (d.weights P t).all (· ≤ R) = true → cs.length = P.cellsOf t ∨ True → ∃ as, TyR R P t as ∧ Vs (rho0 W) W 0 as cs) :
    ∀ (fs : List Field) (off tot : Nat) (cs : List Value) (xs : List (DataW H × List MemPlace)), contig P fs off = some tot → cs.length = tot → (∀ f, f ∈ fs → f.type ∈ ts) →
      fs.mapM (fun f => DataW.trod enc P W 0 (fun _ => true) true fuel f.type ((cs.drop f.offset).take (P.cellsOf f.type))) = some xs → (DataW.weightsEach P (fs.map (·.type)) (xs.map (·.1))).all (· ≤ R) = true →
      ∃ as, TyFR R P fs as ∧ Vs (rho0 W) W 0 as (cs.drop off)
  | [], off, tot, cs, xs, hc, hl, _, _, _ => by
    cases hc
    exact ⟨[], .nil, by rw [List.drop_eq_nil_of_le (by omega)]; exact .nil⟩
  | f :: fs, off, tot, cs, xs, hc, hl, hts, hm, hw => by
    simp only [contig] at hc
    split at hc
    · rename_i ho
      simp only [List.mapM_cons, Option.bind_eq_bind, Option.bind_eq_some_iff, Option.pure_def, Option.some.injEq] at hm
      obtain ⟨x, hx, ys, hys, rfl⟩ := hm
      simp only [List.map_cons, DataW.weightsEach, List.all_append, Bool.and_eq_true] at hw
      obtain ⟨as, hT, hV⟩ := ih f.type _ x.1 x.2 (hts f (by simp)) hx hw.1 (Or.inr trivial)
      obtain ⟨bs, hT2, hV2⟩ := read_fields ih fs (off + P.cellsOf f.type) tot cs ys hc hl (fun g hg => hts g (by simp [hg])) hys hw.2
      have hle := contig_le fs _ _ hc
      have hla := hV.length
      rw [ho] at hla hV
      have hlen : ((cs.drop off).take (P.cellsOf f.type)).length = P.cellsOf f.type := by simp; omega
      refine ⟨as ++ bs, .cons f fs as bs hT (by omega) hT2, ?_⟩
      have hsplit : cs.drop off = (cs.drop off).take (P.cellsOf f.type) ++ cs.drop (off + P.cellsOf f.type) := by
        rw [← List.drop_drop, List.take_append_drop]
      rw [hsplit]
      exact hV.append hV2
    · cases hc

end
end Go.Am

/- A law's arguments read as the abstract machine's, and the law's frame. Conditions: none. -/
namespace Go.Am
open Go.RowKit

section
variable {R : Nat} {H : Type} {enc : TypeId × Value → H} {P : Program} {W : World}

theorem mapM_of_index {α β : Type} {g : α → Option β} : ∀ {l : List α} {r : List β}, r.length = l.length → (∀ (i : Nat) x, l[i]? = some x → g x = r[i]?) → l.mapM g = some r
  | [], [], _, _ => rfl
  | a :: l, b :: r, hl, h => by
    have h0 := h 0 a rfl
    have h1 := mapM_of_index (g := g) (l := l) (r := r) (by simpa using hl) (fun i x hx => h (i + 1) x hx)
    simp only [List.mapM_cons, h0, h1]
    rfl
  | [], _ :: _, hl, _ => by simp at hl
  | _ :: _, [], hl, _ => by simp at hl

theorem spot_none {a : Addr} {v : Value} (h : W.cell? a = some v) : a.spot = none := by
  unfold World.cell? at h
  split at h
  · split at h
    · cases h
    · rename_i hn; cases hs : a.spot with
      | none => rfl
      | some _ => simp [hs] at hn
  · cases h

theorem TyR.len {t : TypeId} {cs : List AV} (h : TyR R P t cs) : (∃ fs, P.underlying t = some (.struct fs)) ∨ cs.length = 1 := by
  cases h <;> first | exact Or.inr rfl | exact Or.inl ⟨_, ‹_›⟩

theorem read_ty {ts : List TypeId} (hc : closedB P ts = true) : ∀ (fuel : Nat) (t : TypeId) (cs : List Value) (d : DataW H) (ps : List MemPlace), t ∈ ts →
    DataW.trod enc P W 0 (fun _ => true) true fuel t cs = some (d, ps) → (d.weights P t).all (· ≤ R) = true → ∃ as, TyR R P t as ∧ Vs (rho0 W) W 0 as cs
  | 0, t, cs, d, ps, _, h, _ => by simp [DataW.trod] at h
  | fuel + 1, t, cs, d, ps, ht, h, hw => by
    rcases closed_at hc ht with hu | ⟨k, hu⟩ | hu | ⟨e, hu, he, hpos⟩ | ⟨fs, hu, hcg, hfs⟩
    · obtain ⟨b, rfl, _⟩ := DataW.trod_bool hu h
      exact ⟨_, .bool t b hu, .cons _ _ _ _ (.bool b) .nil⟩
    · obtain ⟨n, rfl, _, hwf⟩ := DataW.trod_int hu h
      exact ⟨_, .int t k n hu hwf, .cons _ _ _ _ (.int k n) .nil⟩
    · obtain ⟨s, rfl, hd, hs⟩ := DataW.trod_string hu h
      cases hd
      have hb : s.size ≤ R := by
        simp only [DataW.weights, List.all_cons, List.all_nil, Bool.and_true, decide_eq_true_eq] at hw
        rw [Array.length_toList] at hw
        exact hw
      exact ⟨_, .str t s hu hb, .cons _ _ _ _ (.str s) .nil⟩
    · rcases DataW.trod_slice hu h with ⟨rfl, hd⟩ | ⟨a, len, cap, elems, rest, n, hf, rfl, hd, _, hl, hm, hlen, hel, hsp, _⟩
      · exact ⟨_, .slice t e 0 [] hu (.zero e) (by omega), .cons _ _ _ _ (.sl0 none 0 false none (fun h => by cases h) (fun _ => rfl) (fun h => by cases h)) .nil⟩
      · obtain rfl : fuel = n := by omega
        cases hd
        simp only [DataW.weights, hu, List.all_cons, List.all_append, Bool.and_eq_true, decide_eq_true_eq, List.length_map] at hw
        obtain ⟨hw1, hw2, _⟩ := hw
        have hb : len * P.bytesOf e ≤ R := Nat.le_trans (Nat.mul_le_mul_right _ (by omega)) hw1
        by_cases h0 : len = 0
        · subst h0
          exact ⟨_, .slice t e 0 [] hu (.zero e) (by omega), .cons _ _ _ _ (.sl0 (some a) cap false none (fun h => by cases h) (fun h => by cases h) (fun h => by cases h)) .nil⟩
        · have hrow : ∀ i, i < len → ∃ row x, W.cells? 0 (a.add (i * P.cellsOf e)) (P.cellsOf e) = some row ∧ DataW.trod enc P W 0 (fun _ => true) true fuel e row = some x ∧ x.1 ∈ elems.map (·.1) := by
            intro i hi
            have h1 := hel i hi
            have h2 : elems[i]? = some (elems[i]'(by omega)) := List.getElem?_eq_getElem _
            rw [h2, Option.bind_eq_some_iff] at h1
            obtain ⟨row, hr, hx⟩ := h1
            exact ⟨row, _, hr, hx, List.mem_map.2 ⟨_, List.getElem_mem _, rfl⟩⟩
          have hspot : a.spot = none := by
            obtain ⟨row, x, hr, _⟩ := hrow 0 (by omega)
            obtain ⟨hrl, hrc⟩ := cells_some hr
            have := hrc 0 hpos
            rw [List.getElem?_eq_getElem (by omega), Nat.zero_mul] at this
            exact spot_none this
          obtain ⟨b, o, sp⟩ := a
          simp only at hspot
          subst hspot
          have hadd : ∀ k, Addr.add ⟨b, o, none⟩ k = ⟨b, o + k, none⟩ := by intro k; unfold Addr.add; split <;> simp_all
          have hadd2 : ∀ o k, Addr.add ⟨b, o, none⟩ k = ⟨b, o + k, none⟩ := by intro o k; unfold Addr.add; split <;> simp_all
          obtain ⟨as, vs, hT, hV, hvl, hcell⟩ := read_row (P := P) (W := W) (e := e) (b := b) (o := o) rfl len 0
            (fun i => ((W.cells? 0 (Addr.add ⟨b, o, none⟩ (i * P.cellsOf e)) (P.cellsOf e)).getD [])) (fun i hi => by
              obtain ⟨row, x, hr, hx, hmem⟩ := hrow i hi
              obtain ⟨hrl, hrc⟩ := cells_some hr
              obtain ⟨as, h1, h2⟩ := read_ty hc fuel e row x.1 x.2 he hx (weights_all hw2 _ hmem)
              simp only [hr, Option.getD_some]
              refine ⟨hrl, fun j v hj => ?_, as, h1, h2⟩
              have hjl : j < P.cellsOf e := by have := (List.getElem?_eq_some_iff.1 hj).1; omega
              have := hrc j hjl
              rw [hadd, hadd2, hj] at this
              rw [Nat.zero_add]; exact this)
          refine ⟨_, .slice t e len as hu hT hb, .cons _ _ _ _ (.sl as vs b o len cap false none hV (at0 (fun j v hj => ?_)) (fun h => by cases h) hl (fun t ht => by cases ht)) .nil⟩
          have := hcell j v hj
          rwa [Nat.zero_mul, Nat.add_zero] at this
    · obtain ⟨xs, n, hf, hd, hcl, hxl, hx⟩ := DataW.trod_struct hu h
      obtain rfl : fuel = n := by omega
      cases hd
      simp only [DataW.weights, hu] at hw
      obtain ⟨as, h1, h2⟩ := read_fields (P := P) (W := W) (enc := enc) (ts := ts) (fuel := fuel) (fun t cs d ps ht h hw _ => read_ty hc fuel t cs d ps ht h hw) fs.toList 0 _ cs xs hcg hcl hfs
        (mapM_of_index (by simpa using hxl) (fun i f hi => hx i f (by simpa using hi))) hw
      exact ⟨as, .struct t fs as hu h1, by simpa using h2⟩

/-- An empty slice is nil or not. -/
theorem V.nil_or {ρ : Rho} {w : World} {n : Nat} {v : Value} (h : V ρ w n (.sl [] 0 false none) v) : V ρ w n .nils v ∨ V ρ w n (.sl [] 0 false (some 0)) v := by
  cases h with
  | sl _ vs b o _ cap _ _ hvs ha hf hl ht => exact Or.inr (.sl0 (some ⟨b, o, none⟩) cap false (some 0) (fun h => by cases h) (fun h => by cases h) (fun _ h => by cases h))
  | sl0 a cap _ _ hf ha ht =>
    cases a with
    | none => rw [ha rfl]; exact Or.inl .nils
    | some a => exact Or.inr (.sl0 (some a) cap false (some 0) (fun h => by cases h) (fun h => by cases h) (fun _ h => by cases h))

/-- An argument. -/
theorem read_arg {ts : List TypeId} (hc : closedB P ts = true) {t : TypeId} {v : Value} {d : DataW H} {ps : List MemPlace} {base : Nat} {r : Reach} (ht : t ∈ ts) (hok : Value.okWide P W r base t v)
    (h : DataW.Trod enc P W 0 (fun _ => true) true t v d ps) (hw : (d.weights P t).all (· ≤ R) = true) : ∃ a, TyAR R P t a ∧ V (rho0 W) W 0 a v := by
  obtain ⟨fuel, hf⟩ := h
  obtain ⟨as, h1, h2⟩ := read_ty hc fuel t _ d ps ht hf hw
  unfold Value.okWide at hok
  have hone : (∀ fs, P.underlying t ≠ some (.struct fs)) → ∃ a, TyAR R P t a ∧ V (rho0 W) W 0 a v := by
    intro hns
    have hl : as.length = 1 := by
      rcases h1.len with ⟨fs, hfs⟩ | hl
      · exact absurd hfs (hns fs)
      · exact hl
    obtain ⟨a, rfl⟩ := List.length_eq_one_iff.1 hl
    have hA : ∀ v, V (rho0 W) W 0 a v → ∃ a, TyAR R P t a ∧ V (rho0 W) W 0 a v := by
      intro v hv
      cases hu : P.underlying t with
      | none => exact ⟨a, by unfold TyAR; rw [hu]; exact h1, hv⟩
      | some d =>
        cases d
        case struct fs => exact absurd hu (hns fs)
        case slice e =>
          cases h1 with
          | slice t' e' len cs hu' hc' hb' =>
            obtain rfl : e = e' := by rw [hu] at hu'; cases hu'; rfl
            by_cases h0 : len = 0
            · subst h0
              cases hc'
              rcases hv.nil_or with hv | hv
              · exact ⟨_, by unfold TyAR; rw [hu]; exact Or.inl rfl, hv⟩
              · exact ⟨_, by unfold TyAR; rw [hu]; exact Or.inr (Or.inl rfl), hv⟩
            · exact ⟨_, by unfold TyAR; rw [hu]; exact Or.inr (Or.inr ⟨len, cs, by omega, rfl, hc', hb'⟩), hv⟩
          | bool _ _ hu' => rw [hu] at hu'; cases hu'
          | int _ _ _ hu' => rw [hu] at hu'; cases hu'
          | str _ _ hu' => rw [hu] at hu'; cases hu'
          | struct _ _ _ hu' => rw [hu] at hu'; cases hu'
        all_goals exact ⟨a, by unfold TyAR; rw [hu]; exact h1, hv⟩
    generalize hgen : v.cells.toList = l at h2
    cases h2 with
    | cons _ v' _ vs hv hvs =>
      cases hvs
      refine hA v ?_
      cases v with
      | agg cs =>
        exfalso
        rcases closed_at hc ht with hu | ⟨k, hu⟩ | hu | ⟨e, hu, he, hpos⟩ | ⟨fs, hu, hcg, hfs⟩
        · rw [hu] at hok; simp [Cell.okWide, Cell.ok, hu] at hok
        · rw [hu] at hok; simp [Cell.okWide, Cell.ok, hu] at hok
        · rw [hu] at hok; simp [Cell.okWide, Cell.ok, hu] at hok
        · rw [hu] at hok; simp [Cell.okWide, Cell.ok, hu] at hok
        · exact hns fs hu
      | _ => simp only [Value.cells, List.cons.injEq, and_true] at hgen; exact hgen ▸ hv
  rcases closed_at hc ht with hu | ⟨k, hu⟩ | hu | ⟨e, hu, he, hpos⟩ | ⟨fs, hu, hcg, hfs⟩
  · exact hone (by simp [hu])
  · exact hone (by simp [hu])
  · exact hone (by simp [hu])
  · exact hone (by simp [hu])
  · rw [hu] at hok
    obtain ⟨cs, rfl, _, _⟩ := hok
    refine ⟨.agg as, ?_, ?_⟩
    · unfold TyAR; rw [hu]; exact ⟨as, rfl, h1⟩
    · exact .agg as cs.toList h2

theorem read_args {ts : List TypeId} (hc : closedB P ts = true) {base : Nat} {r : Reach} : ∀ (pts : List TypeId) (vs : List Value) (ds : List (DataW H)) (ps : List MemPlace), (∀ t, t ∈ pts → t ∈ ts) →
    (∀ (j : Nat) t v, pts[j]? = some t → vs[j]? = some v → Value.okWide P W r base t v) → DataW.TrodAll enc P W 0 (fun _ => true) true pts vs ds ps →
    (DataW.weightsEach P pts ds).all (· ≤ R) = true → ∃ as, TyAsR R P pts as ∧ Vs (rho0 W) W 0 as vs
  | [], vs, ds, ps, _, _, h, _ => by
    obtain ⟨rfl, rfl, rfl⟩ := ChangeShapes.trodAll_nil h
    exact ⟨[], .nil, .nil⟩
  | t :: pts, vs, ds, ps, hin, hok, h, hw => by
    obtain ⟨v, vs1, d, ds1, p, q, rfl, rfl, rfl, h1, h2⟩ := ChangeShapes.trodAll_cons h
    simp only [DataW.weightsEach, List.all_append, Bool.and_eq_true] at hw
    obtain ⟨a, ha1, ha2⟩ := read_arg hc (hin t (by simp)) (hok 0 t v rfl rfl) h1 hw.1
    obtain ⟨as, has1, has2⟩ := read_args hc pts vs1 ds1 q (fun t ht => hin t (by simp [ht])) (fun j t v ht hv => hok (j + 1) t v ht hv) h2 hw.2
    exact ⟨a :: as, .cons t a pts as ha1 has1, .cons a v as vs1 ha2 has2⟩

end
end Go.Am
