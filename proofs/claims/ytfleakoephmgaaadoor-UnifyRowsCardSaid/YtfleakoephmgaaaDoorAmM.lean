/- A region whose order is open comes to the same in every order. Conditions: none. -/
import Derived.Test.YtfleakoephmgaaaDoorAmK
set_option linter.unusedSimpArgs false
set_option linter.unusedVariables false
namespace Go.Am

/-! ### What stands before what -/
inductive Bef (ops : Array Oper) : Nat → Nat → Prop
  | edge (j : Nat) (o : Oper) (e : Edge) (ho : ops[j]? = some o) (he : e ∈ o.after.toList) (hb : Region.binds .any e = true) : Bef ops e.on j
  | step (i j : Nat) (o : Oper) (e : Edge) (ho : ops[j]? = some o) (he : e ∈ o.after.toList) (hb : Region.binds .any e = true) (h : Bef ops i e.on) : Bef ops i j

theorem mask_bit (acc : List Nat) (i : Nat) : ∀ (es : List Edge) (s : Nat), (es.foldl (fun s e => if Region.binds .any e then s ||| 2 ^ e.on ||| acc.getD e.on 0 else s) s).testBit i = true →
    s.testBit i = true ∨ ∃ e, e ∈ es ∧ Region.binds .any e = true ∧ (i = e.on ∨ (acc.getD e.on 0).testBit i = true)
  | [], s, h => Or.inl h
  | e :: es, s, h => by
    simp only [List.foldl_cons] at h
    rcases mask_bit acc i es _ h with h1 | ⟨e', he', hb, hx⟩
    · by_cases hb : Region.binds .any e = true
      · rw [if_pos hb] at h1
        simp only [Nat.testBit_or, Bool.or_eq_true] at h1
        rcases h1 with (h1 | h1) | h1
        · exact Or.inl h1
        · refine Or.inr ⟨e, by simp, hb, Or.inl ?_⟩
          rw [Nat.testBit_two_pow] at h1
          simpa [eq_comm] using h1
        · exact Or.inr ⟨e, by simp, hb, Or.inr h1⟩
      · rw [if_neg hb] at h1
        exact Or.inl h1
    · exact Or.inr ⟨e', by simp [he'], hb, hx⟩

theorem befs_sound {ops : Array Oper} : ∀ (l : List Oper) (acc : List Nat), (∀ j, l[j]? = ops[acc.length + j]?) → (∀ j i, (acc.getD j 0).testBit i = true → Bef ops i j) →
    ∀ j i, ((befs l acc).getD j 0).testBit i = true → Bef ops i j
  | [], acc, _, hacc, j, i, h => hacc j i h
  | o :: r, acc, hl, hacc, j, i, h => by
    simp only [befs] at h
    refine befs_sound r _ ?_ ?_ j i h
    · intro k
      have := hl (k + 1)
      simpa [Nat.add_assoc, Nat.add_comm 1 k] using this
    · intro k m hk
      by_cases hlt : k < acc.length
      · refine hacc k m ?_
        rw [List.getD_eq_getElem?_getD] at hk ⊢
        rwa [List.getElem?_append_left hlt] at hk
      · by_cases heq : k = acc.length
        · subst heq
          rw [List.getD_eq_getElem?_getD, List.getElem?_append_right (Nat.le_refl _)] at hk
          simp only [Nat.sub_self, List.getElem?_cons_zero, Option.getD_some, maskOf] at hk
          have ho : ops[acc.length]? = some o := by have := hl 0; simpa using this.symm
          rcases mask_bit acc m _ _ hk with h0 | ⟨e, he, hb, rfl | hx⟩
          · simp at h0
          · exact .edge _ o e ho he hb
          · exact .step m _ o e ho he hb (hacc _ _ hx)
        · rw [List.getD_eq_getElem?_getD, List.getElem?_eq_none (by simp; omega)] at hk
          simp at hk

/-- Two stores at the end that Go leaves in no order. -/
structure LateS (ops : Array Oper) (cs : List CO) (chk : List (Nat × Nat)) (m q : Nat) : Prop where
  lt : m < q
  sm : ∃ n x y, cs[m]? = some ⟨none, none, .store n x y⟩
  sq : ∃ n x y, cs[q]? = some ⟨none, none, .store n x y⟩
  bef : ∀ k c, cs[k]? = some c → k ≠ m → k ≠ q → (c.op.heavy = true ∨ c.op.isLoad = true ∨ isAlloc c.op = true) → Bef ops k m ∧ Bef ops k q
  mem : (q, m) ∈ chk

structure DOK (ops : Array Oper) (cs : List CO) (chk : List (Nat × Nat)) (lp : Option (Nat × Nat)) : Prop where
  h0 : ∀ (j : Nat) (o : Oper) (c : CO), ops[j]? = some o → cs[j]? = some c → ∀ e, e ∈ o.after.toList → Region.binds .any e = true → e.on < j
  hh : ∀ (i j : Nat) (d c : CO), cs[i]? = some d → cs[j]? = some c → i ≠ j → c.op.heavy = true → d.op.heavy = true → ((i < j → Bef ops i j) ∧ (j < i → Bef ops j i)) ∨ lp = some (i, j) ∨ lp = some (j, i)
  hr : ∀ (i j : Nat) (d c : CO) (t : Nat), cs[i]? = some d → cs[j]? = some c → i ≠ j → d.dst = some t → (t ∈ c.reads ∨ c.dst = some t) → (i < j → Bef ops i j) ∧ (j < i → Bef ops j i)
  ha1 : ∀ (j : Nat) (c : CO), cs[j]? = some c → isAlloc c.op = true → c.guard = none ∧ ∃ t, c.dst = some t
  ha2 : ∀ (i j : Nat) (d c : CO) (t : Nat), cs[i]? = some d → cs[j]? = some c → i ≠ j → isAlloc c.op = true → c.dst = some t → d.dst ≠ some t ∧ (i < j → t ∉ d.reads)
  hl : ∀ (i j : Nat) (d c : CO), cs[i]? = some d → cs[j]? = some c → i ≠ j → c.op.isLoad = true → d.op.heavy = true → ((i < j → Bef ops i j) ∧ (j < i → Bef ops j i)) ∨ (j, i) ∈ chk
  late : ∀ m q, lp = some (m, q) → LateS ops cs chk m q

theorem storeP_is {c : CO} (h : isStoreP c = true) : ∃ n x y, c = ⟨none, none, .store n x y⟩ := by
  obtain ⟨d, g, o⟩ := c
  simp only [isStoreP, Bool.and_eq_true, Option.isNone_iff_eq_none] at h
  obtain ⟨⟨h1, h2⟩, h3⟩ := h
  subst h1 h2
  cases o <;> first | exact ⟨_, _, _, rfl⟩ | (simp [COp.isStore] at h3)

theorem dok_of {ops : Array Oper} {cs : List CO} {chk : List (Nat × Nat)} (h : dOk ops cs chk = true) : DOK ops cs chk (lateOf (befs ops.toList []) cs) := by
  have hB : ∀ j i, ((befs ops.toList []).getD j 0).testBit i = true → Bef ops i j := befs_sound ops.toList [] (by simp) (by simp)
  simp only [dOk, Bool.and_eq_true] at h
  obtain ⟨⟨hlate, hmem⟩, h⟩ := h
  generalize lateOf (befs ops.toList []) cs = lp at *
  simp only [List.all_eq_true, List.mem_range] at h
  have hord : ∀ i j, i ≠ j → ordered (befs ops.toList []) i j = true → (i < j → Bef ops i j) ∧ (j < i → Bef ops j i) := by
    intro i j hne ho
    unfold ordered at ho
    by_cases hlt : i < j
    · rw [if_pos hlt] at ho
      exact ⟨fun _ => hB _ _ ho, fun h => absurd h (by omega)⟩
    · rw [if_neg hlt] at ho
      exact ⟨fun h => absurd h hlt, fun _ => hB _ _ ho⟩
  have key : ∀ (j : Nat) (c : CO), cs[j]? = some c → ∃ o, ops[j]? = some o ∧ oneOk j o c = true ∧ ∀ i d, cs[i]? = some d → i ≠ j → pairOk (befs ops.toList []) lp chk i j d c = true := by
    intro j c hc
    have hj := h j (List.getElem?_eq_some_iff.1 hc).1
    split at hj
    · rename_i o c' ho hc'
      rw [hc] at hc'
      cases hc'
      simp only [Bool.and_eq_true, List.all_eq_true, List.mem_range] at hj
      refine ⟨o, ho, hj.1, fun i d hd hne => ?_⟩
      have := hj.2 i (List.getElem?_eq_some_iff.1 hd).1
      simpa [hne, hd] using this
    · cases hj
  have kpair : ∀ (i j : Nat) (d c : CO), cs[i]? = some d → cs[j]? = some c → i ≠ j → pairOk (befs ops.toList []) lp chk i j d c = true := fun i j d c hd hc hne => by
    obtain ⟨o, -, -, hp⟩ := key j c hc
    exact hp i d hd hne
  refine ⟨?_, ?_, ?_, ?_, ?_, ?_, ?_⟩
  · intro j o c ho hc e he hb
    obtain ⟨o', ho', h1, -⟩ := key j c hc
    rw [ho] at ho'
    cases ho'
    simp only [oneOk, Bool.and_eq_true, List.all_eq_true] at h1
    have := h1.1 e he
    simpa [hb] using this
  · intro i j d c hd hc hne h1 h2
    have hp := kpair i j d c hd hc hne
    simp only [pairOk, Bool.and_eq_true] at hp
    have := hp.1.1.1
    simp only [h1, h2, Bool.and_self, Bool.not_true, Bool.false_or, Bool.or_eq_true, beq_iff_eq] at this
    rcases this with (h3 | h3) | h3
    · exact Or.inl (hord i j hne h3)
    · exact Or.inr (Or.inl h3)
    · exact Or.inr (Or.inr h3)
  · intro i j d c t hd hc hne h1 h2
    have hp := kpair i j d c hd hc hne
    simp only [pairOk, Bool.and_eq_true] at hp
    refine hord i j hne ?_
    have := hp.1.1.2
    rw [h1] at this
    simp only [Bool.or_eq_true, Bool.not_eq_true', Bool.or_eq_false_iff] at this
    rcases this with ⟨h3, h4⟩ | h5
    · rcases h2 with h2 | h2
      · simp [h2] at h3
      · simp [h2] at h4
    · exact h5
  · intro j c hc h1
    obtain ⟨o, -, h2, -⟩ := key j c hc
    simp only [oneOk, Bool.and_eq_true] at h2
    have := h2.2
    simp only [h1, Bool.not_true, Bool.false_or, Bool.and_eq_true, Option.isNone_iff_eq_none] at this
    exact ⟨this.1, Option.isSome_iff_exists.1 this.2⟩
  · intro i j d c t hd hc hne h1 h2
    have hp := kpair i j d c hd hc hne
    simp only [pairOk, Bool.and_eq_true] at hp
    have := hp.1.2
    rw [h2] at this
    simp only [h1, Bool.not_true, Bool.false_or, Bool.and_eq_true, Bool.not_eq_true', Bool.or_eq_true, decide_eq_true_eq] at this
    refine ⟨by intro hx; simp [hx] at this, fun hlt hm => ?_⟩
    rcases this.2 with h3 | h3
    · omega
    · simp [hm] at h3
  · intro i j d c hd hc hne h1 h2
    have hp := kpair i j d c hd hc hne
    simp only [pairOk, Bool.and_eq_true] at hp
    have := hp.2
    simp only [h1, h2, Bool.and_self, Bool.not_true, Bool.false_or, Bool.or_eq_true] at this
    rcases this with h3 | h3
    · exact Or.inl (hord i j hne h3)
    · exact Or.inr (by simpa using h3)
  · intro m q hlp
    subst hlp
    simp only [lateOk, Bool.and_eq_true, decide_eq_true_eq] at hlate
    obtain ⟨⟨h1, h2⟩, h3⟩ := hlate
    split at h2
    · rename_i d c hd hc
      simp only [Bool.and_eq_true] at h2
      obtain ⟨n1, x1, y1, rfl⟩ := storeP_is h2.1
      obtain ⟨n2, x2, y2, rfl⟩ := storeP_is h2.2
      refine ⟨h1, ⟨_, _, _, hd⟩, ⟨_, _, _, hc⟩, fun k c' hk hkm hkq hor => ?_, by simpa using hmem⟩
      simp only [List.all_eq_true, List.mem_range] at h3
      have := h3 k (List.getElem?_eq_some_iff.1 hk).1
      rw [hk] at this
      simp only [Bool.or_eq_true, beq_iff_eq, Bool.not_eq_true', Bool.or_eq_false_iff, Bool.and_eq_true] at this
      rcases this with (h4 | h4) | h4 | h4
      · exact absurd h4 hkm
      · exact absurd h4 hkq
      · rcases hor with h5 | h5 | h5
        · rw [h4.1.1] at h5; cases h5
        · rw [h4.1.2] at h5; cases h5
        · rw [h4.2] at h5; cases h5
      · exact ⟨hB _ _ h4.1, hB _ _ h4.2⟩
    · cases h2

/-! ### The run in the text's order, as a row of states -/
def StepT (call : Nat → List AV → St → Option (AV × St)) (c : CO) (x y : Env × St) : Prop :=
  if isAlloc c.op = true then y = x
  else if wantedA x.1 c.guard = true then ∃ v, evOp call c.op x.1 x.2 = some (v, y.2) ∧ y.1 = x.1.put c.dst v
  else y = (x.1.put c.dst undefA, x.2)

theorem trace {call : Nat → List AV → St → Option (AV × St)} : ∀ (cs : List CO) (e : Env) (s : St) (e' : Env) (s' : St), evRest call cs e s = some (e', s') →
    ∃ tr : Nat → Env × St, tr 0 = (e, s) ∧ tr cs.length = (e', s') ∧ (∀ (j : Nat) (c : CO), cs[j]? = some c → StepT call c (tr j) (tr (j + 1))) ∧ ∀ k, k ≤ cs.length → (evTr call cs e s)[k]? = some (tr k)
  | [], e, s, e', s', h => by
    cases h
    refine ⟨fun _ => (e, s), rfl, rfl, by simp, fun k hk => ?_⟩
    have hk0 : k = 0 := by simpa using hk
    subst hk0
    rfl
  | c :: r, e, s, e', s', h => by
    have key : ∀ e1 s1, evRest call r e1 s1 = some (e', s') → StepT call c (e, s) (e1, s1) → evTr call (c :: r) e s = (e, s) :: evTr call r e1 s1 → ∃ tr : Nat → Env × St, tr 0 = (e, s) ∧ tr (c :: r).length = (e', s') ∧ (∀ (j : Nat) (d : CO), (c :: r)[j]? = some d → StepT call d (tr j) (tr (j + 1))) ∧ ∀ k, k ≤ (c :: r).length → (evTr call (c :: r) e s)[k]? = some (tr k) := by
      intro e1 s1 h1 hst htr
      obtain ⟨tr, t0, tn, ts, tl⟩ := trace r e1 s1 e' s' h1
      refine ⟨fun k => match k with | 0 => (e, s) | k + 1 => tr k, rfl, tn, ?_, ?_⟩
      rotate_left
      · intro k hk
        rw [htr]
        cases k with
        | zero => rfl
        | succ k => exact tl k (by simpa using hk)
      intro j d hd
      cases j with
      | zero =>
        simp at hd
        subst hd
        show StepT call c (e, s) (tr 0)
        rw [t0]
        exact hst
      | succ j => exact ts j d (by simpa using hd)
    simp only [evRest] at h
    split at h
    · rename_i ha
      exact key e s h (by unfold StepT; rw [if_pos ha]) (by simp [evTr, ha])
    · rename_i ha
      split at h
      · rename_i hw
        split at h
        · rename_i v s1 hv
          exact key _ s1 h (by unfold StepT; rw [if_neg ha, if_pos hw]; exact ⟨v, hv, rfl⟩) (by simp [evTr, ha, hw, hv])
        · cases h
      · rename_i hw
        exact key _ s h (by unfold StepT; rw [if_neg ha, if_neg hw]) (by simp [evTr, ha, hw])

theorem evOp_congr {call : Nat → List AV → St → Option (AV × St)} {o : COp} {e e' : Env} (h : ∀ x, x ∈ o.opds → x.ev e = x.ev e') (s : St) : evOp call o e s = evOp call o e' s := by
  have hmap : ∀ l : List Opd, (∀ x, x ∈ l → x.ev e = x.ev e') → l.map (Opd.ev e) = l.map (Opd.ev e') := fun l hl => List.map_congr_left hl
  have hfill : ∀ (ps : List (Nat × Nat × Opd)) (zs : List AV), (∀ x, x ∈ ps.map (fun p => p.2.2) → x.ev e = x.ev e') → fillA zs e ps = fillA zs e' ps := by
    intro ps
    induction ps with
    | nil => intro zs _; rfl
    | cons p ps ih =>
      intro zs hp
      obtain ⟨off, sz, x⟩ := p
      simp only [List.map_cons, List.mem_cons, forall_eq_or_imp] at hp
      simp only [fillA, hp.1]
      split
      · exact ih _ hp.2
      · rfl
  have hopt : ∀ o : Option Opd, (∀ x, x ∈ o.toList → x.ev e = x.ev e') → o.map (Opd.ev e) = o.map (Opd.ev e') := by
    intro o ho
    cases o with
    | none => rfl
    | some x => simp [ho x (by simp)]
  cases o <;> simp only [COp.opds] at h <;> simp only [evOp]
  case build zs ps => rw [hfill ps zs h]
  case bsl a b zs ps => rw [hfill ps zs h]
  case bslm a b zs ps => rw [hfill ps zs h]
  case builda zs ps => rw [hfill ps zs h]
  case eqs a b x y => rw [h x (by simp), h y (by simp)]
  case shf a x y => rw [h x (by simp), h y (by simp)]
  case idxa a b c x y => rw [h x (by simp), h y (by simp)]
  case mm a args => rw [hmap args h]
  case eqp z x y => rw [h x (by simp), h y (by simp)]
  case mlk z x y => rw [h x (by simp), h y (by simp)]
  case mup x y z => rw [h x (by simp), h y (by simp), h z (by simp)]
  case mdl x y => rw [h x (by simp), h y (by simp)]
  case mksl a b c x y => rw [h x (by simp), h y (by simp)]
  case clo f cs => rw [hmap cs h]
  case call f args => rw [hmap args h]
  case callv x args => rw [h x (by simp), hmap args (fun y hy => h y (by simp [hy]))]
  case slc a x lo hi mx => rw [h x (by simp), hopt lo (fun y hy => h y (by simp [hy])), hopt hi (fun y hy => h y (by simp [hy])), hopt mx (fun y hy => h y (by simp [hy]))]
  case sls x lo hi => rw [h x (by simp), hopt lo (fun y hy => h y (by simp [hy])), hopt hi (fun y hy => h y (by simp [hy]))]
  case pick a b c => rw [h a (by simp), h b (by simp), h c (by simp)]
  case store a x y => rw [h x (by simp), h y (by simp)]
  case bin a x y => rw [h x (by simp), h y (by simp)]
  case eqb a x y => rw [h x (by simp), h y (by simp)]
  case iaddr a x y => rw [h x (by simp), h y (by simp)]
  case iaddra a b x y => rw [h x (by simp), h y (by simp)]
  case idx x y => rw [h x (by simp), h y (by simp)]
  case app a b c d x y => rw [h x (by simp), h y (by simp)]
  all_goals (try rw [h _ (by simp)])

theorem evOp_free {call : Nat → List AV → St → Option (AV × St)} {o : COp} (hh : o.heavy = false) (ha : isAlloc o = false) {e : Env} {s s' : St} {v : AV} (h : evOp call o e s = some (v, s')) :
    s' = s ∧ (o.isLoad = false → ∀ s2, evOp call o e s2 = some (v, s2)) := by
  cases o <;> first | (simp [COp.heavy] at hh; done) | (simp [isAlloc] at ha; done) | skip
  all_goals simp only [evOp, COp.isLoad] at h ⊢
  all_goals first
    | (cases h; exact ⟨rfl, fun _ _ => rfl⟩)
    | ((repeat' split at h) <;> first | (cases h; done) | (cases h; refine ⟨rfl, fun _ s2 => ?_⟩; simp_all))
    | ((repeat' split at h) <;> first | (cases h; done) | (cases h; exact ⟨rfl, fun hx => by simp at hx⟩))

mutual
theorem beq_eq : ∀ {a b : AV}, AV.beq a b = true → a = b
  | .bool a, b, h => by cases b <;> simp [AV.beq] at h; rw [h]
  | .int k a, b, h => by cases b <;> simp [AV.beq] at h; rw [h.1, h.2]
  | .str a, b, h => by cases b <;> simp [AV.beq] at h; rw [h]
  | .nilp, b, h => by cases b <;> simp [AV.beq] at h; rfl
  | .ptr i o, b, h => by cases b <;> simp [AV.beq] at h; rw [h.1, h.2]
  | .eptr cs, b, h => by
    cases b <;> simp [AV.beq] at h
    rw [beqs_eq h]
  | .nils, b, h => by cases b <;> simp [AV.beq] at h; rfl
  | .sl cs n f t, b, h => by
    cases b <;> simp [AV.beq] at h
    rw [beqs_eq h.1.1.1, h.1.1.2, h.1.2, h.2]
  | .msl i o n z, b, h => by cases b <;> simp [AV.beq] at h; rw [h.1.1.1, h.1.1.2, h.1.2, h.2]
  | .func f cs, b, h => by
    cases b <;> simp [AV.beq] at h
    rw [h.1, beqs_eq h.2]
  | .nilf, b, h => by cases b <;> simp [AV.beq] at h; rfl
  | .agg cs, b, h => by
    cases b <;> simp [AV.beq] at h
    rw [beqs_eq h]
  | .tup cs, b, h => by
    cases b <;> simp [AV.beq] at h
    rw [beqs_eq h]
  | .iface t a, b, h => by
    cases b <;> simp [AV.beq] at h
    rw [h.1, beq_eq h.2]
  | .niliface, b, h => by cases b <;> simp [AV.beq] at h; rfl
  | .mapv i, b, h => by cases b <;> simp [AV.beq] at h; rw [h]
  | .nilm, b, h => by cases b <;> simp [AV.beq] at h; rfl
theorem beqs_eq : ∀ {as bs : List AV}, AV.beqs as bs = true → as = bs
  | [], [], _ => rfl
  | [], _ :: _, h => by simp [AV.beqs] at h
  | _ :: _, [], h => by simp [AV.beqs] at h
  | a :: as, b :: bs, h => by
    simp only [AV.beqs, Bool.and_eq_true] at h
    rw [beq_eq h.1, beqs_eq h.2]
end

mutual
theorem beq_self : ∀ (a : AV), AV.beq a a = true
  | .bool _ => by simp [AV.beq]
  | .int _ _ => by simp [AV.beq]
  | .str _ => by simp [AV.beq]
  | .nilp => by simp [AV.beq]
  | .ptr _ _ => by simp [AV.beq]
  | .eptr cs => by simp [AV.beq, beqs_self cs]
  | .nils => by simp [AV.beq]
  | .sl cs _ _ _ => by simp [AV.beq, beqs_self cs]
  | .msl _ _ _ _ => by simp [AV.beq]
  | .func _ cs => by simp [AV.beq, beqs_self cs]
  | .nilf => by simp [AV.beq]
  | .agg cs => by simp [AV.beq, beqs_self cs]
  | .tup cs => by simp [AV.beq, beqs_self cs]
  | .iface _ a => by simp [AV.beq, beq_self a]
  | .niliface => by simp [AV.beq]
  | .mapv _ => by simp [AV.beq]
  | .nilm => by simp [AV.beq]
theorem beqs_self : ∀ (as : List AV), AV.beqs as as = true
  | [] => by simp [AV.beqs]
  | a :: as => by simp [AV.beqs, beq_self a, beqs_self as]
end

theorem first_of (p : Nat → Prop) : ∀ (m a : Nat), (∀ k, a ≤ k → k < a + m → ¬ p k) ∨ ∃ k, a ≤ k ∧ k < a + m ∧ p k ∧ ∀ i, a ≤ i → i < k → ¬ p i
  | 0, a => Or.inl fun k h1 h2 => by omega
  | m + 1, a => by
    by_cases h : p a
    · exact Or.inr ⟨a, Nat.le_refl _, by omega, h, fun i h1 h2 => by omega⟩
    · rcases first_of p m (a + 1) with h1 | ⟨k, h1, h2, h3, h4⟩
      · refine Or.inl fun k h2 h3 => ?_
        by_cases hk : k = a
        · subst hk; exact h
        · exact h1 k (by omega) (by omega)
      · refine Or.inr ⟨k, by omega, by omega, h3, fun i h5 h6 => ?_⟩
        by_cases hi : i = a
        · subst hi; exact h
        · exact h4 i (by omega) h6

theorem last_of (p : Nat → Prop) : ∀ (m a : Nat), (∀ k, a ≤ k → k < a + m → ¬ p k) ∨ ∃ k, a ≤ k ∧ k < a + m ∧ p k ∧ ∀ i, k < i → i < a + m → ¬ p i
  | 0, a => Or.inl fun k h1 h2 => by omega
  | m + 1, a => by
    by_cases h : p (a + m)
    · exact Or.inr ⟨a + m, by omega, by omega, h, fun i h1 h2 => by omega⟩
    · rcases last_of p m a with h1 | ⟨k, h1, h2, h3, h4⟩
      · refine Or.inl fun k h2 h3 => ?_
        by_cases hk : k = a + m
        · subst hk; exact h
        · exact h1 k (by omega) (by omega)
      · refine Or.inr ⟨k, by omega, by omega, h3, fun i h5 h6 => ?_⟩
        by_cases hi : i = a + m
        · subst hi; exact h
        · exact h4 i (by omega) (by omega)

end Go.Am
