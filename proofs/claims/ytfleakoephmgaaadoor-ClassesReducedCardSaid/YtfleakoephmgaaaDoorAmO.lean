/- A region whose order is open: the theorem. Conditions: none. -/
import Derived.Test.YtfleakoephmgaaaDoorAmN
set_option linter.unusedSimpArgs false
set_option linter.unusedVariables false
namespace Go.Am

section
variable {ops : Array Oper} {cs : List CO} {chk : List (Nat × Nat)} {lp : Option (Nat × Nat)} {call : Nat → List AV → St → Option (AV × St)} {tr : Nat → Env × St}

/-- No operation between changes the store. -/
theorem tr_store (ts : ∀ (j : Nat) (c : CO), cs[j]? = some c → StepT call c (tr j) (tr (j + 1))) : ∀ (m a : Nat), a + m ≤ cs.length → (∀ (k : Nat) (c : CO), a ≤ k → k < a + m → cs[k]? = some c → c.op.heavy = false) → (tr (a + m)).2 = (tr a).2
  | 0, a, _, _ => rfl
  | m + 1, a, hn, hh => by
    have ih := tr_store ts m a (by omega) (fun k c h1 h2 => hh k c h1 (by omega))
    obtain ⟨c, hc⟩ : ∃ c, cs[a + m]? = some c := ⟨_, List.getElem?_eq_getElem (by omega)⟩
    have hst := ts (a + m) c hc
    have hhv := hh (a + m) c (by omega) (by omega) hc
    rw [← ih]
    unfold StepT at hst
    split at hst
    · rw [show a + (m + 1) = a + m + 1 by omega, hst]
    · rename_i ha
      split at hst
      · obtain ⟨v, hv, -⟩ := hst
        exact (evOp_free hhv (by simpa using ha) hv).1
      · rw [show a + (m + 1) = a + m + 1 by omega, hst]

theorem tr_store' (ts : ∀ (j : Nat) (c : CO), cs[j]? = some c → StepT call c (tr j) (tr (j + 1))) {a b : Nat} (hab : a ≤ b) (hb : b ≤ cs.length) (hh : ∀ (k : Nat) (c : CO), a ≤ k → k < b → cs[k]? = some c → c.op.heavy = false) : (tr b).2 = (tr a).2 := by
  obtain ⟨m, rfl⟩ : ∃ m, b = a + m := ⟨b - a, by omega⟩
  exact tr_store ts m a hb hh

/-- No operation between writes the slot. -/
theorem tr_slot (ts : ∀ (j : Nat) (c : CO), cs[j]? = some c → StepT call c (tr j) (tr (j + 1))) (t : Nat) : ∀ (m a : Nat), a + m ≤ cs.length → (∀ (k : Nat) (c : CO), a ≤ k → k < a + m → cs[k]? = some c → isAlloc c.op = false → c.dst ≠ some t) → (tr (a + m)).1 t = (tr a).1 t
  | 0, a, _, _ => rfl
  | m + 1, a, hn, hh => by
    have ih := tr_slot ts t m a (by omega) (fun k c h1 h2 => hh k c h1 (by omega))
    obtain ⟨c, hc⟩ : ∃ c, cs[a + m]? = some c := ⟨_, List.getElem?_eq_getElem (by omega)⟩
    have hst := ts (a + m) c hc
    have hput : ∀ (e : Env) (v : AV), c.dst ≠ some t → (e.put c.dst v) t = e t := by
      intro e v hd
      cases hx : c.dst with
      | none => rfl
      | some u =>
        simp only [Env.put, Env.set]
        rw [if_neg]
        rintro rfl
        exact hd hx
    rw [← ih]
    unfold StepT at hst
    split at hst
    · rw [show a + (m + 1) = a + m + 1 by omega, hst]
    · rename_i ha
      have hd := hh (a + m) c (by omega) (by omega) hc (by simpa using ha)
      split at hst
      · obtain ⟨v, hv, he⟩ := hst
        rw [show a + (m + 1) = a + m + 1 by omega, he]
        exact hput _ _ hd
      · rw [show a + (m + 1) = a + m + 1 by omega, hst]
        exact hput _ _ hd

theorem tr_slot' (ts : ∀ (j : Nat) (c : CO), cs[j]? = some c → StepT call c (tr j) (tr (j + 1))) (t : Nat) {a b : Nat} (hab : a ≤ b) (hb : b ≤ cs.length) (hh : ∀ (k : Nat) (c : CO), a ≤ k → k < b → cs[k]? = some c → isAlloc c.op = false → c.dst ≠ some t) : (tr b).1 t = (tr a).1 t := by
  obtain ⟨m, rfl⟩ : ∃ m, b = a + m := ⟨b - a, by omega⟩
  exact tr_slot ts t m a hb hh

/-- What operation i lays into its slot. -/
def valD (cs : List CO) (tr : Nat → Env × St) (n0 i : Nat) (c : CO) (t : Nat) : AV :=
  if isAlloc c.op = true then .ptr (n0 + cntA (cs.take i)) 0 else (tr (i + 1)).1 t

/-- A slot holds what the last operation that has run laid into it. -/
def EOK (cs : List CO) (tr : Nat → Env × St) (n0 : Nat) (e0 : Env) (L : Nat → Prop) (t : Nat) (v : AV) : Prop :=
  ((∀ (i : Nat) (c : CO), cs[i]? = some c → L i → c.dst ≠ some t) ∧ v = e0 t) ∨
  ∃ i c, cs[i]? = some c ∧ L i ∧ c.dst = some t ∧ (∀ (k : Nat) (d : CO), cs[k]? = some d → L k → d.dst = some t → k ≤ i) ∧ v = valD cs tr n0 i c t

def Down (ops : Array Oper) (L : Nat → Prop) : Prop :=
  ∀ (j : Nat) (o : Oper) (e : Edge), L j → ops[j]? = some o → e ∈ o.after.toList → Region.binds .any e = true → L e.on

theorem bef_ready {L : Nat → Prop} (hD : Down ops L) {i j : Nat} (h : Bef ops i j) (hj : ∀ o e, ops[j]? = some o → e ∈ o.after.toList → Region.binds .any e = true → L e.on) : L i := by
  induction h with
  | edge j o e ho he hb => exact hj o e ho he hb
  | step i j o e ho he hb h ih => exact ih (fun o' e' ho' he' hb' => hD e.on o' e' (hj o e ho he hb) ho' he' hb')

theorem bef_down {L : Nat → Prop} (hD : Down ops L) {i j : Nat} (h : Bef ops i j) (hj : L j) : L i :=
  bef_ready hD h (fun o e ho he hb => hD j o e hj ho he hb)

/-- What stands in a slot that operation j reads, or in any slot at the end. -/
theorem slot_at (hK : DOK ops cs chk lp) (ts : ∀ (j : Nat) (c : CO), cs[j]? = some c → StepT call c (tr j) (tr (j + 1))) {e0 : Env} {n0 : Nat}
    (hE0 : (∀ (j : Nat) (c : CO) (t : Nat), cs[j]? = some c → isAlloc c.op = true → c.dst = some t → (tr 0).1 t = .ptr (n0 + cntA (cs.take j)) 0) ∧ ∀ t, (∀ (j : Nat) (c : CO), cs[j]? = some c → isAlloc c.op = true → c.dst ≠ some t) → (tr 0).1 t = e0 t)
    {L : Nat → Prop} {j t : Nat} {v : AV} (hj : j ≤ cs.length) (hlow : ∀ (i : Nat) (c : CO), cs[i]? = some c → c.dst = some t → i < j → L i) (hhigh : ∀ (i : Nat) (c : CO), cs[i]? = some c → c.dst = some t → j ≤ i → ¬ L i)
    (hal : ∀ (i : Nat) (c : CO), cs[i]? = some c → isAlloc c.op = true → c.dst = some t → i < j) (h : EOK cs tr n0 e0 L t v) : v = (tr j).1 t := by
  rcases h with ⟨hno, rfl⟩ | ⟨i, c, hc, hLi, hdt, hmax, rfl⟩
  · rw [tr_slot' ts t (Nat.zero_le j) hj (fun k c _ hk hck _ hd => hno k c hck (hlow k c hck hd hk) hd)]
    exact (hE0.2 t (fun k c hck hca hd => hno k c hck (hlow k c hck hd (hal k c hck hca hd)) hd)).symm
  · have hij : i < j := by
      by_cases hlt : i < j
      · exact hlt
      · exact absurd hLi (hhigh i c hc hdt (by omega))
    unfold valD
    split
    · rename_i ha
      rw [tr_slot' ts t (Nat.zero_le j) hj]
      · exact (hE0.1 i c t hc ha hdt).symm
      · intro k d _ hk hdk hda hd
        by_cases hki : k = i
        · subst hki
          rw [hc] at hdk
          cases hdk
          rw [ha] at hda
          cases hda
        · exact (hK.ha2 k i d c t hdk hc hki ha hdt).1 hd
    · rw [tr_slot' ts t (show i + 1 ≤ j by omega) hj]
      intro k d hk1 hk2 hdk _ hd
      have := hmax k d hdk (hlow k d hdk hd hk2) hd
      omega

end

theorem countP_lt {p q : Nat → Bool} (hpq : ∀ x, q x = true → p x = true) : ∀ (l : List Nat), (∃ i, i ∈ l ∧ p i = true ∧ q i = false) → l.countP q < l.countP p
  | [], h => by obtain ⟨i, hi, -⟩ := h; simp at hi
  | x :: l, h => by
    have hle : l.countP q ≤ l.countP p := List.countP_mono_left (fun y _ hy => hpq y hy)
    by_cases hx : p x = true ∧ q x = false
    · rw [List.countP_cons_of_pos hx.1, List.countP_cons_of_neg (by simp [hx.2])]
      omega
    · obtain ⟨i, hi, h1, h2⟩ := h
      rcases List.mem_cons.1 hi with rfl | hi
      · exact absurd ⟨h1, h2⟩ hx
      · have ih := countP_lt hpq l ⟨i, hi, h1, h2⟩
        rw [List.countP_cons, List.countP_cons]
        by_cases hq : q x = true
        · simp [hq, hpq x hq]; exact ih
        · simp [hq]; split <;> omega

def listedP (l : Array Bool) (j : Nat) : Prop := l.getD j false = true

theorem listed_set {l : Array Bool} {i : Nat} (hi : i < l.size) (j : Nat) : listedP (l.setIfInBounds i true) j ↔ (j = i ∨ listedP l j) := by
  unfold listedP
  rw [Array.getD_eq_getD_getElem?, Array.getD_eq_getD_getElem?, Array.getElem?_setIfInBounds]
  by_cases h : i = j
  · subst h; simp [hi]
  · simp [h, Ne.symm h]

section
variable {G : Glob} {P : Program} {mu : Bool} {nt : Nat} {ops : Array Oper} {cs : List CO} {chk : List (Nat × Nat)} {lp : Option (Nat × Nat)} {call : Nat → List AV → St → Option (AV × St)} {tr : Nat → Env × St}

theorem cOp0_alloc {o : Op} {zs : List AV} (h : cOp0 G P mu false o = some (.alloc zs)) : ∃ t, o = .alloc t ∧ zeroOf P t = some zs := by
  cases o
  case alloc t =>
    simp only [cOp0, Option.map_eq_some_iff] at h
    obtain ⟨zs', hz, he⟩ := h
    cases he
    exact ⟨t, rfl, hz⟩
  all_goals exfalso
  case makeFunc fn first caps => cases fn <;> simp only [cOp0] at h <;> (try (split at h)) <;> simp at h
  case call c =>
    simp only [cOp0] at h
    split at h
    · unfold cBuiltin at h
      repeat' (split at h)
      all_goals simp at h
    all_goals simp at h
  case binOp op t x y yt =>
    simp only [cOp0] at h
    unfold cBin at h
    unfold cPtr at h
    repeat' (split at h)
    all_goals simp at h
  case makeMap t r =>
    cases r <;> simp only [cOp0] at h
    · split at h
      · split at h <;> cases h
      · cases h
    · cases h
  case lookup t m k ok =>
    cases ok <;> simp only [cOp0] at h
    · split at h
      · split at h <;> cases h
      · cases h
    · cases h
  case mapUpdate t m k x =>
    simp only [cOp0] at h
    split at h
    · split at h <;> cases h
    · cases h
  all_goals simp only [cOp0] at h
  all_goals (repeat' (split at h))
  all_goals simp at h

theorem cOp_alloc {o : Op} {zs : List AV} (h : cOp G P mu o = some (.alloc zs)) : ∃ t, o = .alloc t ∧ zeroOf P t = some zs := by
  unfold cOp at h
  cases h0 : cOp0 G P mu false o with
  | none => rw [h0] at h; cases h
  | some c => rw [h0] at h; cases h; exact cOp0_alloc h0

theorem opers_at : ∀ (l : List Oper) (cs : List CO), cOpers G P mu nt ops l = some cs → cs.length = l.length ∧ ∀ (j : Nat) (o : Oper), l[j]? = some o → ∃ c, cs[j]? = some ⟨o.dst, cGuard ops o.guard, c⟩ ∧ cOp G P mu o.op = some c ∧ o.dst.all (· < nt) = true
  | [], cs, h => by cases h; exact ⟨rfl, by simp⟩
  | o :: r, cs, h => by
    simp only [cOpers] at h
    split at h
    · rename_i c cs' h1 h2
      split at h
      · rename_i hd
        cases h
        obtain ⟨h3, h4⟩ := opers_at r cs' h2
        refine ⟨by simp [h3], ?_⟩
        intro j o' hj
        cases j with
        | zero => simp at hj; subst hj; exact ⟨c, rfl, h1, hd⟩
        | succ j => exact h4 j o' (by simpa using hj)
      · cases h
    · cases h

theorem cntA_onto : ∀ (cs : List CO) (k : Nat), k < cntA cs → ∃ j c, cs[j]? = some c ∧ isAlloc c.op = true ∧ cntA (cs.take j) = k
  | [], k, h => by simp [cntA] at h
  | c :: r, k, h => by
    simp only [cntA] at h
    by_cases hc : isAlloc c.op = true
    · rw [if_pos hc] at h
      cases k with
      | zero => exact ⟨0, c, rfl, hc, by simp [cntA]⟩
      | succ k =>
        obtain ⟨j, d, hj, hd, he⟩ := cntA_onto r k (by omega)
        exact ⟨j + 1, d, by simpa using hj, hd, by simp only [List.take_succ_cons, cntA, if_pos hc]; omega⟩
    · rw [if_neg hc] at h
      obtain ⟨j, d, hj, hd, he⟩ := cntA_onto r k (by omega)
      exact ⟨j + 1, d, by simpa using hj, hd, by simp only [List.take_succ_cons, cntA, if_neg hc]; omega⟩

/-- Where the run stands when the operations of L have run. -/
structure Inv (G : Glob) (cs : List CO) (tr : Nat → Env × St) (nt : Nat) (e0 : Env) (ρ0 : Rho) (s0 : St) (w0 : World) (L : Nat → Prop) (a : Act) (w : World) : Prop where
  ex : ∃ (ρ : Rho) (F : Nat) (e : Env), F ≤ cs.length ∧ (∀ (k : Nat) (c : CO), cs[k]? = some c → c.op.heavy = true → (L k ↔ k < F)) ∧
    Fr0 ρ0 s0 w0 ρ (tr F).2 w ∧ Sim ρ (tr F).2 w ∧ EnvR G ρ w (tr F).2.size e a.tmps ∧ (∀ t, EOK cs tr s0.size e0 L t (e t)) ∧ actOk a nt ∧
    (∀ i, ρ.pend i = true ↔ (ρ0.pend i = true ∨ ∃ j c, cs[j]? = some c ∧ isAlloc c.op = true ∧ ¬ L j ∧ i = s0.size + cntA (cs.take j))) ∧
    (∀ i, ρ0.pend i = true → (tr F).2.obj i = s0.obj i) ∧
    (∀ (j : Nat) (c : CO) (zs : List AV), cs[j]? = some c → c.op = .alloc zs → ¬ L j → (tr F).2.obj (s0.size + cntA (cs.take j)) = some (.cells zs))

theorem eok_put {e0 : Env} {n0 : Nat} (hK : DOK ops cs chk lp) {L L' : Nat → Prop} {i : Nat} {c : CO} (hc : cs[i]? = some c) (hD : Down ops L) (hni : ¬ L i) (hL : ∀ j, L' j ↔ (j = i ∨ L j)) {e : Env} (he : ∀ t, EOK cs tr n0 e0 L t (e t)) {v : AV}
    (hv : ∀ t, c.dst = some t → v = valD cs tr n0 i c t) : ∀ t, EOK cs tr n0 e0 L' t ((e.put c.dst v) t) := by
  intro t
  by_cases hd : c.dst = some t
  · rw [hd]
    simp only [Env.put, Env.set, if_true]
    refine Or.inr ⟨i, c, hc, (hL i).2 (Or.inl rfl), hd, ?_, hv t hd⟩
    intro k d hk hLk hdk
    by_cases hki : k = i
    · omega
    · have hLk' : L k := ((hL k).1 hLk).resolve_left hki
      by_cases hlt : k ≤ i
      · exact hlt
      · have := (hK.hr k i d c t hk hc hki hdk (Or.inr hd)).2 (by omega)
        exact absurd (bef_down hD this hLk') hni
  · have hput : (e.put c.dst v) t = e t := by
      cases hx : c.dst with
      | none => rfl
      | some u =>
        simp only [Env.put, Env.set]
        rw [if_neg]
        rintro rfl
        exact hd hx
    rw [hput]
    rcases he t with ⟨hno, h1⟩ | ⟨k, d, hk, hLk, hdk, hmax, h1⟩
    · refine Or.inl ⟨?_, h1⟩
      intro k d hk hLk hdk
      rcases (hL k).1 hLk with rfl | hLk
      · rw [hc] at hk; cases hk; exact hd hdk
      · exact hno k d hk hLk hdk
    · refine Or.inr ⟨k, d, hk, (hL k).2 (Or.inr hLk), hdk, ?_, h1⟩
      intro m d' hm hLm hdm
      rcases (hL m).1 hLm with rfl | hLm
      · rw [hc] at hm; cases hm; exact absurd hdm hd
      · exact hmax m d' hm hLm hdm

theorem read_facts (hK : DOK ops cs chk lp) (ts : ∀ (j : Nat) (c : CO), cs[j]? = some c → StepT call c (tr j) (tr (j + 1))) {e0 : Env} {n0 : Nat}
    (hE0 : (∀ (j : Nat) (c : CO) (t : Nat), cs[j]? = some c → isAlloc c.op = true → c.dst = some t → (tr 0).1 t = .ptr (n0 + cntA (cs.take j)) 0) ∧ ∀ t, (∀ (j : Nat) (c : CO), cs[j]? = some c → isAlloc c.op = true → c.dst ≠ some t) → (tr 0).1 t = e0 t)
    {L : Nat → Prop} {i : Nat} {d : Option Nat} {g : Option (Option Nat × Bool)} {c : COp} (hci : cs[i]? = some ⟨d, g, c⟩) (hD : Down ops L) (hni : ¬ L i) (hbef : ∀ k, Bef ops k i → L k) {e : Env} (hok : ∀ t, EOK cs tr n0 e0 L t (e t)) :
    wantedA e g = wantedA (tr i).1 g ∧ ∀ x, x ∈ c.opds → x.ev e = x.ev (tr i).1 := by
  have hil := (List.getElem?_eq_some_iff.1 hci).1
  have hread : ∀ t, t ∈ (CO.mk d g c).reads → e t = (tr i).1 t := by
    intro t ht
    refine slot_at hK ts hE0 (by omega) ?_ ?_ ?_ (hok t)
    · intro k d' hk hd hlt
      exact hbef k ((hK.hr k i d' _ t hk hci (by omega) hd (Or.inl ht)).1 hlt)
    · intro k d' hk hd hge hLk
      by_cases hki : k = i
      · subst hki; exact hni hLk
      · exact hni (bef_down hD ((hK.hr k i d' _ t hk hci hki hd (Or.inl ht)).2 (by omega)) hLk)
    · intro k d' hk hda hd
      by_cases hlt : k < i
      · exact hlt
      · exfalso
        by_cases hki : k = i
        · subst hki
          rw [hci] at hk
          cases hk
          have hg := (hK.ha1 k _ hci hda).1
          cases hcc : c <;> first | (rw [hcc] at hda; simp [isAlloc] at hda; done) | skip
          rw [hcc] at ht
          simp only [CO.reads, COp.opds, slotsOf] at ht
          simp only at hg
          rw [hg] at ht
          simp at ht
        · exact (hK.ha2 i k _ d' t hci hk (fun h => hki h.symm) hda hd).2 (by omega) ht
  refine ⟨?_, ?_⟩
  · cases hg : g with
    | none => rfl
    | some g' =>
      obtain ⟨d', want⟩ := g'
      cases d' with
      | none => rfl
      | some d' =>
        have := hread d' (by simp [CO.reads, hg])
        simp only [wantedA, this]
  · intro x hx
    cases x with
    | c v => rfl
    | t k =>
      refine hread k ?_
      simp only [CO.reads, List.mem_append]
      left
      show k ∈ slotsOf c.opds
      clear hread
      revert hx
      generalize c.opds = ds
      intro hx
      induction ds with
      | nil => simp at hx
      | cons y ds ihd =>
        rcases List.mem_cons.1 hx with hx1 | hx1
        · subst hx1; simp [slotsOf]
        · cases y with
          | t m => simp only [slotsOf, List.mem_cons]; exact Or.inr (ihd hx1)
          | c v => simp only [slotsOf]; exact ihd hx1

/-- Stores to different objects change places. -/
theorem store_comm {s s1 s12 : St} {n1 n2 p o q r : Nat} {v1 v2 : AV} (h1 : storeA s n1 (.ptr p o) v1 = some s1) (h2 : storeA s1 n2 (.ptr q r) v2 = some s12) (hne : p ≠ q) : ∃ s2, storeA s n2 (.ptr q r) v2 = some s2 ∧ storeA s2 n1 (.ptr p o) v1 = some s12 := by
  simp only [storeA] at h1 h2 ⊢
  split at h1
  · rename_i cs hob
    split at h1
    · rename_i hc
      cases h1
      split at h2
      · rename_i ds hob2
        split at h2
        · rename_i hc2
          cases h2
          have hob3 : s.obj q = some (.cells ds) := by
            simp only [St.put] at hob2
            rw [if_neg (Ne.symm hne)] at hob2
            exact hob2
          refine ⟨s.put q (some (.cells (setAt ds r v2.cells))), ?_, ?_⟩
          · simp only [hob3]
            rw [if_pos hc2]
          · have hob4 : (s.put q (some (.cells (setAt ds r v2.cells)))).obj p = some (.cells cs) := by
              simp only [St.put]
              rw [if_neg hne]
              exact hob
            simp only [hob4]
            rw [if_pos hc]
            congr 1
            simp only [St.put, St.mk.injEq, true_and]
            funext k
            by_cases hk : k = p
            · subst hk; rw [if_pos rfl, if_neg hne, if_pos rfl]
            · rw [if_neg hk]
              by_cases hk2 : k = q
              · subst hk2; rw [if_pos rfl, if_pos rfl]
              · rw [if_neg hk2, if_neg hk2, if_neg hk]
        · cases h2
      · cases h2
    · cases h1
  · cases h1

/-- Where the run stands when the later one of two stores has run, the earlier one not. -/
structure InvL (G : Glob) (cs : List CO) (tr : Nat → Env × St) (nt : Nat) (e0 : Env) (ρ0 : Rho) (s0 : St) (w0 : World) (lp : Option (Nat × Nat)) (L : Nat → Prop) (a : Act) (w : World) : Prop where
  ex : ∃ (ρ : Rho) (e : Env) (m q : Nat) (sL : St), lp = some (m, q) ∧ L q ∧ ¬ L m ∧ (∀ (k : Nat) (c : CO), cs[k]? = some c → c.op.heavy = true ∨ c.op.isLoad = true ∨ isAlloc c.op = true → k ≠ m → L k) ∧
    (∀ n1 x1 y1, cs[m]? = some ⟨none, none, .store n1 x1 y1⟩ → storeA sL n1 (x1.ev (tr m).1) (y1.ev (tr m).1) = some (tr cs.length).2) ∧
    Fr0 ρ0 s0 w0 ρ sL w ∧ Sim ρ sL w ∧ EnvR G ρ w sL.size e a.tmps ∧ (∀ t, EOK cs tr s0.size e0 L t (e t)) ∧ actOk a nt ∧
    (∀ i, ρ.pend i = true ↔ ρ0.pend i = true) ∧ (∀ i, ρ0.pend i = true → sL.obj i = s0.obj i)

theorem bef_lt (hK : DOK ops cs chk lp) (hat : ∀ (j : Nat) (o : Oper), ops.toList[j]? = some o → ∃ c, cs[j]? = some ⟨o.dst, cGuard ops o.guard, c⟩ ∧ cOp G P mu o.op = some c ∧ o.dst.all (· < nt) = true) (_hop : ∀ (j : Nat) (c : CO), cs[j]? = some c → ∃ o, ops[j]? = some o) {i j : Nat} (h : Bef ops i j) : i < j := by
  have key : ∀ (j : Nat) (o : Oper) (e : Edge), ops[j]? = some o → e ∈ o.after.toList → Region.binds .any e = true → e.on < j := by
    intro j o e ho he hb
    obtain ⟨c, hc, -, -⟩ := hat j o (by simpa using ho)
    exact hK.h0 j o _ ho hc e he hb
  induction h with
  | edge j o e ho he hb => exact key j o e ho he hb
  | step i j o e ho he hb _ ih => exact Nat.lt_trans ih (key j o e ho he hb)

set_option maxHeartbeats 1000000 in
theorem any_wp (hcall : CallOk G P call) (hc : cOpers G P mu nt ops ops.toList = some cs) (hK : DOK ops cs chk lp) (ts : ∀ (j : Nat) (c : CO), cs[j]? = some c → StepT call c (tr j) (tr (j + 1))) {e0 : Env} {ρ0 : Rho} {s0 : St} {w0 : World}
    (hE0 : (∀ (j : Nat) (c : CO) (t : Nat), cs[j]? = some c → isAlloc c.op = true → c.dst = some t → (tr 0).1 t = .ptr (s0.size + cntA (cs.take j)) 0) ∧ ∀ t, (∀ (j : Nat) (c : CO), cs[j]? = some c → isAlloc c.op = true → c.dst ≠ some t) → (tr 0).1 t = e0 t)
    (hchk : ∀ (j i : Nat) (c : CO), (j, i) ∈ chk → cs[j]? = some c → c.op.isLoad = true → wantedA (tr j).1 c.guard = true → ∀ v s1, evOp call c.op (tr j).1 (tr j).2 = some (v, s1) → ∃ s2, evOp call c.op (tr j).1 (tr (if i < j then i else i + 1)).2 = some (v, s2))
    (hap : ∀ m q n1 x1 y1 n2 x2 y2, lp = some (m, q) → cs[m]? = some ⟨none, none, .store n1 x1 y1⟩ → cs[q]? = some ⟨none, none, .store n2 x2 y2⟩ → ∃ p o p' o', x1.ev (tr m).1 = .ptr p o ∧ x2.ev (tr q).1 = .ptr p' o' ∧ p ≠ p')
    (hpn : ∀ i, ρ0.pend i = true → i < s0.size) {Q : Exit → Act → World → Prop}
    (hQ : ∀ ρ' a' w', Fr ρ0 s0 w0 ρ' (tr cs.length).2 w' → Sim ρ' (tr cs.length).2 w' → EnvR G ρ' w' (tr cs.length).2.size (tr cs.length).1 a'.tmps → actOk a' nt → Q .normal a' w') :
    ∀ (fuel : Nat) (l : Array Bool) (a : Act) (w : World), (List.range ops.size).countP (fun i => !l.getD i true) ≤ fuel → l.size = ops.size → Down ops (listedP l) → Inv G cs tr nt e0 ρ0 s0 w0 (listedP l) a w → wpAny P .any ops Q fuel l a w := by
  obtain ⟨hlen0, hat⟩ := opers_at ops.toList cs hc
  have hlen : cs.length = ops.size := hlen0.trans Array.length_toList
  clear hlen0
  have hop : ∀ (j : Nat) (c : CO), cs[j]? = some c → ∃ o, ops[j]? = some o := by
    intro j c hj
    have := (List.getElem?_eq_some_iff.1 hj).1
    exact ⟨ops[j]'(by omega), by simp [show j < ops.size by omega]⟩
  have hgetD : ∀ (l : Array Bool) (i : Nat), l.size = ops.size → i < ops.size → (l.getD i true = l.getD i false) := by
    intro l i h1 h2
    simp [Array.getD_eq_getD_getElem?, show i < l.size by omega]
  -- when all have run
  have hfin : ∀ (l : Array Bool) (a : Act) (w : World), (∀ i, i < ops.size → listedP l i) → Inv G cs tr nt e0 ρ0 s0 w0 (listedP l) a w → Q .normal a w := by
    intro l a w hall hI
    obtain ⟨ρ, F, e, hF, hh, hFr, hS, hE, hok, ha, hp1, hp2, hp3⟩ := hI.ex
    have hst : (tr cs.length).2 = (tr F).2 := tr_store' ts hF (Nat.le_refl _) (by
      intro k c h1 h2 hk
      cases hx : c.op.heavy with
      | false => rfl
      | true =>
        have := (hh k c hk hx).1 (hall k (by omega))
        omega)
    have he : ∀ t, e t = (tr cs.length).1 t := fun t => slot_at hK ts hE0 (Nat.le_refl _) (fun i c hi _ hlt => hall i (by omega)) (fun i c hi _ hge => absurd (List.getElem?_eq_some_iff.1 hi).1 (by omega)) (fun i c hi _ _ => (List.getElem?_eq_some_iff.1 hi).1) (hok t)
    have hpend : ∀ i, ρ.pend i = true ↔ ρ0.pend i = true := by
      intro i
      rw [hp1 i]
      constructor
      · rintro (h | ⟨j, c, hj, -, hn, -⟩)
        · exact h
        · exact absurd (hall j (by have := (List.getElem?_eq_some_iff.1 hj).1; omega)) hn
      · exact Or.inl
    refine hQ ρ a w ⟨by rw [hst]; exact hFr.mono, hFr.os, hFr.tape, hFr.output, hFr.size, hFr.keep, fun i hi => by rw [hst]; exact hp2 i hi, fun i => ?_⟩ (by rw [hst]; exact hS) ?_ ha
    · cases h1 : ρ.pend i <;> cases h2 : ρ0.pend i <;> first | rfl | (exact absurd ((hpend i).1 h1) (by simp [h2])) | (exact absurd ((hpend i).2 h2) (by simp [h1]))
    · refine ⟨fun t => ?_, by rw [hst]; exact hE.2⟩
      rw [hst, ← he t]
      exact hE.1 t
  have hready : ∀ (l : Array Bool), l.size = ops.size → Region.ready .any ops l = [] → ∀ i, i < ops.size → listedP l i := by
    intro l hl hr i
    induction i using Nat.strongRecOn with
    | _ i ih =>
      intro hi
      cases hx : l.getD i false with
      | true => exact hx
      | false =>
        exfalso
        have hmem : i ∈ Region.ready .any ops l := by
          unfold Region.ready
          rw [List.mem_filter]
          refine ⟨List.mem_range.2 hi, ?_⟩
          rw [hgetD l i hl hi, hx]
          simp only [Bool.not_false, Bool.true_and]
          rw [Array.getElem?_eq_getElem hi]
          simp only [Option.map_some, Option.getD_some]
          rw [Array.all_eq_true']
          intro e he
          obtain ⟨c, hcs, -, -⟩ := hat i ops[i] (by simp [hi])
          by_cases hb : Region.binds .any e = true
          · have hlt := hK.h0 i ops[i] _ (by simp [hi]) hcs e (by simpa using he) hb
            have := ih e.on hlt (by omega)
            simp [this, listedP] at this ⊢
            exact Or.inr this
          · simp [hb]
        rw [hr] at hmem
        simp at hmem
  have both : ∀ (fuel : Nat), (∀ (l : Array Bool) (a : Act) (w : World), (List.range ops.size).countP (fun i => !l.getD i true) ≤ fuel → l.size = ops.size → Down ops (listedP l) → Inv G cs tr nt e0 ρ0 s0 w0 (listedP l) a w → wpAny P .any ops Q fuel l a w) ∧
      (∀ (l : Array Bool) (a : Act) (w : World), (List.range ops.size).countP (fun i => !l.getD i true) ≤ fuel → l.size = ops.size → Down ops (listedP l) → InvL G cs tr nt e0 ρ0 s0 w0 lp (listedP l) a w → wpAny P .any ops Q fuel l a w) := by
    intro fuel
    induction fuel with
    | zero =>
      refine ⟨?_, ?_⟩
      · intro l a w hcnt hl hD hI
        have hall : ∀ i, i < ops.size → listedP l i := by
          intro i hi
          have h0 : (List.range ops.size).countP (fun i => !l.getD i true) = 0 := by omega
          rw [List.countP_eq_zero] at h0
          have := h0 i (List.mem_range.2 hi)
          simp only [Bool.not_eq_true', Bool.not_eq_false] at this
          unfold listedP
          rw [← hgetD l i hl hi]
          exact this
        refine ⟨?_, hfin l a w hall hI⟩
        apply List.eq_nil_iff_forall_not_mem.2
        intro i hi
        unfold Region.ready at hi
        rw [List.mem_filter] at hi
        have := hall i (List.mem_range.1 hi.1)
        unfold listedP at this
        rw [← hgetD l i hl (List.mem_range.1 hi.1)] at this
        rw [this] at hi
        simp at hi
      · intro l a w hcnt hl hD hI
        exfalso
        obtain ⟨ρ, e, m, q, sL, hlp, hLq, hnm, -⟩ := hI.ex
        obtain ⟨hmq, ⟨n1, x1, y1, hm1⟩, -, -, -⟩ := hK.late m q hlp
        have hml := (List.getElem?_eq_some_iff.1 hm1).1
        have h0 : (List.range ops.size).countP (fun i => !l.getD i true) = 0 := by omega
        rw [List.countP_eq_zero] at h0
        have := h0 m (List.mem_range.2 (by omega))
        simp only [Bool.not_eq_true', Bool.not_eq_false] at this
        refine hnm ?_
        unfold listedP
        rw [← hgetD l m hl (by omega)]
        exact this
    | succ fuel ih =>
      refine ⟨?_, ?_⟩
      · intro l a w hcnt hl hD hI
        refine ⟨fun hr => hfin l a w (hready l hl hr) hI, ?_⟩
        intro i hi
        unfold Region.ready at hi
        rw [List.mem_filter] at hi
        obtain ⟨hir, hi2⟩ := hi
        have hin := List.mem_range.1 hir
        simp only [Bool.and_eq_true] at hi2
        obtain ⟨hun, haft⟩ := hi2
        have hni : ¬ listedP l i := by
          unfold listedP
          rw [← hgetD l i hl hin]
          simpa using hun
        have ho : ops[i]? = some ops[i] := by simp [hin]
        obtain ⟨c, hci, hcop, hdst⟩ := hat i ops[i] (by simp [hin])
        have hrdy : ∀ o e, ops[i]? = some o → e ∈ o.after.toList → Region.binds .any e = true → listedP l e.on := by
          intro o e ho' he hb
          rw [ho] at ho'
          cases ho'
          rw [ho] at haft
          simp only [Option.map_some, Option.getD_some] at haft
          rw [Array.all_eq_true'] at haft
          have := haft e (by simpa using he)
          simpa [hb, listedP] using this
        have hbef : ∀ k, Bef ops k i → listedP l k := fun k h => bef_ready hD h hrdy
        have hset := fun j => listed_set (l := l) (i := i) (by omega) j
        have hcnt' : (List.range ops.size).countP (fun j => !(l.setIfInBounds i true).getD j true) ≤ fuel := by
          have := countP_lt (p := fun j => !l.getD j true) (q := fun j => !(l.setIfInBounds i true).getD j true) (by
            intro x hx
            simp only [Array.getD_eq_getD_getElem?, Array.getElem?_setIfInBounds] at hx ⊢
            split at hx
            · split at hx <;> simp at hx
            · exact hx) (List.range ops.size) ⟨i, hir, hun, by simp [Array.getD_eq_getD_getElem?, show i < l.size by omega]⟩
          omega
        have hD' : Down ops (listedP (l.setIfInBounds i true)) := by
          intro j o e hj ho' he hb
          rw [hset] at hj ⊢
          rcases hj with rfl | hj
          · exact Or.inr (hrdy o e ho' he hb)
          · exact Or.inr (hD j o e hj ho' he hb)
        have hnext : ∀ a' w', Inv G cs tr nt e0 ρ0 s0 w0 (listedP (l.setIfInBounds i true)) a' w' → wpAny P .any ops Q fuel (l.setIfInBounds i true) a' w' :=
          fun a' w' hI' => ih.1 _ a' w' hcnt' (by simp [hl]) hD' hI'
        have hnextL : ∀ a' w', InvL G cs tr nt e0 ρ0 s0 w0 lp (listedP (l.setIfInBounds i true)) a' w' → wpAny P .any ops Q fuel (l.setIfInBounds i true) a' w' :=
          fun a' w' hI' => ih.2 _ a' w' hcnt' (by simp [hl]) hD' hI'
        obtain ⟨ρ, F, e, hF, hh, hFr, hS, hE, hok, ha, hp1, hp2, hp3⟩ := hI.ex
        obtain ⟨hwant, hreads⟩ := read_facts hK ts hE0 hci hD hni hbef hok
        have hbefH : c.heavy = true → (¬ ∃ m, lp = some (m, i) ∧ ¬ listedP l m) → ∀ (k : Nat) (d : CO), cs[k]? = some d → d.op.heavy = true → k < i → listedP l k := by
          intro h1 hnl k d hk hkh hlt
          rcases hK.hh k i d _ hk hci (by omega) h1 hkh with hord | hlp | hlp
          · exact hbef k (hord.1 hlt)
          · exact Classical.byContradiction fun hn => hnl ⟨k, hlp, hn⟩
          · have := (hK.late _ _ hlp).lt; omega
        have haftH : c.heavy = true → ∀ (k : Nat) (d : CO), cs[k]? = some d → d.op.heavy = true → i < k → ¬ listedP l k := by
          intro h1 k d hk hkh hlt hLk
          rcases hK.hh k i d _ hk hci (by omega) h1 hkh with hord | hlp | hlp
          · exact hni (bef_down hD (hord.2 hlt) hLk)
          · have := (hK.late _ _ hlp).lt; omega
          · have h2 := (hh k d hk hkh).1 hLk
            exact hni ((hh i _ hci h1).2 (by omega))
        have hstep := ts i _ hci
        unfold wpOp
        rw [ho]
        simp only
        rw [wanted_eq hE, hwant]
        by_cases hal : isAlloc c = true
        -- a new variable
        · obtain ⟨zs, rfl⟩ : ∃ zs, c = .alloc zs := by
            cases c <;> first | exact ⟨_, rfl⟩ | (simp [isAlloc] at hal)
          obtain ⟨hg, t0, ht0⟩ := hK.ha1 i _ hci hal
          simp only at hg ht0
          rw [hg]
          simp only [wantedA, if_true]
          have hpi : ρ.pend (s0.size + cntA (cs.take i)) = true := (hp1 _).2 (Or.inr ⟨i, _, hci, rfl, hni, rfl⟩)
          have hobi := hp3 i _ zs hci rfl hni
          obtain ⟨t, hopi, hz⟩ := cOp_alloc hcop
          obtain ⟨inf, z, hinf, hzz, hzv⟩ := zero_sound hz
          obtain ⟨hFr1, hS1⟩ := realize hS hpi hobi (hzv ρ w (tr F).2.size) t
          refine Or.inl ?_
          unfold Oper.wp
          have hrun : (execOp a.eval ops[i]).run P w = .ok (.value (.pointer (some ⟨w.heap.size, 0, none⟩))) (pushW w (.cells z.cells.toList.toArray t (0, 0))) := by
            simp [execOp, hopi, Instr.alloc, zero_run hinf hzz, newVar, newRow, pushW_eq]
          rw [hrun, Oper.upon_value]
          refine hnext _ _ ⟨_, F, e.put ops[i].dst (.ptr (s0.size + cntA (cs.take i)) 0), hF, ?_, hFr.trans hFr1, hS1, ?_, ?_, put_ok ha _ _, ?_, hp2, ?_⟩
          · intro k d hk hkh
            rw [hset, ← hh k d hk hkh]
            constructor
            · rintro (rfl | h)
              · rw [hci] at hk; cases hk; simp [COp.heavy] at hkh
              · exact h
            · exact Or.inr
          · refine put_env (hE.mono hFr1.mono) ha hdst ?_
            have hb : (ρ.make w.heap.size (s0.size + cntA (cs.take i)) z.cells.toList.length).blk (s0.size + cntA (cs.take i)) = w.heap.size := by simp [Rho.make]
            have := V.ptr (ρ := ρ.make w.heap.size (s0.size + cntA (cs.take i)) z.cells.toList.length) (w := pushW w (.cells z.cells.toList.toArray t (0, 0))) (n := (tr F).2.size) (s0.size + cntA (cs.take i)) 0 (hS.pn _ hpi).1 (by simp [Rho.make])
            rw [hb] at this
            exact this
          · exact eok_put hK hci hD hni hset hok (fun t _ => by simp [valD, isAlloc])
          · intro j
            simp only [Rho.make]
            by_cases hj : j = s0.size + cntA (cs.take i)
            · rw [if_pos hj]
              subst hj
              simp only [Bool.false_eq_true, false_iff, not_or, not_exists]
              refine ⟨fun h => by have := hpn _ h; omega, ?_⟩
              rintro k d ⟨hk, hda, hnk, he⟩
              have := cntA_inj cs k i d _ hk hci hda rfl (by omega)
              subst this
              exact hnk ((hset _).2 (Or.inl rfl))
            · rw [if_neg hj, hp1 j]
              constructor
              · rintro (h | ⟨k, d, hk, hda, hnk, he⟩)
                · exact Or.inl h
                · refine Or.inr ⟨k, d, hk, hda, ?_, he⟩
                  rw [hset]
                  rintro (rfl | h)
                  · exact hj he
                  · exact hnk h
              · rintro (h | ⟨k, d, hk, hda, hnk, he⟩)
                · exact Or.inl h
                · exact Or.inr ⟨k, d, hk, hda, fun h => hnk ((hset k).2 (Or.inr h)), he⟩
          · intro j d zs1 hj hd hnj
            exact hp3 j d zs1 hj hd (fun h => hnj ((hset j).2 (Or.inr h)))
        -- any other operation
        · have hal' : isAlloc c = false := by simpa using hal
          have hval : ∀ (v : AV), (tr (i + 1)).1 = (tr i).1.put ops[i].dst v → ∀ t, (CO.mk ops[i].dst (cGuard ops ops[i].guard) c).dst = some t → v = valD cs tr s0.size i ⟨ops[i].dst, cGuard ops ops[i].guard, c⟩ t := by
            intro v hv t ht
            simp only at ht
            unfold valD
            rw [if_neg (by simpa using hal), hv, ht]
            simp [Env.put, Env.set]
          -- what becomes of the bookkeeping when the store has gone from the state at F to that at F'
          have hclose : ∀ (ρ' : Rho) (w' : World) (v : AV) (v' : Value) (F' : Nat), F' ≤ cs.length → (∀ (k : Nat) (d : CO), cs[k]? = some d → d.op.heavy = true → (listedP (l.setIfInBounds i true) k ↔ k < F')) →
              Fr ρ (tr F).2 w ρ' (tr F').2 w' → Sim ρ' (tr F').2 w' → V ρ' w' (tr F').2.size v v' → (tr (i + 1)).1 = (tr i).1.put ops[i].dst v →
              Inv G cs tr nt e0 ρ0 s0 w0 (listedP (l.setIfInBounds i true)) (a.put ops[i].dst v') w' := by
            intro ρ' w' v v' F' hF' hh' hFr' hS' hV' hv
            refine ⟨ρ', F', e.put ops[i].dst v, hF', hh', hFr.trans hFr'.toFr0, hS', put_env (hE.mono hFr'.mono) ha hdst hV', eok_put hK hci hD hni hset hok (hval v hv), put_ok ha _ _, ?_, ?_, ?_⟩
            · intro j
              rw [hFr'.pback j, hp1 j]
              constructor
              · rintro (h | ⟨k, d, hk, hda, hnk, he⟩)
                · exact Or.inl h
                · refine Or.inr ⟨k, d, hk, hda, ?_, he⟩
                  rw [hset]
                  rintro (rfl | h)
                  · rw [hci] at hk; cases hk; rw [hal'] at hda; cases hda
                  · exact hnk h
              · rintro (h | ⟨k, d, hk, hda, hnk, he⟩)
                · exact Or.inl h
                · exact Or.inr ⟨k, d, hk, hda, fun h => hnk ((hset k).2 (Or.inr h)), he⟩
            · intro j hj
              rw [hFr'.pend j ((hp1 j).2 (Or.inl hj))]
              exact hp2 j hj
            · intro j d zs1 hj hd hnj
              have hnj' : ¬ listedP l j := fun h => hnj ((hset j).2 (Or.inr h))
              rw [hFr'.pend _ ((hp1 _).2 (Or.inr ⟨j, d, hj, by rw [hd]; rfl, hnj', rfl⟩))]
              exact hp3 j d zs1 hj hd hnj'
          have hsame : c.heavy = false → ∀ (k : Nat) (d : CO), cs[k]? = some d → d.op.heavy = true → (listedP (l.setIfInBounds i true) k ↔ k < F) := by
            intro hch k d hk hkh
            rw [hset, ← hh k d hk hkh]
            constructor
            · rintro (rfl | h)
              · rw [hci] at hk; cases hk; simp only at hkh; rw [hch] at hkh; cases hkh
              · exact h
            · exact Or.inr
          unfold StepT at hstep
          rw [if_neg (by simpa using hal)] at hstep
          simp only at hstep
          by_cases hw : wantedA (tr i).1 (cGuard ops ops[i].guard) = true
          · rw [if_pos hw] at hstep ⊢
            obtain ⟨v, hev, hput⟩ := hstep
            rw [← evOp_congr hreads] at hev
            -- the store at which it runs
            have hat' : c.heavy = true → (¬ ∃ m, lp = some (m, i) ∧ ¬ listedP l m) → (tr F).2 = (tr i).2 := by
              intro h1 hnl
              have hlow : ∀ (k : Nat) (d : CO), cs[k]? = some d → d.op.heavy = true → k < i → k < F := by
                intro k d hk hkh hlt
                exact (hh k d hk hkh).1 (hbefH h1 hnl k d hk hkh hlt)
              have hFi : F ≤ i := by
                by_cases h : F ≤ i
                · exact h
                · exact absurd ((hh i _ hci h1).2 (by omega)) hni
              refine (tr_store' ts hFi (by omega) ?_).symm
              intro k d h1 h2 hk
              cases hx : d.op.heavy with
              | false => rfl
              | true => have := hlow k d hk hx h2; omega
            have hld : c.isLoad = true → c.heavy = false → ∃ s2, evOp call c e (tr F).2 = some (v, s2) := by
              intro h1 h2
              have hchk' : ∀ k, (i, k) ∈ chk → ∃ s2, evOp call c e (tr (if k < i then k else k + 1)).2 = some (v, s2) := by
                intro k hk
                obtain ⟨s2, hs2⟩ := hchk i k _ hk hci h1 hw v _ (by rw [evOp_congr hreads] at hev; exact hev)
                exact ⟨s2, by rw [evOp_congr hreads]; exact hs2⟩
              have hheavy : ∀ k, k < cs.length → (∃ d, cs[k]? = some d ∧ d.op.heavy = true) ∨ ∀ d, cs[k]? = some d → d.op.heavy = false := by
                intro k hk
                obtain ⟨d, hd⟩ : ∃ d, cs[k]? = some d := ⟨_, List.getElem?_eq_getElem hk⟩
                cases hx : d.op.heavy with
                | true => exact Or.inl ⟨d, hd, hx⟩
                | false => exact Or.inr fun d' hd' => by rw [hd] at hd'; cases hd'; exact hx
              by_cases hFi : F ≤ i
              · rcases first_of (fun k => ∃ d, cs[k]? = some d ∧ d.op.heavy = true) (i - F) F with hno | ⟨k, hk1, hk2, ⟨d, hd, hdh⟩, hkmin⟩
                · have hst : (tr i).2 = (tr F).2 := tr_store' ts hFi (by omega) (by
                    intro k d h3 h4 hk
                    cases hx : d.op.heavy with
                    | false => rfl
                    | true => exact absurd ⟨d, hk, hx⟩ (hno k h3 (by omega)))
                  rw [← hst]
                  exact ⟨_, hev⟩
                · have hst : (tr k).2 = (tr F).2 := tr_store' ts hk1 (by omega) (by
                    intro q d' h3 h4 hq
                    cases hx : d'.op.heavy with
                    | false => rfl
                    | true => exact absurd ⟨d', hq, hx⟩ (hkmin q h3 h4))
                  rw [← hst]
                  have hmem : (i, k) ∈ chk := by
                    rcases hK.hl k i d _ hd hci (by omega) h1 hdh with hord | hm
                    · have := (hh k d hd hdh).1 (hbef k (hord.1 (by omega)))
                      omega
                    · exact hm
                  have := hchk' k hmem
                  rwa [if_pos (by omega)] at this
              · rcases last_of (fun k => ∃ d, cs[k]? = some d ∧ d.op.heavy = true) (F - i) i with hno | ⟨k, hk1, hk2, ⟨d, hd, hdh⟩, hkmax⟩
                · have hst : (tr F).2 = (tr i).2 := tr_store' ts (by omega) hF (by
                    intro k d h3 h4 hk
                    cases hx : d.op.heavy with
                    | false => rfl
                    | true => exact absurd ⟨d, hk, hx⟩ (hno k h3 (by omega)))
                  rw [hst]
                  exact ⟨_, hev⟩
                · have hst : (tr F).2 = (tr (k + 1)).2 := tr_store' ts (by omega) hF (by
                    intro q d' h3 h4 hq
                    cases hx : d'.op.heavy with
                    | false => rfl
                    | true => exact absurd ⟨d', hq, hx⟩ (hkmax q (by omega) (by omega)))
                  rw [hst]
                  have hki : k ≠ i := by
                    rintro rfl
                    rw [hci] at hd
                    cases hd
                    simp only at hdh
                    rw [h2] at hdh
                    cases hdh
                  have hmem : (i, k) ∈ chk := by
                    rcases hK.hl k i d _ hd hci hki h1 hdh with hord | hm
                    · have hLk := (hh k d hd hdh).2 (by omega)
                      exact absurd (bef_down hD (hord.2 (by omega)) hLk) hni
                    · exact hm
                  have := hchk' k hmem
                  rwa [if_neg (by omega)] at this
            refine Or.inl ?_
            by_cases hch : c.heavy = true
            · by_cases hlate : ∃ m, lp = some (m, i) ∧ ¬ listedP l m
              · -- the later one of two stores comes first
                obtain ⟨m, hlp, hnm⟩ := hlate
                obtain ⟨hmq, ⟨n1, x1, y1, hm1⟩, ⟨n2, x2, y2, hq1⟩, hbf, -⟩ := hK.late m i hlp
                rw [hci] at hq1
                simp only [Option.some.injEq, CO.mk.injEq] at hq1
                obtain ⟨hqd, hqg, rfl⟩ := hq1
                have hml := (List.getElem?_eq_some_iff.1 hm1).1
                have hFm : F ≤ m := by
                  by_cases h : F ≤ m
                  · exact h
                  · exact absurd ((hh m _ hm1 rfl).2 (by omega)) hnm
                have hst : (tr m).2 = (tr F).2 := tr_store' ts hFm (by omega) (by
                  intro k d h1 h2 hk
                  cases hx : d.op.heavy with
                  | false => rfl
                  | true =>
                    have := (hh k d hk hx).1 (hbef k (hbf k d hk (by omega) (by omega) (Or.inl hx)).2)
                    omega)
                have hst2 : (tr i).2 = (tr (m + 1)).2 := tr_store' ts (by omega) (by omega) (by
                  intro k d h1 h2 hk
                  cases hx : d.op.heavy with
                  | false => rfl
                  | true => have := bef_lt hK hat hop (hbf k d hk (by omega) (by omega) (Or.inl hx)).1; omega)
                have hst3 : (tr cs.length).2 = (tr (i + 1)).2 := tr_store' ts (by omega) (Nat.le_refl _) (by
                  intro k d h1 h2 hk
                  cases hx : d.op.heavy with
                  | false => rfl
                  | true => have := bef_lt hK hat hop (hbf k d hk (by omega) (by omega) (Or.inl hx)).1; omega)
                have hsm := ts m _ hm1
                unfold StepT at hsm
                rw [if_neg (by simp [isAlloc])] at hsm
                simp only [wantedA, if_true, evOp] at hsm
                obtain ⟨v1, hsm, -⟩ := hsm
                split at hsm
                · rename_i sm hsm1
                  simp only [Option.some.injEq, Prod.mk.injEq] at hsm
                  obtain ⟨-, rfl⟩ := hsm
                  have hev0 := hev
                  simp only [evOp] at hev
                  split at hev
                  · rename_i sq hsq
                    simp only [Option.some.injEq, Prod.mk.injEq] at hev
                    obtain ⟨rfl, rfl⟩ := hev
                    obtain ⟨p, o, p', o', hx1, hx2, hne⟩ := hap m i n1 x1 y1 n2 x2 y2 hlp hm1 (by rw [hci, hqd, hqg])
                    have e2 : x2.ev e = .ptr p' o' := by rw [hreads x2 (by simp [COp.opds]), hx2]
                    rw [hst2, e2] at hsq
                    rw [hx1] at hsm1
                    obtain ⟨sL, hL1, hL2⟩ := store_comm hsm1 hsq hne
                    rw [hst] at hL1
                    have hevL : evOp call (.store n2 x2 y2) e (tr F).2 = some (undefA, sL) := by
                      simp only [evOp, e2, hL1]
                    refine oper_wp hcall hS hE hcop hevL ?_
                    intro ρ' w' v' hFr' hS' hV'
                    refine hnextL _ _ ⟨ρ', e.put ops[i].dst undefA, m, i, sL, hlp, (hset i).2 (Or.inl rfl), ?_, ?_, ?_, hFr.trans hFr'.toFr0, hS', put_env (hE.mono hFr'.mono) ha hdst hV', eok_put hK hci hD hni hset hok (hval undefA hput), put_ok ha _ _, ?_, ?_⟩
                    · intro h
                      rcases (hset m).1 h with h | h
                      · omega
                      · exact hnm h
                    · intro k d hk hor hkm
                      rw [hset]
                      by_cases hki : k = i
                      · exact Or.inl hki
                      · exact Or.inr (hbef k (hbf k d hk hkm hki hor).2)
                    · intro n1' x1' y1' hm1'
                      rw [hm1] at hm1'
                      simp only [Option.some.injEq, CO.mk.injEq, COp.store.injEq, true_and] at hm1'
                      obtain ⟨rfl, rfl, rfl⟩ := hm1'
                      rw [hst3, hx1]
                      exact hL2
                    · intro j
                      rw [hFr'.pback j, hp1 j]
                      constructor
                      · rintro (h | ⟨k, d, hk, hda, hnk, he⟩)
                        · exact h
                        · have hkm : k ≠ m := by rintro rfl; rw [hm1] at hk; cases hk; simp [isAlloc] at hda
                          have hki : k ≠ i := by rintro rfl; rw [hci] at hk; cases hk; rw [hal'] at hda; cases hda
                          exact absurd (hbef k (hbf k d hk hkm hki (Or.inr (Or.inr hda))).2) hnk
                      · exact Or.inl
                    · intro j hj
                      rw [hFr'.pend j ((hp1 j).2 (Or.inl hj))]
                      exact hp2 j hj
                  · cases hev
                · cases hsm
              rw [← hat' hch hlate] at hev
              refine oper_wp hcall hS hE hcop hev ?_
              intro ρ' w' v' hFr' hS' hV'
              refine hnext _ _ (hclose ρ' w' v v' (i + 1) (by omega) ?_ hFr' hS' hV' hput)
              intro k d hk hkh
              rw [hset]
              by_cases hki : k = i
              · subst hki; simp
              · constructor
                · rintro (h | h)
                  · exact absurd h hki
                  · by_cases hlt : k < i
                    · omega
                    · exact absurd h (haftH hch k d hk hkh (by omega))
                · intro hlt
                  exact Or.inr (hbefH hch hlate k d hk hkh (by omega))
            · have hch' : c.heavy = false := by simpa using hch
              have hfree := evOp_free hch' hal' hev
              have hev2 : evOp call c e (tr F).2 = some (v, (tr F).2) := by
                cases hx : c.isLoad with
                | true =>
                  obtain ⟨s2, hs2⟩ := hld hx hch'
                  rw [(evOp_free hch' hal' hs2).1] at hs2
                  exact hs2
                | false => exact hfree.2 hx _
              refine oper_wp hcall hS hE hcop hev2 ?_
              intro ρ' w' v' hFr' hS' hV'
              exact hnext _ _ (hclose ρ' w' v v' F hF (hsame hch') hFr' hS' hV' hput)
          · rw [if_neg hw] at hstep ⊢
            by_cases hch : c.heavy = true
            · have hFi : F ≤ i := by
                by_cases h : F ≤ i
                · exact h
                · exact absurd ((hh i _ hci hch).2 (by omega)) hni
              have hlate : ¬ ∃ m, lp = some (m, i) ∧ ¬ listedP l m := by
                rintro ⟨m, hlp, -⟩
                obtain ⟨-, -, ⟨n2, x2, y2, hq1⟩, -, -⟩ := hK.late m i hlp
                rw [hci] at hq1
                simp only [Option.some.injEq, CO.mk.injEq] at hq1
                rw [hq1.2.1] at hw
                simp [wantedA] at hw
              have hlow : ∀ (k : Nat) (d : CO), cs[k]? = some d → d.op.heavy = true → k < i → k < F := by
                intro k d hk hkh hlt
                exact (hh k d hk hkh).1 (hbefH hch hlate k d hk hkh hlt)
              have hst : (tr (i + 1)).2 = (tr F).2 := by
                rw [hstep]
                refine tr_store' ts hFi (by omega) ?_
                intro k d h1 h2 hk
                cases hx : d.op.heavy with
                | false => rfl
                | true => have := hlow k d hk hx h2; omega
              refine hnext _ _ (hclose ρ w undefA undef (i + 1) (by omega) ?_ (by rw [hst]; exact Fr.refl _ _ _) (by rw [hst]; exact hS) undef_V (by rw [hstep]))
              intro k d hk hkh
              rw [hset]
              by_cases hki : k = i
              · subst hki; simp
              · constructor
                · rintro (h | h)
                  · exact absurd h hki
                  · by_cases hlt : k < i
                    · omega
                    · exact absurd h (haftH hch k d hk hkh (by omega))
                · intro hlt
                  exact Or.inr (hbefH hch hlate k d hk hkh (by omega))
            · exact hnext _ _ (hclose ρ w undefA undef F hF (hsame (by simpa using hch)) (Fr.refl _ _ _) hS undef_V (by rw [hstep]))
      · intro l a w hcnt hl hD hI
        refine ⟨fun hr => ?_, ?_⟩
        · exfalso
          obtain ⟨ρ, e, m, q, sL, hlp, hLq, hnm, -⟩ := hI.ex
          obtain ⟨hmq, ⟨n1, x1, y1, hm1⟩, -, -, -⟩ := hK.late m q hlp
          have hml := (List.getElem?_eq_some_iff.1 hm1).1
          exact hnm (hready l hl hr m (by omega))
        intro i hi
        unfold Region.ready at hi
        rw [List.mem_filter] at hi
        obtain ⟨hir, hi2⟩ := hi
        have hin := List.mem_range.1 hir
        simp only [Bool.and_eq_true] at hi2
        obtain ⟨hun, haft⟩ := hi2
        have hni : ¬ listedP l i := by
          unfold listedP
          rw [← hgetD l i hl hin]
          simpa using hun
        have ho : ops[i]? = some ops[i] := by simp [hin]
        obtain ⟨c, hci, hcop, hdst⟩ := hat i ops[i] (by simp [hin])
        have hrdy : ∀ o e, ops[i]? = some o → e ∈ o.after.toList → Region.binds .any e = true → listedP l e.on := by
          intro o e ho' he hb
          rw [ho] at ho'
          cases ho'
          rw [ho] at haft
          simp only [Option.map_some, Option.getD_some] at haft
          rw [Array.all_eq_true'] at haft
          have := haft e (by simpa using he)
          simpa [hb, listedP] using this
        have hbef : ∀ k, Bef ops k i → listedP l k := fun k h => bef_ready hD h hrdy
        have hset := fun j => listed_set (l := l) (i := i) (by omega) j
        have hcnt' : (List.range ops.size).countP (fun j => !(l.setIfInBounds i true).getD j true) ≤ fuel := by
          have := countP_lt (p := fun j => !l.getD j true) (q := fun j => !(l.setIfInBounds i true).getD j true) (by
            intro x hx
            simp only [Array.getD_eq_getD_getElem?, Array.getElem?_setIfInBounds] at hx ⊢
            split at hx
            · split at hx <;> simp at hx
            · exact hx) (List.range ops.size) ⟨i, hir, hun, by simp [Array.getD_eq_getD_getElem?, show i < l.size by omega]⟩
          omega
        have hD' : Down ops (listedP (l.setIfInBounds i true)) := by
          intro j o e hj ho' he hb
          rw [hset] at hj ⊢
          rcases hj with rfl | hj
          · exact Or.inr (hrdy o e ho' he hb)
          · exact Or.inr (hD j o e hj ho' he hb)
        obtain ⟨ρ, e, m, q, sL, hlp, hLq, hnm, hdone, hfinS, hFr, hS, hE, hok, ha, hp1, hp2⟩ := hI.ex
        obtain ⟨hwant, hreads⟩ := read_facts hK ts hE0 hci hD hni hbef hok
        have hstep := ts i _ hci
        obtain ⟨hmq, ⟨n1, x1, y1, hm1⟩, ⟨n2, x2, y2, hq1⟩, hbf, -⟩ := hK.late m q hlp
        unfold wpOp
        rw [ho]
        simp only
        rw [wanted_eq hE, hwant]
        by_cases him : i = m
        · -- the earlier one
          subst him
          rw [hci] at hm1
          simp only [Option.some.injEq, CO.mk.injEq] at hm1
          obtain ⟨hmd, hmg, rfl⟩ := hm1
          rw [hmg]
          simp only [wantedA, if_true]
          refine Or.inl ?_
          have hev : evOp call (.store n1 x1 y1) e sL = some (undefA, (tr cs.length).2) := by
            have := hfinS n1 x1 y1 (by rw [hci, hmd, hmg])
            simp only [evOp, hreads x1 (by simp [COp.opds]), hreads y1 (by simp [COp.opds]), this]
          refine oper_wp hcall hS hE hcop hev ?_
          intro ρ' w' v' hFr' hS' hV'
          have hput : (tr (i + 1)).1 = (tr i).1.put ops[i].dst undefA := by
            unfold StepT at hstep
            rw [if_neg (by simp [isAlloc])] at hstep
            rw [hmg] at hstep
            simp only [wantedA, if_true] at hstep
            obtain ⟨v, -, h⟩ := hstep
            rw [h, hmd]; rfl
          have hval : ∀ t, (CO.mk ops[i].dst (cGuard ops ops[i].guard) (.store n1 x1 y1)).dst = some t → undefA = valD cs tr s0.size i ⟨ops[i].dst, cGuard ops ops[i].guard, .store n1 x1 y1⟩ t := by
            intro t ht
            simp only at ht
            rw [hmd] at ht
            cases ht
          refine ih.1 _ _ _ hcnt' (by simp [hl]) hD' ⟨ρ', cs.length, e.put ops[i].dst undefA, Nat.le_refl _, ?_, hFr.trans hFr'.toFr0, hS', put_env (hE.mono hFr'.mono) ha hdst hV', eok_put hK hci hD hni hset hok hval, put_ok ha _ _, ?_, ?_, ?_⟩
          · intro k d hk hkh
            rw [hset]
            have hkl := (List.getElem?_eq_some_iff.1 hk).1
            refine ⟨fun _ => hkl, fun _ => ?_⟩
            by_cases hki : k = i
            · exact Or.inl hki
            · exact Or.inr (hdone k d hk (Or.inl hkh) hki)
          · intro j
            rw [hFr'.pback j, hp1 j]
            constructor
            · exact Or.inl
            · rintro (h | ⟨k, d, hk, hda, hnk, he⟩)
              · exact h
              · exfalso
                refine hnk ((hset k).2 ?_)
                by_cases hki : k = i
                · exact Or.inl hki
                · exact Or.inr (hdone k d hk (Or.inr (Or.inr hda)) hki)
          · intro j hj
            rw [hFr'.pend j ((hp1 j).2 hj)]
            exact hp2 j hj
          · intro j d zs1 hj hd hnj
            exfalso
            refine hnj ((hset j).2 ?_)
            by_cases hki : j = i
            · exact Or.inl hki
            · exact Or.inr (hdone j d hj (Or.inr (Or.inr (by rw [hd]; rfl))) hki)
        · -- one that has to do with no memory
          have hnone : c.heavy = false ∧ c.isLoad = false ∧ isAlloc c = false := by
            refine ⟨?_, ?_, ?_⟩
            · cases hx : c.heavy with
              | false => rfl
              | true => exact absurd (hdone i _ hci (Or.inl hx) him) hni
            · cases hx : c.isLoad with
              | false => rfl
              | true => exact absurd (hdone i _ hci (Or.inr (Or.inl hx)) him) hni
            · cases hx : isAlloc c with
              | false => rfl
              | true => exact absurd (hdone i _ hci (Or.inr (Or.inr hx)) him) hni
          unfold StepT at hstep
          rw [if_neg (by simp only [hnone.2.2]; simp)] at hstep
          simp only at hstep
          have hcloseL : ∀ (ρ' : Rho) (w' : World) (v : AV) (v' : Value), Fr ρ sL w ρ' sL w' → Sim ρ' sL w' → V ρ' w' sL.size v v' → (tr (i + 1)).1 = (tr i).1.put ops[i].dst v →
              wpAny P .any ops Q fuel (l.setIfInBounds i true) (a.put ops[i].dst v') w' := by
            intro ρ' w' v v' hFr' hS' hV' hput
            have hval : ∀ t, (CO.mk ops[i].dst (cGuard ops ops[i].guard) c).dst = some t → v = valD cs tr s0.size i ⟨ops[i].dst, cGuard ops ops[i].guard, c⟩ t := by
              intro t ht
              simp only at ht
              unfold valD
              rw [if_neg (by simp only [hnone.2.2]; simp), hput, ht]
              simp [Env.put, Env.set]
            refine ih.2 _ _ _ hcnt' (by simp [hl]) hD' ⟨ρ', e.put ops[i].dst v, m, q, sL, hlp, (hset q).2 (Or.inr hLq), ?_, ?_, hfinS, hFr.trans hFr'.toFr0, hS', put_env (hE.mono hFr'.mono) ha hdst hV', eok_put hK hci hD hni hset hok hval, put_ok ha _ _, ?_, ?_⟩
            · intro h
              rcases (hset m).1 h with h | h
              · exact him h.symm
              · exact hnm h
            · intro k d hk hor hkm
              exact (hset k).2 (Or.inr (hdone k d hk hor hkm))
            · intro j
              rw [hFr'.pback j, hp1 j]
            · intro j hj
              exact hp2 j hj
          by_cases hw : wantedA (tr i).1 (cGuard ops ops[i].guard) = true
          · rw [if_pos hw] at hstep ⊢
            obtain ⟨v, hev, hput⟩ := hstep
            rw [← evOp_congr hreads] at hev
            have hev2 := (evOp_free hnone.1 hnone.2.2 hev).2 hnone.2.1 sL
            refine Or.inl ?_
            refine oper_wp hcall hS hE hcop hev2 ?_
            intro ρ' w' v' hFr' hS' hV'
            exact hcloseL ρ' w' v v' hFr' hS' hV' hput
          · rw [if_neg hw] at hstep ⊢
            exact hcloseL ρ w undefA undef (Fr.refl _ _ _) hS undef_V (by rw [hstep])
  exact fun fuel => (both fuel).1

theorem evTr_len : ∀ (cs : List CO) (e : Env) (s : St), (evTr call cs e s).length ≤ cs.length + 1
  | [], e, s => by simp [evTr]
  | c :: r, e, s => by
    simp only [evTr, List.length_cons]
    split
    · have := evTr_len r e s; omega
    · split
      · split
        · rename_i v s1 _
          have := evTr_len r (e.put c.dst v) s1; omega
        · simp
      · have := evTr_len r (e.put c.dst undefA) s; omega

theorem evTr_none (cs : List CO) (e : Env) (s : St) (k : Nat) (h : cs.length < k) : (evTr call cs e s)[k]? = none := by
  apply List.getElem?_eq_none
  have := evTr_len (call := call) cs e s
  omega

/-- A region whose order is open. -/
theorem draw_wp (hm : P.follows .mixedOrders = true) (hcall : CallOk G P call) (hc : cOpers G P mu nt ops ops.toList = some cs) (hK : DOK ops cs chk lp) {e e' : Env} {s s' : St}
    (h : evRest call cs (evAllocs cs e s).1 (evAllocs cs e s).2 = some (e', s')) (hch : chk.all (chk1 call cs (evTr call cs (evAllocs cs e s).1 (evAllocs cs e s).2)) = true) {ρ : Rho} {w : World} {a : Act} {Q : Exit → Act → World → Prop} {id : Nat} (hS : Sim ρ s w) (hE : EnvR G ρ w s.size e a.tmps) (ha : actOk a nt)
    (hQ : ∀ ρ' a' w', Fr ρ s w ρ' s' w' → Sim ρ' s' w' → EnvR G ρ' w' s'.size e' a'.tmps → actOk a' nt → Q .normal a' w') : (Code.region id ops true).wp P Q a w := by
  obtain ⟨tr, t0, tn, ts, tl⟩ := trace cs _ _ e' s' h
  obtain ⟨hFd, hSd⟩ := drew_sim hS
  obtain ⟨h1, h2, h3, h4⟩ := allocs_spec cs e s (fun i j c d t hne hi hj hca hda hdt => by
    intro hx
    exact (hK.ha2 j i d c t hj hi (fun h => hne h.symm) hca hdt).1 hx)
  obtain ⟨ρ1, hF1, hS1, hp1⟩ := allocs_sim cs e hSd
  refine wp_region_any hm ?_
  have hinit : ∀ j, ¬ listedP (Array.replicate ops.size false) j := by
    intro j
    unfold listedP
    rw [Array.getD_eq_getD_getElem?, Array.getElem?_replicate]
    split <;> simp
  have halloc : ∀ (c : CO), isAlloc c.op = true → ∃ zs, c.op = .alloc zs := by
    intro c hca
    cases hx : c.op <;> first | exact ⟨_, rfl⟩ | (rw [hx] at hca; simp [isAlloc] at hca)
  have hzero : (tr 0).1 = (evAllocs cs e s).1 ∧ (tr 0).2 = (evAllocs cs e s).2 := by rw [t0]; exact ⟨rfl, rfl⟩
  refine any_wp (tr := tr) (e0 := e) (ρ0 := ρ) (s0 := s) (w0 := w.drew) hcall hc hK ts ⟨?_, ?_⟩ ?_ ?_ (fun i hi => (hS.pn i hi).1) ?_ ops.size _ a _ ?_ (by simp) ?_ ?_
  · intro j c t hj hca hdt
    obtain ⟨zs, hz⟩ := halloc c hca
    rw [hzero.1]
    exact (h3 j c zs hj hz).2 t hdt
  · intro t ht
    rw [hzero.1]
    exact h4 t ht
  · intro j i c hm hj hisl hw v s1 hv
    have hc1 := List.all_eq_true.1 hch (j, i) hm
    have hjl := (List.getElem?_eq_some_iff.1 hj).1
    unfold chk1 at hc1
    simp only [hj] at hc1
    rw [tl j (by omega)] at hc1
    cases hy : (evTr call cs (evAllocs cs e s).1 (evAllocs cs e s).2)[if i < j then i else i + 1]? with
    | none => rw [hy] at hc1; cases hc1
    | some y =>
      rw [hy] at hc1
      have hyl : (if i < j then i else i + 1) ≤ cs.length := by
        by_cases hle : (if i < j then i else i + 1) ≤ cs.length
        · exact hle
        · rw [evTr_none cs _ _ _ (by omega)] at hy
          cases hy
      rw [tl _ hyl] at hy
      cases hy
      have hns : ¬ c.op.isStore = true := by
        intro hst
        cases hx : c.op <;> rw [hx] at hst hisl <;> simp [COp.isStore, COp.isLoad] at hst hisl
      simp only at hc1
      rw [if_neg hns] at hc1
      simp only [hw, Bool.not_true, Bool.false_or, hv] at hc1
      split at hc1
      · rename_i v1 q1 u q2 h5 h6
        cases h5
        exact ⟨q2, by rw [h6, beq_eq hc1]⟩
      · cases hc1
  · intro m q n1 x1 y1 n2 x2 y2 hlp hm1 hq1
    have hL := hK.late m q hlp
    have hc1 := List.all_eq_true.1 hch (q, m) hL.mem
    have hql := (List.getElem?_eq_some_iff.1 hq1).1
    have hml := (List.getElem?_eq_some_iff.1 hm1).1
    have hlt := hL.lt
    unfold chk1 at hc1
    simp only [hq1] at hc1
    rw [tl q (by omega), if_pos hlt, tl m (by omega)] at hc1
    simp only [COp.isStore, if_true] at hc1
    unfold apartS at hc1
    simp only [hq1, hm1] at hc1
    rw [tl q (by omega), tl m (by omega)] at hc1
    simp only at hc1
    split at hc1
    · rename_i i o j o' h1 h2
      exact ⟨j, o', i, o, h2, h1, by simp at hc1; exact fun h => hc1 h.symm⟩
    · cases hc1
  · intro ρ' a' w' hF hS' hE' ha'
    rw [tn] at hF hS' hE'
    exact hQ ρ' a' w' (hFd.trans hF) hS' hE' ha'
  · exact Nat.le_trans (List.countP_le_length) (by simp)
  · intro j o ed hj
    exact absurd hj (hinit j)
  · refine ⟨ρ1, 0, e, Nat.zero_le _, ?_, ?_, ?_, ?_, ?_, ha, ?_, ?_, ?_⟩
    · intro k c _ _
      constructor
      · intro hk; exact absurd hk (hinit k)
      · intro hk; omega
    · rw [hzero.2]; exact hF1
    · rw [hzero.2]; exact hS1
    · rw [hzero.2]; exact (hE.mono hFd.mono).mono hF1.mono
    · intro t
      exact Or.inl ⟨fun i c hi hL => absurd hL (hinit i), rfl⟩
    · intro i
      rw [hp1 i]
      constructor
      · rintro (h | ⟨h5, h6⟩)
        · exact Or.inl h
        · rw [h1] at h6
          obtain ⟨j, c, hj, hca, he⟩ := cntA_onto cs (i - s.size) (by omega)
          exact Or.inr ⟨j, c, hj, hca, hinit j, by omega⟩
      · rintro (h | ⟨j, c, hj, hca, -, he⟩)
        · exact Or.inl h
        · have := cntA_lt cs j c hj hca
          exact Or.inr ⟨by omega, by rw [h1]; omega⟩
    · intro i hi
      rw [hzero.2]
      exact h2 i (hS.pn i hi).1
    · intro j c zs hj hz _
      rw [hzero.2]
      exact (h3 j c zs hj hz).1

end
end Go.Am
