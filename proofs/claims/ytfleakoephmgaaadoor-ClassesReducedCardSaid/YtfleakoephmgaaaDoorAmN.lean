/- A region whose order is open, whole. Conditions: none. -/
import Derived.Test.YtfleakoephmgaaaDoorAmK
set_option linter.unusedSimpArgs false
set_option linter.unusedVariables false
namespace Go.Am

/-- As Fr, of a run on whose way variables are still to be made. -/
structure Fr0 (ρ : Rho) (s : St) (w : World) (ρ' : Rho) (s' : St) (w' : World) : Prop where
  mono : Mono ρ w s.size ρ' w' s'.size
  os : w'.os = w.os
  tape : w'.tape = w.tape
  output : w'.output = w.output
  size : w.heap.size ≤ w'.heap.size
  keep : ∀ b, b < w.heap.size → (ρ.lab b = .free ∨ ρ.lab b = .ro) → ρ'.lab b = ρ.lab b ∧ w'.heap[b]? = w.heap[b]?

theorem Fr.toFr0 {ρ s w ρ' s' w'} (h : Fr ρ s w ρ' s' w') : Fr0 ρ s w ρ' s' w' := ⟨h.mono, h.os, h.tape, h.output, h.size, h.keep⟩

theorem Fr0.trans {ρ s w ρ1 s1 w1 ρ2 s2 w2} (h : Fr0 ρ s w ρ1 s1 w1) (k : Fr0 ρ1 s1 w1 ρ2 s2 w2) : Fr0 ρ s w ρ2 s2 w2 :=
  ⟨h.mono.trans k.mono, k.os.trans h.os, k.tape.trans h.tape, k.output.trans h.output, Nat.le_trans h.size k.size, fun b hb hl => by
    obtain ⟨a, c⟩ := h.keep b hb hl
    obtain ⟨d, f⟩ := k.keep b (Nat.lt_of_lt_of_le hb h.size) (by rw [a]; exact hl)
    exact ⟨d.trans a, f.trans c⟩⟩

def Rho.resv (ρ : Rho) (i : Nat) : Rho := { ρ with pend := fun j => if j = i then true else ρ.pend j }

theorem reserve {ρ : Rho} {s : St} {w : World} (hS : Sim ρ s w) (zs : List AV) : Fr0 ρ s w (ρ.resv s.size) (s.new (.cells zs)) w ∧ Sim (ρ.resv s.size) (s.new (.cells zs)) w := by
  have hm : Mono ρ w s.size (ρ.resv s.size) w (s.new (.cells zs)).size := by
    refine ⟨by simp [St.new], fun b o h => ⟨h, rfl⟩, fun _ _ _ => rfl, fun _ _ _ => rfl, fun _ _ => rfl, fun i hi hp => ?_⟩
    simp only [Rho.resv]
    rw [if_neg (by omega)]
    exact hp
  refine ⟨⟨hm, rfl, rfl, rfl, Nat.le_refl _, fun _ _ _ => ⟨rfl, rfl⟩⟩, ⟨hS.free, ?_, ?_, ?_, froz_mono hS hm hm.pend (fun i cs h => by simp only [St.new] at h; split at h <;> first | exact h | cases h), map_mono hS hm (fun i es h => by simp only [St.new] at h; split at h <;> first | exact h | cases h) (fun _ _ _ _ hl _ => ⟨hl, rfl⟩)⟩⟩
  · intro i hi
    simp only [Rho.resv] at hi
    by_cases his : i = s.size
    · subst his
      exact ⟨by simp [St.new], by simp [St.new]⟩
    · rw [if_neg his] at hi
      obtain ⟨h1, h2⟩ := hS.pn i hi
      refine ⟨by simp only [St.new]; omega, ?_⟩
      simp only [St.new]
      rw [if_neg his]
      exact h2
  · intro i cs h hp
    simp only [Rho.resv] at hp
    by_cases his : i = s.size
    · rw [if_pos his] at hp; cases hp
    · rw [if_neg his] at hp
      simp only [St.new] at h
      rw [if_neg his] at h
      obtain ⟨h1, h2, vs, rest, ty, h3, h4, h5⟩ := hS.cells i cs h hp
      exact ⟨by simp only [St.new]; omega, h2, vs, rest, ty, h3, h4.mono hm, h5⟩
  · intro t h
    simp only [St.new] at h
    split at h
    · cases h
    · obtain ⟨h1, h2⟩ := hS.right t h
      exact ⟨by simp only [St.new]; omega, h2⟩

def Rho.make (ρ : Rho) (b i n : Nat) : Rho :=
  { ρ with lab := fun c => if c = b then .obj i else ρ.lab c, blk := fun j => if j = i then b else ρ.blk j, tot := fun j => if j = i then n else ρ.tot j, pend := fun j => if j = i then false else ρ.pend j }

theorem realize {ρ : Rho} {s : St} {w : World} (hS : Sim ρ s w) {i : Nat} (hp : ρ.pend i = true) {zs : List AV} (hob : s.obj i = some (.cells zs)) {vs : List Value} (hv : Vs ρ w s.size zs vs) (ty : TypeId) :
    Fr0 ρ s w (ρ.make w.heap.size i vs.length) s (pushW w (.cells vs.toArray ty (0, 0))) ∧ Sim (ρ.make w.heap.size i vs.length) s (pushW w (.cells vs.toArray ty (0, 0))) := by
  obtain ⟨hi, -⟩ := hS.pn i hp
  have hm : Mono ρ w s.size (ρ.make w.heap.size i vs.length) (pushW w (.cells vs.toArray ty (0, 0))) s.size := by
    refine ⟨Nat.le_refl _, ?_, ?_, ?_, fun _ _ => rfl, ?_⟩
    · intro b o him
      have hb := imm_lt hS him
      refine ⟨?_, cell_push hb o⟩
      simp only [Imm, Rho.make]
      rw [if_neg (by omega)]
      exact him
    · intro j hj hpj
      simp only [Rho.make]
      rw [if_neg (by rintro rfl; rw [hp] at hpj; cases hpj)]
    · intro j hj hpj
      simp only [Rho.make]
      rw [if_neg (by rintro rfl; rw [hp] at hpj; cases hpj)]
    · intro j hj hpj
      simp only [Rho.make]
      split
      · rfl
      · exact hpj
  refine ⟨⟨hm, rfl, rfl, rfl, by simp [pushW], ?_⟩, ⟨?_, ?_, ?_, ?_, froz_mono hS hm hm.pend (fun _ _ h => h), map_mono hS hm (fun _ _ h => h) (fun j es h0 _ hl hlt => ⟨by simp only [Rho.make]; rw [if_neg (by omega)]; exact hl, heap_push hlt⟩)⟩⟩
  · intro b hb _
    refine ⟨?_, heap_push hb⟩
    simp only [Rho.make]
    rw [if_neg (by omega)]
  · intro b hb
    simp only [pushW, Array.size_push] at hb
    simp only [Rho.make]
    rw [if_neg (by omega)]
    exact hS.free b (by omega)
  · intro j hj
    simp only [Rho.make] at hj
    split at hj
    · cases hj
    · exact hS.pn j hj
  · intro j cs h hpj
    by_cases hji : j = i
    · subst hji
      rw [hob] at h
      cases h
      refine ⟨hi, by simp [Rho.make], vs, [], ty, ?_, hv.mono hm, by simp [Rho.make]⟩
      simp only [Rho.make, if_true, List.append_nil]
      exact heap_push_new
    · simp only [Rho.make, if_neg hji] at hpj
      obtain ⟨h1, h2, vs', rest', ty', h3, h4, h5⟩ := hS.cells j cs h hpj
      have hb := blk_lt hS h hpj
      refine ⟨h1, ?_, vs', rest', ty', ?_, h4.mono hm, ?_⟩
      · simp only [Rho.make, if_neg hji]; rw [if_neg (by omega)]; exact h2
      · simp only [Rho.make, if_neg hji]; rw [heap_push hb]; exact h3
      · simp only [Rho.make, if_neg hji]; exact h5
  · intro t h
    obtain ⟨h1, b, len, cap, z, h2, h3, vs', ty', h4, h5⟩ := hS.right t h
    have hb : b < w.heap.size := (Array.getElem?_eq_some_iff.1 h4).1
    refine ⟨h1, b, len, cap, z, h2, ?_, vs', ty', ?_, h5⟩
    · simp only [Rho.make]; rw [if_neg (by omega)]; exact h3
    · rw [heap_push hb]; exact h4

/-! ### The new variables, which come first -/
def cntA : List CO → Nat
  | [] => 0
  | c :: r => (if isAlloc c.op = true then 1 else 0) + cntA r

theorem cntA_lt : ∀ (cs : List CO) (j : Nat) (c : CO), cs[j]? = some c → isAlloc c.op = true → cntA (cs.take j) < cntA cs
  | [], j, c, h, _ => by simp at h
  | d :: r, 0, c, h, ha => by simp at h; subst h; simp [cntA, ha]; omega
  | d :: r, j + 1, c, h, ha => by
    simp only [List.take_succ_cons, cntA]
    have := cntA_lt r j c (by simpa using h) ha
    omega

theorem cntA_inj : ∀ (cs : List CO) (i j : Nat) (c d : CO), cs[i]? = some c → cs[j]? = some d → isAlloc c.op = true → isAlloc d.op = true → cntA (cs.take i) = cntA (cs.take j) → i = j
  | [], i, j, c, d, h, _, _, _, _ => by simp at h
  | x :: r, 0, 0, c, d, _, _, _, _, _ => rfl
  | x :: r, 0, j + 1, c, d, h, h', ha, hd, he => by
    simp at h
    subst h
    simp only [List.take_succ_cons, List.take_zero, cntA, ha, if_true] at he
    omega
  | x :: r, i + 1, 0, c, d, h, h', ha, hd, he => by
    simp at h'
    subst h'
    simp only [List.take_succ_cons, List.take_zero, cntA, hd, if_true] at he
    omega
  | x :: r, i + 1, j + 1, c, d, h, h', ha, hd, he => by
    simp only [List.take_succ_cons, cntA] at he
    have := cntA_inj r i j c d (by simpa using h) (by simpa using h') ha hd (by omega)
    omega

theorem allocs_spec : ∀ (cs : List CO) (e : Env) (s : St), (∀ (i j : Nat) (c d : CO) (t : Nat), i ≠ j → cs[i]? = some c → cs[j]? = some d → isAlloc c.op = true → isAlloc d.op = true → c.dst = some t → d.dst ≠ some t) →
    (evAllocs cs e s).2.size = s.size + cntA cs ∧ (∀ i, i < s.size → (evAllocs cs e s).2.obj i = s.obj i) ∧
    (∀ (j : Nat) (c : CO) (zs : List AV), cs[j]? = some c → c.op = .alloc zs → (evAllocs cs e s).2.obj (s.size + cntA (cs.take j)) = some (.cells zs) ∧ ∀ t, c.dst = some t → (evAllocs cs e s).1 t = .ptr (s.size + cntA (cs.take j)) 0) ∧
    (∀ t, (∀ (j : Nat) (c : CO), cs[j]? = some c → isAlloc c.op = true → c.dst ≠ some t) → (evAllocs cs e s).1 t = e t)
  | [], e, s, _ => ⟨rfl, fun _ _ => rfl, fun j c zs h => by simp at h, fun _ _ => rfl⟩
  | x :: r, e, s, hd => by
    have hd' : ∀ (i j : Nat) (c d : CO) (t : Nat), i ≠ j → r[i]? = some c → r[j]? = some d → isAlloc c.op = true → isAlloc d.op = true → c.dst = some t → d.dst ≠ some t :=
      fun i j c d t hne hi hj => hd (i + 1) (j + 1) c d t (by omega) (by simpa using hi) (by simpa using hj)
    by_cases ha : isAlloc x.op = true
    · obtain ⟨zs0, hz⟩ : ∃ zs, x.op = .alloc zs := by
        cases hx : x.op <;> first | exact ⟨_, rfl⟩ | (rw [hx] at ha; simp [isAlloc] at ha)
      have hev : evAllocs (x :: r) e s = evAllocs r (e.put x.dst (.ptr s.size 0)) (s.new (.cells zs0)) := by simp [evAllocs, hz]
      obtain ⟨h1, h2, h3, h4⟩ := allocs_spec r (e.put x.dst (.ptr s.size 0)) (s.new (.cells zs0)) hd'
      have hns : (s.new (.cells zs0)).size = s.size + 1 := rfl
      rw [hev]
      refine ⟨by rw [h1, hns]; simp only [cntA, ha, if_true]; omega, ?_, ?_, ?_⟩
      · intro i hi
        rw [h2 i (by omega)]
        simp only [St.new]
        rw [if_neg (by omega)]
      · intro j c zs hj hc
        cases j with
        | zero =>
          simp at hj
          subst hj
          rw [hz] at hc
          cases hc
          simp only [List.take_zero, cntA, Nat.add_zero]
          refine ⟨by rw [h2 s.size (by omega)]; simp [St.new], ?_⟩
          intro t ht
          rw [h4 t (fun j d hdj hda hdt => hd 0 (j + 1) x d t (by omega) rfl (by simpa using hdj) ha hda ht hdt)]
          rw [ht]
          simp [Env.put, Env.set]
        | succ j =>
          obtain ⟨h5, h6⟩ := h3 j c zs (by simpa using hj) hc
          have he : s.size + cntA ((x :: r).take (j + 1)) = (s.new (.cells zs0)).size + cntA (r.take j) := by
            rw [hns]; simp only [List.take_succ_cons, cntA, ha, if_true]; omega
          rw [he]
          exact ⟨h5, h6⟩
      · intro t ht
        rw [h4 t (fun j c hj hc => ht (j + 1) c (by simpa using hj) hc)]
        cases hx : x.dst with
        | none => rfl
        | some u =>
          simp only [Env.put, Env.set]
          rw [if_neg]
          rintro rfl
          exact ht 0 x rfl ha hx
    · have hev : evAllocs (x :: r) e s = evAllocs r e s := by
        cases hx : x.op <;> first | (exfalso; apply ha; rw [hx]; rfl) | simp [evAllocs, hx]
      obtain ⟨h1, h2, h3, h4⟩ := allocs_spec r e s hd'
      rw [hev]
      refine ⟨by rw [h1]; simp [cntA, ha], h2, ?_, ?_⟩
      · intro j c zs hj hc
        cases j with
        | zero =>
          simp at hj
          subst hj
          rw [hc] at ha
          simp [isAlloc] at ha
        | succ j =>
          obtain ⟨h5, h6⟩ := h3 j c zs (by simpa using hj) hc
          have he : s.size + cntA ((x :: r).take (j + 1)) = s.size + cntA (r.take j) := by
            simp [List.take_succ_cons, cntA, ha]
          rw [he]
          exact ⟨h5, h6⟩
      · intro t ht
        exact h4 t (fun j c hj hc => ht (j + 1) c (by simpa using hj) hc)

theorem allocs_sim : ∀ (cs : List CO) (e : Env) {ρ : Rho} {s : St} {w : World}, Sim ρ s w →
    ∃ ρ', Fr0 ρ s w ρ' (evAllocs cs e s).2 w ∧ Sim ρ' (evAllocs cs e s).2 w ∧ ∀ i, ρ'.pend i = true ↔ (ρ.pend i = true ∨ (s.size ≤ i ∧ i < (evAllocs cs e s).2.size))
  | [], e, ρ, s, w, hS => ⟨ρ, (Fr.refl ρ s w).toFr0, hS, fun i => by simp only [evAllocs]; constructor; exact Or.inl; rintro (h | h); exact h; omega⟩
  | x :: r, e, ρ, s, w, hS => by
    by_cases ha : isAlloc x.op = true
    · obtain ⟨zs0, hz⟩ : ∃ zs, x.op = .alloc zs := by
        cases hx : x.op <;> first | exact ⟨_, rfl⟩ | (rw [hx] at ha; simp [isAlloc] at ha)
      have hev : evAllocs (x :: r) e s = evAllocs r (e.put x.dst (.ptr s.size 0)) (s.new (.cells zs0)) := by simp [evAllocs, hz]
      obtain ⟨hF, hS1⟩ := reserve hS zs0
      obtain ⟨ρ', hF', hS', hp⟩ := allocs_sim r (e.put x.dst (.ptr s.size 0)) hS1
      rw [hev]
      have hle := hF'.mono.le
      have hns : (s.new (.cells zs0)).size = s.size + 1 := rfl
      refine ⟨ρ', hF.trans hF', hS', fun i => ?_⟩
      rw [hp i]
      simp only [Rho.resv, hns]
      by_cases his : i = s.size
      · subst his
        simp only [if_true, true_or, true_iff]
        right
        omega
      · rw [if_neg his]
        constructor
        · rintro (h | h)
          · exact Or.inl h
          · right; omega
        · rintro (h | h)
          · exact Or.inl h
          · right; omega
    · have hev : evAllocs (x :: r) e s = evAllocs r e s := by
        cases hx : x.op <;> first | (exfalso; apply ha; rw [hx]; rfl) | simp [evAllocs, hx]
      rw [hev]
      exact allocs_sim r e hS

end Go.Am
