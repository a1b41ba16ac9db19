/- What a value and a store of the abstract machine have to do with Go's memory; that this lasts while memory grows. Conditions: none. -/
import Derived.Test.YtfleakoephmgaaaDoorAmA
set_option linter.unusedSimpArgs false
set_option linter.unusedVariables false
namespace Go.Am

/-- Whose a block of memory is. -/
inductive Lab where
  | free
  | ro
  | obj (i : Nat)
  | grow (t n : Nat)

structure Rho where
  lab : Nat → Lab
  blk : Nat → Nat
  tot : Nat → Nat
  rt : Nat → Nat × Nat × Nat × Nat
  /-- An object of the store that Go's run has not made yet. -/
  pend : Nat → Bool

/-- A cell that never changes any more. -/
def ImmL (l : Lab) (o : Nat) : Prop := match l with
  | .ro => True
  | .grow _ n => o < n
  | _ => False

def Imm (ρ : Rho) (b o : Nat) : Prop := ImmL (ρ.lab b) o

def At (ρ : Rho) (w : World) (b o : Nat) (vs : List Value) : Prop :=
  ∀ j v, vs[j]? = some v → Imm ρ b (o + j) ∧ w.cell? ⟨b, o + j, none⟩ = some v

mutual
inductive V (ρ : Rho) (w : World) (n : Nat) : AV → Value → Prop
  | bool (b : Bool) : V ρ w n (.bool b) (.bool b)
  | int (k : IntKind) (m : Int) : V ρ w n (.int k m) (.int k m)
  | str (s : ByteArray) : V ρ w n (.str s) (.string s)
  | nilp : V ρ w n .nilp (.pointer none)
  | ptr (i off : Nat) (h : i < n) (hp : ρ.pend i = false) : V ρ w n (.ptr i off) (.pointer (some ⟨ρ.blk i, off, none⟩))
  | eptr (cs : List AV) (vs : List Value) (b o : Nat) (h : Vs ρ w n cs vs) (ha : At ρ w b o vs) : V ρ w n (.eptr cs) (.pointer (some ⟨b, o, none⟩))
  | nils : V ρ w n .nils (.slice none 0 0)
  | sl (cs : List AV) (vs : List Value) (b o len cap : Nat) (full : Bool) (tok : Option Nat) (h : Vs ρ w n cs vs) (ha : At ρ w b o vs)
      (hf : full = true → cap = len) (hl : len ≤ cap) (ht : ∀ t, tok = some t → t < n ∧ o = 0 ∧ 0 < len ∧ ∃ z, cs.length = len * z ∧ ρ.rt t = (b, len, cap, z)) :
      V ρ w n (.sl cs len full tok) (.slice (some ⟨b, o, none⟩) len cap)
  | sl0 (a : Option Addr) (cap : Nat) (full : Bool) (tok : Option Nat) (hf : full = true → cap = 0) (ha : a = none → cap = 0) (ht : tok.isSome = true → a ≠ none) : V ρ w n (.sl [] 0 full tok) (.slice a 0 cap)
  | msl (i off len cap z : Nat) (h : i < n) (hp : ρ.pend i = false) (hl : len ≤ cap) (ht : off + cap * z ≤ ρ.tot i) : V ρ w n (.msl i off len z) (.slice (some ⟨ρ.blk i, off, none⟩) len cap)
  | func (f : Nat) (cs : List AV) (vs : List Value) (h : Vs ρ w n cs vs) : V ρ w n (.func f cs) (.func (.func f) #[] vs.toArray)
  | nilf : V ρ w n .nilf .nilFunc
  | agg (cs : List AV) (vs : List Value) (h : Vs ρ w n cs vs) : V ρ w n (.agg cs) (.agg vs.toArray)
  | tup (cs : List AV) (vs : List Value) (h : Vs ρ w n cs vs) : V ρ w n (.tup cs) (.tuple vs.toArray)
  | iface (t : Nat) (a : AV) (v : Value) (h : V ρ w n a v) : V ρ w n (.iface t a) (.iface t v)
  | niliface : V ρ w n .niliface .nilIface
  | mapv (i : Nat) (h : i < n) (hp : ρ.pend i = false) : V ρ w n (.mapv i) (.map (some (ρ.blk i)))
  | nilm : V ρ w n .nilm (.map none)
inductive Vs (ρ : Rho) (w : World) (n : Nat) : List AV → List Value → Prop
  | nil : Vs ρ w n [] []
  | cons (a : AV) (v : Value) (as : List AV) (vs : List Value) (h : V ρ w n a v) (hs : Vs ρ w n as vs) : Vs ρ w n (a :: as) (v :: vs)
end

/-- What is known goes on being known. -/
structure Mono (ρ : Rho) (w : World) (n : Nat) (ρ' : Rho) (w' : World) (n' : Nat) : Prop where
  le : n ≤ n'
  imm : ∀ b o, Imm ρ b o → Imm ρ' b o ∧ w'.cell? ⟨b, o, none⟩ = w.cell? ⟨b, o, none⟩
  blk : ∀ i, i < n → ρ.pend i = false → ρ'.blk i = ρ.blk i
  tot : ∀ i, i < n → ρ.pend i = false → ρ'.tot i = ρ.tot i
  rt : ∀ t, t < n → ρ'.rt t = ρ.rt t
  pend : ∀ i, i < n → ρ.pend i = false → ρ'.pend i = false

theorem Mono.refl (ρ : Rho) (w : World) (n : Nat) : Mono ρ w n ρ w n :=
  ⟨Nat.le_refl _, fun _ _ h => ⟨h, rfl⟩, fun _ _ _ => rfl, fun _ _ _ => rfl, fun _ _ => rfl, fun _ _ h => h⟩

theorem Mono.trans {ρ w n ρ1 w1 n1 ρ2 w2 n2} (h : Mono ρ w n ρ1 w1 n1) (k : Mono ρ1 w1 n1 ρ2 w2 n2) : Mono ρ w n ρ2 w2 n2 :=
  ⟨Nat.le_trans h.le k.le, fun b o hi => let ⟨a, c⟩ := h.imm b o hi; let ⟨d, f⟩ := k.imm b o a; ⟨d, f.trans c⟩,
    fun i hi hp => (k.blk i (Nat.lt_of_lt_of_le hi h.le) (h.pend i hi hp)).trans (h.blk i hi hp), fun i hi hp => (k.tot i (Nat.lt_of_lt_of_le hi h.le) (h.pend i hi hp)).trans (h.tot i hi hp),
    fun i hi => (k.rt i (Nat.lt_of_lt_of_le hi h.le)).trans (h.rt i hi), fun i hi hp => k.pend i (Nat.lt_of_lt_of_le hi h.le) (h.pend i hi hp)⟩

theorem At.mono {ρ w n ρ' w' n'} (m : Mono ρ w n ρ' w' n') {b o : Nat} {vs : List Value} (h : At ρ w b o vs) : At ρ' w' b o vs := by
  intro j v hj
  obtain ⟨hi, hc⟩ := h j v hj
  obtain ⟨hi', hc'⟩ := m.imm _ _ hi
  exact ⟨hi', hc'.trans hc⟩

mutual
theorem V.mono {ρ w n ρ' w' n'} (m : Mono ρ w n ρ' w' n') : ∀ {a : AV} {v : Value}, V ρ w n a v → V ρ' w' n' a v
  | _, _, .bool b => .bool b
  | _, _, .int k x => .int k x
  | _, _, .str s => .str s
  | _, _, .nilp => .nilp
  | _, _, .ptr i off h hp => by
    have := m.blk i h hp
    rw [← this]
    exact .ptr i off (Nat.lt_of_lt_of_le h m.le) (m.pend i h hp)
  | _, _, .eptr cs vs b o h ha => .eptr cs vs b o (Vs.mono m h) (ha.mono m)
  | _, _, .nils => .nils
  | _, _, .sl cs vs b o len cap full tok h ha hf hl ht => .sl cs vs b o len cap full tok (Vs.mono m h) (ha.mono m) hf hl
      (fun t hx => let ⟨p, q, l, z, y, r⟩ := ht t hx; ⟨Nat.lt_of_lt_of_le p m.le, q, l, z, y, (m.rt t p).trans r⟩)
  | _, _, .sl0 a cap full tok hf ha ht => .sl0 a cap full tok hf ha ht
  | _, _, .msl i off len cap z h hp hl ht => by
    have := m.blk i h hp
    rw [← this]
    exact .msl i off len cap z (Nat.lt_of_lt_of_le h m.le) (m.pend i h hp) hl (by rw [m.tot i h hp]; exact ht)
  | _, _, .func f cs vs h => .func f cs vs (Vs.mono m h)
  | _, _, .nilf => .nilf
  | _, _, .agg cs vs h => .agg cs vs (Vs.mono m h)
  | _, _, .tup cs vs h => .tup cs vs (Vs.mono m h)
  | _, _, .iface t a v h => .iface t a v (V.mono m h)
  | _, _, .niliface => .niliface
  | _, _, .mapv i h hp => by
    have := m.blk i h hp
    rw [← this]
    exact .mapv i (Nat.lt_of_lt_of_le h m.le) (m.pend i h hp)
  | _, _, .nilm => .nilm
theorem Vs.mono {ρ w n ρ' w' n'} (m : Mono ρ w n ρ' w' n') : ∀ {as : List AV} {vs : List Value}, Vs ρ w n as vs → Vs ρ' w' n' as vs
  | _, _, .nil => .nil
  | _, _, .cons a v as vs h hs => .cons a v as vs (V.mono m h) (Vs.mono m hs)
end

section lists
variable {ρ : Rho} {w : World} {n : Nat}

theorem Vs.length : ∀ {as : List AV} {vs : List Value}, Vs ρ w n as vs → vs.length = as.length
  | _, _, .nil => rfl
  | _, _, .cons _ _ _ _ _ hs => by simp [Vs.length hs]

theorem Vs.get : ∀ {as : List AV} {vs : List Value}, Vs ρ w n as vs → ∀ {j : Nat} {a : AV}, as[j]? = some a → ∃ v, vs[j]? = some v ∧ V ρ w n a v
  | _, _, .nil, j, a, h => by simp at h
  | _, _, .cons a v as vs h hs, j, a', hj => by
    cases j with
    | zero => simp at hj; subst hj; exact ⟨v, rfl, h⟩
    | succ j => simp at hj; obtain ⟨v', hv, hV⟩ := Vs.get hs hj; exact ⟨v', by simpa using hv, hV⟩

theorem Vs.drop : ∀ (k : Nat) {as : List AV} {vs : List Value}, Vs ρ w n as vs → Vs ρ w n (as.drop k) (vs.drop k)
  | 0, _, _, h => by simpa using h
  | k + 1, _, _, .nil => by simpa using Vs.nil
  | k + 1, _, _, .cons _ _ _ _ _ hs => by simpa using Vs.drop k hs

theorem Vs.take : ∀ (k : Nat) {as : List AV} {vs : List Value}, Vs ρ w n as vs → Vs ρ w n (as.take k) (vs.take k)
  | 0, _, _, _ => by simpa using Vs.nil
  | k + 1, _, _, .nil => by simpa using Vs.nil
  | k + 1, _, _, .cons a v _ _ h hs => by simpa using Vs.cons a v _ _ h (Vs.take k hs)

theorem Vs.append : ∀ {as : List AV} {vs : List Value} {bs : List AV} {us : List Value}, Vs ρ w n as vs → Vs ρ w n bs us → Vs ρ w n (as ++ bs) (vs ++ us)
  | _, _, _, _, .nil, h => by simpa using h
  | _, _, _, _, .cons a v _ _ h hs, h' => by simpa using Vs.cons a v _ _ h (Vs.append hs h')

theorem Vs.set : ∀ {as : List AV} {vs : List Value} (j : Nat) {a : AV} {v : Value}, Vs ρ w n as vs → V ρ w n a v → Vs ρ w n (as.set j a) (vs.set j v)
  | _, _, _, _, _, .nil, _ => by simpa using Vs.nil
  | _, _, 0, a, v, .cons _ _ _ _ _ hs, h => by simpa using Vs.cons a v _ _ h hs
  | _, _, j + 1, _, _, .cons a v _ _ h hs, h' => by simpa using Vs.cons a v _ _ h (Vs.set j hs h')

theorem Vs.one {a : AV} {v : Value} (h : V ρ w n a v) : Vs ρ w n [a] [v] := .cons _ _ _ _ h .nil

theorem V.strip {a : AV} {v : Value} (h : V ρ w n a v) : V ρ w n a.strip v := by
  cases h <;> try (first | exact .bool _ | exact .int _ _ | exact .str _ | exact .nilp | exact .nilf | exact .niliface)
  case ptr i off h hp => exact .ptr i off h hp
  case eptr vs b o h ha => exact .eptr _ vs b o h ha
  case nils => exact .sl0 none 0 false none (by simp) (fun _ => rfl) (by simp)
  case sl cs vs b o len cap full tok h ha hf hl ht => exact .sl cs vs b o len cap false none h ha (by simp) hl (by simp)
  case sl0 a cap full tok hf ha ht => exact .sl0 a cap false none (by simp) ha (by simp)
  case msl i off len cap z h hp hl ht => exact .msl i off len cap z h hp hl ht
  case func f cs vs h => exact .func f cs vs h
  case agg cs vs h => exact .agg cs vs h
  case tup cs vs h => exact .tup cs vs h
  case iface t a v h => exact .iface t a v h
  case mapv i h hp => exact .mapv i h hp
  case nilm => exact .nilm

theorem Vs.strip : ∀ {as : List AV} {vs : List Value}, Vs ρ w n as vs → Vs ρ w n (as.map AV.strip) vs
  | _, _, .nil => .nil
  | _, _, .cons _ _ _ _ h hs => .cons _ _ _ _ h.strip (Vs.strip hs)

theorem V.cells {a : AV} {v : Value} (h : V ρ w n a v) : Vs ρ w n a.cells v.cells.toList := by
  cases h
  case agg cs vs h => simpa [AV.cells, Value.cells] using h
  all_goals (apply Vs.one; constructor <;> assumption)

theorem At.drop {b o : Nat} {vs : List Value} (h : At ρ w b o vs) (k : Nat) : At ρ w b (o + k) (vs.drop k) := by
  intro j v hj
  rw [List.getElem?_drop] at hj
  have := h (k + j) v hj
  rwa [← Nat.add_assoc] at this

theorem At.take {b o : Nat} {vs : List Value} (h : At ρ w b o vs) (k : Nat) : At ρ w b o (vs.take k) := by
  intro j v hj
  rw [List.getElem?_take] at hj
  split at hj
  · exact h j v hj
  · cases hj
end lists

/-- The values of a program's text are what they are in every memory. -/
theorem V.ofV {ρ : Rho} {w : World} {n : Nat} {v : Value} {a : AV} (h : ofV v = some a) : V ρ w n a v := by
  unfold Am.ofV at h
  split at h <;> first | (cases h; constructor) | (cases h)

theorem Vs.ofVs {ρ : Rho} {w : World} {n : Nat} : ∀ {vs : List Value} {as : List AV}, ofVs vs = some as → Vs ρ w n as vs
  | [], _, h => by cases h; exact .nil
  | v :: vs, as, h => by
    simp only [Am.ofVs] at h
    split at h
    · rename_i a as' h1 h2
      cases h
      exact .cons _ _ _ _ (V.ofV h1) (Vs.ofVs h2)
    · cases h

/-- The entries of a map, as they lie in memory. -/
def MapR (ρ : Rho) (w : World) (n : Nat) (es : List (ByteArray × AV)) (ms : List MapEntry) : Prop :=
  ms.map (·.key) = es.map (fun e => .string e.1) ∧ Vs ρ w n (es.map (·.2)) (ms.map (·.val)) ∧ (es.map (·.1)).Nodup ∧ ∀ e, e ∈ es → e.1.size ≤ maxKey

/-- The store's objects and rights, as they lie in memory. -/
structure Sim (ρ : Rho) (s : St) (w : World) : Prop where
  free : ∀ b, w.heap.size ≤ b → ρ.lab b = .free
  pn : ∀ i, ρ.pend i = true → i < s.size ∧ s.obj i ≠ some .right
  cells : ∀ i cs, s.obj i = some (.cells cs) → ρ.pend i = false → i < s.size ∧ ρ.lab (ρ.blk i) = .obj i ∧
    ∃ vs rest ty, w.heap[ρ.blk i]? = some (.cells (vs ++ rest).toArray ty (0, 0)) ∧ Vs ρ w s.size cs vs ∧ (vs ++ rest).length = ρ.tot i
  right : ∀ t, s.obj t = some .right → t < s.size ∧ ∃ b len cap z, ρ.rt t = (b, len, cap, z) ∧ ρ.lab b = .grow t (len * z) ∧
    ∃ vs ty, w.heap[b]? = some (.cells (List.toArray vs) ty (0, 0)) ∧ vs.length = cap * z
  froz : ∀ i cs, s.obj i = some (.froz cs) → i < s.size ∧ ρ.pend i = false ∧ ∃ vs, Vs ρ w s.size cs vs ∧ At ρ w (ρ.blk i) 0 vs
  maps : ∀ i es, s.obj i = some (.map es) → i < s.size ∧ ρ.pend i = false ∧ ρ.lab (ρ.blk i) = .obj i ∧ ∃ ms clock, w.heap[ρ.blk i]? = some (.map ms clock) ∧ MapR ρ w s.size es ms.toList

/-- What a run leaves as it was. -/
structure Fr (ρ : Rho) (s : St) (w : World) (ρ' : Rho) (s' : St) (w' : World) : Prop where
  mono : Mono ρ w s.size ρ' w' s'.size
  os : w'.os = w.os
  tape : w'.tape = w.tape
  output : w'.output = w.output
  size : w.heap.size ≤ w'.heap.size
  keep : ∀ b, b < w.heap.size → (ρ.lab b = .free ∨ ρ.lab b = .ro) → ρ'.lab b = ρ.lab b ∧ w'.heap[b]? = w.heap[b]?
  pend : ∀ i, ρ.pend i = true → s'.obj i = s.obj i
  pback : ∀ i, ρ'.pend i = ρ.pend i

theorem Fr.refl (ρ : Rho) (s : St) (w : World) : Fr ρ s w ρ s w :=
  ⟨Mono.refl _ _ _, rfl, rfl, rfl, Nat.le_refl _, fun _ _ _ => ⟨rfl, rfl⟩, fun _ _ => rfl, fun _ => rfl⟩

theorem Fr.trans {ρ s w ρ1 s1 w1 ρ2 s2 w2} (h : Fr ρ s w ρ1 s1 w1) (k : Fr ρ1 s1 w1 ρ2 s2 w2) : Fr ρ s w ρ2 s2 w2 :=
  ⟨h.mono.trans k.mono, k.os.trans h.os, k.tape.trans h.tape, k.output.trans h.output, Nat.le_trans h.size k.size, fun b hb hl => by
    obtain ⟨a, c⟩ := h.keep b hb hl
    obtain ⟨d, f⟩ := k.keep b (Nat.lt_of_lt_of_le hb h.size) (by rw [a]; exact hl)
    exact ⟨d.trans a, f.trans c⟩, fun i hi => (k.pend i (by rw [h.pback i]; exact hi)).trans (h.pend i hi), fun i => (k.pback i).trans (h.pback i)⟩

/-- The slots. -/
abbrev Glob := Nat → Option (List AV)
/-- The package's variables that are known. -/
def GlobR (G : Glob) (ρ : Rho) (w : World) (n : Nat) : Prop := ∀ g cs, G g = some cs → V ρ w n (.eptr cs) (.pointer (some ⟨g, 0, none⟩))
theorem GlobR.mono {G ρ w n ρ' w' n'} (m : Mono ρ w n ρ' w' n') (h : GlobR G ρ w n) : GlobR G ρ' w' n' := fun g cs hg => (h g cs hg).mono m

def EnvR (G : Glob) (ρ : Rho) (w : World) (n : Nat) (e : Env) (tmps : Array Value) : Prop := (∀ t, V ρ w n (e t) (tmps.getD t undef)) ∧ GlobR G ρ w n

theorem EnvR.mono {G ρ w n ρ' w' n' e tmps} (m : Mono ρ w n ρ' w' n') (h : EnvR G ρ w n e tmps) : EnvR G ρ' w' n' e tmps := ⟨fun t => (h.1 t).mono m, h.2.mono m⟩

theorem EnvR.put {G ρ w n e tmps} (h : EnvR G ρ w n e tmps) {d : Nat} (hd : d < tmps.size) {a : AV} {v : Value} (hv : V ρ w n a v) :
    EnvR G ρ w n (e.set d a) (tmps.setIfInBounds d v) := by
  refine ⟨?_, h.2⟩
  intro t
  unfold Env.set
  by_cases ht : t = d
  · subst ht
    simp [hd, hv]
  · rw [if_neg ht]
    have : (tmps.setIfInBounds d v).getD t undef = tmps.getD t undef := by
      simp [Array.getD_eq_getD_getElem?, Ne.symm ht]
    rw [this]
    exact h.1 t

theorem froz_mono {ρ ρ' : Rho} {s s' : St} {w w' : World} (hS : Sim ρ s w) (hm : Mono ρ w s.size ρ' w' s'.size) (hp : ∀ i, i < s.size → ρ.pend i = false → ρ'.pend i = false) (ho : ∀ i cs, s'.obj i = some (.froz cs) → s.obj i = some (.froz cs)) :
    ∀ i cs, s'.obj i = some (.froz cs) → i < s'.size ∧ ρ'.pend i = false ∧ ∃ vs, Vs ρ' w' s'.size cs vs ∧ At ρ' w' (ρ'.blk i) 0 vs := by
  intro i cs h
  obtain ⟨h1, h2, vs, h3, h4⟩ := hS.froz i cs (ho i cs h)
  refine ⟨Nat.lt_of_lt_of_le h1 hm.le, hp i h1 h2, vs, h3.mono hm, fun j v hj => ?_⟩
  obtain ⟨h5, h6⟩ := h4 j v hj
  rw [hm.blk i h1 h2]
  exact ⟨(hm.imm _ _ h5).1, ((hm.imm _ _ h5).2).trans h6⟩

theorem map_mono {ρ ρ' : Rho} {s s' : St} {w w' : World} (hS : Sim ρ s w) (hm : Mono ρ w s.size ρ' w' s'.size) (ho : ∀ i es, s'.obj i = some (.map es) → s.obj i = some (.map es))
    (hb : ∀ i es, s.obj i = some (.map es) → s'.obj i = some (.map es) → ρ.lab (ρ.blk i) = .obj i → ρ.blk i < w.heap.size → ρ'.lab (ρ.blk i) = .obj i ∧ w'.heap[ρ.blk i]? = w.heap[ρ.blk i]?) :
    ∀ i es, s'.obj i = some (.map es) → i < s'.size ∧ ρ'.pend i = false ∧ ρ'.lab (ρ'.blk i) = .obj i ∧ ∃ ms clock, w'.heap[ρ'.blk i]? = some (.map ms clock) ∧ MapR ρ' w' s'.size es ms.toList := by
  intro i es h
  have h0 := ho i es h
  obtain ⟨h1, h2, h3, ms, clock, h4, h5, h6, h7⟩ := hS.maps i es h0
  have hlt : ρ.blk i < w.heap.size := (Array.getElem?_eq_some_iff.1 h4).1
  obtain ⟨h8, h9⟩ := hb i es h0 h h3 hlt
  refine ⟨Nat.lt_of_lt_of_le h1 hm.le, hm.pend i h1 h2, ?_, ms, clock, ?_, h5, h6.mono hm, h7⟩
  · rw [hm.blk i h1 h2]; exact h8
  · rw [hm.blk i h1 h2, h9]; exact h4

theorem undef_V {ρ w n} : V ρ w n undefA undef := .tup [] [] .nil

end Go.Am
