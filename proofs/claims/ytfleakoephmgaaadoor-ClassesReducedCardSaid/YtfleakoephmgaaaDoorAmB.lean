/- What a value and a store of the abstract machine have to do with Go's memory; that this lasts while memory grows. Conditions: none. -/
import Derived.Test.YtfleakoephmgaaaDoorAmA
import Derived.WalkKit
set_option linter.unusedSimpArgs false
set_option linter.unusedVariables false
namespace Go.Am

/-- Whose a block of memory is. -/
inductive Lab where
  | free
  | ro
  | obj (i : Nat)
  | grow (t n : Nat)

structure Rho where
  lab : Nat → Lab
  blk : Nat → Nat
  tot : Nat → Nat
  rt : Nat → Nat × Nat × Nat × Nat
  /-- An object of the store that Go's run has not made yet. -/
  pend : Nat → Bool

/-- A cell that never changes any more. -/
def ImmL (l : Lab) (o : Nat) : Prop := match l with
  | .ro => True
  | .grow _ n => o < n
  | _ => False

def Imm (ρ : Rho) (b o : Nat) : Prop := ImmL (ρ.lab b) o

def At (ρ : Rho) (w : World) (b o : Nat) (vs : List Value) : Prop :=
  ∀ j v, vs[j]? = some v → Imm ρ b (o + j) ∧ w.cell? ⟨b, o + j, none⟩ = some v

mutual
inductive V (ρ : Rho) (w : World) (n : Nat) : AV → Value → Prop
  | bool (b : Bool) : V ρ w n (.bool b) (.bool b)
  | int (k : IntKind) (m : Int) : V ρ w n (.int k m) (.int k m)
  | str (s : ByteArray) : V ρ w n (.str s) (.string s)
  | nilp : V ρ w n .nilp (.pointer none)
  | ptr (i off : Nat) (h : i < n) (hp : ρ.pend i = false) : V ρ w n (.ptr i off) (.pointer (some ⟨ρ.blk i, off, none⟩))
  | eptr (cs : List AV) (vs : List Value) (b o : Nat) (h : Vs ρ w n cs vs) (ha : At ρ w b o vs) : V ρ w n (.eptr cs) (.pointer (some ⟨b, o, none⟩))
  | nils : V ρ w n .nils (.slice none 0 0)
  | sl (cs : List AV) (vs : List Value) (b o len cap : Nat) (full : Bool) (tok : Option Nat) (h : Vs ρ w n cs vs) (ha : At ρ w b o vs)
      (hf : full = true → cap = len) (hl : len ≤ cap) (ht : ∀ t, tok = some t → t < n ∧ o = 0 ∧ 0 < len ∧ ∃ z, cs.length = len * z ∧ ρ.rt t = (b, len, cap, z)) :
      V ρ w n (.sl cs len full tok) (.slice (some ⟨b, o, none⟩) len cap)
  | sl0 (a : Option Addr) (cap : Nat) (full : Bool) (tok : Option Nat) (hf : full = true → cap = 0) (ha : a = none → cap = 0) (ht : tok.isSome = true → a ≠ none) : V ρ w n (.sl [] 0 full tok) (.slice a 0 cap)
  | msl (i off len cap z : Nat) (h : i < n) (hp : ρ.pend i = false) (hl : len ≤ cap) (ht : off + cap * z ≤ ρ.tot i) : V ρ w n (.msl i off len z) (.slice (some ⟨ρ.blk i, off, none⟩) len cap)
  | func (f : Nat) (cs : List AV) (vs : List Value) (h : Vs ρ w n cs vs) : V ρ w n (.func f cs) (.func (.func f) #[] vs.toArray)
  | nilf : V ρ w n .nilf .nilFunc
  | agg (cs : List AV) (vs : List Value) (h : Vs ρ w n cs vs) : V ρ w n (.agg cs) (.agg vs.toArray)
  | tup (cs : List AV) (vs : List Value) (h : Vs ρ w n cs vs) : V ρ w n (.tup cs) (.tuple vs.toArray)
  | iface (t : Nat) (a : AV) (v : Value) (h : V ρ w n a v) : V ρ w n (.iface t a) (.iface t v)
  | niliface : V ρ w n .niliface .nilIface
  | mapv (i : Nat) (h : i < n) (hp : ρ.pend i = false) : V ρ w n (.mapv i) (.map (some (ρ.blk i)))
  | nilm : V ρ w n .nilm (.map none)
inductive Vs (ρ : Rho) (w : World) (n : Nat) : List AV → List Value → Prop
  | nil : Vs ρ w n [] []
  | cons (a : AV) (v : Value) (as : List AV) (vs : List Value) (h : V ρ w n a v) (hs : Vs ρ w n as vs) : Vs ρ w n (a :: as) (v :: vs)
end

/-- What is known goes on being known. -/
structure Mono (ρ : Rho) (w : World) (n : Nat) (ρ' : Rho) (w' : World) (n' : Nat) : Prop where
  le : n ≤ n'
  imm : ∀ b o, Imm ρ b o → Imm ρ' b o ∧ w'.cell? ⟨b, o, none⟩ = w.cell? ⟨b, o, none⟩
  blk : ∀ i, i < n → ρ.pend i = false → ρ'.blk i = ρ.blk i
  tot : ∀ i, i < n → ρ.pend i = false → ρ'.tot i = ρ.tot i
  rt : ∀ t, t < n → ρ'.rt t = ρ.rt t
  pend : ∀ i, i < n → ρ.pend i = false → ρ'.pend i = false

theorem Mono.refl (ρ : Rho) (w : World) (n : Nat) : Mono ρ w n ρ w n :=
  ⟨Nat.le_refl _, fun _ _ h => ⟨h, rfl⟩, fun _ _ _ => rfl, fun _ _ _ => rfl, fun _ _ => rfl, fun _ _ h => h⟩

theorem Mono.trans {ρ w n ρ1 w1 n1 ρ2 w2 n2} (h : Mono ρ w n ρ1 w1 n1) (k : Mono ρ1 w1 n1 ρ2 w2 n2) : Mono ρ w n ρ2 w2 n2 :=
  ⟨Nat.le_trans h.le k.le, fun b o hi => let ⟨a, c⟩ := h.imm b o hi; let ⟨d, f⟩ := k.imm b o a; ⟨d, f.trans c⟩,
    fun i hi hp => (k.blk i (Nat.lt_of_lt_of_le hi h.le) (h.pend i hi hp)).trans (h.blk i hi hp), fun i hi hp => (k.tot i (Nat.lt_of_lt_of_le hi h.le) (h.pend i hi hp)).trans (h.tot i hi hp),
    fun i hi => (k.rt i (Nat.lt_of_lt_of_le hi h.le)).trans (h.rt i hi), fun i hi hp => k.pend i (Nat.lt_of_lt_of_le hi h.le) (h.pend i hi hp)⟩

theorem At.mono {ρ w n ρ' w' n'} (m : Mono ρ w n ρ' w' n') {b o : Nat} {vs : List Value} (h : At ρ w b o vs) : At ρ' w' b o vs := by
  intro j v hj
  obtain ⟨hi, hc⟩ := h j v hj
  obtain ⟨hi', hc'⟩ := m.imm _ _ hi
  exact ⟨hi', hc'.trans hc⟩

mutual
theorem V.mono {ρ w n ρ' w' n'} (m : Mono ρ w n ρ' w' n') : ∀ {a : AV} {v : Value}, V ρ w n a v → V ρ' w' n' a v
  | _, _, .bool b => .bool b
  | _, _, .int k x => .int k x
  | _, _, .str s => .str s
  | _, _, .nilp => .nilp
  | _, _, .ptr i off h hp => by
    have := m.blk i h hp
    rw [← this]
    exact .ptr i off (Nat.lt_of_lt_of_le h m.le) (m.pend i h hp)
  | _, _, .eptr cs vs b o h ha => .eptr cs vs b o (Vs.mono m h) (ha.mono m)
  | _, _, .nils => .nils
  | _, _, .sl cs vs b o len cap full tok h ha hf hl ht => .sl cs vs b o len cap full tok (Vs.mono m h) (ha.mono m) hf hl
      (fun t hx => let ⟨p, q, l, z, y, r⟩ := ht t hx; ⟨Nat.lt_of_lt_of_le p m.le, q, l, z, y, (m.rt t p).trans r⟩)
  | _, _, .sl0 a cap full tok hf ha ht => .sl0 a cap full tok hf ha ht
  | _, _, .msl i off len cap z h hp hl ht => by
    have := m.blk i h hp
    rw [← this]
    exact .msl i off len cap z (Nat.lt_of_lt_of_le h m.le) (m.pend i h hp) hl (by rw [m.tot i h hp]; exact ht)
  | _, _, .func f cs vs h => .func f cs vs (Vs.mono m h)
  | _, _, .nilf => .nilf
  | _, _, .agg cs vs h => .agg cs vs (Vs.mono m h)
  | _, _, .tup cs vs h => .tup cs vs (Vs.mono m h)
  | _, _, .iface t a v h => .iface t a v (V.mono m h)
  | _, _, .niliface => .niliface
  | _, _, .mapv i h hp => by
    have := m.blk i h hp
    rw [← this]
    exact .mapv i (Nat.lt_of_lt_of_le h m.le) (m.pend i h hp)
  | _, _, .nilm => .nilm
theorem Vs.mono {ρ w n ρ' w' n'} (m : Mono ρ w n ρ' w' n') : ∀ {as : List AV} {vs : List Value}, Vs ρ w n as vs → Vs ρ' w' n' as vs
  | _, _, .nil => .nil
  | _, _, .cons a v as vs h hs => .cons a v as vs (V.mono m h) (Vs.mono m hs)
end

section lists
variable {ρ : Rho} {w : World} {n : Nat}

theorem Vs.length : ∀ {as : List AV} {vs : List Value}, Vs ρ w n as vs → vs.length = as.length
  | _, _, .nil => rfl
  | _, _, .cons _ _ _ _ _ hs => by simp [Vs.length hs]

theorem Vs.get : ∀ {as : List AV} {vs : List Value}, Vs ρ w n as vs → ∀ {j : Nat} {a : AV}, as[j]? = some a → ∃ v, vs[j]? = some v ∧ V ρ w n a v
  | _, _, .nil, j, a, h => by simp at h
  | _, _, .cons a v as vs h hs, j, a', hj => by
    cases j with
    | zero => simp at hj; subst hj; exact ⟨v, rfl, h⟩
    | succ j => simp at hj; obtain ⟨v', hv, hV⟩ := Vs.get hs hj; exact ⟨v', by simpa using hv, hV⟩

theorem Vs.drop : ∀ (k : Nat) {as : List AV} {vs : List Value}, Vs ρ w n as vs → Vs ρ w n (as.drop k) (vs.drop k)
  | 0, _, _, h => by simpa using h
  | k + 1, _, _, .nil => by simpa using Vs.nil
  | k + 1, _, _, .cons _ _ _ _ _ hs => by simpa using Vs.drop k hs

theorem Vs.take : ∀ (k : Nat) {as : List AV} {vs : List Value}, Vs ρ w n as vs → Vs ρ w n (as.take k) (vs.take k)
  | 0, _, _, _ => by simpa using Vs.nil
  | k + 1, _, _, .nil => by simpa using Vs.nil
  | k + 1, _, _, .cons a v _ _ h hs => by simpa using Vs.cons a v _ _ h (Vs.take k hs)

theorem Vs.append : ∀ {as : List AV} {vs : List Value} {bs : List AV} {us : List Value}, Vs ρ w n as vs → Vs ρ w n bs us → Vs ρ w n (as ++ bs) (vs ++ us)
  | _, _, _, _, .nil, h => by simpa using h
  | _, _, _, _, .cons a v _ _ h hs, h' => by simpa using Vs.cons a v _ _ h (Vs.append hs h')

theorem Vs.set : ∀ {as : List AV} {vs : List Value} (j : Nat) {a : AV} {v : Value}, Vs ρ w n as vs → V ρ w n a v → Vs ρ w n (as.set j a) (vs.set j v)
  | _, _, _, _, _, .nil, _ => by simpa using Vs.nil
  | _, _, 0, a, v, .cons _ _ _ _ _ hs, h => by simpa using Vs.cons a v _ _ h hs
  | _, _, j + 1, _, _, .cons a v _ _ h hs, h' => by simpa using Vs.cons a v _ _ h (Vs.set j hs h')

theorem Vs.one {a : AV} {v : Value} (h : V ρ w n a v) : Vs ρ w n [a] [v] := .cons _ _ _ _ h .nil

theorem V.strip {a : AV} {v : Value} (h : V ρ w n a v) : V ρ w n a.strip v := by
  cases h <;> try (first | exact .bool _ | exact .int _ _ | exact .str _ | exact .nilp | exact .nilf | exact .niliface)
  case ptr i off h hp => exact .ptr i off h hp
  case eptr vs b o h ha => exact .eptr _ vs b o h ha
  case nils => exact .sl0 none 0 false none (by simp) (fun _ => rfl) (by simp)
  case sl cs vs b o len cap full tok h ha hf hl ht => exact .sl cs vs b o len cap false none h ha (by simp) hl (by simp)
  case sl0 a cap full tok hf ha ht => exact .sl0 a cap false none (by simp) ha (by simp)
  case msl i off len cap z h hp hl ht => exact .msl i off len cap z h hp hl ht
  case func f cs vs h => exact .func f cs vs h
  case agg cs vs h => exact .agg cs vs h
  case tup cs vs h => exact .tup cs vs h
  case iface t a v h => exact .iface t a v h
  case mapv i h hp => exact .mapv i h hp
  case nilm => exact .nilm

theorem Vs.strip : ∀ {as : List AV} {vs : List Value}, Vs ρ w n as vs → Vs ρ w n (as.map AV.strip) vs
  | _, _, .nil => .nil
  | _, _, .cons _ _ _ _ h hs => .cons _ _ _ _ h.strip (Vs.strip hs)

theorem V.cells {a : AV} {v : Value} (h : V ρ w n a v) : Vs ρ w n a.cells v.cells.toList := by
  cases h
  case agg cs vs h => simpa [AV.cells, Value.cells] using h
  all_goals (apply Vs.one; constructor <;> assumption)

theorem At.drop {b o : Nat} {vs : List Value} (h : At ρ w b o vs) (k : Nat) : At ρ w b (o + k) (vs.drop k) := by
  intro j v hj
  rw [List.getElem?_drop] at hj
  have := h (k + j) v hj
  rwa [← Nat.add_assoc] at this

theorem At.take {b o : Nat} {vs : List Value} (h : At ρ w b o vs) (k : Nat) : At ρ w b o (vs.take k) := by
  intro j v hj
  rw [List.getElem?_take] at hj
  split at hj
  · exact h j v hj
  · cases hj
end lists

/-- The values of a program's text are what they are in every memory. -/
theorem V.ofV {ρ : Rho} {w : World} {n : Nat} {v : Value} {a : AV} (h : ofV v = some a) : V ρ w n a v := by
  unfold Am.ofV at h
  split at h <;> first | (cases h; constructor) | (cases h)

theorem Vs.ofVs {ρ : Rho} {w : World} {n : Nat} : ∀ {vs : List Value} {as : List AV}, ofVs vs = some as → Vs ρ w n as vs
  | [], _, h => by cases h; exact .nil
  | v :: vs, as, h => by
    simp only [Am.ofVs] at h
    split at h
    · rename_i a as' h1 h2
      cases h
      exact .cons _ _ _ _ (V.ofV h1) (Vs.ofVs h2)
    · cases h

/-- The entries of a map, as they lie in memory. -/
def MapR (ρ : Rho) (w : World) (n : Nat) (es : List (ByteArray × AV)) (ms : List MapEntry) : Prop :=
  ms.map (·.key) = es.map (fun e => .string e.1) ∧ Vs ρ w n (es.map (·.2)) (ms.map (·.val)) ∧ (es.map (·.1)).Nodup ∧ ∀ e, e ∈ es → e.1.size ≤ maxKey

/-- The store's objects and rights, as they lie in memory. -/
structure Sim (ρ : Rho) (s : St) (w : World) : Prop where
  free : ∀ b, w.heap.size ≤ b → ρ.lab b = .free
  pn : ∀ i, ρ.pend i = true → i < s.size ∧ s.obj i ≠ some .right
  cells : ∀ i cs, s.obj i = some (.cells cs) → ρ.pend i = false → i < s.size ∧ ρ.lab (ρ.blk i) = .obj i ∧
    ∃ vs rest ty, w.heap[ρ.blk i]? = some (.cells (vs ++ rest).toArray ty (0, 0)) ∧ Vs ρ w s.size cs vs ∧ (vs ++ rest).length = ρ.tot i
  right : ∀ t, s.obj t = some .right → t < s.size ∧ ∃ b len cap z, ρ.rt t = (b, len, cap, z) ∧ ρ.lab b = .grow t (len * z) ∧
    ∃ vs ty, w.heap[b]? = some (.cells (List.toArray vs) ty (0, 0)) ∧ vs.length = cap * z
  froz : ∀ i cs, s.obj i = some (.froz cs) → i < s.size ∧ ρ.pend i = false ∧ ∃ vs, Vs ρ w s.size cs vs ∧ At ρ w (ρ.blk i) 0 vs
  maps : ∀ i es, s.obj i = some (.map es) → i < s.size ∧ ρ.pend i = false ∧ ρ.lab (ρ.blk i) = .obj i ∧ ∃ ms clock, w.heap[ρ.blk i]? = some (.map ms clock) ∧ MapR ρ w s.size es ms.toList

/-- What a run leaves as it was. -/
structure Fr (ρ : Rho) (s : St) (w : World) (ρ' : Rho) (s' : St) (w' : World) : Prop where
  mono : Mono ρ w s.size ρ' w' s'.size
  os : w'.os = w.os
  tape : w'.tape = w.tape
  output : w'.output = w.output
  size : w.heap.size ≤ w'.heap.size
  keep : ∀ b, b < w.heap.size → (ρ.lab b = .free ∨ ρ.lab b = .ro) → ρ'.lab b = ρ.lab b ∧ w'.heap[b]? = w.heap[b]?
  pend : ∀ i, ρ.pend i = true → s'.obj i = s.obj i
  pback : ∀ i, ρ'.pend i = ρ.pend i

theorem Fr.refl (ρ : Rho) (s : St) (w : World) : Fr ρ s w ρ s w :=
  ⟨Mono.refl _ _ _, rfl, rfl, rfl, Nat.le_refl _, fun _ _ _ => ⟨rfl, rfl⟩, fun _ _ => rfl, fun _ => rfl⟩

theorem Fr.trans {ρ s w ρ1 s1 w1 ρ2 s2 w2} (h : Fr ρ s w ρ1 s1 w1) (k : Fr ρ1 s1 w1 ρ2 s2 w2) : Fr ρ s w ρ2 s2 w2 :=
  ⟨h.mono.trans k.mono, k.os.trans h.os, k.tape.trans h.tape, k.output.trans h.output, Nat.le_trans h.size k.size, fun b hb hl => by
    obtain ⟨a, c⟩ := h.keep b hb hl
    obtain ⟨d, f⟩ := k.keep b (Nat.lt_of_lt_of_le hb h.size) (by rw [a]; exact hl)
    exact ⟨d.trans a, f.trans c⟩, fun i hi => (k.pend i (by rw [h.pback i]; exact hi)).trans (h.pend i hi), fun i => (k.pback i).trans (h.pback i)⟩

/-- The slots. -/
abbrev Glob := Nat → Option (List AV)
/-- The package's variables that are known. -/
def GlobR (G : Glob) (ρ : Rho) (w : World) (n : Nat) : Prop := ∀ g cs, G g = some cs → V ρ w n (.eptr cs) (.pointer (some ⟨g, 0, none⟩))
theorem GlobR.mono {G ρ w n ρ' w' n'} (m : Mono ρ w n ρ' w' n') (h : GlobR G ρ w n) : GlobR G ρ' w' n' := fun g cs hg => (h g cs hg).mono m

def EnvR (G : Glob) (ρ : Rho) (w : World) (n : Nat) (e : Env) (tmps : Array Value) : Prop := (∀ t, V ρ w n (e t) (tmps.getD t undef)) ∧ GlobR G ρ w n

theorem EnvR.mono {G ρ w n ρ' w' n' e tmps} (m : Mono ρ w n ρ' w' n') (h : EnvR G ρ w n e tmps) : EnvR G ρ' w' n' e tmps := ⟨fun t => (h.1 t).mono m, h.2.mono m⟩

theorem EnvR.put {G ρ w n e tmps} (h : EnvR G ρ w n e tmps) {d : Nat} (hd : d < tmps.size) {a : AV} {v : Value} (hv : V ρ w n a v) :
    EnvR G ρ w n (e.set d a) (tmps.setIfInBounds d v) := by
  refine ⟨?_, h.2⟩
  intro t
  unfold Env.set
  by_cases ht : t = d
  · subst ht
    simp [hd, hv]
  · rw [if_neg ht]
    have : (tmps.setIfInBounds d v).getD t undef = tmps.getD t undef := by
      simp [Array.getD_eq_getD_getElem?, Ne.symm ht]
    rw [this]
    exact h.1 t

theorem froz_mono {ρ ρ' : Rho} {s s' : St} {w w' : World} (hS : Sim ρ s w) (hm : Mono ρ w s.size ρ' w' s'.size) (hp : ∀ i, i < s.size → ρ.pend i = false → ρ'.pend i = false) (ho : ∀ i cs, s'.obj i = some (.froz cs) → s.obj i = some (.froz cs)) :
    ∀ i cs, s'.obj i = some (.froz cs) → i < s'.size ∧ ρ'.pend i = false ∧ ∃ vs, Vs ρ' w' s'.size cs vs ∧ At ρ' w' (ρ'.blk i) 0 vs := by
  intro i cs h
  obtain ⟨h1, h2, vs, h3, h4⟩ := hS.froz i cs (ho i cs h)
  refine ⟨Nat.lt_of_lt_of_le h1 hm.le, hp i h1 h2, vs, h3.mono hm, fun j v hj => ?_⟩
  obtain ⟨h5, h6⟩ := h4 j v hj
  rw [hm.blk i h1 h2]
  exact ⟨(hm.imm _ _ h5).1, ((hm.imm _ _ h5).2).trans h6⟩

theorem map_mono {ρ ρ' : Rho} {s s' : St} {w w' : World} (hS : Sim ρ s w) (hm : Mono ρ w s.size ρ' w' s'.size) (ho : ∀ i es, s'.obj i = some (.map es) → s.obj i = some (.map es))
    (hb : ∀ i es, s.obj i = some (.map es) → s'.obj i = some (.map es) → ρ.lab (ρ.blk i) = .obj i → ρ.blk i < w.heap.size → ρ'.lab (ρ.blk i) = .obj i ∧ w'.heap[ρ.blk i]? = w.heap[ρ.blk i]?) :
    ∀ i es, s'.obj i = some (.map es) → i < s'.size ∧ ρ'.pend i = false ∧ ρ'.lab (ρ'.blk i) = .obj i ∧ ∃ ms clock, w'.heap[ρ'.blk i]? = some (.map ms clock) ∧ MapR ρ' w' s'.size es ms.toList := by
  intro i es h
  have h0 := ho i es h
  obtain ⟨h1, h2, h3, ms, clock, h4, h5, h6, h7⟩ := hS.maps i es h0
  have hlt : ρ.blk i < w.heap.size := (Array.getElem?_eq_some_iff.1 h4).1
  obtain ⟨h8, h9⟩ := hb i es h0 h h3 hlt
  refine ⟨Nat.lt_of_lt_of_le h1 hm.le, hm.pend i h1 h2, ?_, ms, clock, ?_, h5, h6.mono hm, h7⟩
  · rw [hm.blk i h1 h2]; exact h8
  · rw [hm.blk i h1 h2, h9]; exact h4

theorem undef_V {ρ w n} : V ρ w n undefA undef := .tup [] [] .nil

end Go.Am

/- How a Go function's text becomes a text of the abstract machine. Conditions: none. -/
namespace Go.Am

/-- A constant, of parts too. -/
def ofC : Value → Option AV
  | .agg vs => (ofVs vs.toList).map .agg
  | v => ofV v

def cO (G : Glob) : Operand → Option Opd
  | .tmp t => some (.t t)
  | .const v => (ofC v).map .c
  | .func f => some (.c (.func f []))
  | .global g => (G g).map fun cs => .c (.eptr cs)

def cOs (G : Glob) : List Operand → Option (List Opd)
  | [] => some []
  | x :: xs => match cO G x, cOs G xs with
    | some a, some as => some (a :: as)
    | _, _ => none

def cM (G : Glob) : Option Operand → Option (Option Opd)
  | none => some none
  | some x => (cO G x).map some

def zeroOf (P : Program) (t : TypeId) : Option (List AV) :=
  match P.info? t with
  | some i => match i.zero with
    | some v => ofVs v.cells.toList
    | none => none
  | none => none

/-- A type's zero value. -/
def zeroV (P : Program) (t : TypeId) : Option AV :=
  match P.info? t with
  | some i => match i.zero with
    | some (.agg vs) => (ofVs vs.toList).map .agg
    | some v => ofV v
    | none => none
  | none => none

def aggOf (P : Program) (t : TypeId) : Option Bool :=
  match P.underlying t with
  | some (.struct _) => some true
  | some (.array _ _) => some true
  | some _ => some false
  | none => none

def cPartsS (G : Glob) (pl : List (Nat × Nat)) : List (Nat × Operand) → Option (List (Nat × Nat × Opd))
  | [] => some []
  | (i, x) :: r => match pl[i]?, cO G x, cPartsS G pl r with
    | some (off, sz), some o, some ps => some ((off, sz, o) :: ps)
    | _, _, _ => none

def placesOf (P : Program) (fs : Array Field) : Option (List (Nat × Nat)) :=
  fs.toList.mapM (fun f => (P.info? f.type).map fun i => (f.offset, i.size))

def cPartsA (G : Glob) (sz : Nat) : List (Nat × Operand) → Option (List (Nat × Nat × Opd))
  | [] => some []
  | (i, x) :: r => match cO G x, cPartsA G sz r with
    | some o, some ps => some ((i * sz, sz, o) :: ps)
    | _, _ => none

/-- The fields are whole numbers, bools and strings, a cell each. -/
def plainFields (P : Program) : List Field → Nat → Option (List Nat)
  | [], _ => some []
  | f :: r, k => if (f.name == "_") = true ∨ f.offset ≠ k then none else
    match P.underlying f.type, plainFields P r (k + 1) with
    | some (.int _), some ks => some (0 :: ks)
    | some .bool, some ks => some (1 :: ks)
    | some .string, some ks => some (2 :: ks)
    | _, _ => none

/-- Pointers held against each other. -/
def cPtr (P : Program) (el : TypeId) (op : BinOp) (a : Opd) (b : Option Opd) : Option COp := match P.info? el, b with
  | some i, some b => if i.size = 0 then none else (match op with
    | .eql => some (.eqp false a b)
    | .neq => some (.eqp true a b)
    | _ => none)
  | _, _ => none

def cBin (G : Glob) (P : Program) (op : BinOp) (t : TypeId) (x y : Operand) : Option COp :=
  match P.underlying t with
  | some (.int _) => match cO G x, cO G y with
    | some a, some b => some (match op with
      | .shl => .shf op a b
      | .shr => .shf op a b
      | .and => .shf op a b
      | .or => .shf op a b
      | .xor => .shf op a b
      | .andNot => .shf op a b
      | _ => .bin op a b)
    | _, _ => none
  | some (.struct fs) => if P.eqGuardType P.depth t = false ∧ P.stoodInHeld t = false then
      (match op, cO G x, cO G y, plainFields P fs.toList 0 with
      | .eql, some a, some b, some ks => some (.eqs ks false a b)
      | .neq, some a, some b, some ks => some (.eqs ks true a b)
      | _, _, _, _ => none) else none
  | some .string => match cO G x, cO G y with
    | some a, some b => some (.bin op a b)
    | _, _ => none
  | some .bool => match op, cO G x, cO G y with
    | .eql, some a, some b => some (.eqb false a b)
    | .neq, some a, some b => some (.eqb true a b)
    | _, _, _ => none
  | some (.slice _) => match op, cO G x, y with
    | .eql, some a, .const (.slice none 0 0) => some (.eqnil false false a)
    | .neq, some a, .const (.slice none 0 0) => some (.eqnil false true a)
    | _, _, _ => none
  | some (.interface _) => match op, cO G x, y with
    | .eql, some a, .const .nilIface => some (.eqni false a)
    | .neq, some a, .const .nilIface => some (.eqni true a)
    | _, _, _ => none
  | some (.pointer el) => match op, cO G x, y with
    | .eql, some a, .const (.pointer none) => some (.eqnil true false a)
    | .neq, some a, .const (.pointer none) => some (.eqnil true true a)
    | _, some a, _ => cPtr P el op a (cO G y)
    | _, _, _ => none
  | _ => none

def isIntD : TypeDesc → Bool
  | .int _ => true
  | _ => false

def cBuiltin (G : Glob) (P : Program) (mu : Bool) (b : Builtin) (args : List Operand) (ts : List TypeId) : Option COp :=
  match b, args, ts with
  | .len, [x], [t] => match P.underlying t, cO G x with
    | some .string, some o => some (.lens o)
    | some (.slice _), some o => some (.len o)
    | _, _ => none
  | .append, [x, y], [t, u] => match P.underlying t, P.underlying u, cO G x, cO G y with
    | some (.slice e), some du, some a, some b =>
      match isIntD du, P.info? e, zeroOf P e with
      | false, some i, some zs => if 0 < i.size ∧ 0 < i.bytes ∧ zs.length = i.size then some (.app mu i.size i.bytes zs a b) else none
      | _, _, _ => none
    | _, _, _, _ => none
  | .min, _, _ => (cOs G args).map (.mm true)
  | .max, _, _ => (cOs G args).map (.mm false)
  | .recover, _, _ => some .rcv
  | .clear, [x], [t] => match P.underlying t, cO G x with
    | some (.slice el), some o => match P.info? el, zeroOf P el with
      | some i, some zs => if 0 < i.size ∧ zs.length = i.size then some (.clr zs o) else none
      | _, _ => none
    | _, _ => none
  | .delete, [m, k], [t, kt] => match P.underlying t, P.underlying kt, cO G m, cO G k with
    | some (.map kt' _), some .string, some om, some ok => if kt' = kt then some (.mdl om ok) else none
    | _, _, _, _ => none
  | _, _, _ => none

/-- One operation; mu: what this function appends anew may be written later; mb: so may a slice that is written out. -/
def cOp0 (G : Glob) (P : Program) (mu : Bool) (mb : Bool := false) : Op → Option COp
  | .move x => (cO G x).map .mv
  | .assign x => (cO G x).map .mv
  | .pick c a b => match cO G c, cO G a, cO G b with
    | some c, some a, some b => some (.pick c a b)
    | _, _, _ => none
  | .alloc t => (zeroOf P t).map .alloc
  | .box _ x => (cO G x).map .box
  | .build t ps => match P.underlying t, zeroOf P t with
    | some (.struct fs), some zs => match placesOf P fs with
      | some pl => (cPartsS G pl ps.toList).map (.build zs)
      | none => none
    | some (.array _ el), some zs => match P.info? el with
      | some i => (cPartsA G i.size ps.toList).map (.builda zs)
      | none => none
    | _, _ => none
  | .buildSlice t len ps => match P.underlying t with
    | some (.slice e) => match P.info? e, zeroOf P e with
      | some i, some zs => if 0 < i.size ∧ zs.length = i.size ∧ len * i.size ≤ 16777216 then (cPartsA G i.size ps.toList).map (fun q => if mb then .bslm i.size len (repCells zs len) q else .bsl i.size len (repCells zs len) q) else none
      | _, _ => none
    | _ => none
  | .load t x => match aggOf P t, P.info? t, cO G x with
    | some a, some i, some o => some (.load a (if a then i.size else 1) o)
    | _, _, _ => none
  | .store t a x => match P.info? t, cO G a, cO G x with
    | some i, some a, some x => some (.store i.size a x)
    | _, _, _ => none
  | .nilCheck x => (cO G x).map .nilc
  | .binOp op t x y _ => cBin G P op t x y
  | .unOp op _ x => (cO G x).map (.un op)
  | .convert s d x => match P.underlying s, P.underlying d, cO G x with
    | some (.int _), some (.int k), some o => some (.conv k o)
    | some .string, some (.slice e), some o => (match P.underlying e with | some (.int .u8) => some (.s2b o) | _ => none)
    | _, _, _ => none
  | .makeFunc (.func f) first caps => if first.size = 0 then (cOs G caps.toList).map (.clo f) else none
  | .slice t x lo hi mx => match P.underlying t, cO G x, cM G lo, cM G hi, cM G mx with
    | some .string, some o, some l, some h, some none => some (.sls o l h)
    | some (.slice e), some o, some l, some h, some m => match P.info? e with
      | some i => if 0 < i.size ∧ (mx.isSome → hi.isSome) then some (.slc i.size o l h m) else none
      | none => none
    | _, _, _, _, _ => none
  | .fieldAddr t x f => match P.underlying t, cO G x with
    | some (.struct fs), some o => match fs[f]? with
      | some fl => match P.info? fl.type with
        | some i => if 0 < i.size then some (.faddr fl.offset o) else none
        | none => none
      | none => none
    | _, _ => none
  | .field t x f => match P.underlying t, cO G x with
    | some (.struct fs), some o => match fs[f]? with
      | some fl => match aggOf P fl.type, P.info? fl.type with
        | some a, some i => some (.fld a fl.offset i.size o)
        | _, _ => none
      | none => none
    | _, _ => none
  | .indexAddr t x i => match P.underlying t, cO G x, cO G i with
    | some (.slice e), some o, some j => match P.info? e with
      | some inf => some (.iaddr inf.size o j)
      | none => none
    | some (.array len e), some o, some j => match P.info? e with
      | some inf => some (.iaddra len inf.size o j)
      | none => none
    | _, _, _ => none
  | .index t x i => match P.underlying t, cO G x, cO G i with
    | some .string, some o, some j => some (.idx o j)
    | some (.array len el), some o, some j => match aggOf P el, P.info? el with
      | some g, some inf => some (.idxa g len inf.size o j)
      | _, _ => none
    | _, _, _ => none
  | .makeSlice t l k => match P.underlying t, cO G l, cO G k with
    | some (.slice el), some l, some k => match P.info? el, zeroOf P el with
      | some i, some zs => if 0 < i.size ∧ 0 < i.bytes ∧ zs.length = i.size then some (.mksl i.size i.bytes zs l k) else none
      | _, _ => none
    | _, _, _ => none
  | .extract x i => (cO G x).map (.ext · i)
  | .makeInterface t x => match P.underlying t, cO G x with
    | some (.interface _), _ => none
    | some _, some o => some (.mkif t o)
    | _, _ => none
  | .typeAssert x _ t ok => match P.underlying t, zeroV P t, cO G x with
    | some (.interface _), _, _ => none
    | some _, some z, some o => some (.asrt t ok z o)
    | _, _, _ => none
  | .defer c => match c.callee with
    | .value x => match cO G x, cOs G c.args.toList with
      | some o, some l => some (.dfr o l)
      | _, _ => none
    | _ => none
  | .panic x => (cO G x).map .pan
  | .makeMap t none => match P.underlying t with
    | some (.map kt _) => (match P.underlying kt with | some .string => some .mmk | _ => none)
    | _ => none
  | .lookup t m k false => match P.underlying t, cO G m, cO G k with
    | some (.map kt el), some om, some ok => (match P.underlying kt, zeroV P el with | some .string, some z => some (.mlk z om ok) | _, _ => none)
    | _, _, _ => none
  | .mapUpdate t m k x => match P.underlying t, cO G m, cO G k, cO G x with
    | some (.map kt _), some om, some ok, some ox => (match P.underlying kt with | some .string => some (.mup om ok ox) | _ => none)
    | _, _, _, _ => none
  | .call c => match c.callee with
    | .builtin b => cBuiltin G P mu b c.args.toList c.argTypes.toList
    | .value (.func f) => (cOs G c.args.toList).map (.call f)
    | .value (.tmp t) => (cOs G c.args.toList).map (.callv (.t t))
    | _ => none
  | _ => none

/-- An operation that the machine lacks must not be met. -/
def cOp (G : Glob) (P : Program) (mu : Bool) (o : Op) : Option COp := some ((cOp0 G P mu false o).getD .stuck)

/-- The slot in which the operation stands that a guard names. -/
def cGuard (ops : Array Oper) : Option (Nat × Bool) → Option (Option Nat × Bool)
  | none => none
  | some (j, want) => some ((ops[j]?).bind (·.dst), want)

def cOpers (G : Glob) (P : Program) (mu : Bool) (nt : Nat) (ops : Array Oper) : List Oper → Option (List CO)
  | [] => some []
  | o :: r => match cOp G P mu o.op, cOpers G P mu nt ops r with
    | some c, some cs => if o.dst.all (· < nt) = true then some (⟨o.dst, cGuard ops o.guard, c⟩ :: cs) else none
    | _, _ => none

def COp.opds : COp → List Opd
  | .mv x => [x]
  | .pick c a b => [c, a, b]
  | .alloc _ => []
  | .box x => [x]
  | .build _ ps => ps.map fun p => p.2.2
  | .bsl _ _ _ ps => ps.map fun p => p.2.2
  | .load _ _ x => [x]
  | .store _ a x => [a, x]
  | .nilc x => [x]
  | .bin _ x y => [x, y]
  | .eqb _ x y => [x, y]
  | .eqnil _ _ x => [x]
  | .un _ x => [x]
  | .conv _ x => [x]
  | .clo _ cs => cs
  | .slc _ x lo hi mx => x :: (lo.toList ++ hi.toList ++ mx.toList)
  | .sls x lo hi => x :: (lo.toList ++ hi.toList)
  | .faddr _ x => [x]
  | .fld _ _ _ x => [x]
  | .iaddr _ x i => [x, i]
  | .idx x i => [x, i]
  | .ext x _ => [x]
  | .len x => [x]
  | .lens x => [x]
  | .app _ _ _ _ s x => [s, x]
  | .eqs _ _ x y => [x, y]
  | .shf _ x y => [x, y]
  | .builda _ ps => ps.map fun p => p.2.2
  | .idxa _ _ _ x i => [x, i]
  | .mm _ args => args
  | .mksl _ _ _ x y => [x, y]
  | .call _ args => args
  | .callv x args => x :: args
  | .frz x => [x]
  | .stuck => []
  | .iaddra _ _ x i => [x, i]
  | .bslm _ _ _ ps => ps.map fun p => p.2.2
  | .mkif _ x => [x]
  | .asrt _ _ _ x => [x]
  | .eqni _ x => [x]
  | .rcv => []
  | .dfr x args => x :: args
  | .pan x => [x]
  | .s2b x => [x]
  | .mmk => []
  | .mlk _ m k => [m, k]
  | .mup m k x => [m, k, x]
  | .mdl m k => [m, k]
  | .eqp _ x y => [x, y]
  | .clr _ x => [x]

def slotsOf : List Opd → List Nat
  | [] => []
  | .t n :: r => n :: slotsOf r
  | .c _ :: r => slotsOf r

def CO.reads (c : CO) : List Nat :=
  slotsOf c.op.opds ++ (match c.guard with | some (some d, _) => [d] | _ => [])

/-- It may change the store. -/
def COp.heavy : COp → Bool
  | .box _ => true
  | .store _ _ _ => true
  | .app _ _ _ _ _ _ => true
  | .mksl _ _ _ _ _ => true
  | .call _ _ => true
  | .callv _ _ => true
  | .frz _ => true
  | .bslm _ _ _ _ => true
  | .rcv => true
  | .dfr _ _ => true
  | .pan _ => true
  | .mmk => true
  | .mlk _ _ _ => true
  | .mup _ _ _ => true
  | .mdl _ _ => true
  | .eqp _ _ _ => true
  | .clr _ _ => true
  | _ => false

def COp.isLoad : COp → Bool
  | .load _ _ _ => true
  | _ => false

def maskOf (acc : List Nat) (es : List Edge) : Nat :=
  es.foldl (fun s e => if Region.binds .any e then s ||| 2 ^ e.on ||| acc.getD e.on 0 else s) 0

/-- Of each operation which ones stand before it in every order. -/
def befs : List Oper → List Nat → List Nat
  | [], acc => acc
  | o :: r, acc => befs r (acc ++ [maskOf acc o.after.toList])

def ordered (B : List Nat) (i j : Nat) : Bool := if i < j then (B.getD j 0).testBit i else (B.getD i 0).testBit j

/-- A store that stands at the end. -/
def isStoreP (c : CO) : Bool := c.guard.isNone && c.dst.isNone && c.op.isStore
/-- Two stores that Go leaves in no order. -/
def lateOf (B : List Nat) (cs : List CO) : Option (Nat × Nat) := (List.range cs.length).findSome? fun j => (List.range j).findSome? fun i => match cs[i]?, cs[j]? with
  | some d, some c => if isStoreP d && isStoreP c && !(ordered B i j) then some (i, j) else none
  | _, _ => none
/-- All that reads, writes or makes memory stands ahead of both. -/
def lateOk (B : List Nat) (cs : List CO) : Option (Nat × Nat) → Bool
  | none => true
  | some (m, q) => decide (m < q) && (match cs[m]?, cs[q]? with | some d, some c => isStoreP d && isStoreP c | _, _ => false) &&
    (List.range cs.length).all fun k => k == m || k == q || (match cs[k]? with
      | some c => !(c.op.heavy || c.op.isLoad || isAlloc c.op) || ((B.getD m 0).testBit k && (B.getD q 0).testBit k)
      | none => true)

def pairOk (B : List Nat) (lp : Option (Nat × Nat)) (chk : List (Nat × Nat)) (i j : Nat) (d c : CO) : Bool :=
  (!(c.op.heavy && d.op.heavy) || ordered B i j || lp == some (i, j) || lp == some (j, i)) &&
  (!(match d.dst with | some t => c.reads.contains t || c.dst == some t | none => false) || ordered B i j) &&
  (!(isAlloc c.op) || (!(d.dst == c.dst) && (j < i || !(match c.dst with | some t => d.reads.contains t | none => false)))) &&
  (!(c.op.isLoad && d.op.heavy) || ordered B i j || chk.contains (j, i))

def oneOk (j : Nat) (o : Oper) (c : CO) : Bool :=
  (o.after.toList.all fun e => !Region.binds .any e || e.on < j) && (!(isAlloc c.op) || (c.guard.isNone && c.dst.isSome))

/-- The loads and the operations that Go leaves in no order and that might meet. -/
def chkOf (ops : Array Oper) (cs : List CO) : List (Nat × Nat) :=
  let B := befs ops.toList []
  ((List.range cs.length).flatMap fun j => (List.range cs.length).filterMap fun i => match cs[i]?, cs[j]? with
    | some d, some c => if c.op.isLoad && d.op.heavy && !(ordered B i j) then some (j, i) else none
    | _, _ => none) ++ (match lateOf B cs with | some (m, q) => [(q, m)] | none => [])

/-- In whatever order a region runs, it comes to the same. -/
def dOk (ops : Array Oper) (cs : List CO) (chk : List (Nat × Nat)) : Bool :=
  let B := befs ops.toList []
  let lp := lateOf B cs
  lateOk B cs lp && (match lp with | some (m, q) => chk.contains (q, m) | none => true) && (List.range cs.length).all fun j => match ops[j]?, cs[j]? with
    | some o, some c => oneOk j o c && (List.range cs.length).all fun i => i == j || (match cs[i]? with | some d => pairOk B lp chk i j d c | none => false)
    | _, _ => false

/-- These slots get what is written no more, or a slice that may be written. -/
def frzOf (fz : List Nat) (c : CO) : CO :=
  match c.dst, c.op with
  | some d, .mv x => if fz.contains d then ⟨some d, c.guard, .frz x⟩ else c
  | some d, .bsl sz len zs ps => if fz.contains d then ⟨some d, c.guard, .bslm sz len zs ps⟩ else c
  | _, _ => c

def cRes (P : Program) : List ResultVar → Option (List CR)
  | [] => some []
  | .tmp t :: r => (cRes P r).map (.tmp t :: ·)
  | .cell t ty :: r => match aggOf P ty, P.info? ty, cRes P r with
    | some g, some i, some rs => some (.cell t g (if g then i.size else 1) :: rs)
    | _, _, _ => none

/-- A function's text. -/
def cCode (G : Glob) (P : Program) (mu : Bool) (fz : List Nat) (nt : Nat) : Code → Option CC
  | .skip => some .skip
  | .region _ ops false => (cOpers G P mu nt ops ops.toList).map fun l => .reg (l.map (frzOf fz))
  | .region _ ops true => match cOpers G P mu nt ops ops.toList with
    | some cs => if dOk ops cs (chkOf ops cs) = true then some (.dreg cs (chkOf ops cs)) else some .bad
    | none => none
  | .seq a b => match cCode G P mu fz nt a, cCode G P mu fz nt b with
    | some a, some b => some (.seq a b)
    | _, _ => none
  | .cond c a b => match cO G c, cCode G P mu fz nt a, cCode G P mu fz nt b with
    | some c, some a, some b => some (.cond c a b)
    | _, _, _ => none
  | .block id b => (cCode G P mu fz nt b).map (.block id)
  | .loop b => (cCode G P mu fz nt b).map .loop
  | .exit id => some (.exit id)
  | .ret => some .ret
  | .rangeFunc f ps a b => match cO G f, cCode G P mu fz nt a, cCode G P mu fz nt b with
    | some f, some a, some b => some (.back f ps.toList a b)
    | _, _, _ => some .bad
  | _ => some .bad

def cFunc (G : Glob) (P : Program) (mu : Bool) (fn : Func) (fz : List Nat := []) : Option CF :=
  match fn.body with
  | some c => match cCode G P mu fz fn.ntmps c, cRes P fn.results.toList with
    | some b, some r => if fn.name == "runtime.NumGoroutine" then none else some ⟨fn.ntmps, r, b⟩
    | _, _ => none
  | none => none

end Go.Am
