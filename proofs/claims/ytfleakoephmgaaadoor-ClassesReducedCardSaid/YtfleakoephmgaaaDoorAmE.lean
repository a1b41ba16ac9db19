/- New memory and stores: what becomes of what the abstract machine knows. Conditions: none. -/
import Derived.Test.YtfleakoephmgaaaDoorAmD
set_option linter.unusedSimpArgs false
set_option linter.unusedVariables false
namespace Go.Am

def pushW (w : World) (o : Obj) : World := { w with heap := w.heap.push o }
def putW (w : World) (b : Nat) (o : Obj) : World := { w with heap := w.heap.setIfInBounds b o }

theorem cell_push {w : World} {o : Obj} {b : Nat} (h : b < w.heap.size) (x : Nat) : (pushW w o).cell? ⟨b, x, none⟩ = w.cell? ⟨b, x, none⟩ := by
  simp only [World.cell?, pushW]
  rw [Array.getElem?_push_lt h, Array.getElem?_eq_getElem h]

theorem heap_push {w : World} {o : Obj} {b : Nat} (h : b < w.heap.size) : (pushW w o).heap[b]? = w.heap[b]? := by
  simp only [pushW]
  rw [Array.getElem?_push_lt h, Array.getElem?_eq_getElem h]

theorem heap_push_new {w : World} {o : Obj} : (pushW w o).heap[w.heap.size]? = some o := by
  show (w.heap.push o)[w.heap.size]? = some o
  exact Array.getElem?_push_size

theorem cell_put {w : World} {o : Obj} {b c : Nat} (h : c ≠ b) (x : Nat) : (putW w b o).cell? ⟨c, x, none⟩ = w.cell? ⟨c, x, none⟩ := by
  simp only [World.cell?, putW]
  rw [Array.getElem?_setIfInBounds_ne (Ne.symm h)]

theorem heap_put {w : World} {o : Obj} {b c : Nat} (h : c ≠ b) : (putW w b o).heap[c]? = w.heap[c]? := by
  simp only [putW]
  rw [Array.getElem?_setIfInBounds_ne (Ne.symm h)]

theorem heap_put_same {w : World} {o : Obj} {b : Nat} (h : b < w.heap.size) : (putW w b o).heap[b]? = some o := by
  simp [putW, h]

def Rho.lay (ρ : Rho) (b : Nat) (l : Lab) : Rho := { ρ with lab := fun c => if c = b then l else ρ.lab c }

theorem imm_lt {ρ : Rho} {s : St} {w : World} (hS : Sim ρ s w) {b o : Nat} (h : Imm ρ b o) : b < w.heap.size := by
  by_cases hb : b < w.heap.size
  · exact hb
  · have := hS.free b (by omega)
    simp [Imm, ImmL, this] at h

theorem blk_lt {ρ : Rho} {s : St} {w : World} (hS : Sim ρ s w) {i : Nat} {cs : List AV} (h : s.obj i = some (.cells cs)) (hp : ρ.pend i = false) : ρ.blk i < w.heap.size := by
  obtain ⟨-, -, vs, rest, ty, hh, -⟩ := hS.cells i cs h hp
  exact (Array.getElem?_eq_some_iff.1 hh).1

theorem pend_new {ρ : Rho} {s : St} {w : World} (hS : Sim ρ s w) : ρ.pend s.size = false := by
  cases h : ρ.pend s.size with
  | false => rfl
  | true => have := (hS.pn _ h).1; omega

/-- A new block that never changes. -/
theorem new_ro {ρ : Rho} {s : St} {w : World} (hS : Sim ρ s w) (cells : Array Value) (ty : TypeId) :
    Fr ρ s w (ρ.lay w.heap.size .ro) s (pushW w (.cells cells ty (0, 0))) ∧ Sim (ρ.lay w.heap.size .ro) s (pushW w (.cells cells ty (0, 0))) := by
  have hm : Mono ρ w s.size (ρ.lay w.heap.size .ro) (pushW w (.cells cells ty (0, 0))) s.size := by
    refine ⟨Nat.le_refl _, ?_, fun _ _ _ => rfl, fun _ _ _ => rfl, fun _ _ => rfl, fun _ _ h => h⟩
    intro b o hi
    have hb := imm_lt hS hi
    refine ⟨?_, cell_push hb o⟩
    simp only [Imm, Rho.lay]
    rw [if_neg (by omega)]
    exact hi
  refine ⟨⟨hm, rfl, rfl, rfl, by simp [pushW], ?_, fun _ _ => rfl, fun _ => rfl⟩, ⟨?_, hS.pn, ?_, ?_, froz_mono hS hm (fun _ _ h => h) (fun _ _ h => h), map_mono hS hm (fun _ _ h => h) (fun i es _ _ hl hlt => ⟨by simp only [Rho.lay]; rw [if_neg (by omega)]; exact hl, heap_push hlt⟩)⟩⟩
  · intro b hb _
    refine ⟨?_, heap_push hb⟩
    simp only [Rho.lay]
    rw [if_neg (by omega)]
  · intro b hb
    simp only [pushW, Array.size_push] at hb
    simp only [Rho.lay]
    rw [if_neg (by omega)]
    exact hS.free b (by omega)
  · intro i cs h hp
    obtain ⟨hi, hl, vs, rest, ty', hh, hvs, ht⟩ := hS.cells i cs h hp
    have hb := blk_lt hS h hp
    refine ⟨hi, ?_, vs, rest, ty', ?_, hvs.mono hm, ht⟩
    · simp only [Rho.lay]; rw [if_neg (by omega)]; exact hl
    · show (pushW w _).heap[ρ.blk i]? = _
      rw [heap_push hb]; exact hh
  · intro t h
    obtain ⟨ht, b, len, cap, z, h1, h2, vs, ty', h3, h4⟩ := hS.right t h
    have hb : b < w.heap.size := (Array.getElem?_eq_some_iff.1 h3).1
    refine ⟨ht, b, len, cap, z, h1, ?_, vs, ty', ?_, h4⟩
    · simp only [Rho.lay]; rw [if_neg (by omega)]; exact h2
    · rw [heap_push hb]; exact h3

/-- A new block of a sort of its own. -/
theorem new_blk {ρ : Rho} {s : St} {w w' : World} (hS : Sim ρ s w) (hos : w'.os = w.os) (htp : w'.tape = w.tape) (hout : w'.output = w.output) (hsz : w'.heap.size = w.heap.size + 1) (hold : ∀ b, b < w.heap.size → w'.heap[b]? = w.heap[b]?) :
    Fr ρ s w (ρ.lay w.heap.size .ro) s w' ∧ Sim (ρ.lay w.heap.size .ro) s w' := by
  have hm : Mono ρ w s.size (ρ.lay w.heap.size .ro) w' s.size := by
    refine ⟨Nat.le_refl _, ?_, fun _ _ _ => rfl, fun _ _ _ => rfl, fun _ _ => rfl, fun _ _ h => h⟩
    intro b o hi
    have hb := imm_lt hS hi
    refine ⟨?_, by simp only [World.cell?, hold b hb]⟩
    simp only [Imm, Rho.lay]
    rw [if_neg (by omega)]
    exact hi
  refine ⟨⟨hm, hos, htp, hout, by omega, ?_, fun _ _ => rfl, fun _ => rfl⟩, ⟨?_, hS.pn, ?_, ?_, froz_mono hS hm (fun _ _ h => h) (fun _ _ h => h), map_mono hS hm (fun _ _ h => h) (fun i es _ _ hl hlt => ⟨by simp only [Rho.lay]; rw [if_neg (by omega)]; exact hl, hold _ hlt⟩)⟩⟩
  · intro b hb _
    refine ⟨?_, hold b hb⟩
    simp only [Rho.lay]
    rw [if_neg (by omega)]
  · intro b hb
    simp only [Rho.lay]
    rw [if_neg (by omega)]
    exact hS.free b (by omega)
  · intro i cs h hp
    obtain ⟨hi, hl, vs, rest, ty', hh, hvs, ht⟩ := hS.cells i cs h hp
    have hb := blk_lt hS h hp
    refine ⟨hi, ?_, vs, rest, ty', ?_, hvs.mono hm, ht⟩
    · simp only [Rho.lay]; rw [if_neg (by omega)]; exact hl
    · show w'.heap[ρ.blk i]? = _
      rw [hold _ hb]; exact hh
  · intro t h
    obtain ⟨ht, b, len, cap, z, h1, h2, vs, ty', h3, h4⟩ := hS.right t h
    have hb : b < w.heap.size := (Array.getElem?_eq_some_iff.1 h3).1
    refine ⟨ht, b, len, cap, z, h1, ?_, vs, ty', ?_, h4⟩
    · simp only [Rho.lay]; rw [if_neg (by omega)]; exact h2
    · rw [hold _ hb]; exact h3

def Rho.newObj (ρ : Rho) (b i n : Nat) : Rho :=
  { ρ with lab := fun c => if c = b then .obj i else ρ.lab c, blk := fun j => if j = i then b else ρ.blk j, tot := fun j => if j = i then n else ρ.tot j }

/-- A new object. -/
theorem new_obj {ρ : Rho} {s : St} {w : World} (hS : Sim ρ s w) {cs : List AV} {vs rest : List Value} (hv : Vs ρ w s.size cs vs) (ty : TypeId) :
    Fr ρ s w (ρ.newObj w.heap.size s.size (vs ++ rest).length) (s.new (.cells cs)) (pushW w (.cells (vs ++ rest).toArray ty (0, 0))) ∧
      Sim (ρ.newObj w.heap.size s.size (vs ++ rest).length) (s.new (.cells cs)) (pushW w (.cells (vs ++ rest).toArray ty (0, 0))) := by
  have hm : Mono ρ w s.size (ρ.newObj w.heap.size s.size (vs ++ rest).length) (pushW w (.cells (vs ++ rest).toArray ty (0, 0))) (s.new (.cells cs)).size := by
    refine ⟨by simp [St.new], ?_, ?_, ?_, fun _ _ => rfl, fun _ _ h => h⟩
    · intro b o hi
      have hb := imm_lt hS hi
      refine ⟨?_, cell_push hb o⟩
      simp only [Imm, Rho.newObj]
      rw [if_neg (by omega)]
      exact hi
    · intro i hi _; simp only [Rho.newObj]; rw [if_neg (by omega)]
    · intro i hi _; simp only [Rho.newObj]; rw [if_neg (by omega)]
  refine ⟨⟨hm, rfl, rfl, rfl, by simp [pushW], ?_, fun i hp => by simp only [St.new]; rw [if_neg (by have := (hS.pn i hp).1; omega)], fun _ => rfl⟩, ⟨?_, ?_, ?_, ?_, froz_mono hS hm (fun _ _ h => h) (fun i cs h => by simp only [St.new] at h; split at h <;> first | exact h | cases h), map_mono hS hm (fun i es h => by simp only [St.new] at h; split at h <;> first | exact h | cases h) (fun i es _ _ hl hlt => ⟨by simp only [Rho.newObj]; rw [if_neg (by omega)]; exact hl, heap_push hlt⟩)⟩⟩
  · intro b hb _
    refine ⟨?_, heap_push hb⟩
    simp only [Rho.newObj]
    rw [if_neg (by omega)]
  · intro b hb
    simp only [pushW, Array.size_push] at hb
    simp only [Rho.newObj]
    rw [if_neg (by omega)]
    exact hS.free b (by omega)
  · intro i hp
    obtain ⟨hlt, hne⟩ := hS.pn i hp
    refine ⟨by simp only [St.new]; omega, ?_⟩
    simp only [St.new]
    rw [if_neg (by omega)]
    exact hne
  · intro i cs' h hp
    simp only [St.new] at h
    split at h
    · rename_i hi
      cases h
      subst hi
      refine ⟨by simp [St.new], by simp [Rho.newObj], vs, rest, ty, ?_, hv.mono hm, by simp [Rho.newObj]⟩
      simp only [Rho.newObj, if_true]
      exact heap_push_new
    · rename_i hi
      obtain ⟨hi', hl, vs', rest', ty', hh, hvs, ht⟩ := hS.cells i cs' h hp
      have hb := blk_lt hS h hp
      refine ⟨by simp only [St.new]; omega, ?_, vs', rest', ty', ?_, hvs.mono hm, ?_⟩
      · simp only [Rho.newObj, if_neg hi]; rw [if_neg (by omega)]; exact hl
      · simp only [Rho.newObj, if_neg hi]; rw [heap_push hb]; exact hh
      · simp only [Rho.newObj, if_neg hi]; exact ht
  · intro t h
    simp only [St.new] at h
    split at h
    · cases h
    · obtain ⟨ht, b, len, cap, z, h1, h2, vs', ty', h3, h4⟩ := hS.right t h
      have hb : b < w.heap.size := (Array.getElem?_eq_some_iff.1 h3).1
      refine ⟨by simp only [St.new]; omega, b, len, cap, z, h1, ?_, vs', ty', ?_, h4⟩
      · simp only [Rho.newObj]; rw [if_neg (by omega)]; exact h2
      · rw [heap_push hb]; exact h3

def Rho.newRight (ρ : Rho) (b t len cap z : Nat) : Rho :=
  { ρ with lab := fun c => if c = b then .grow t (len * z) else ρ.lab c, rt := fun j => if j = t then (b, len, cap, z) else ρ.rt j }

/-- A new block that grows. -/
theorem new_right {ρ : Rho} {s : St} {w : World} (hS : Sim ρ s w) {vs : List Value} (len cap z : Nat) (hl : vs.length = cap * z) (ty : TypeId) :
    Fr ρ s w (ρ.newRight w.heap.size s.size len cap z) (s.new .right) (pushW w (.cells vs.toArray ty (0, 0))) ∧
      Sim (ρ.newRight w.heap.size s.size len cap z) (s.new .right) (pushW w (.cells vs.toArray ty (0, 0))) := by
  have hm : Mono ρ w s.size (ρ.newRight w.heap.size s.size len cap z) (pushW w (.cells vs.toArray ty (0, 0))) (s.new .right).size := by
    refine ⟨by simp [St.new], ?_, fun _ _ _ => rfl, fun _ _ _ => rfl, ?_, fun _ _ h => h⟩
    · intro b o hi
      have hb := imm_lt hS hi
      refine ⟨?_, cell_push hb o⟩
      simp only [Imm, Rho.newRight]
      rw [if_neg (by omega)]
      exact hi
    · intro i hi; simp only [Rho.newRight]; rw [if_neg (by omega)]
  refine ⟨⟨hm, rfl, rfl, rfl, by simp [pushW], ?_, fun i hp => by simp only [St.new]; rw [if_neg (by have := (hS.pn i hp).1; omega)], fun _ => rfl⟩, ⟨?_, ?_, ?_, ?_, froz_mono hS hm (fun _ _ h => h) (fun i cs h => by simp only [St.new] at h; split at h <;> first | exact h | cases h), map_mono hS hm (fun i es h => by simp only [St.new] at h; split at h <;> first | exact h | cases h) (fun i es _ _ hl hlt => ⟨by simp only [Rho.newRight]; rw [if_neg (by omega)]; exact hl, heap_push hlt⟩)⟩⟩
  · intro b hb _
    refine ⟨?_, heap_push hb⟩
    simp only [Rho.newRight]
    rw [if_neg (by omega)]
  · intro b hb
    simp only [pushW, Array.size_push] at hb
    simp only [Rho.newRight]
    rw [if_neg (by omega)]
    exact hS.free b (by omega)
  · intro i hp
    obtain ⟨hlt, hne⟩ := hS.pn i hp
    refine ⟨by simp only [St.new]; omega, ?_⟩
    simp only [St.new]
    rw [if_neg (by omega)]
    exact hne
  · intro i cs' h hp
    simp only [St.new] at h
    split at h
    · cases h
    · obtain ⟨hi', hl, vs', rest', ty', hh, hvs, ht⟩ := hS.cells i cs' h hp
      have hb := blk_lt hS h hp
      refine ⟨by simp only [St.new]; omega, ?_, vs', rest', ty', ?_, hvs.mono hm, ht⟩
      · simp only [Rho.newRight]; rw [if_neg (by omega)]; exact hl
      · show (pushW w _).heap[ρ.blk i]? = _
        rw [heap_push hb]; exact hh
  · intro t h
    simp only [St.new] at h
    split at h
    · rename_i ht
      subst ht
      exact ⟨by simp [St.new], w.heap.size, len, cap, z, by simp [Rho.newRight], by simp [Rho.newRight], vs, ty, heap_push_new, hl⟩
    · rename_i hne
      obtain ⟨ht, b, len', cap', z', h1, h2, vs', ty', h3, h4⟩ := hS.right t h
      have hb : b < w.heap.size := (Array.getElem?_eq_some_iff.1 h3).1
      refine ⟨by simp only [St.new]; omega, b, len', cap', z', ?_, ?_, vs', ty', ?_, h4⟩
      · simp only [Rho.newRight, if_neg hne]; exact h1
      · simp only [Rho.newRight]; rw [if_neg (by omega)]; exact h2
      · rw [heap_push hb]; exact h3

end Go.Am

/- Stores, and growth in place. Conditions: none. -/
namespace Go.Am

def setV (cs : List Value) (off : Nat) : List Value → List Value
  | [] => cs
  | v :: vs => setV (cs.set off v) (off + 1) vs

theorem setV_length : ∀ (vs cs : List Value) (off : Nat), (setV cs off vs).length = cs.length
  | [], _, _ => rfl
  | v :: vs, cs, off => by simp [setV, setV_length vs]

theorem setAt_V {ρ : Rho} {w : World} {n : Nat} : ∀ {as : List AV} {us : List Value} {cs : List AV} {vs : List Value} (off : Nat), Vs ρ w n as us → Vs ρ w n cs vs → Vs ρ w n (setAt cs off as) (setV vs off us)
  | _, _, _, _, _, .nil, h => h
  | _, _, _, _, off, .cons a v as us ha has, h => by
    simp only [setAt, setV]
    exact setAt_V (off + 1) has (h.set off ha)

theorem setV_append : ∀ (us vs rest : List Value) (off : Nat), off + us.length ≤ vs.length → setV (vs ++ rest) off us = setV vs off us ++ rest
  | [], _, _, _, _ => rfl
  | u :: us, vs, rest, off, h => by
    simp only [List.length_cons] at h
    simp only [setV]
    rw [List.set_append_left _ _ (by omega)]
    exact setV_append us (vs.set off u) rest (off + 1) (by simp; omega)

theorem setV_get : ∀ (us vs : List Value) (off j : Nat), j < off → (setV vs off us)[j]? = vs[j]?
  | [], _, _, _, _ => rfl
  | u :: us, vs, off, j, h => by
    simp only [setV]
    rw [setV_get us _ (off + 1) j (by omega), List.getElem?_set_ne (by omega)]

theorem setV_new : ∀ (us vs : List Value) (off j : Nat), off + us.length ≤ vs.length → j < us.length → (setV vs off us)[off + j]? = us[j]?
  | [], _, _, _, _, h => by simp at h
  | u :: us, vs, off, j, hl, h => by
    simp only [List.length_cons] at hl h
    simp only [setV]
    cases j with
    | zero =>
      rw [setV_get us _ (off + 1) (off + 0) (by omega)]
      have hlt : off < vs.length := by omega
      simp [hlt]
    | succ j =>
      rw [show off + (j + 1) = off + 1 + j by omega, setV_new us _ (off + 1) j (by simp; omega) (by omega)]
      simp

theorem setV_after : ∀ (us vs : List Value) (off j : Nat), off + us.length ≤ j → (setV vs off us)[j]? = vs[j]?
  | [], _, _, _, _ => rfl
  | u :: us, vs, off, j, h => by
    simp only [List.length_cons] at h
    simp only [setV]
    rw [setV_after us _ (off + 1) j (by omega), List.getElem?_set_ne (by omega)]

theorem putW_same {w : World} {b : Nat} {o : Obj} (h : w.heap[b]? = some o) : putW w b o = w := by
  have hb := (Array.getElem?_eq_some_iff.1 h)
  obtain ⟨hlt, he⟩ := hb
  unfold putW
  congr 1
  apply Array.ext_getElem?
  intro i
  by_cases hi : i = b
  · subst hi; simp [hlt, he]
  · rw [Array.getElem?_setIfInBounds_ne (Ne.symm hi)]

theorem putW_putW (w : World) (b : Nat) (o o' : Obj) : putW (putW w b o) b o' = putW w b o' := by
  unfold putW
  congr 1
  apply Array.ext_getElem?
  intro i
  by_cases hi : i = b
  · subst hi; simp [Array.getElem?_setIfInBounds]
  · rw [Array.getElem?_setIfInBounds_ne (Ne.symm hi), Array.getElem?_setIfInBounds_ne (Ne.symm hi), Array.getElem?_setIfInBounds_ne (Ne.symm hi)]

theorem setCell_putW {w : World} {b o : Nat} {cs : List Value} {ty : TypeId} (h : w.heap[b]? = some (.cells cs.toArray ty (0, 0))) (v : Value) :
    w.setCell ⟨b, o, none⟩ v = putW w b (.cells (cs.set o v).toArray ty (0, 0)) := by
  obtain ⟨hlt, he⟩ := Array.getElem?_eq_some_iff.1 h
  unfold World.setCell putW
  congr 1
  apply Array.ext_getElem?
  intro i
  by_cases hi : i = b
  · subst hi
    rw [Array.getElem?_modify, if_pos rfl, h]
    simp [hlt]
  · rw [Array.getElem?_setIfInBounds_ne (Ne.symm hi)]
    simp [Array.getElem?_modify, Ne.symm hi]

theorem storeCells_run {P : Program} : ∀ (vs : List Value) {w : World} {b o k : Nat} {cs : List Value} {ty : TypeId} (_ : w.heap[b]? = some (.cells cs.toArray ty (0, 0)))
    (_ : o + k + vs.length ≤ cs.length) (_ : ∀ v, v ∈ vs → v.oneCell' = true),
    (storeCells ⟨b, o, none⟩ vs k).run P w = .ok () (putW w b (.cells (setV cs (o + k) vs).toArray ty (0, 0)))
  | [], w, b, o, k, cs, ty, h, _, _ => by
    simp only [storeCells, setV]
    rw [putW_same h]
    rfl
  | v :: vs, w, b, o, k, cs, ty, h, hl, h1 => by
    simp only [List.length_cons] at hl
    have hlt := (Array.getElem?_eq_some_iff.1 h).1
    have hc : w.cell? ⟨b, o + k, none⟩ = some (cs[o + k]'(by omega)) := by
      simp [World.cell?, h, show o + k < cs.length by omega]
    have hf : w.frozen? ⟨b, o + k, none⟩ = false := by simp [World.frozen?, h]
    have ih := storeCells_run (P := P) vs (w := putW w b (.cells (cs.set (o + k) v).toArray ty (0, 0))) (b := b) (o := o) (k := k + 1) (cs := cs.set (o + k) v) (ty := ty) (heap_put_same hlt) (by simp; omega) (fun u hu => h1 u (by simp [hu]))
    simp only [storeCells, Sem.run_bind, Addr.add_lit]
    rw [run_store P w _ v _ (h1 v (by simp)), hc]
    simp only [hf, Bool.false_eq_true, if_false, Result.andThen]
    rw [setCell_putW h v, ih, putW_putW]
    rfl

theorem one_V {ρ : Rho} {w : World} {n : Nat} {a : AV} {v : Value} (h : V ρ w n a v) (ho : a.one = true) : v.oneCell' = true := by
  cases h <;> first | rfl | simp [AV.one] at ho

theorem ones_V {ρ : Rho} {w : World} {n : Nat} : ∀ {as : List AV} {vs : List Value}, Vs ρ w n as vs → as.all AV.one = true → ∀ v, v ∈ vs → v.oneCell' = true
  | _, _, .nil, _, v, hv => by simp at hv
  | _, _, .cons a u as vs h hs, ho, v, hv => by
    simp only [List.all_cons, Bool.and_eq_true] at ho
    rcases List.mem_cons.1 hv with rfl | hv
    · exact one_V h ho.1
    · exact ones_V hs ho.2 v hv

theorem still_one {as : List AV} (h : as.all AV.still = true) : as.all AV.one = true := by
  rw [List.all_eq_true] at h ⊢
  intro a ha
  have := h a ha
  cases a <;> first | rfl | simp [AV.still] at this

/-- An object is written. -/
theorem put_obj {ρ : Rho} {s : St} {w : World} (hS : Sim ρ s w) {i : Nat} {cs cs' : List AV} {vs' rest : List Value} {ty : TypeId} (h : s.obj i = some (.cells cs)) (hp : ρ.pend i = false)
    (hv : Vs ρ w s.size cs' vs') (hl : (vs' ++ rest).length = ρ.tot i) :
    Fr ρ s w ρ (s.put i (some (.cells cs'))) (putW w (ρ.blk i) (.cells (vs' ++ rest).toArray ty (0, 0))) ∧
      Sim ρ (s.put i (some (.cells cs'))) (putW w (ρ.blk i) (.cells (vs' ++ rest).toArray ty (0, 0))) := by
  have hb := blk_lt hS h hp
  obtain ⟨hi, hlab, -⟩ := hS.cells i cs h hp
  have hm : Mono ρ w s.size ρ (putW w (ρ.blk i) (.cells (vs' ++ rest).toArray ty (0, 0))) (s.put i (some (.cells cs'))).size := by
    refine ⟨Nat.le_refl _, ?_, fun _ _ _ => rfl, fun _ _ _ => rfl, fun _ _ => rfl, fun _ _ h => h⟩
    intro b o him
    refine ⟨him, cell_put ?_ o⟩
    rintro rfl
    simp [Imm, ImmL, hlab] at him
  refine ⟨⟨hm, rfl, rfl, rfl, by simp [putW], ?_, fun j hj => by simp only [St.put]; rw [if_neg (by rintro rfl; rw [hp] at hj; cases hj)], fun _ => rfl⟩, ⟨?_, ?_, ?_, ?_, froz_mono hS hm (fun _ _ h => h) (fun j cs h => by simp only [St.put, St.new] at h; (repeat' split at h) <;> first | exact h | cases h), map_mono hS hm (fun j es h => by simp only [St.put, St.new] at h; (repeat' split at h) <;> first | exact h | cases h) (fun j es h0 _ hl hlt => ⟨hl, heap_put (by intro he; rw [he, hlab] at hl; obtain rfl := Lab.obj.inj hl; rw [h] at h0; cases h0)⟩)⟩⟩
  · intro b hlt hk
    refine ⟨rfl, heap_put ?_⟩
    rintro rfl
    rw [hlab] at hk
    rcases hk with hk | hk <;> cases hk
  · intro b hb'
    simp only [putW, Array.size_setIfInBounds] at hb'
    exact hS.free b hb'
  · intro j hj
    obtain ⟨hlt, hne⟩ := hS.pn j hj
    refine ⟨hlt, ?_⟩
    simp only [St.put]
    rw [if_neg (by rintro rfl; rw [hp] at hj; cases hj)]
    exact hne
  · intro j cs0 hj hpj
    simp only [St.put] at hj
    split at hj
    · rename_i hji
      subst hji
      cases hj
      exact ⟨hi, hlab, vs', rest, ty, heap_put_same hb, hv.mono hm, hl⟩
    · rename_i hji
      obtain ⟨hj', hl', vs0, rest0, ty0, hh0, hv0, ht0⟩ := hS.cells j cs0 hj hpj
      refine ⟨hj', hl', vs0, rest0, ty0, ?_, hv0.mono hm, ht0⟩
      rw [heap_put]
      · exact hh0
      · intro he
        rw [he, hlab] at hl'
        exact hji (Lab.obj.inj hl').symm
  · intro t ht
    simp only [St.put] at ht
    split at ht
    · cases ht
    · obtain ⟨ht', b, len, cap, z, h1, h2, vs0, ty0, h3, h4⟩ := hS.right t ht
      refine ⟨ht', b, len, cap, z, h1, h2, vs0, ty0, ?_, h4⟩
      rw [heap_put]
      · exact h3
      · rintro rfl
        rw [hlab] at h2
        cases h2

/-- A slice grows in place: its right goes over to the longer one. -/
theorem grow_right {ρ : Rho} {s : St} {w : World} (hS : Sim ρ s w) {t b len cap z m : Nat} (h : s.obj t = some .right) (hrt : ρ.rt t = (b, len, cap, z)) (hm0 : len + m ≤ cap) {us vs : List Value} {ty : TypeId}
    (hh : w.heap[b]? = some (.cells vs.toArray ty (0, 0))) (hu : us.length = m * z) :
    Fr ρ s w (ρ.newRight b s.size (len + m) cap z) ((s.put t none).new .right) (putW w b (.cells (setV vs (len * z) us).toArray ty (0, 0))) ∧
      Sim (ρ.newRight b s.size (len + m) cap z) ((s.put t none).new .right) (putW w b (.cells (setV vs (len * z) us).toArray ty (0, 0))) := by
  obtain ⟨ht, b', len', cap', z', h1, hlab, vs1, ty1, h3, h4⟩ := hS.right t h
  rw [hrt] at h1
  obtain ⟨rfl, rfl, rfl, rfl⟩ : b = b' ∧ len = len' ∧ cap = cap' ∧ z = z' := by
    simp only [Prod.mk.injEq] at h1; exact ⟨h1.1, h1.2.1, h1.2.2.1, h1.2.2.2⟩
  rw [hh] at h3
  have h3' : vs = vs1 := by
    have := Option.some.inj h3
    simp only [Obj.cells.injEq] at this
    exact List.toArray_inj this.1
  subst h3'
  have hb := (Array.getElem?_eq_some_iff.1 hh).1
  have hmul : (len + m) * z = len * z + m * z := Nat.add_mul _ _ _
  have hle : (len + m) * z ≤ cap * z := Nat.mul_le_mul_right z hm0
  have hm : Mono ρ w s.size (ρ.newRight b s.size (len + m) cap z) (putW w b (.cells (setV vs (len * z) us).toArray ty (0, 0))) ((s.put t none).new .right).size := by
    refine ⟨by simp [St.new, St.put], ?_, fun _ _ _ => rfl, fun _ _ _ => rfl, ?_, fun _ _ h => h⟩
    · intro c o him
      by_cases hc : c = b
      · subst hc
        simp only [Imm, ImmL, hlab] at him
        refine ⟨by simp only [Imm, ImmL, Rho.newRight, if_true]; omega, ?_⟩
        simp only [World.cell?, heap_put_same hb, hh]
        simp [setV_get us vs (len * z) o him]
      · refine ⟨?_, cell_put hc o⟩
        simp only [Imm, Rho.newRight, if_neg hc]
        exact him
    · intro j hj; simp only [Rho.newRight]; rw [if_neg (by omega)]
  have hne0 : ∀ j, ρ.pend j = true → j ≠ s.size ∧ j ≠ t := fun j hj => by
    obtain ⟨hlt, hnr⟩ := hS.pn j hj
    exact ⟨by omega, by rintro rfl; exact hnr h⟩
  have hobj : ∀ j, ρ.pend j = true → ((s.put t none).new .right).obj j = s.obj j := fun j hj => by
    obtain ⟨h1, h2⟩ := hne0 j hj
    show (if j = s.size then some AO.right else if j = t then none else s.obj j) = _
    rw [if_neg h1, if_neg h2]
  refine ⟨⟨hm, rfl, rfl, rfl, by simp [putW], ?_, hobj, fun _ => rfl⟩, ⟨?_, ?_, ?_, ?_, froz_mono hS hm (fun _ _ h => h) (fun j cs h => by have h' : (if j = s.size then some (AO.right) else if j = t then none else s.obj j) = some (AO.froz cs) := h; split at h'; cases h'; split at h'; cases h'; exact h'), map_mono hS hm (fun j es h => by have h' : (if j = s.size then some (AO.right) else if j = t then none else s.obj j) = some (AO.map es) := h; split at h'; cases h'; split at h'; cases h'; exact h') (fun j es h0 _ hl hlt => by
      have hne : ρ.blk j ≠ b := by intro he; rw [he, hlab] at hl; cases hl
      exact ⟨by simp only [Rho.newRight, if_neg hne]; exact hl, heap_put hne⟩)⟩⟩
  · intro c hlt hk
    have hc : c ≠ b := by
      rintro rfl
      rw [hlab] at hk
      rcases hk with hk | hk <;> cases hk
    exact ⟨by simp only [Rho.newRight, if_neg hc], heap_put hc⟩
  · intro c hc
    simp only [putW, Array.size_setIfInBounds] at hc
    simp only [Rho.newRight]
    rw [if_neg (by omega)]
    exact hS.free c hc
  · intro j hj
    obtain ⟨hlt, hnr⟩ := hS.pn j hj
    exact ⟨by simp only [St.new, St.put]; omega, by rw [hobj j hj]; exact hnr⟩
  · intro j cs0 hj hpj
    replace hj : (if j = s.size then some AO.right else if j = t then none else s.obj j) = some (.cells cs0) := hj
    by_cases hjs : j = s.size
    · rw [if_pos hjs] at hj; cases hj
    · rw [if_neg hjs] at hj
      by_cases hjt : j = t
      · rw [if_pos hjt] at hj; cases hj
      · rw [if_neg hjt] at hj
        obtain ⟨hj', hl', vs0, rest0, ty0, hh0, hv0, ht0⟩ := hS.cells j cs0 hj hpj
        have hne : ρ.blk j ≠ b := by
          intro he
          rw [he, hlab] at hl'
          cases hl'
        refine ⟨by simp only [St.new, St.put]; omega, by simp only [Rho.newRight, if_neg hne]; exact hl', vs0, rest0, ty0, ?_, hv0.mono hm, ht0⟩
        show (putW w b _).heap[ρ.blk j]? = _
        rw [heap_put hne]; exact hh0
  · intro u hu'
    replace hu' : (if u = s.size then some AO.right else if u = t then none else s.obj u) = some .right := hu'
    by_cases hus : u = s.size
    · subst hus
      refine ⟨by simp [St.new, St.put], b, len + m, cap, z, by simp [Rho.newRight], by simp [Rho.newRight], _, ty, heap_put_same hb, ?_⟩
      rw [setV_length]; exact h4
    · rw [if_neg hus] at hu'
      by_cases hut : u = t
      · rw [if_pos hut] at hu'; cases hu'
      · rw [if_neg hut] at hu'
        obtain ⟨hu2, b2, len2, cap2, z2, g1, g2, vs2, ty2, g3, g4⟩ := hS.right u hu'
        have hne : b2 ≠ b := by
          rintro rfl
          rw [hlab] at g2
          simp only [Lab.grow.injEq] at g2
          exact hut g2.1.symm
        refine ⟨by simp only [St.new, St.put]; omega, b2, len2, cap2, z2, by simp only [Rho.newRight, if_neg hus]; exact g1, by simp only [Rho.newRight, if_neg hne]; exact g2, vs2, ty2, ?_, g4⟩
        rw [heap_put hne]; exact g3

theorem kill_sim {ρ : Rho} {s : St} {w : World} (hS : Sim ρ s w) (i : Nat) (hp : ρ.pend i = false) : Fr ρ s w ρ (s.put i none) w ∧ Sim ρ (s.put i none) w := by
  have hobj : ∀ j, ρ.pend j = true → (s.put i none).obj j = s.obj j := fun j hj => by
    simp only [St.put]
    rw [if_neg (by rintro rfl; rw [hp] at hj; cases hj)]
  refine ⟨⟨⟨Nat.le_refl _, fun _ _ h => ⟨h, rfl⟩, fun _ _ _ => rfl, fun _ _ _ => rfl, fun _ _ => rfl, fun _ _ h => h⟩, rfl, rfl, rfl, Nat.le_refl _, fun _ _ _ => ⟨rfl, rfl⟩, hobj, fun _ => rfl⟩, ⟨hS.free, ?_, ?_, ?_, froz_mono hS ⟨Nat.le_refl _, fun _ _ h => ⟨h, rfl⟩, fun _ _ _ => rfl, fun _ _ _ => rfl, fun _ _ => rfl, fun _ _ h => h⟩ (fun _ _ h => h) (fun j cs h => by simp only [St.put, St.new] at h; (repeat' split at h) <;> first | exact h | cases h), map_mono hS ⟨Nat.le_refl _, fun _ _ h => ⟨h, rfl⟩, fun _ _ _ => rfl, fun _ _ _ => rfl, fun _ _ => rfl, fun _ _ h => h⟩ (fun j es h => by simp only [St.put, St.new] at h; (repeat' split at h) <;> first | exact h | cases h) (fun j es _ _ hl _ => ⟨hl, rfl⟩)⟩⟩
  · intro j hj
    obtain ⟨hlt, hne⟩ := hS.pn j hj
    exact ⟨hlt, by rw [hobj j hj]; exact hne⟩
  · intro j cs h hpj
    simp only [St.put] at h
    split at h
    · cases h
    · exact hS.cells j cs h hpj
  · intro j h
    simp only [St.put] at h
    split at h
    · cases h
    · exact hS.right j h

/-- An array that is written grows in place: its block goes over to the longer one. -/
theorem grow_obj {ρ : Rho} {s : St} {w : World} (hS : Sim ρ s w) {i : Nat} {cs cs' : List AV} (h : s.obj i = some (.cells cs)) (hp : ρ.pend i = false) {vs' rest : List Value} {ty : TypeId}
    (hv : Vs ρ w s.size cs' vs') (hl : (vs' ++ rest).length = ρ.tot i) :
    Fr ρ s w (ρ.newObj (ρ.blk i) s.size (ρ.tot i)) ((s.put i none).new (.cells cs')) (putW w (ρ.blk i) (.cells (vs' ++ rest).toArray ty (0, 0))) ∧
      Sim (ρ.newObj (ρ.blk i) s.size (ρ.tot i)) ((s.put i none).new (.cells cs')) (putW w (ρ.blk i) (.cells (vs' ++ rest).toArray ty (0, 0))) := by
  have hb := blk_lt hS h hp
  obtain ⟨hi, hlab, -⟩ := hS.cells i cs h hp
  have hm : Mono ρ w s.size (ρ.newObj (ρ.blk i) s.size (ρ.tot i)) (putW w (ρ.blk i) (.cells (vs' ++ rest).toArray ty (0, 0))) ((s.put i none).new (.cells cs')).size := by
    refine ⟨by simp [St.new, St.put], ?_, ?_, ?_, fun _ _ => rfl, fun _ _ h => h⟩
    · intro b o him
      have hne : b ≠ ρ.blk i := by
        rintro rfl
        simp [Imm, ImmL, hlab] at him
      refine ⟨?_, cell_put hne o⟩
      simp only [Imm, Rho.newObj, if_neg hne]
      exact him
    · intro j hj _; simp only [Rho.newObj]; rw [if_neg (by omega)]
    · intro j hj _; simp only [Rho.newObj]; rw [if_neg (by omega)]
  have hobj : ∀ j, ρ.pend j = true → ((s.put i none).new (.cells cs')).obj j = s.obj j := fun j hj => by
    have h1 := (hS.pn j hj).1
    have h2 : j ≠ i := by rintro rfl; rw [hp] at hj; cases hj
    show (if j = s.size then some (AO.cells cs') else if j = i then none else s.obj j) = _
    rw [if_neg (by omega), if_neg h2]
  refine ⟨⟨hm, rfl, rfl, rfl, by simp [putW], ?_, hobj, fun _ => rfl⟩, ⟨?_, ?_, ?_, ?_, froz_mono hS hm (fun _ _ h => h) (fun j cs h => by have h' : (if j = s.size then some (AO.cells cs') else if j = i then none else s.obj j) = some (AO.froz cs) := h; split at h'; cases h'; split at h'; cases h'; exact h'), map_mono hS hm (fun j es h => by have h' : (if j = s.size then some (AO.cells cs') else if j = i then none else s.obj j) = some (AO.map es) := h; split at h'; cases h'; split at h'; cases h'; exact h') (fun j es h0 _ hl hlt => by
      have hne : ρ.blk j ≠ ρ.blk i := by intro he; rw [he, hlab] at hl; obtain rfl := Lab.obj.inj hl; rw [h] at h0; cases h0
      exact ⟨by simp only [Rho.newObj, if_neg hne]; exact hl, heap_put hne⟩)⟩⟩
  · intro b hlt hk
    have hne : b ≠ ρ.blk i := by
      rintro rfl
      rw [hlab] at hk
      rcases hk with hk | hk <;> cases hk
    exact ⟨by simp only [Rho.newObj, if_neg hne], heap_put hne⟩
  · intro b hb'
    simp only [putW, Array.size_setIfInBounds] at hb'
    simp only [Rho.newObj]
    rw [if_neg (by omega)]
    exact hS.free b hb'
  · intro j hj
    obtain ⟨hlt, hnr⟩ := hS.pn j hj
    exact ⟨by simp only [St.new, St.put]; omega, by rw [hobj j hj]; exact hnr⟩
  · intro j cs0 hj hpj
    replace hj : (if j = s.size then some (AO.cells cs') else if j = i then none else s.obj j) = some (.cells cs0) := hj
    by_cases hjs : j = s.size
    · rw [if_pos hjs] at hj
      cases hj
      subst hjs
      refine ⟨by simp [St.new, St.put], by simp [Rho.newObj], vs', rest, ty, ?_, hv.mono hm, by simp only [Rho.newObj, if_true]; exact hl⟩
      simp only [Rho.newObj, if_true]
      exact heap_put_same hb
    · rw [if_neg hjs] at hj
      by_cases hji : j = i
      · rw [if_pos hji] at hj; cases hj
      · rw [if_neg hji] at hj
        obtain ⟨hj', hl', vs0, rest0, ty0, hh0, hv0, ht0⟩ := hS.cells j cs0 hj hpj
        have hne : ρ.blk j ≠ ρ.blk i := by
          intro he
          rw [he, hlab] at hl'
          exact hji (Lab.obj.inj hl').symm
        refine ⟨by simp only [St.new, St.put]; omega, ?_, vs0, rest0, ty0, ?_, hv0.mono hm, ?_⟩
        · simp only [Rho.newObj, if_neg hjs, if_neg hne]; exact hl'
        · simp only [Rho.newObj, if_neg hjs]; rw [heap_put hne]; exact hh0
        · simp only [Rho.newObj, if_neg hjs]; exact ht0
  · intro t ht
    replace ht : (if t = s.size then some (AO.cells cs') else if t = i then none else s.obj t) = some .right := ht
    by_cases hts : t = s.size
    · rw [if_pos hts] at ht; cases ht
    · rw [if_neg hts] at ht
      by_cases hti : t = i
      · rw [if_pos hti] at ht; cases ht
      · rw [if_neg hti] at ht
        obtain ⟨ht', b, len, cap, z, h1, h2, vs0, ty0, h3, h4⟩ := hS.right t ht
        have hne : b ≠ ρ.blk i := by
          rintro rfl
          rw [hlab] at h2
          cases h2
        refine ⟨by simp only [St.new, St.put]; omega, b, len, cap, z, h1, ?_, vs0, ty0, ?_, h4⟩
        · simp only [Rho.newObj, if_neg hne]; exact h2
        · rw [heap_put hne]; exact h3

end Go.Am
