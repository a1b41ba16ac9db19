/- New memory and stores: what becomes of what the abstract machine knows. Conditions: none. -/
import Derived.Test.YtfleakoephmgaaaDoorAmD
set_option linter.unusedSimpArgs false
set_option linter.unusedVariables false
namespace Go.Am

def pushW (w : World) (o : Obj) : World := { w with heap := w.heap.push o }
def putW (w : World) (b : Nat) (o : Obj) : World := { w with heap := w.heap.setIfInBounds b o }

theorem cell_push {w : World} {o : Obj} {b : Nat} (h : b < w.heap.size) (x : Nat) : (pushW w o).cell? ⟨b, x, none⟩ = w.cell? ⟨b, x, none⟩ := by
  simp only [World.cell?, pushW]
  rw [Array.getElem?_push_lt h, Array.getElem?_eq_getElem h]

theorem heap_push {w : World} {o : Obj} {b : Nat} (h : b < w.heap.size) : (pushW w o).heap[b]? = w.heap[b]? := by
  simp only [pushW]
  rw [Array.getElem?_push_lt h, Array.getElem?_eq_getElem h]

theorem heap_push_new {w : World} {o : Obj} : (pushW w o).heap[w.heap.size]? = some o := by
  show (w.heap.push o)[w.heap.size]? = some o
  exact Array.getElem?_push_size

theorem cell_put {w : World} {o : Obj} {b c : Nat} (h : c ≠ b) (x : Nat) : (putW w b o).cell? ⟨c, x, none⟩ = w.cell? ⟨c, x, none⟩ := by
  simp only [World.cell?, putW]
  rw [Array.getElem?_setIfInBounds_ne (Ne.symm h)]

theorem heap_put {w : World} {o : Obj} {b c : Nat} (h : c ≠ b) : (putW w b o).heap[c]? = w.heap[c]? := by
  simp only [putW]
  rw [Array.getElem?_setIfInBounds_ne (Ne.symm h)]

theorem heap_put_same {w : World} {o : Obj} {b : Nat} (h : b < w.heap.size) : (putW w b o).heap[b]? = some o := by
  simp [putW, h]

def Rho.lay (ρ : Rho) (b : Nat) (l : Lab) : Rho := { ρ with lab := fun c => if c = b then l else ρ.lab c }

theorem imm_lt {ρ : Rho} {s : St} {w : World} (hS : Sim ρ s w) {b o : Nat} (h : Imm ρ b o) : b < w.heap.size := by
  by_cases hb : b < w.heap.size
  · exact hb
  · have := hS.free b (by omega)
    simp [Imm, ImmL, this] at h

theorem blk_lt {ρ : Rho} {s : St} {w : World} (hS : Sim ρ s w) {i : Nat} {cs : List AV} (h : s.obj i = some (.cells cs)) (hp : ρ.pend i = false) : ρ.blk i < w.heap.size := by
  obtain ⟨-, -, vs, rest, ty, hh, -⟩ := hS.cells i cs h hp
  exact (Array.getElem?_eq_some_iff.1 hh).1

theorem pend_new {ρ : Rho} {s : St} {w : World} (hS : Sim ρ s w) : ρ.pend s.size = false := by
  cases h : ρ.pend s.size with
  | false => rfl
  | true => have := (hS.pn _ h).1; omega

/-- A new block that never changes. -/
theorem new_ro {ρ : Rho} {s : St} {w : World} (hS : Sim ρ s w) (cells : Array Value) (ty : TypeId) :
    Fr ρ s w (ρ.lay w.heap.size .ro) s (pushW w (.cells cells ty (0, 0))) ∧ Sim (ρ.lay w.heap.size .ro) s (pushW w (.cells cells ty (0, 0))) := by
  have hm : Mono ρ w s.size (ρ.lay w.heap.size .ro) (pushW w (.cells cells ty (0, 0))) s.size := by
    refine ⟨Nat.le_refl _, ?_, fun _ _ _ => rfl, fun _ _ _ => rfl, fun _ _ => rfl, fun _ _ h => h⟩
    intro b o hi
    have hb := imm_lt hS hi
    refine ⟨?_, cell_push hb o⟩
    simp only [Imm, Rho.lay]
    rw [if_neg (by omega)]
    exact hi
  refine ⟨⟨hm, rfl, rfl, rfl, by simp [pushW], ?_, fun _ _ => rfl, fun _ => rfl⟩, ⟨?_, hS.pn, ?_, ?_, froz_mono hS hm (fun _ _ h => h) (fun _ _ h => h), map_mono hS hm (fun _ _ h => h) (fun i es _ _ hl hlt => ⟨by simp only [Rho.lay]; rw [if_neg (by omega)]; exact hl, heap_push hlt⟩)⟩⟩
  · intro b hb _
    refine ⟨?_, heap_push hb⟩
    simp only [Rho.lay]
    rw [if_neg (by omega)]
  · intro b hb
    simp only [pushW, Array.size_push] at hb
    simp only [Rho.lay]
    rw [if_neg (by omega)]
    exact hS.free b (by omega)
  · intro i cs h hp
    obtain ⟨hi, hl, vs, rest, ty', hh, hvs, ht⟩ := hS.cells i cs h hp
    have hb := blk_lt hS h hp
    refine ⟨hi, ?_, vs, rest, ty', ?_, hvs.mono hm, ht⟩
    · simp only [Rho.lay]; rw [if_neg (by omega)]; exact hl
    · show (pushW w _).heap[ρ.blk i]? = _
      rw [heap_push hb]; exact hh
  · intro t h
    obtain ⟨ht, b, len, cap, z, h1, h2, vs, ty', h3, h4⟩ := hS.right t h
    have hb : b < w.heap.size := (Array.getElem?_eq_some_iff.1 h3).1
    refine ⟨ht, b, len, cap, z, h1, ?_, vs, ty', ?_, h4⟩
    · simp only [Rho.lay]; rw [if_neg (by omega)]; exact h2
    · rw [heap_push hb]; exact h3

/-- A new block of a sort of its own. -/
theorem new_blk {ρ : Rho} {s : St} {w w' : World} (hS : Sim ρ s w) (hos : w'.os = w.os) (htp : w'.tape = w.tape) (hout : w'.output = w.output) (hsz : w'.heap.size = w.heap.size + 1) (hold : ∀ b, b < w.heap.size → w'.heap[b]? = w.heap[b]?) :
    Fr ρ s w (ρ.lay w.heap.size .ro) s w' ∧ Sim (ρ.lay w.heap.size .ro) s w' := by
  have hm : Mono ρ w s.size (ρ.lay w.heap.size .ro) w' s.size := by
    refine ⟨Nat.le_refl _, ?_, fun _ _ _ => rfl, fun _ _ _ => rfl, fun _ _ => rfl, fun _ _ h => h⟩
    intro b o hi
    have hb := imm_lt hS hi
    refine ⟨?_, by simp only [World.cell?, hold b hb]⟩
    simp only [Imm, Rho.lay]
    rw [if_neg (by omega)]
    exact hi
  refine ⟨⟨hm, hos, htp, hout, by omega, ?_, fun _ _ => rfl, fun _ => rfl⟩, ⟨?_, hS.pn, ?_, ?_, froz_mono hS hm (fun _ _ h => h) (fun _ _ h => h), map_mono hS hm (fun _ _ h => h) (fun i es _ _ hl hlt => ⟨by simp only [Rho.lay]; rw [if_neg (by omega)]; exact hl, hold _ hlt⟩)⟩⟩
  · intro b hb _
    refine ⟨?_, hold b hb⟩
    simp only [Rho.lay]
    rw [if_neg (by omega)]
  · intro b hb
    simp only [Rho.lay]
    rw [if_neg (by omega)]
    exact hS.free b (by omega)
  · intro i cs h hp
    obtain ⟨hi, hl, vs, rest, ty', hh, hvs, ht⟩ := hS.cells i cs h hp
    have hb := blk_lt hS h hp
    refine ⟨hi, ?_, vs, rest, ty', ?_, hvs.mono hm, ht⟩
    · simp only [Rho.lay]; rw [if_neg (by omega)]; exact hl
    · show w'.heap[ρ.blk i]? = _
      rw [hold _ hb]; exact hh
  · intro t h
    obtain ⟨ht, b, len, cap, z, h1, h2, vs, ty', h3, h4⟩ := hS.right t h
    have hb : b < w.heap.size := (Array.getElem?_eq_some_iff.1 h3).1
    refine ⟨ht, b, len, cap, z, h1, ?_, vs, ty', ?_, h4⟩
    · simp only [Rho.lay]; rw [if_neg (by omega)]; exact h2
    · rw [hold _ hb]; exact h3

def Rho.newObj (ρ : Rho) (b i n : Nat) : Rho :=
  { ρ with lab := fun c => if c = b then .obj i else ρ.lab c, blk := fun j => if j = i then b else ρ.blk j, tot := fun j => if j = i then n else ρ.tot j }

/-- A new object. -/
theorem new_obj {ρ : Rho} {s : St} {w : World} (hS : Sim ρ s w) {cs : List AV} {vs rest : List Value} (hv : Vs ρ w s.size cs vs) (ty : TypeId) :
    Fr ρ s w (ρ.newObj w.heap.size s.size (vs ++ rest).length) (s.new (.cells cs)) (pushW w (.cells (vs ++ rest).toArray ty (0, 0))) ∧
      Sim (ρ.newObj w.heap.size s.size (vs ++ rest).length) (s.new (.cells cs)) (pushW w (.cells (vs ++ rest).toArray ty (0, 0))) := by
  have hm : Mono ρ w s.size (ρ.newObj w.heap.size s.size (vs ++ rest).length) (pushW w (.cells (vs ++ rest).toArray ty (0, 0))) (s.new (.cells cs)).size := by
    refine ⟨by simp [St.new], ?_, ?_, ?_, fun _ _ => rfl, fun _ _ h => h⟩
    · intro b o hi
      have hb := imm_lt hS hi
      refine ⟨?_, cell_push hb o⟩
      simp only [Imm, Rho.newObj]
      rw [if_neg (by omega)]
      exact hi
    · intro i hi _; simp only [Rho.newObj]; rw [if_neg (by omega)]
    · intro i hi _; simp only [Rho.newObj]; rw [if_neg (by omega)]
  refine ⟨⟨hm, rfl, rfl, rfl, by simp [pushW], ?_, fun i hp => by simp only [St.new]; rw [if_neg (by have := (hS.pn i hp).1; omega)], fun _ => rfl⟩, ⟨?_, ?_, ?_, ?_, froz_mono hS hm (fun _ _ h => h) (fun i cs h => by simp only [St.new] at h; split at h <;> first | exact h | cases h), map_mono hS hm (fun i es h => by simp only [St.new] at h; split at h <;> first | exact h | cases h) (fun i es _ _ hl hlt => ⟨by simp only [Rho.newObj]; rw [if_neg (by omega)]; exact hl, heap_push hlt⟩)⟩⟩
  · intro b hb _
    refine ⟨?_, heap_push hb⟩
    simp only [Rho.newObj]
    rw [if_neg (by omega)]
  · intro b hb
    simp only [pushW, Array.size_push] at hb
    simp only [Rho.newObj]
    rw [if_neg (by omega)]
    exact hS.free b (by omega)
  · intro i hp
    obtain ⟨hlt, hne⟩ := hS.pn i hp
    refine ⟨by simp only [St.new]; omega, ?_⟩
    simp only [St.new]
    rw [if_neg (by omega)]
    exact hne
  · intro i cs' h hp
    simp only [St.new] at h
    split at h
    · rename_i hi
      cases h
      subst hi
      refine ⟨by simp [St.new], by simp [Rho.newObj], vs, rest, ty, ?_, hv.mono hm, by simp [Rho.newObj]⟩
      simp only [Rho.newObj, if_true]
      exact heap_push_new
    · rename_i hi
      obtain ⟨hi', hl, vs', rest', ty', hh, hvs, ht⟩ := hS.cells i cs' h hp
      have hb := blk_lt hS h hp
      refine ⟨by simp only [St.new]; omega, ?_, vs', rest', ty', ?_, hvs.mono hm, ?_⟩
      · simp only [Rho.newObj, if_neg hi]; rw [if_neg (by omega)]; exact hl
      · simp only [Rho.newObj, if_neg hi]; rw [heap_push hb]; exact hh
      · simp only [Rho.newObj, if_neg hi]; exact ht
  · intro t h
    simp only [St.new] at h
    split at h
    · cases h
    · obtain ⟨ht, b, len, cap, z, h1, h2, vs', ty', h3, h4⟩ := hS.right t h
      have hb : b < w.heap.size := (Array.getElem?_eq_some_iff.1 h3).1
      refine ⟨by simp only [St.new]; omega, b, len, cap, z, h1, ?_, vs', ty', ?_, h4⟩
      · simp only [Rho.newObj]; rw [if_neg (by omega)]; exact h2
      · rw [heap_push hb]; exact h3

def Rho.newRight (ρ : Rho) (b t len cap z : Nat) : Rho :=
  { ρ with lab := fun c => if c = b then .grow t (len * z) else ρ.lab c, rt := fun j => if j = t then (b, len, cap, z) else ρ.rt j }

/-- A new block that grows. -/
theorem new_right {ρ : Rho} {s : St} {w : World} (hS : Sim ρ s w) {vs : List Value} (len cap z : Nat) (hl : vs.length = cap * z) (ty : TypeId) :
    Fr ρ s w (ρ.newRight w.heap.size s.size len cap z) (s.new .right) (pushW w (.cells vs.toArray ty (0, 0))) ∧
      Sim (ρ.newRight w.heap.size s.size len cap z) (s.new .right) (pushW w (.cells vs.toArray ty (0, 0))) := by
  have hm : Mono ρ w s.size (ρ.newRight w.heap.size s.size len cap z) (pushW w (.cells vs.toArray ty (0, 0))) (s.new .right).size := by
    refine ⟨by simp [St.new], ?_, fun _ _ _ => rfl, fun _ _ _ => rfl, ?_, fun _ _ h => h⟩
    · intro b o hi
      have hb := imm_lt hS hi
      refine ⟨?_, cell_push hb o⟩
      simp only [Imm, Rho.newRight]
      rw [if_neg (by omega)]
      exact hi
    · intro i hi; simp only [Rho.newRight]; rw [if_neg (by omega)]
  refine ⟨⟨hm, rfl, rfl, rfl, by simp [pushW], ?_, fun i hp => by simp only [St.new]; rw [if_neg (by have := (hS.pn i hp).1; omega)], fun _ => rfl⟩, ⟨?_, ?_, ?_, ?_, froz_mono hS hm (fun _ _ h => h) (fun i cs h => by simp only [St.new] at h; split at h <;> first | exact h | cases h), map_mono hS hm (fun i es h => by simp only [St.new] at h; split at h <;> first | exact h | cases h) (fun i es _ _ hl hlt => ⟨by simp only [Rho.newRight]; rw [if_neg (by omega)]; exact hl, heap_push hlt⟩)⟩⟩
  · intro b hb _
    refine ⟨?_, heap_push hb⟩
    simp only [Rho.newRight]
    rw [if_neg (by omega)]
  · intro b hb
    simp only [pushW, Array.size_push] at hb
    simp only [Rho.newRight]
    rw [if_neg (by omega)]
    exact hS.free b (by omega)
  · intro i hp
    obtain ⟨hlt, hne⟩ := hS.pn i hp
    refine ⟨by simp only [St.new]; omega, ?_⟩
    simp only [St.new]
    rw [if_neg (by omega)]
    exact hne
  · intro i cs' h hp
    simp only [St.new] at h
    split at h
    · cases h
    · obtain ⟨hi', hl, vs', rest', ty', hh, hvs, ht⟩ := hS.cells i cs' h hp
      have hb := blk_lt hS h hp
      refine ⟨by simp only [St.new]; omega, ?_, vs', rest', ty', ?_, hvs.mono hm, ht⟩
      · simp only [Rho.newRight]; rw [if_neg (by omega)]; exact hl
      · show (pushW w _).heap[ρ.blk i]? = _
        rw [heap_push hb]; exact hh
  · intro t h
    simp only [St.new] at h
    split at h
    · rename_i ht
      subst ht
      exact ⟨by simp [St.new], w.heap.size, len, cap, z, by simp [Rho.newRight], by simp [Rho.newRight], vs, ty, heap_push_new, hl⟩
    · rename_i hne
      obtain ⟨ht, b, len', cap', z', h1, h2, vs', ty', h3, h4⟩ := hS.right t h
      have hb : b < w.heap.size := (Array.getElem?_eq_some_iff.1 h3).1
      refine ⟨by simp only [St.new]; omega, b, len', cap', z', ?_, ?_, vs', ty', ?_, h4⟩
      · simp only [Rho.newRight, if_neg hne]; exact h1
      · simp only [Rho.newRight]; rw [if_neg (by omega)]; exact h2
      · rw [heap_push hb]; exact h3

end Go.Am
