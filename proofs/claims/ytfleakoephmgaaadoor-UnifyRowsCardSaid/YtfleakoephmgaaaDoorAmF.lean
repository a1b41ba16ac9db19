/- Stores, and growth in place. Conditions: none. -/
import Derived.Test.YtfleakoephmgaaaDoorAmE
import Derived.Laws.Append
set_option linter.unusedSimpArgs false
set_option linter.unusedVariables false
namespace Go.Am

def setV (cs : List Value) (off : Nat) : List Value → List Value
  | [] => cs
  | v :: vs => setV (cs.set off v) (off + 1) vs

theorem setV_length : ∀ (vs cs : List Value) (off : Nat), (setV cs off vs).length = cs.length
  | [], _, _ => rfl
  | v :: vs, cs, off => by simp [setV, setV_length vs]

theorem setAt_V {ρ : Rho} {w : World} {n : Nat} : ∀ {as : List AV} {us : List Value} {cs : List AV} {vs : List Value} (off : Nat), Vs ρ w n as us → Vs ρ w n cs vs → Vs ρ w n (setAt cs off as) (setV vs off us)
  | _, _, _, _, _, .nil, h => h
  | _, _, _, _, off, .cons a v as us ha has, h => by
    simp only [setAt, setV]
    exact setAt_V (off + 1) has (h.set off ha)

theorem setV_append : ∀ (us vs rest : List Value) (off : Nat), off + us.length ≤ vs.length → setV (vs ++ rest) off us = setV vs off us ++ rest
  | [], _, _, _, _ => rfl
  | u :: us, vs, rest, off, h => by
    simp only [List.length_cons] at h
    simp only [setV]
    rw [List.set_append_left _ _ (by omega)]
    exact setV_append us (vs.set off u) rest (off + 1) (by simp; omega)

theorem setV_get : ∀ (us vs : List Value) (off j : Nat), j < off → (setV vs off us)[j]? = vs[j]?
  | [], _, _, _, _ => rfl
  | u :: us, vs, off, j, h => by
    simp only [setV]
    rw [setV_get us _ (off + 1) j (by omega), List.getElem?_set_ne (by omega)]

theorem setV_new : ∀ (us vs : List Value) (off j : Nat), off + us.length ≤ vs.length → j < us.length → (setV vs off us)[off + j]? = us[j]?
  | [], _, _, _, _, h => by simp at h
  | u :: us, vs, off, j, hl, h => by
    simp only [List.length_cons] at hl h
    simp only [setV]
    cases j with
    | zero =>
      rw [setV_get us _ (off + 1) (off + 0) (by omega)]
      have hlt : off < vs.length := by omega
      simp [hlt]
    | succ j =>
      rw [show off + (j + 1) = off + 1 + j by omega, setV_new us _ (off + 1) j (by simp; omega) (by omega)]
      simp

theorem setV_after : ∀ (us vs : List Value) (off j : Nat), off + us.length ≤ j → (setV vs off us)[j]? = vs[j]?
  | [], _, _, _, _ => rfl
  | u :: us, vs, off, j, h => by
    simp only [List.length_cons] at h
    simp only [setV]
    rw [setV_after us _ (off + 1) j (by omega), List.getElem?_set_ne (by omega)]

theorem putW_same {w : World} {b : Nat} {o : Obj} (h : w.heap[b]? = some o) : putW w b o = w := by
  have hb := (Array.getElem?_eq_some_iff.1 h)
  obtain ⟨hlt, he⟩ := hb
  unfold putW
  congr 1
  apply Array.ext_getElem?
  intro i
  by_cases hi : i = b
  · subst hi; simp [hlt, he]
  · rw [Array.getElem?_setIfInBounds_ne (Ne.symm hi)]

theorem putW_putW (w : World) (b : Nat) (o o' : Obj) : putW (putW w b o) b o' = putW w b o' := by
  unfold putW
  congr 1
  apply Array.ext_getElem?
  intro i
  by_cases hi : i = b
  · subst hi; simp [Array.getElem?_setIfInBounds]
  · rw [Array.getElem?_setIfInBounds_ne (Ne.symm hi), Array.getElem?_setIfInBounds_ne (Ne.symm hi), Array.getElem?_setIfInBounds_ne (Ne.symm hi)]

theorem setCell_putW {w : World} {b o : Nat} {cs : List Value} {ty : TypeId} (h : w.heap[b]? = some (.cells cs.toArray ty (0, 0))) (v : Value) :
    w.setCell ⟨b, o, none⟩ v = putW w b (.cells (cs.set o v).toArray ty (0, 0)) := by
  obtain ⟨hlt, he⟩ := Array.getElem?_eq_some_iff.1 h
  unfold World.setCell putW
  congr 1
  apply Array.ext_getElem?
  intro i
  by_cases hi : i = b
  · subst hi
    rw [Array.getElem?_modify, if_pos rfl, h]
    simp [hlt]
  · rw [Array.getElem?_setIfInBounds_ne (Ne.symm hi)]
    simp [Array.getElem?_modify, Ne.symm hi]

theorem storeCells_run {P : Program} : ∀ (vs : List Value) {w : World} {b o k : Nat} {cs : List Value} {ty : TypeId} (_ : w.heap[b]? = some (.cells cs.toArray ty (0, 0)))
    (_ : o + k + vs.length ≤ cs.length) (_ : ∀ v, v ∈ vs → v.oneCell' = true),
    (storeCells ⟨b, o, none⟩ vs k).run P w = .ok () (putW w b (.cells (setV cs (o + k) vs).toArray ty (0, 0)))
  | [], w, b, o, k, cs, ty, h, _, _ => by
    simp only [storeCells, setV]
    rw [putW_same h]
    rfl
  | v :: vs, w, b, o, k, cs, ty, h, hl, h1 => by
    simp only [List.length_cons] at hl
    have hlt := (Array.getElem?_eq_some_iff.1 h).1
    have hc : w.cell? ⟨b, o + k, none⟩ = some (cs[o + k]'(by omega)) := by
      simp [World.cell?, h, show o + k < cs.length by omega]
    have hf : w.frozen? ⟨b, o + k, none⟩ = false := by simp [World.frozen?, h]
    have ih := storeCells_run (P := P) vs (w := putW w b (.cells (cs.set (o + k) v).toArray ty (0, 0))) (b := b) (o := o) (k := k + 1) (cs := cs.set (o + k) v) (ty := ty) (heap_put_same hlt) (by simp; omega) (fun u hu => h1 u (by simp [hu]))
    simp only [storeCells, Sem.run_bind, Addr.add_lit]
    rw [run_store P w _ v _ (h1 v (by simp)), hc]
    simp only [hf, Bool.false_eq_true, if_false, Result.andThen]
    rw [setCell_putW h v, ih, putW_putW]
    rfl

theorem one_V {ρ : Rho} {w : World} {n : Nat} {a : AV} {v : Value} (h : V ρ w n a v) (ho : a.one = true) : v.oneCell' = true := by
  cases h <;> first | rfl | simp [AV.one] at ho

theorem ones_V {ρ : Rho} {w : World} {n : Nat} : ∀ {as : List AV} {vs : List Value}, Vs ρ w n as vs → as.all AV.one = true → ∀ v, v ∈ vs → v.oneCell' = true
  | _, _, .nil, _, v, hv => by simp at hv
  | _, _, .cons a u as vs h hs, ho, v, hv => by
    simp only [List.all_cons, Bool.and_eq_true] at ho
    rcases List.mem_cons.1 hv with rfl | hv
    · exact one_V h ho.1
    · exact ones_V hs ho.2 v hv

theorem still_one {as : List AV} (h : as.all AV.still = true) : as.all AV.one = true := by
  rw [List.all_eq_true] at h ⊢
  intro a ha
  have := h a ha
  cases a <;> first | rfl | simp [AV.still] at this

/-- An object is written. -/
theorem put_obj {ρ : Rho} {s : St} {w : World} (hS : Sim ρ s w) {i : Nat} {cs cs' : List AV} {vs' rest : List Value} {ty : TypeId} (h : s.obj i = some (.cells cs)) (hp : ρ.pend i = false)
    (hv : Vs ρ w s.size cs' vs') (hl : (vs' ++ rest).length = ρ.tot i) :
    Fr ρ s w ρ (s.put i (some (.cells cs'))) (putW w (ρ.blk i) (.cells (vs' ++ rest).toArray ty (0, 0))) ∧
      Sim ρ (s.put i (some (.cells cs'))) (putW w (ρ.blk i) (.cells (vs' ++ rest).toArray ty (0, 0))) := by
  have hb := blk_lt hS h hp
  obtain ⟨hi, hlab, -⟩ := hS.cells i cs h hp
  have hm : Mono ρ w s.size ρ (putW w (ρ.blk i) (.cells (vs' ++ rest).toArray ty (0, 0))) (s.put i (some (.cells cs'))).size := by
    refine ⟨Nat.le_refl _, ?_, fun _ _ _ => rfl, fun _ _ _ => rfl, fun _ _ => rfl, fun _ _ h => h⟩
    intro b o him
    refine ⟨him, cell_put ?_ o⟩
    rintro rfl
    simp [Imm, ImmL, hlab] at him
  refine ⟨⟨hm, rfl, rfl, rfl, by simp [putW], ?_, fun j hj => by simp only [St.put]; rw [if_neg (by rintro rfl; rw [hp] at hj; cases hj)], fun _ => rfl⟩, ⟨?_, ?_, ?_, ?_, froz_mono hS hm (fun _ _ h => h) (fun j cs h => by simp only [St.put, St.new] at h; (repeat' split at h) <;> first | exact h | cases h), map_mono hS hm (fun j es h => by simp only [St.put, St.new] at h; (repeat' split at h) <;> first | exact h | cases h) (fun j es h0 _ hl hlt => ⟨hl, heap_put (by intro he; rw [he, hlab] at hl; obtain rfl := Lab.obj.inj hl; rw [h] at h0; cases h0)⟩)⟩⟩
  · intro b hlt hk
    refine ⟨rfl, heap_put ?_⟩
    rintro rfl
    rw [hlab] at hk
    rcases hk with hk | hk <;> cases hk
  · intro b hb'
    simp only [putW, Array.size_setIfInBounds] at hb'
    exact hS.free b hb'
  · intro j hj
    obtain ⟨hlt, hne⟩ := hS.pn j hj
    refine ⟨hlt, ?_⟩
    simp only [St.put]
    rw [if_neg (by rintro rfl; rw [hp] at hj; cases hj)]
    exact hne
  · intro j cs0 hj hpj
    simp only [St.put] at hj
    split at hj
    · rename_i hji
      subst hji
      cases hj
      exact ⟨hi, hlab, vs', rest, ty, heap_put_same hb, hv.mono hm, hl⟩
    · rename_i hji
      obtain ⟨hj', hl', vs0, rest0, ty0, hh0, hv0, ht0⟩ := hS.cells j cs0 hj hpj
      refine ⟨hj', hl', vs0, rest0, ty0, ?_, hv0.mono hm, ht0⟩
      rw [heap_put]
      · exact hh0
      · intro he
        rw [he, hlab] at hl'
        exact hji (Lab.obj.inj hl').symm
  · intro t ht
    simp only [St.put] at ht
    split at ht
    · cases ht
    · obtain ⟨ht', b, len, cap, z, h1, h2, vs0, ty0, h3, h4⟩ := hS.right t ht
      refine ⟨ht', b, len, cap, z, h1, h2, vs0, ty0, ?_, h4⟩
      rw [heap_put]
      · exact h3
      · rintro rfl
        rw [hlab] at h2
        cases h2

/-- A slice grows in place: its right goes over to the longer one. -/
theorem grow_right {ρ : Rho} {s : St} {w : World} (hS : Sim ρ s w) {t b len cap z m : Nat} (h : s.obj t = some .right) (hrt : ρ.rt t = (b, len, cap, z)) (hm0 : len + m ≤ cap) {us vs : List Value} {ty : TypeId}
    (hh : w.heap[b]? = some (.cells vs.toArray ty (0, 0))) (hu : us.length = m * z) :
    Fr ρ s w (ρ.newRight b s.size (len + m) cap z) ((s.put t none).new .right) (putW w b (.cells (setV vs (len * z) us).toArray ty (0, 0))) ∧
      Sim (ρ.newRight b s.size (len + m) cap z) ((s.put t none).new .right) (putW w b (.cells (setV vs (len * z) us).toArray ty (0, 0))) := by
  obtain ⟨ht, b', len', cap', z', h1, hlab, vs1, ty1, h3, h4⟩ := hS.right t h
  rw [hrt] at h1
  obtain ⟨rfl, rfl, rfl, rfl⟩ : b = b' ∧ len = len' ∧ cap = cap' ∧ z = z' := by
    simp only [Prod.mk.injEq] at h1; exact ⟨h1.1, h1.2.1, h1.2.2.1, h1.2.2.2⟩
  rw [hh] at h3
  have h3' : vs = vs1 := by
    have := Option.some.inj h3
    simp only [Obj.cells.injEq] at this
    exact List.toArray_inj this.1
  subst h3'
  have hb := (Array.getElem?_eq_some_iff.1 hh).1
  have hmul : (len + m) * z = len * z + m * z := Nat.add_mul _ _ _
  have hle : (len + m) * z ≤ cap * z := Nat.mul_le_mul_right z hm0
  have hm : Mono ρ w s.size (ρ.newRight b s.size (len + m) cap z) (putW w b (.cells (setV vs (len * z) us).toArray ty (0, 0))) ((s.put t none).new .right).size := by
    refine ⟨by simp [St.new, St.put], ?_, fun _ _ _ => rfl, fun _ _ _ => rfl, ?_, fun _ _ h => h⟩
    · intro c o him
      by_cases hc : c = b
      · subst hc
        simp only [Imm, ImmL, hlab] at him
        refine ⟨by simp only [Imm, ImmL, Rho.newRight, if_true]; omega, ?_⟩
        simp only [World.cell?, heap_put_same hb, hh]
        simp [setV_get us vs (len * z) o him]
      · refine ⟨?_, cell_put hc o⟩
        simp only [Imm, Rho.newRight, if_neg hc]
        exact him
    · intro j hj; simp only [Rho.newRight]; rw [if_neg (by omega)]
  have hne0 : ∀ j, ρ.pend j = true → j ≠ s.size ∧ j ≠ t := fun j hj => by
    obtain ⟨hlt, hnr⟩ := hS.pn j hj
    exact ⟨by omega, by rintro rfl; exact hnr h⟩
  have hobj : ∀ j, ρ.pend j = true → ((s.put t none).new .right).obj j = s.obj j := fun j hj => by
    obtain ⟨h1, h2⟩ := hne0 j hj
    show (if j = s.size then some AO.right else if j = t then none else s.obj j) = _
    rw [if_neg h1, if_neg h2]
  refine ⟨⟨hm, rfl, rfl, rfl, by simp [putW], ?_, hobj, fun _ => rfl⟩, ⟨?_, ?_, ?_, ?_, froz_mono hS hm (fun _ _ h => h) (fun j cs h => by have h' : (if j = s.size then some (AO.right) else if j = t then none else s.obj j) = some (AO.froz cs) := h; split at h'; cases h'; split at h'; cases h'; exact h'), map_mono hS hm (fun j es h => by have h' : (if j = s.size then some (AO.right) else if j = t then none else s.obj j) = some (AO.map es) := h; split at h'; cases h'; split at h'; cases h'; exact h') (fun j es h0 _ hl hlt => by
      have hne : ρ.blk j ≠ b := by intro he; rw [he, hlab] at hl; cases hl
      exact ⟨by simp only [Rho.newRight, if_neg hne]; exact hl, heap_put hne⟩)⟩⟩
  · intro c hlt hk
    have hc : c ≠ b := by
      rintro rfl
      rw [hlab] at hk
      rcases hk with hk | hk <;> cases hk
    exact ⟨by simp only [Rho.newRight, if_neg hc], heap_put hc⟩
  · intro c hc
    simp only [putW, Array.size_setIfInBounds] at hc
    simp only [Rho.newRight]
    rw [if_neg (by omega)]
    exact hS.free c hc
  · intro j hj
    obtain ⟨hlt, hnr⟩ := hS.pn j hj
    exact ⟨by simp only [St.new, St.put]; omega, by rw [hobj j hj]; exact hnr⟩
  · intro j cs0 hj hpj
    replace hj : (if j = s.size then some AO.right else if j = t then none else s.obj j) = some (.cells cs0) := hj
    by_cases hjs : j = s.size
    · rw [if_pos hjs] at hj; cases hj
    · rw [if_neg hjs] at hj
      by_cases hjt : j = t
      · rw [if_pos hjt] at hj; cases hj
      · rw [if_neg hjt] at hj
        obtain ⟨hj', hl', vs0, rest0, ty0, hh0, hv0, ht0⟩ := hS.cells j cs0 hj hpj
        have hne : ρ.blk j ≠ b := by
          intro he
          rw [he, hlab] at hl'
          cases hl'
        refine ⟨by simp only [St.new, St.put]; omega, by simp only [Rho.newRight, if_neg hne]; exact hl', vs0, rest0, ty0, ?_, hv0.mono hm, ht0⟩
        show (putW w b _).heap[ρ.blk j]? = _
        rw [heap_put hne]; exact hh0
  · intro u hu'
    replace hu' : (if u = s.size then some AO.right else if u = t then none else s.obj u) = some .right := hu'
    by_cases hus : u = s.size
    · subst hus
      refine ⟨by simp [St.new, St.put], b, len + m, cap, z, by simp [Rho.newRight], by simp [Rho.newRight], _, ty, heap_put_same hb, ?_⟩
      rw [setV_length]; exact h4
    · rw [if_neg hus] at hu'
      by_cases hut : u = t
      · rw [if_pos hut] at hu'; cases hu'
      · rw [if_neg hut] at hu'
        obtain ⟨hu2, b2, len2, cap2, z2, g1, g2, vs2, ty2, g3, g4⟩ := hS.right u hu'
        have hne : b2 ≠ b := by
          rintro rfl
          rw [hlab] at g2
          simp only [Lab.grow.injEq] at g2
          exact hut g2.1.symm
        refine ⟨by simp only [St.new, St.put]; omega, b2, len2, cap2, z2, by simp only [Rho.newRight, if_neg hus]; exact g1, by simp only [Rho.newRight, if_neg hne]; exact g2, vs2, ty2, ?_, g4⟩
        rw [heap_put hne]; exact g3

theorem kill_sim {ρ : Rho} {s : St} {w : World} (hS : Sim ρ s w) (i : Nat) (hp : ρ.pend i = false) : Fr ρ s w ρ (s.put i none) w ∧ Sim ρ (s.put i none) w := by
  have hobj : ∀ j, ρ.pend j = true → (s.put i none).obj j = s.obj j := fun j hj => by
    simp only [St.put]
    rw [if_neg (by rintro rfl; rw [hp] at hj; cases hj)]
  refine ⟨⟨⟨Nat.le_refl _, fun _ _ h => ⟨h, rfl⟩, fun _ _ _ => rfl, fun _ _ _ => rfl, fun _ _ => rfl, fun _ _ h => h⟩, rfl, rfl, rfl, Nat.le_refl _, fun _ _ _ => ⟨rfl, rfl⟩, hobj, fun _ => rfl⟩, ⟨hS.free, ?_, ?_, ?_, froz_mono hS ⟨Nat.le_refl _, fun _ _ h => ⟨h, rfl⟩, fun _ _ _ => rfl, fun _ _ _ => rfl, fun _ _ => rfl, fun _ _ h => h⟩ (fun _ _ h => h) (fun j cs h => by simp only [St.put, St.new] at h; (repeat' split at h) <;> first | exact h | cases h), map_mono hS ⟨Nat.le_refl _, fun _ _ h => ⟨h, rfl⟩, fun _ _ _ => rfl, fun _ _ _ => rfl, fun _ _ => rfl, fun _ _ h => h⟩ (fun j es h => by simp only [St.put, St.new] at h; (repeat' split at h) <;> first | exact h | cases h) (fun j es _ _ hl _ => ⟨hl, rfl⟩)⟩⟩
  · intro j hj
    obtain ⟨hlt, hne⟩ := hS.pn j hj
    exact ⟨hlt, by rw [hobj j hj]; exact hne⟩
  · intro j cs h hpj
    simp only [St.put] at h
    split at h
    · cases h
    · exact hS.cells j cs h hpj
  · intro j h
    simp only [St.put] at h
    split at h
    · cases h
    · exact hS.right j h

/-- An array that is written grows in place: its block goes over to the longer one. -/
theorem grow_obj {ρ : Rho} {s : St} {w : World} (hS : Sim ρ s w) {i : Nat} {cs cs' : List AV} (h : s.obj i = some (.cells cs)) (hp : ρ.pend i = false) {vs' rest : List Value} {ty : TypeId}
    (hv : Vs ρ w s.size cs' vs') (hl : (vs' ++ rest).length = ρ.tot i) :
    Fr ρ s w (ρ.newObj (ρ.blk i) s.size (ρ.tot i)) ((s.put i none).new (.cells cs')) (putW w (ρ.blk i) (.cells (vs' ++ rest).toArray ty (0, 0))) ∧
      Sim (ρ.newObj (ρ.blk i) s.size (ρ.tot i)) ((s.put i none).new (.cells cs')) (putW w (ρ.blk i) (.cells (vs' ++ rest).toArray ty (0, 0))) := by
  have hb := blk_lt hS h hp
  obtain ⟨hi, hlab, -⟩ := hS.cells i cs h hp
  have hm : Mono ρ w s.size (ρ.newObj (ρ.blk i) s.size (ρ.tot i)) (putW w (ρ.blk i) (.cells (vs' ++ rest).toArray ty (0, 0))) ((s.put i none).new (.cells cs')).size := by
    refine ⟨by simp [St.new, St.put], ?_, ?_, ?_, fun _ _ => rfl, fun _ _ h => h⟩
    · intro b o him
      have hne : b ≠ ρ.blk i := by
        rintro rfl
        simp [Imm, ImmL, hlab] at him
      refine ⟨?_, cell_put hne o⟩
      simp only [Imm, Rho.newObj, if_neg hne]
      exact him
    · intro j hj _; simp only [Rho.newObj]; rw [if_neg (by omega)]
    · intro j hj _; simp only [Rho.newObj]; rw [if_neg (by omega)]
  have hobj : ∀ j, ρ.pend j = true → ((s.put i none).new (.cells cs')).obj j = s.obj j := fun j hj => by
    have h1 := (hS.pn j hj).1
    have h2 : j ≠ i := by rintro rfl; rw [hp] at hj; cases hj
    show (if j = s.size then some (AO.cells cs') else if j = i then none else s.obj j) = _
    rw [if_neg (by omega), if_neg h2]
  refine ⟨⟨hm, rfl, rfl, rfl, by simp [putW], ?_, hobj, fun _ => rfl⟩, ⟨?_, ?_, ?_, ?_, froz_mono hS hm (fun _ _ h => h) (fun j cs h => by have h' : (if j = s.size then some (AO.cells cs') else if j = i then none else s.obj j) = some (AO.froz cs) := h; split at h'; cases h'; split at h'; cases h'; exact h'), map_mono hS hm (fun j es h => by have h' : (if j = s.size then some (AO.cells cs') else if j = i then none else s.obj j) = some (AO.map es) := h; split at h'; cases h'; split at h'; cases h'; exact h') (fun j es h0 _ hl hlt => by
      have hne : ρ.blk j ≠ ρ.blk i := by intro he; rw [he, hlab] at hl; obtain rfl := Lab.obj.inj hl; rw [h] at h0; cases h0
      exact ⟨by simp only [Rho.newObj, if_neg hne]; exact hl, heap_put hne⟩)⟩⟩
  · intro b hlt hk
    have hne : b ≠ ρ.blk i := by
      rintro rfl
      rw [hlab] at hk
      rcases hk with hk | hk <;> cases hk
    exact ⟨by simp only [Rho.newObj, if_neg hne], heap_put hne⟩
  · intro b hb'
    simp only [putW, Array.size_setIfInBounds] at hb'
    simp only [Rho.newObj]
    rw [if_neg (by omega)]
    exact hS.free b hb'
  · intro j hj
    obtain ⟨hlt, hnr⟩ := hS.pn j hj
    exact ⟨by simp only [St.new, St.put]; omega, by rw [hobj j hj]; exact hnr⟩
  · intro j cs0 hj hpj
    replace hj : (if j = s.size then some (AO.cells cs') else if j = i then none else s.obj j) = some (.cells cs0) := hj
    by_cases hjs : j = s.size
    · rw [if_pos hjs] at hj
      cases hj
      subst hjs
      refine ⟨by simp [St.new, St.put], by simp [Rho.newObj], vs', rest, ty, ?_, hv.mono hm, by simp only [Rho.newObj, if_true]; exact hl⟩
      simp only [Rho.newObj, if_true]
      exact heap_put_same hb
    · rw [if_neg hjs] at hj
      by_cases hji : j = i
      · rw [if_pos hji] at hj; cases hj
      · rw [if_neg hji] at hj
        obtain ⟨hj', hl', vs0, rest0, ty0, hh0, hv0, ht0⟩ := hS.cells j cs0 hj hpj
        have hne : ρ.blk j ≠ ρ.blk i := by
          intro he
          rw [he, hlab] at hl'
          exact hji (Lab.obj.inj hl').symm
        refine ⟨by simp only [St.new, St.put]; omega, ?_, vs0, rest0, ty0, ?_, hv0.mono hm, ?_⟩
        · simp only [Rho.newObj, if_neg hjs, if_neg hne]; exact hl'
        · simp only [Rho.newObj, if_neg hjs]; rw [heap_put hne]; exact hh0
        · simp only [Rho.newObj, if_neg hjs]; exact ht0
  · intro t ht
    replace ht : (if t = s.size then some (AO.cells cs') else if t = i then none else s.obj t) = some .right := ht
    by_cases hts : t = s.size
    · rw [if_pos hts] at ht; cases ht
    · rw [if_neg hts] at ht
      by_cases hti : t = i
      · rw [if_pos hti] at ht; cases ht
      · rw [if_neg hti] at ht
        obtain ⟨ht', b, len, cap, z, h1, h2, vs0, ty0, h3, h4⟩ := hS.right t ht
        have hne : b ≠ ρ.blk i := by
          rintro rfl
          rw [hlab] at h2
          cases h2
        refine ⟨by simp only [St.new, St.put]; omega, b, len, cap, z, h1, ?_, vs0, ty0, ?_, h4⟩
        · simp only [Rho.newObj, if_neg hne]; exact h2
        · rw [heap_put hne]; exact h3

end Go.Am

/- Appending. Conditions: none. -/
namespace Go.Am

theorem drew_mono (ρ : Rho) (w : World) (n : Nat) : Mono ρ w n ρ w.drew n :=
  ⟨Nat.le_refl _, fun _ _ h => ⟨h, rfl⟩, fun _ _ _ => rfl, fun _ _ _ => rfl, fun _ _ => rfl, fun _ _ h => h⟩

theorem drew_sim {ρ : Rho} {s : St} {w : World} (hS : Sim ρ s w) : Fr ρ s w ρ s w.drew ∧ Sim ρ s w.drew := by
  refine ⟨⟨drew_mono ρ w s.size, rfl, rfl, rfl, Nat.le_refl _, fun _ _ _ => ⟨rfl, rfl⟩, fun _ _ => rfl, fun _ => rfl⟩, ⟨hS.free, hS.pn, ?_, hS.right, froz_mono hS (drew_mono ρ w s.size) (fun _ _ h => h) (fun _ _ h => h), map_mono hS (drew_mono ρ w s.size) (fun _ _ h => h) (fun _ _ _ _ hl _ => ⟨hl, rfl⟩)⟩⟩
  intro i cs h hp
  obtain ⟨a, b, vs, r, ty, c, d, f⟩ := hS.cells i cs h hp
  exact ⟨a, b, vs, r, ty, c, d.mono (drew_mono ρ w s.size), f⟩

section
variable {P : Program}

/-- The argument that is appended: so many elements, and their cells. -/
theorem contents_sound {ρ : Rho} {s : St} {w : World} (hS : Sim ρ s w) {sz m : Nat} {y : AV} {yv : Value} {ys : List AV} (h : contents s sz y = some (m, ys)) (hV : V ρ w s.size y yv) :
    ∃ vs, Vs ρ w s.size ys vs ∧ vs.length = m * sz ∧ ∀ w1 : World, w1.heap = w.heap → (Builtin.lenOf yv).run P w1 = .ok m w1 ∧ (Builtin.firstCells sz m yv).run P w1 = .ok vs.toArray w1 := by
  unfold contents at h
  split at h
  · cases h; cases hV
    exact ⟨[], .nil, by simp, fun w1 _ => ⟨by simp [Builtin.lenOf], by simp [Builtin.firstCells]⟩⟩
  · split at h
    · rename_i hl
      cases h
      cases hV with
      | sl _ vs b o _ cap _ _ hvs ha hf hlc ht =>
        have hlv := hvs.length
        refine ⟨vs, hvs, by omega, fun w1 hw => ⟨by simp [Builtin.lenOf], ?_⟩⟩
        exact run_firstCells_some (P := P) w1 sz _ ⟨b, o, none⟩ _ cap vs (by omega) (by intro j v hj; rw [Addr.add_lit]; simp only [World.cell?, hw]; exact (ha j v hj).2)
      | sl0 a cap _ _ hf ha htk =>
        refine ⟨[], .nil, by simp, fun w1 _ => ⟨by simp [Builtin.lenOf], ?_⟩⟩
        cases a with
        | none => simp [Builtin.firstCells]
        | some a => exact run_firstCells_some (P := P) w1 sz 0 a 0 cap [] (by simp) (by simp)
    · cases h
  · rename_i j off len zz
    split at h
    · rename_i cs hob
      split at h
      · rename_i hc
        obtain ⟨rfl, hle⟩ := hc
        cases h
        cases hV with
        | msl _ _ _ cap _ hi hip hl ht =>
          obtain ⟨-, -, vs, rest, ty, hh, hvs, -⟩ := hS.cells _ cs hob hip
          have hlv := hvs.length
          refine ⟨(vs.drop off).take (m * zz), (hvs.drop _).take _, by simp; omega, fun w1 hw => ⟨by simp [Builtin.lenOf], ?_⟩⟩
          refine run_firstCells_some (P := P) w1 zz _ ⟨ρ.blk j, off, none⟩ _ cap _ (by simp; omega) ?_
          intro jj v hj
          rw [Addr.add_lit]
          rw [List.getElem?_take] at hj
          split at hj
          · rw [List.getElem?_drop] at hj
            have hlt := (List.getElem?_eq_some_iff.1 hj).1
            simp only [World.cell?, hw, hh]
            simp [List.getElem?_append_left hlt, hj]
          · cases hj
      · cases h
    · rename_i cs hob
      split at h
      · rename_i hc
        obtain ⟨rfl, hle⟩ := hc
        cases h
        cases hV with
        | msl _ _ _ cap _ hi hip hl ht =>
          obtain ⟨-, -, vs, hvs, ha⟩ := hS.froz _ cs hob
          have hlv := hvs.length
          refine ⟨(vs.drop off).take (m * zz), (hvs.drop _).take _, by simp; omega, fun w1 hw => ⟨by simp [Builtin.lenOf], ?_⟩⟩
          refine run_firstCells_some (P := P) w1 zz _ ⟨ρ.blk j, off, none⟩ _ cap _ (by simp; omega) ?_
          intro jj v hj
          rw [Addr.add_lit]
          rw [List.getElem?_take] at hj
          split at hj
          · rw [List.getElem?_drop] at hj
            have := (ha (off + jj) v hj).2
            rw [Nat.zero_add] at this
            simp only [World.cell?, hw]
            exact this
          · cases hj
      · cases h
    · cases h
  · split at h
    · rename_i hz
      cases h; cases hV
      rename_i t
      refine ⟨t.data.toList.map fun b => .int .u8 b.toNat, ?_, ?_, fun w1 _ => ⟨by simp [Builtin.lenOf], ?_⟩⟩
      · generalize t.data.toList = l
        induction l with
        | nil => exact .nil
        | cons c l ih => exact .cons _ _ _ _ (.int _ _) ih
      · rw [List.length_map, Array.length_toList, hz, Nat.mul_one]; rfl
      · simp only [Builtin.firstCells]
        have hx : t.extract 0 t.size = t := by
          apply ByteArray.ext
          simp
        rw [hx]
        have hy : Array.map (fun b : UInt8 => Value.int IntKind.u8 (b.toNat : Int)) t.data = (t.data.toList.map fun b : UInt8 => Value.int IntKind.u8 (b.toNat : Int)).toArray := by
          apply Array.ext'
          simp
        rw [hy]
        rfl
    · cases h
  · cases h

theorem append_grow {t u ty e : TypeId} {i : TypeInfo} {z : Value} {du : TypeDesc} (ht : P.underlying t = some (.slice e)) (hu : P.underlying u = some du) (hdu : ∀ k, du ≠ .int k) (hi : P.info? e = some i) (hz : i.zero = some z) (hzs : z.cells.size = i.size)
    (hb0 : 0 < i.bytes) {w : World} {base : Option Addr} {sLen sCap n : Nat} {x : Value} {olds news : List Value} (hlen : (Builtin.lenOf x).run P w = .ok n w)
    (hnew : (Builtin.firstCells i.size n x).run P w.drew = .ok news.toArray w.drew) (hold : (Builtin.firstCells i.size sLen (.slice base sLen sCap)).run P w.drew = .ok olds.toArray w.drew)
    (hg : sCap < sLen + n) (hfit : (sLen + n) * i.bytes ≤ 140737488355328) :
    ∃ cap' rest, (Builtin.append_ #[t, u] ty #[.slice base sLen sCap, x]).run P w = .ok (.slice (some ⟨w.heap.size, 0, none⟩) (sLen + n) cap') (pushW w.drew (.cells (olds ++ news ++ rest).toArray e (0, 0))) ∧
      sLen + n ≤ cap' ∧ rest.length = (cap' - (sLen + n)) * i.size := by
  have hn : ¬ (sLen + n ≤ sCap) := by omega
  have hsm : sLen + n ≤ 140737488355328 := Nat.le_trans (Nat.le_mul_of_pos_right _ hb0) hfit
  have h63' : ¬ (9223372036854775807 < ((sLen : Int) + (n : Int))) := by omega
  have h48 := growslice_fits hg hfit
  have h48' : ¬ (281474976710656 < Builtin.nextslicecap (sLen + n) sCap * i.bytes) := by omega
  refine ⟨grownCap w (sLen + n) sCap e, (Builtin.zeroCells z.cells (grownCap w (sLen + n) sCap e - (sLen + n))).toList, ?_, ?_, ?_⟩
  · have hzero : (match du with | .int _ => true | _ => false) = false := by
      cases du <;> first | rfl | exact absurd rfl (hdu _)
    simp [Builtin.append_, run_underlying ht, run_underlying hu, sizeOf, typeInfo, zeroValue, hi, hz, hlen, hn, h63', h48', Question.forced, hnew, hold, newRow, grownCap, pushW]
    have hr : ∀ r : Array Value, (olds ++ (news ++ r.toList)).toArray = olds.toArray ++ (news.toArray ++ r) := fun r => by apply Array.ext'; simp
    rw [hr]
    rfl
  · unfold grownCap; simp [Question.cut]
  · simp [Builtin.zeroCells, hzs]

theorem append_fits {t u ty e : TypeId} {i : TypeInfo} {du : TypeDesc} (ht : P.underlying t = some (.slice e)) (hu : P.underlying u = some du) (hdu : ∀ k, du ≠ .int k) (hi : P.info? e = some i)
    {w : World} {base : Option Addr} {sLen sCap n : Nat} {x : Value} {news : List Value} (hlen : (Builtin.lenOf x).run P w = .ok n w)
    (hnew : (Builtin.firstCells i.size n x).run P w = .ok news.toArray w) (hg : sLen + n ≤ sCap) :
    (Builtin.append_ #[t, u] ty #[.slice base sLen sCap, x]).run P w =
      match base with
      | some a => (match (storeCells (a.add (sLen * i.size)) news).run P w with | .ok _ w' => .ok (.slice base (sLen + n) sCap) w' | .halt h w' => .halt h w')
      | none => .ok (.slice none (sLen + n) sCap) w := by
  have hzero : (match du with | .int _ => true | _ => false) = false := by
    cases du <;> first | rfl | exact absurd rfl (hdu _)
  cases base with
  | none => simp [Builtin.append_, run_underlying ht, run_underlying hu, sizeOf, typeInfo, hi, hlen, hg, hnew]
  | some a =>
    simp [Builtin.append_, run_underlying ht, run_underlying hu, sizeOf, typeInfo, hi, hlen, hg, hnew]
    cases (storeCells (a.add (sLen * i.size)) news).run P w <;> rfl

end
end Go.Am
