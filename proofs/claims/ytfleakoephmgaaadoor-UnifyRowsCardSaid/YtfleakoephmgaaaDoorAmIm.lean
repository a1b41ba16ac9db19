/- Maps whose keys are strings: what the abstract machine says of them holds of Go's. Conditions: none. -/
import Derived.Test.YtfleakoephmgaaaDoorAmI
import Derived.Maps.Keyed
import Derived.StringKeys
import Derived.Carry
import Derived.LaidEql
import Derived.LoopN
set_option linter.unusedSimpArgs false
set_option linter.unusedVariables false
namespace Go.Am
open Go.Maps Go.WideMaps

theorem mget_none : ∀ {es : List (ByteArray × AV)} {x : ByteArray}, (∀ e, e ∈ es → e.1 ≠ x) → mget es x = none
  | [], _, _ => rfl
  | e :: r, x, h => by rw [mget, if_neg (h e (by simp))]; exact mget_none fun d hd => h d (by simp [hd])
theorem key_apart {es : List (ByteArray × AV)} {e : ByteArray × AV} (hn : ((e :: es).map (·.1)).Nodup) {j : Nat} {d : ByteArray × AV} (hj : es[j]? = some d) : e.1 ≠ d.1 := by
  simp only [List.map_cons, List.nodup_cons] at hn
  intro he
  exact hn.1 (by rw [he]; exact List.mem_map.2 ⟨d, List.mem_of_getElem? hj, rfl⟩)
theorem mget_at : ∀ {es : List (ByteArray × AV)} {j : Nat} {x : ByteArray} {a : AV}, (es.map (·.1)).Nodup → es[j]? = some (x, a) → mget es x = some a
  | [], _, _, _, _, h => by simp at h
  | e :: r, 0, x, a, _, h => by simp at h; subst h; simp [mget]
  | e :: r, j + 1, x, a, hn, h => by
    have hj : r[j]? = some (x, a) := by simpa using h
    rw [mget, if_neg (key_apart hn hj)]
    exact mget_at (by simp only [List.map_cons, List.nodup_cons] at hn; exact hn.2) hj
theorem mput_none : ∀ {es : List (ByteArray × AV)} {x : ByteArray} (a : AV), (∀ e, e ∈ es → e.1 ≠ x) → mput es x a = es ++ [(x, a)]
  | [], _, _, _ => rfl
  | e :: r, x, a, h => by rw [mput, if_neg (h e (by simp)), mput_none a fun d hd => h d (by simp [hd])]; rfl
theorem mput_at : ∀ {es : List (ByteArray × AV)} {j : Nat} {x : ByteArray} {b : AV} (a : AV), (es.map (·.1)).Nodup → es[j]? = some (x, b) → mput es x a = es.set j (x, a)
  | [], _, _, _, _, _, h => by simp at h
  | e :: r, 0, x, b, a, _, h => by simp at h; subst h; simp [mput]
  | e :: r, j + 1, x, b, a, hn, h => by
    have hj : r[j]? = some (x, b) := by simpa using h
    rw [mput, if_neg (key_apart hn hj), mput_at a (by simp only [List.map_cons, List.nodup_cons] at hn; exact hn.2) hj]
    rfl
theorem mdel_none : ∀ {es : List (ByteArray × AV)} {x : ByteArray}, (∀ e, e ∈ es → e.1 ≠ x) → mdel es x = es
  | [], _, _ => rfl
  | e :: r, x, h => by rw [mdel, if_neg (h e (by simp)), mdel_none fun d hd => h d (by simp [hd])]
theorem mdel_at : ∀ {es : List (ByteArray × AV)} {j : Nat} {x : ByteArray} {b : AV}, (es.map (·.1)).Nodup → es[j]? = some (x, b) → mdel es x = es.eraseIdx j
  | [], _, _, _, _, h => by simp at h
  | e :: r, 0, x, b, _, h => by simp at h; subst h; simp [mdel]
  | e :: r, j + 1, x, b, hn, h => by
    have hj : r[j]? = some (x, b) := by simpa using h
    rw [mdel, if_neg (key_apart hn hj), mdel_at (by simp only [List.map_cons, List.nodup_cons] at hn; exact hn.2) hj]
    rfl

section
variable {P : Program} {ρ : Rho} {s : St} {w : World} {a : Act} {o : Oper}

theorem mapOf_some {va : AV} {i : Nat} {es : List (ByteArray × AV)} (h : mapOf s va = some (i, es)) : va = .mapv i ∧ s.obj i = some (.map es) := by
  unfold mapOf at h
  split at h
  · split at h
    · cases h; exact ⟨rfl, by assumption⟩
    · cases h
  · cases h
theorem keyA_some {va : AV} {x : ByteArray} (h : keyA va = some x) : va = .str x ∧ x.size ≤ maxKey := by
  unfold keyA at h
  split at h
  · split at h
    · cases h; exact ⟨rfl, by assumption⟩
    · cases h
  · cases h

theorem MapR.at {n : Nat} {es : List (ByteArray × AV)} {ms : List MapEntry} (h : MapR ρ w n es ms) {j : Nat} {e : MapEntry} (hj : ms[j]? = some e) : ∃ k b, es[j]? = some (k, b) ∧ e.key = .string k ∧ V ρ w n b e.val := by
  have h1 : (ms.map (·.key))[j]? = some e.key := by rw [List.getElem?_map, hj]; rfl
  rw [h.1, List.getElem?_map] at h1
  cases he : es[j]? with
  | none => rw [he] at h1; cases h1
  | some d =>
    rw [he] at h1
    obtain ⟨v, hv, hV⟩ := h.2.1.get (j := j) (a := d.2) (by rw [List.getElem?_map, he]; rfl)
    rw [List.getElem?_map, hj] at hv
    cases hv
    exact ⟨d.1, d.2, rfl, (Option.some.inj h1).symm, hV⟩
theorem MapR.has {n : Nat} {es : List (ByteArray × AV)} {ms : List MapEntry} (h : MapR ρ w n es ms) {x : ByteArray} (hne : ∀ e, e ∈ ms → e.key ≠ .string x) : ∀ e, e ∈ es → e.1 ≠ x := by
  intro e he hx
  have hm : Value.string e.1 ∈ ms.map (·.key) := by rw [h.1]; exact List.mem_map.2 ⟨e, he, rfl⟩
  obtain ⟨d, hd, hk⟩ := List.mem_map.1 hm
  exact hne d hd (by rw [hk, hx])

/-- Where a key is, if it is there. -/
theorem find_map {kt : TypeId} (hk : P.underlying kt = some .string) {n : Nat} {es : List (ByteArray × AV)} {ms : List MapEntry} (h : MapR ρ w n es ms) {x : ByteArray} (hx : x.size ≤ maxKey) :
    ((Instr.findKey kt (.string x) ms).run P w = .ok none w ∧ ∀ e, e ∈ es → e.1 ≠ x) ∨
    ∃ j e b, (Instr.findKey kt (.string x) ms).run P w = .ok (some (j, e.val)) w ∧ ms[j]? = some e ∧ e.key = .string x ∧ es[j]? = some (x, b) ∧ V ρ w n b e.val := by
  have hkey : keyOf P kt (.string x) = some (.string x.data.toList) := keyOf_string_mk hk (by simpa [maxLen, maxKey] using hx)
  rcases (string_keyed hk).find w hkey ms (fun e he => by
    obtain ⟨j, hj⟩ := List.mem_iff_getElem?.1 he
    obtain ⟨k, b, h1, h2, -⟩ := h.at hj
    exact ⟨_, by rw [h2]; exact keyOf_string_mk hk (by have := h.2.2.2 _ (List.mem_of_getElem? h1); simpa [maxLen, maxKey] using this)⟩) with ⟨h1, h2⟩ | ⟨j, e, h1, h2, h3⟩
  · exact Or.inl ⟨h1, h.has h2⟩
  · obtain ⟨k, b, h4, h5, h6⟩ := h.at h2
    rw [h5] at h3
    cases h3
    exact Or.inr ⟨j, e, b, h1, h2, h5, h4, h6⟩

/-- The map's block is written. -/
theorem put_map (hS : Sim ρ s w) {i : Nat} {es es' : List (ByteArray × AV)} (h : s.obj i = some (.map es)) {ms : Array MapEntry} {clock : Nat} (hm' : MapR ρ w s.size es' ms.toList) :
    Fr ρ s w ρ (s.put i (some (.map es'))) (putW w (ρ.blk i) (.map ms clock)) ∧ Sim ρ (s.put i (some (.map es'))) (putW w (ρ.blk i) (.map ms clock)) := by
  obtain ⟨hi, hp, hlab, ms0, c0, hh, -⟩ := hS.maps i es h
  have hb : ρ.blk i < w.heap.size := (Array.getElem?_eq_some_iff.1 hh).1
  have hm : Mono ρ w s.size ρ (putW w (ρ.blk i) (.map ms clock)) (s.put i (some (.map es'))).size := by
    refine ⟨Nat.le_refl _, ?_, fun _ _ _ => rfl, fun _ _ _ => rfl, fun _ _ => rfl, fun _ _ h => h⟩
    intro b o him
    refine ⟨him, cell_put ?_ o⟩
    rintro rfl
    simp [Imm, ImmL, hlab] at him
  have hobj : ∀ j, j ≠ i → (s.put i (some (.map es'))).obj j = s.obj j := fun j hj => by simp only [St.put]; rw [if_neg hj]
  have hself : (s.put i (some (.map es'))).obj i = some (.map es') := by simp [St.put]
  refine ⟨⟨hm, rfl, rfl, rfl, by simp [putW], ?_, fun j hj => hobj j (by rintro rfl; rw [hp] at hj; cases hj), fun _ => rfl⟩, ⟨?_, ?_, ?_, ?_, froz_mono hS hm (fun _ _ h => h) (fun j cs h => by simp only [St.put] at h; split at h <;> first | exact h | cases h), ?_⟩⟩
  · intro b hlt hk
    refine ⟨rfl, heap_put ?_⟩
    rintro rfl
    rw [hlab] at hk
    rcases hk with hk | hk <;> cases hk
  · intro b hb'
    simp only [putW, Array.size_setIfInBounds] at hb'
    exact hS.free b hb'
  · intro j hj
    obtain ⟨hlt, hne⟩ := hS.pn j hj
    exact ⟨hlt, by rw [hobj j (by rintro rfl; rw [hp] at hj; cases hj)]; exact hne⟩
  · intro j cs0 hj hpj
    have hji : j ≠ i := by rintro rfl; rw [hself] at hj; cases hj
    rw [hobj j hji] at hj
    obtain ⟨hj', hl', vs0, rest0, ty0, hh0, hv0, ht0⟩ := hS.cells j cs0 hj hpj
    refine ⟨hj', hl', vs0, rest0, ty0, ?_, hv0.mono hm, ht0⟩
    rw [heap_put]
    · exact hh0
    · intro he
      rw [he, hlab] at hl'
      exact hji (Lab.obj.inj hl').symm
  · intro t ht
    have hti : t ≠ i := by rintro rfl; rw [hself] at ht; cases ht
    rw [hobj t hti] at ht
    obtain ⟨h1, b, len, cap, z, h2, h3, vs, ty, h4, h5⟩ := hS.right t ht
    refine ⟨h1, b, len, cap, z, h2, h3, vs, ty, ?_, h5⟩
    rw [heap_put]
    · exact h4
    · rintro rfl; rw [hlab] at h3; cases h3
  · intro j es0 hj
    by_cases hji : j = i
    · subst hji
      rw [hself] at hj
      cases hj
      exact ⟨hi, hp, hlab, ms, clock, heap_put_same hb, hm'.1, hm'.2.1.mono hm, hm'.2.2⟩
    · rw [hobj j hji] at hj
      obtain ⟨h1, h2, h3, ms1, c1, h4, h5, h6, h7⟩ := hS.maps j es0 hj
      refine ⟨h1, h2, h3, ms1, c1, ?_, h5, h6.mono hm, h7⟩
      rw [heap_put]
      · exact h4
      · intro he
        rw [he, hlab] at h3
        exact hji (Lab.obj.inj h3).symm

/-- A new map. -/
theorem new_map (hS : Sim ρ s w) :
    Fr ρ s w (ρ.newObj w.heap.size s.size 0) (s.new (.map [])) (pushW w (.map #[] 0)) ∧ Sim (ρ.newObj w.heap.size s.size 0) (s.new (.map [])) (pushW w (.map #[] 0)) := by
  have hm : Mono ρ w s.size (ρ.newObj w.heap.size s.size 0) (pushW w (.map #[] 0)) (s.new (.map [])).size := by
    refine ⟨by simp [St.new], ?_, ?_, ?_, fun _ _ => rfl, fun _ _ h => h⟩
    · intro b o hi
      have hb := imm_lt hS hi
      refine ⟨?_, cell_push hb o⟩
      simp only [Imm, Rho.newObj]
      rw [if_neg (by omega)]
      exact hi
    · intro i hi _; simp only [Rho.newObj]; rw [if_neg (by omega)]
    · intro i hi _; simp only [Rho.newObj]; rw [if_neg (by omega)]
  have hobj : ∀ j, j ≠ s.size → (s.new (.map [])).obj j = s.obj j := fun j hj => by simp only [St.new]; rw [if_neg hj]
  have hself : (s.new (.map [])).obj s.size = some (.map []) := by simp [St.new]
  refine ⟨⟨hm, rfl, rfl, rfl, by simp [pushW], ?_, fun i hp => hobj i (by have := (hS.pn i hp).1; omega), fun _ => rfl⟩, ⟨?_, ?_, ?_, ?_, froz_mono hS hm (fun _ _ h => h) (fun i cs h => by simp only [St.new] at h; split at h <;> first | exact h | cases h), ?_⟩⟩
  · intro b hb _
    refine ⟨?_, heap_push hb⟩
    simp only [Rho.newObj]
    rw [if_neg (by omega)]
  · intro b hb
    simp only [pushW, Array.size_push] at hb
    simp only [Rho.newObj]
    rw [if_neg (by omega)]
    exact hS.free b (by omega)
  · intro i hp
    obtain ⟨hlt, hne⟩ := hS.pn i hp
    exact ⟨by simp only [St.new]; omega, by rw [hobj i (by omega)]; exact hne⟩
  · intro i cs' h hp
    have hi : i ≠ s.size := by rintro rfl; rw [hself] at h; cases h
    rw [hobj i hi] at h
    obtain ⟨hi', hl, vs', rest', ty', hh, hvs, ht⟩ := hS.cells i cs' h hp
    have hb := blk_lt hS h hp
    refine ⟨by simp only [St.new]; omega, ?_, vs', rest', ty', ?_, hvs.mono hm, ?_⟩
    · simp only [Rho.newObj, if_neg hi]; rw [if_neg (by omega)]; exact hl
    · simp only [Rho.newObj, if_neg hi]; rw [heap_push hb]; exact hh
    · simp only [Rho.newObj, if_neg hi]; exact ht
  · intro t h
    have hi : t ≠ s.size := by rintro rfl; rw [hself] at h; cases h
    rw [hobj t hi] at h
    obtain ⟨ht, b, len, cap, z, h1, h2, vs', ty', h3, h4⟩ := hS.right t h
    have hb : b < w.heap.size := (Array.getElem?_eq_some_iff.1 h3).1
    refine ⟨by simp only [St.new]; omega, b, len, cap, z, h1, ?_, vs', ty', ?_, h4⟩
    · simp only [Rho.newObj]; rw [if_neg (by omega)]; exact h2
    · rw [heap_push hb]; exact h3
  · intro i es h
    by_cases hi : i = s.size
    · subst hi
      rw [hself] at h
      cases h
      have hpn : ρ.pend s.size = false := pend_new hS
      refine ⟨by simp [St.new], hpn, by simp [Rho.newObj], #[], 0, ?_, rfl, .nil, List.nodup_nil, fun e he => by cases he⟩
      simp only [Rho.newObj, if_true]; exact heap_push_new
    · rw [hobj i hi] at h
      obtain ⟨h1, h2, h3, ms, c, h4, h5, h6, h7⟩ := hS.maps i es h
      have hb : ρ.blk i < w.heap.size := (Array.getElem?_eq_some_iff.1 h4).1
      refine ⟨by simp only [St.new]; omega, h2, ?_, ms, c, ?_, h5, h6.mono hm, h7⟩
      · simp only [Rho.newObj, if_neg hi]; rw [if_neg (by omega)]; exact h3
      · simp only [Rho.newObj, if_neg hi]; rw [heap_push hb]; exact h4

theorem key_ok {kt : TypeId} (hk : P.underlying kt = some .string) {x : ByteArray} (hx : x.size ≤ maxKey) : keyOf P kt (.string x) = some (.string x.data.toList) := keyOf_string_mk hk (by simpa [maxLen, maxKey] using hx)

theorem mmk_sound {t kt el : TypeId} (hS : Sim ρ s w) (ht : P.underlying t = some (.map kt el)) (ho : o.op = .makeMap t none) : OpRes P o a ρ s w (.mapv s.size) (s.new (.map [])) := by
  obtain ⟨hF, hS'⟩ := new_map hS
  refine ⟨_, _, hF, hS', Or.inl ⟨.map (some w.heap.size), ?_, ?_⟩⟩
  · simp [execOp, ho, Instr.makeMap, pushW_eq]
  · have h := hS'.maps s.size [] (by simp [St.new])
    have := V.mapv (ρ := ρ.newObj w.heap.size s.size 0) (w := pushW w (.map #[] 0)) (n := (s.new (.map [])).size) s.size h.1 h.2.1
    simpa [Rho.newObj] using this

theorem V.mapv_inv {n : Nat} {i : Nat} {v : Value} (h : V ρ w n (.mapv i) v) : v = .map (some (ρ.blk i)) := by
  cases h; rfl
theorem V.str_inv {n : Nat} {x : ByteArray} {v : Value} (h : V ρ w n (.str x) v) : v = .string x := by
  cases h; rfl

theorem mlk_sound {t kt el : TypeId} {m k : Operand} {i : Nat} {es : List (ByteArray × AV)} {x : ByteArray} {z : AV} (hS : Sim ρ s w) (ht : P.underlying t = some (.map kt el)) (hk : P.underlying kt = some .string) (hz : ∃ i z', P.info? el = some i ∧ i.zero = some z' ∧ ∀ ρ w n, V ρ w n z z')
    (hm : V ρ w s.size (.mapv i) (a.eval m)) (hx : V ρ w s.size (.str x) (a.eval k)) (hi : s.obj i = some (.map es)) (hl : x.size ≤ maxKey) (ho : o.op = .lookup t m k false) : OpRes P o a ρ s w ((mget es x).getD z) s := by
  obtain ⟨h1, h2, h3, ms, clock, h4, h5⟩ := hS.maps i es hi
  obtain ⟨ii, z', hz1, hz2, hz3⟩ := hz
  have em := hm.mapv_inv
  have ek := hx.str_inv
  have hc := (string_keyed hk).check w ms.isEmpty (key_ok hk hl)
  rcases find_map hk h5 hl with ⟨h6, h7⟩ | ⟨j, e, b, h6, h7, h8, h9, h10⟩
  · rw [mget_none h7]
    refine res_still hS (v' := z') ?_ (hz3 _ _ _)
    simp [execOp, ho, em, ek, Instr.lookup, run_underlying ht, MapKept.run_getObj_map h4, hc, h6, zero_run hz1 hz2]
  · rw [mget_at h5.2.2.1 h9]
    refine res_still hS (v' := e.val) ?_ h10
    simp [execOp, ho, em, ek, Instr.lookup, run_underlying ht, MapKept.run_getObj_map h4, hc, h6]

theorem MapR.put {n : Nat} {es : List (ByteArray × AV)} {ms : List MapEntry} (h : MapR ρ w n es ms) {x : ByteArray} (hne : ∀ e, e ∈ es → e.1 ≠ x) (hl : x.size ≤ maxKey) {b : AV} {v : Value} (hV : V ρ w n b v) (c : Nat) : MapR ρ w n (es ++ [(x, b)]) (ms ++ [⟨.string x, v, c⟩]) := by
  refine ⟨by simp [h.1], ?_, ?_, ?_⟩
  · rw [List.map_append, List.map_append]
    exact h.2.1.append (.cons _ _ _ _ hV .nil)
  · rw [List.map_append, List.nodup_append]
    refine ⟨h.2.2.1, by simp, ?_⟩
    intro y hy z hz
    simp only [List.map_cons, List.map_nil, List.mem_singleton] at hz
    obtain ⟨e, he, rfl⟩ := List.mem_map.1 hy
    rw [hz]
    exact hne e he
  · intro e he
    rcases List.mem_append.1 he with he | he
    · exact h.2.2.2 e he
    · rw [List.mem_singleton.1 he]; exact hl

theorem Vs.setAt : ∀ {n : Nat} {cs : List AV} {vs : List Value} {j : Nat} {b : AV} {v : Value}, Vs ρ w n cs vs → V ρ w n b v → Vs ρ w n (cs.set j b) (vs.set j v)
  | _, _, _, _, _, _, .nil, _ => .nil
  | _, _, _, 0, _, _, .cons _ _ _ _ _ hs, hV => .cons _ _ _ _ hV hs
  | _, _, _, _ + 1, _, _, .cons _ _ _ _ h hs, hV => .cons _ _ _ _ h (Vs.setAt hs hV)
theorem Vs.eraseAt : ∀ {n : Nat} {cs : List AV} {vs : List Value} {j : Nat}, Vs ρ w n cs vs → Vs ρ w n (cs.eraseIdx j) (vs.eraseIdx j)
  | _, _, _, _, .nil => .nil
  | _, _, _, 0, .cons _ _ _ _ _ hs => hs
  | _, _, _, _ + 1, .cons _ _ _ _ h hs => .cons _ _ _ _ h (Vs.eraseAt hs)

theorem map_set' {α β : Type} (f : α → β) (l : List α) (j : Nat) (x : α) : (l.set j x).map f = (l.map f).set j (f x) := by simp
theorem set_self {α : Type} : ∀ {l : List α} {j : Nat} {x : α}, l[j]? = some x → l.set j x = l
  | [], _, _, h => by simp at h
  | y :: l, 0, x, h => by simp at h; simp [h]
  | y :: l, j + 1, x, h => by
    have : l[j]? = some x := by simpa using h
    simp [set_self this]
theorem map_erase {α β : Type} (f : α → β) : ∀ (l : List α) (j : Nat), (l.eraseIdx j).map f = (l.map f).eraseIdx j
  | [], _ => rfl
  | y :: l, 0 => rfl
  | y :: l, j + 1 => by simp [map_erase f l j]

theorem MapR.set {n : Nat} {es : List (ByteArray × AV)} {ms : List MapEntry} (h : MapR ρ w n es ms) {x : ByteArray} {j : Nat} {a0 : AV} {e : MapEntry} (hj : es[j]? = some (x, a0)) (hm : ms[j]? = some e) (hk : e.key = .string x) {b : AV} {v : Value} (hV : V ρ w n b v) :
    MapR ρ w n (es.set j (x, b)) (ms.set j { e with key := .string x, val := v }) := by
  have h1 : (es.set j (x, b)).map (·.1) = es.map (·.1) := by
    rw [map_set', set_self]; rw [List.getElem?_map, hj]; rfl
  refine ⟨?_, ?_, by rw [h1]; exact h.2.2.1, ?_⟩
  · have h2 : (ms.set j { e with key := .string x, val := v }).map (·.key) = ms.map (·.key) := by
      rw [map_set', set_self]; rw [List.getElem?_map, hm, ← hk]; rfl
    rw [h2, h.1]
    rw [map_set' (fun e : ByteArray × AV => Value.string e.1), set_self]
    rw [List.getElem?_map, hj]; rfl
  · rw [map_set', map_set']
    exact h.2.1.setAt hV
  · intro d hd
    have : d.1 ∈ (es.set j (x, b)).map (·.1) := List.mem_map.2 ⟨d, hd, rfl⟩
    rw [h1] at this
    obtain ⟨d', hd', e'⟩ := List.mem_map.1 this
    rw [← e']; exact h.2.2.2 d' hd'

theorem MapR.erase {n : Nat} {es : List (ByteArray × AV)} {ms : List MapEntry} (h : MapR ρ w n es ms) (j : Nat) : MapR ρ w n (es.eraseIdx j) (ms.eraseIdx j) := by
  refine ⟨by rw [map_erase, map_erase, h.1], by rw [map_erase, map_erase]; exact h.2.1.eraseAt, ?_, fun e he => h.2.2.2 e ((List.eraseIdx_sublist _ _).subset he)⟩
  rw [map_erase]
  exact h.2.2.1.sublist (List.eraseIdx_sublist _ _)

theorem mup_sound {t kt el : TypeId} {m k x : Operand} {i : Nat} {es : List (ByteArray × AV)} {y : ByteArray} {b : AV} (hS : Sim ρ s w) (ht : P.underlying t = some (.map kt el)) (hk : P.underlying kt = some .string)
    (hm : V ρ w s.size (.mapv i) (a.eval m)) (hx : V ρ w s.size (.str y) (a.eval k)) (hb : V ρ w s.size b (a.eval x)) (hi : s.obj i = some (.map es)) (hl : y.size ≤ maxKey) (ho : o.op = .mapUpdate t m k x) : OpRes P o a ρ s w undefA (s.put i (some (.map (mput es y b)))) := by
  obtain ⟨h1, h2, h3, ms, clock, h4, h5⟩ := hS.maps i es hi
  have em := hm.mapv_inv
  have ek := hx.str_inv
  have hc := (string_keyed hk).check w false (key_ok hk hl)
  rcases find_map hk h5 hl with ⟨h6, h7⟩ | ⟨j, e, b0, h6, h7, h8, h9, h10⟩
  · rw [mput_none _ h7]
    obtain ⟨hF, hS'⟩ := put_map (ms := ms.push ⟨.string y, a.eval x, clock⟩) (clock := clock + 1) hS hi (by rw [Array.toList_push]; exact h5.put h7 hl hb clock)
    refine ⟨_, _, hF, hS', Or.inr ⟨?_, rfl⟩⟩
    simp [execOp, ho, em, ek, Instr.mapUpdate, run_underlying ht, MapKept.run_getObj_map h4, hc, h6, MapKept.run_setObj_map _ h4, putW]
  · rw [mput_at _ h5.2.2.1 h9]
    have hj : ms[j]? = some e := by simpa using h7
    have hs := (string_keyed hk).stays w (key_ok hk hl)
    have hlist : (ms.modify j (fun e' => { e' with key := .string y, val := a.eval x })).toList = ms.toList.set j { e with key := .string y, val := a.eval x } := by
      rw [Array.toList_modify, List.modify_eq_set, h7]; rfl
    obtain ⟨hF, hS'⟩ := put_map (ms := ms.modify j (fun e' => { e' with key := .string y, val := a.eval x })) (clock := clock) hS hi (by rw [hlist]; exact h5.set h9 h7 h8 hb)
    refine ⟨_, _, hF, hS', Or.inr ⟨?_, rfl⟩⟩
    simp [execOp, ho, em, ek, Instr.mapUpdate, run_underlying ht, MapKept.run_getObj_map h4, hc, h6, hj, h8, hs, MapKept.run_setObj_map _ h4, putW]

theorem mdl_sound {t kt kt' el ty : TypeId} {vm vk : Value} {i : Nat} {es : List (ByteArray × AV)} {y : ByteArray} (hS : Sim ρ s w) (ht : P.underlying t = some (.map kt el)) (hk : P.underlying kt = some .string)
    (hm : V ρ w s.size (.mapv i) vm) (hx : V ρ w s.size (.str y) vk) (hi : s.obj i = some (.map es)) (hl : y.size ≤ maxKey) :
    ∃ ρ' w', (Builtin.delete_ #[t, kt'] ty #[vm, vk]).run P w = .ok (.tuple #[]) w' ∧ Fr ρ s w ρ' (s.put i (some (.map (mdel es y)))) w' ∧ Sim ρ' (s.put i (some (.map (mdel es y)))) w' := by
  obtain ⟨h1, h2, h3, ms, clock, h4, h5⟩ := hS.maps i es hi
  rw [hm.mapv_inv, hx.str_inv]
  have hc := (string_keyed hk).check w ms.isEmpty (key_ok hk hl)
  rcases find_map hk h5 hl with ⟨h6, h7⟩ | ⟨j, e, b0, h6, h7, h8, h9, h10⟩
  · rw [mdel_none h7]
    obtain ⟨hF, hS'⟩ := put_map (ms := ms) (clock := clock) hS hi h5
    refine ⟨_, _, ?_, hF, hS'⟩
    simp [Builtin.delete_, run_underlying ht, MapKept.run_getObj_map h4, hc, h6, MapKept.run_setObj_map _ h4, putW]
  · rw [mdel_at h5.2.2.1 h9]
    have hjs : j < ms.size := by simpa using (List.getElem?_eq_some_iff.1 h7).1
    have hsub : (ms.eraseIdxIfInBounds j).toList = ms.toList.eraseIdx j := by
      unfold Array.eraseIdxIfInBounds
      rw [dif_pos hjs]
      simp
    obtain ⟨hF, hS'⟩ := put_map (ms := ms.eraseIdxIfInBounds j) (clock := clock) hS hi (by rw [hsub]; exact h5.erase j)
    refine ⟨_, _, ?_, hF, hS'⟩
    simp [Builtin.delete_, run_underlying ht, MapKept.run_getObj_map h4, hc, h6, MapKept.run_setObj_map _ h4, putW]

theorem equal_pp {t el : TypeId} (ht : P.underlying t = some (.pointer el)) (k : Nat) {a b : Option Addr} {r : Bool}
    (h : (a = none ∧ r = b.isNone) ∨ (b = none ∧ r = a.isNone) ∨ ∃ x y n, a = some x ∧ b = some y ∧ (sizeOf el).run P w = .ok n w ∧ n ≠ 0 ∧ (sameAddr x y).run P w = .ok r w) : (Op.equalIn (k + 1) t (.pointer a) (.pointer b)).run P w = .ok r w := by
  rcases h with ⟨rfl, rfl⟩ | ⟨rfl, rfl⟩ | ⟨x, y, n, rfl, rfl, h1, h2, h3⟩
  · simp [Op.equalIn, run_underlying ht]
  · cases a <;> simp [Op.equalIn, run_underlying ht]
  · simp [Op.equalIn, run_underlying ht, h1, h2, h3]

/-- Two pointers to objects that live. -/
theorem eqp_sound {neq : Bool} {t el : TypeId} {i : TypeInfo} (hS : Sim ρ s w) (ht : P.underlying t = some (.pointer el)) (hi : P.info? el = some i) (hsz : i.size ≠ 0) {x y v : AV} {xv yv : Value} (h : eqpA neq s x y = some v)
    (hX : V ρ w s.size x xv) (hY : V ρ w s.size y yv) (ox oy : Operand) :
    ∃ v', (do eqGuard (if neq then .neq else .eql) t ox oy xv yv; binOp (if neq then .neq else .eql) t xv yv : Sem Value).run P w = .ok v' w ∧ V ρ w s.size v v' := by
  unfold eqpA at h
  split at h
  · cases h; cases hX; cases hY
    exact ⟨_, eqbin_run (r := true) (fun _ _ _ => eqGuard_at_pointer ..) (by rintro op (rfl | rfl) <;> rfl) (equal_pp ht 9999 (Or.inl ⟨rfl, rfl⟩)) neq ox oy, by cases neq <;> exact .bool _⟩
  · cases h; cases hX; cases hY
    exact ⟨_, eqbin_run (r := false) (fun _ _ _ => eqGuard_at_pointer ..) (by rintro op (rfl | rfl) <;> rfl) (equal_pp ht 9999 (Or.inl ⟨rfl, rfl⟩)) neq ox oy, by cases neq <;> exact .bool _⟩
  · cases h; cases hX; cases hY
    exact ⟨_, eqbin_run (r := false) (fun _ _ _ => eqGuard_at_pointer ..) (by rintro op (rfl | rfl) <;> rfl) (equal_pp ht 9999 (Or.inr (Or.inl ⟨rfl, rfl⟩))) neq ox oy, by cases neq <;> exact .bool _⟩
  · rename_i p o q r
    split at h
    · rename_i cs ds hp hq
      cases h
      cases hX with
      | ptr _ _ hpl hpp =>
        cases hY with
        | ptr _ _ hql hqp =>
          obtain ⟨_, l1, vs1, r1, t1, m1, -, -⟩ := hS.cells p cs hp hpp
          obtain ⟨_, l2, vs2, r2, t2, m2, -, -⟩ := hS.cells q ds hq hqp
          have hrun : (sameAddr ⟨ρ.blk p, o, none⟩ ⟨ρ.blk q, r, none⟩).run P w = .ok (p == q && o == r) w := by
            by_cases he : p = q ∧ o = r
            · obtain ⟨rfl, rfl⟩ := he
              simp [run_sameAddr_same]
            · have hne : (⟨ρ.blk p, o, none⟩ : Addr) ≠ ⟨ρ.blk q, r, none⟩ := by
                intro hh
                injection hh with h1 h2
                rw [h1, l2] at l1
                exact he ⟨(Lab.obj.inj l1).symm, h2⟩
              have hb : (p == q && o == r) = false := by
                cases hx : (p == q && o == r) with
                | false => rfl
                | true =>
                  simp only [Bool.and_eq_true, beq_iff_eq] at hx
                  exact absurd hx he
              rw [hb]
              exact run_sameAddr_other w hne m1 m2
          have hsz' : (sizeOf el).run P w = .ok i.size w := by simp [sizeOf, info_run hi]
          exact ⟨_, eqbin_run (r := (p == q && o == r)) (fun _ _ _ => eqGuard_at_pointer ..) (by rintro op (rfl | rfl) <;> rfl) (equal_pp ht 9999 (Or.inr (Or.inr ⟨_, _, _, rfl, rfl, hsz', hsz, hrun⟩))) neq ox oy, by cases neq <;> exact .bool _⟩
    · cases h
  · cases h

theorem repCells_len (zs : List AV) : ∀ m, (repCells zs m).length = m * zs.length
  | 0 => by simp [repCells]
  | m + 1 => by rw [repCells, List.length_append, repCells_len zs m, Nat.add_mul, Nat.one_mul, Nat.add_comm]
theorem repCells_one {zs : List AV} (h : zs.all AV.one = true) : ∀ m, (repCells zs m).all AV.one = true
  | 0 => rfl
  | m + 1 => by rw [repCells, List.all_append, h, repCells_one h m]; rfl

/-- The cells of a slice set to zero. -/
theorem clr_sound {t el ty : TypeId} {i : TypeInfo} {zs : List AV} {s' : St} {xa : AV} {xv : Value} (hS : Sim ρ s w) (hu : P.underlying t = some (.slice el)) (hi : P.info? el = some i) (hz : zeroOf P el = some zs) (h0 : 0 < i.size) (hzl : zs.length = i.size)
    (hX : V ρ w s.size xa xv) (h : clrA s zs xa = some s') : ∃ ρ' w', (Builtin.clear_ #[t] ty #[xv]).run P w = .ok (.tuple #[]) w' ∧ Fr ρ s w ρ' s' w' ∧ Sim ρ' s' w' := by
  unfold clrA at h
  split at h
  · cases h; cases hX
    exact ⟨ρ, w, by simp [Builtin.clear_, run_underlying hu], Fr.refl _ _ _, hS⟩
  · split at h
    · rename_i hl
      cases h
      subst hl
      cases hX with
      | sl => exact ⟨ρ, w, by simp [Builtin.clear_, run_underlying hu], Fr.refl _ _ _, hS⟩
      | sl0 a => exact ⟨ρ, w, by cases a <;> simp [Builtin.clear_, run_underlying hu], Fr.refl _ _ _, hS⟩
    · cases h
  · rename_i j off len z
    split at h
    · rename_i hl
      cases h
      subst hl
      cases hX with
      | msl => exact ⟨ρ, w, by simp [Builtin.clear_, run_underlying hu], Fr.refl _ _ _, hS⟩
    · rename_i hl
      split at h
      · rename_i cs hob
        split at h
        · rename_i hc
          obtain ⟨hz1, hz2, hz3⟩ := hc
          cases h
          cases hX with
          | msl _ _ _ cap _ hjn hjp hlc htot =>
            obtain ⟨hj, hlab, vs, rest, ty', hh, hvs, htot'⟩ := hS.cells j cs hob hjp
            have hvl := hvs.length
            obtain ⟨i', zv, hi', hzz, hv⟩ := zero_sound hz
            obtain rfl : i = i' := Option.some.inj (hi.symm.trans hi')
            have hzv := (hv ρ w s.size).length
            rw [Array.length_toList, hzl] at hzv
            have hV := rep_V (hv ρ w s.size) len
            have hlen : (repV zv.cells.toList len).length = len * i.size := by rw [hV.length, repCells_len, hzl]
            have hcell : (Builtin.zeroCells zv.cells len).toList = repV zv.cells.toList len := by
              rw [← repV_eq zv.cells i.size hzv h0 len]
              simp [Builtin.zeroCells, hzv]
            have hst := storeCells_run (P := P) (repV zv.cells.toList len) (o := off) (k := 0) hh (by rw [List.length_append, hlen, ← hzl, hz1]; omega) (ones_V hV (repCells_one hz3 len))
            rw [Nat.add_zero, setV_append _ _ _ _ (by rw [hlen, ← hzl, hz1]; omega)] at hst
            have htot2 : (setV vs off (repV zv.cells.toList len) ++ rest).length = ρ.tot j := by rw [List.length_append, setV_length, ← List.length_append]; exact htot'
            obtain ⟨hF, hS'⟩ := put_obj hS (ty := ty') hob hjp (setAt_V off hV hvs) htot2
            refine ⟨_, _, ?_, hF, hS'⟩
            cases len with
            | zero => exact absurd rfl hl
            | succ m =>
              simp [Builtin.clear_, run_underlying hu, zero_run hi hzz, hcell, hst]
        · cases h
      · cases h
  · cases h
end
end Go.Am

/- Operations, regions, whole functions: what the abstract machine says holds of Go's run. Conditions: none. -/
namespace Go.Am

/-- What is known of a call. -/
def CallC (G : Glob) (P : Program) (f : Nat) (args : List AV) (s : St) (v : AV) (s' : St) : Prop :=
  ∀ ρ w (argv : List Value), Sim ρ s w → GlobR G ρ w s.size → Vs ρ w s.size args argv →
    (∀ w1, (callFunc f argv.toArray).run P w1 = .ok (.enter f argv.toArray) w1) ∧
    Calls P f argv.toArray w fun en w' => ∃ ρ' v', en = .returned v' ∧ Fr ρ s w ρ' s' w' ∧ Sim ρ' s' w' ∧ V ρ' w' s'.size v v'

def CallOk (G : Glob) (P : Program) (call : Nat → List AV → St → Option (AV × St)) : Prop :=
  ∀ f args s v s', call f args s = some (v, s') → CallC G P f args s v s'

section
variable {G : Glob} {P : Program} {ρ : Rho} {s : St} {w : World} {a : Act} {o : Oper} {e : Env}

/-- What a call comes to. -/
def CallRes (P : Program) (call : Nat → List AV → St → Option (AV × St)) (o : Oper) (a : Act) (ρ : Rho) (s : St) (w : World) (v : AV) (s' : St) : Prop :=
  ∃ (f : Nat) (args : List AV) (argv : List Value), call f args s = some (v, s') ∧ Vs ρ w s.size args argv ∧ (execOp a.eval o).run P w = (callFunc f argv.toArray).run P w

theorem res_bin {op : BinOp} {t yt : TypeId} {x y : Operand} {v : AV} (hop : o.op = .binOp op t x y yt) (hS : Sim ρ s w)
    (h : ∃ v', (do eqGuard op t x y (a.eval x) (a.eval y); binOp op t (a.eval x) (a.eval y) : Sem Value).run P w = .ok v' w ∧ V ρ w s.size v v') : OpRes P o a ρ s w v s :=
  res_sem hS (by simp only [execOp, hop]) h

theorem cM_none {x : Option Operand} (h : cM G x = some none) : x = none := by
  cases x with
  | none => rfl
  | some y => simp [cM] at h

theorem zeroV_sound {t : TypeId} {za : AV} (h : zeroV P t = some za) : ∃ i z, P.info? t = some i ∧ i.zero = some z ∧ ∀ ρ w n, V ρ w n za z := by
  unfold zeroV at h
  split at h
  · rename_i i hi
    split at h
    · rename_i vs hz
      simp only [Option.map_eq_some_iff] at h
      obtain ⟨cs, hcs, rfl⟩ := h
      refine ⟨i, _, hi, hz, fun ρ w n => ?_⟩
      have := V.agg (ρ := ρ) (w := w) (n := n) cs vs.toList (Vs.ofVs hcs)
      simpa using this
    · rename_i v _ hz
      exact ⟨i, v, hi, hz, fun ρ w n => V.ofV h⟩
    · cases h
  · cases h

set_option maxHeartbeats 1000000 in
theorem op_sound0 {call : Nat → List AV → St → Option (AV × St)} {mu mb : Bool} {c : COp} {v : AV} {s' : St} (hS : Sim ρ s w) (hE : EnvR G ρ w s.size e a.tmps) (hc : cOp0 G P mu mb o.op = some c)
    (h : evOp call c e s = some (v, s')) : OpRes P o a ρ s w v s' ∨ CallRes P call o a ρ s w v s' := by
  cases hop : o.op <;> rw [hop] at hc <;> simp only [cOp0] at hc
  case move x =>
    left
    simp only [Option.map_eq_some_iff] at hc
    obtain ⟨q, hq, rfl⟩ := hc
    cases h
    exact res_still hS (v' := a.eval x) (by simp [execOp, hop]) (cO_sound hE hq)
  case assign x =>
    left
    simp only [Option.map_eq_some_iff] at hc
    obtain ⟨q, hq, rfl⟩ := hc
    cases h
    exact res_still hS (v' := a.eval x) (by simp [execOp, hop]) (cO_sound hE hq)
  case pick c x y =>
    left
    split at hc
    · rename_i c' x' y' h1 h2 h3
      cases hc
      simp only [evOp] at h
      split at h
      · rename_i t ht
        cases h
        have hcv := cO_sound hE h1
        rw [ht] at hcv
        have hcb : a.eval c = .bool t := by generalize a.eval c = q at hcv; cases hcv; rfl
        refine res_still hS (v' := if t then a.eval x else a.eval y) (by simp [execOp, hop, hcb, asBool]) ?_
        cases t
        · exact cO_sound hE h3
        · exact cO_sound hE h2
      · cases h
    · cases hc
  case alloc t =>
    left
    simp only [Option.map_eq_some_iff] at hc
    obtain ⟨q, hq, rfl⟩ := hc
    cases h
    exact alloc_sound hS hq hop
  case box t x =>
    left
    simp only [Option.map_eq_some_iff] at hc
    obtain ⟨q, hq, rfl⟩ := hc
    cases h
    exact box_sound hS (cO_sound hE hq) hop
  case build t ps =>
    left
    split at hc
    · rename_i fs zs h1 h2
      split at hc
      · rename_i pl hpl
        simp only [Option.map_eq_some_iff] at hc
        obtain ⟨q, hq, rfl⟩ := hc
        simp only [evOp] at h
        split at h
        · rename_i out hout
          cases h
          exact build_sound hS hE h1 h2 hpl hq hout hop
        · cases h
      · cases hc
    · rename_i len el zs h1 h2
      split at hc
      · rename_i i hi
        simp only [Option.map_eq_some_iff] at hc
        obtain ⟨q, hq, rfl⟩ := hc
        simp only [evOp] at h
        split at h
        · rename_i out hout
          cases h
          exact builda_sound hS hE h1 hi h2 hq hout hop
        · cases h
      · cases hc
    · cases hc
  case buildSlice t len ps =>
    left
    split at hc
    · rename_i el h1
      split at hc
      · rename_i i zs h2 h3
        split at hc
        · rename_i hcd
          obtain ⟨h0, hzl, hlim⟩ := hcd
          simp only [Option.map_eq_some_iff] at hc
          obtain ⟨q, hq, hqc⟩ := hc
          cases mb with
          | false =>
            simp only [Bool.false_eq_true, if_false] at hqc
            subst hqc
            simp only [evOp] at h
            split at h
            · rename_i out hout
              split at h
              · rename_i hst
                cases h
                exact bsl_sound hS hE h1 h2 h3 h0 hzl hlim hq hout hst.2 hop
              · cases h
            · cases h
          | true =>
            simp only [if_true] at hqc
            subst hqc
            simp only [evOp] at h
            split at h
            · rename_i out hout
              split at h
              · rename_i hst
                cases h
                exact bslm_sound hS hE h1 h2 h3 h0 hzl hlim hq hout hst.2 hop
              · cases h
            · cases h
        · cases hc
      · cases hc
    · cases hc
  case load t x =>
    left
    split at hc
    · rename_i g i q h1 h2 h3
      cases hc
      simp only [evOp] at h
      split at h
      · rename_i v' hv
        cases h
        exact res_sem hS (by simp [execOp, hop]) (load_sound hS h1 h2 hv (cO_sound hE h3))
      · cases h
    · cases hc
  case store t x y =>
    left
    split at hc
    · rename_i i xa ya h1 h2 h3
      cases hc
      simp only [evOp] at h
      split at h
      · rename_i s1 hv
        cases h
        exact store_sound hS h1 (cO_sound hE h2) (cO_sound hE h3) hv hop
      · cases h
    · cases hc
  case nilCheck x =>
    left
    simp only [Option.map_eq_some_iff] at hc
    obtain ⟨q, hq, rfl⟩ := hc
    have hx := cO_sound hE hq
    simp only [evOp] at h
    split at h
    · rename_i i off hv
      cases h
      rw [hv] at hx
      have hxe : a.eval x = .pointer (some ⟨ρ.blk i, off, none⟩) := by generalize a.eval x = q at hx; cases hx; rfl
      exact res_still hS (v' := a.eval x) (by simp [execOp, hop, hxe]) hx
    · rename_i cs hv
      cases h
      rw [hv] at hx
      have hxe : ∃ ad, a.eval x = .pointer (some ad) := by generalize a.eval x = q at hx; cases hx; exact ⟨_, rfl⟩
      obtain ⟨ad, hxe⟩ := hxe
      exact res_still hS (v' := a.eval x) (by simp [execOp, hop, hxe]) hx
    · cases h
  case binOp op t x y yt =>
    left
    unfold cBin at hc
    split at hc
    · rename_i k hk
      split at hc
      · rename_i xa ya h3 h4
        cases op <;> simp only [Option.some.injEq] at hc <;> subst hc <;> simp only [evOp] at h <;> split at h <;> first | (cases h; done) | skip
        all_goals
          rename_i v' hv
          cases h
          first
            | exact res_bin hop hS (binA_sound hv (cO_sound hE h3) (cO_sound hE h4) t x y)
            | exact res_bin hop hS (shf_sound hv (cO_sound hE h3) (cO_sound hE h4) t x y)
      · cases hc
    · rename_i fs hfs
      split at hc
      · rename_i hcd
        split at hc
        · rename_i xa ya ks h3 h4 h5
          cases hc
          simp only [evOp] at h
          split at h
          · rename_i v' hv
            cases h
            exact res_bin hop hS (eqs_sound (neq := false) hfs hcd.1 hcd.2 h5 hv (cO_sound hE h3) (cO_sound hE h4) x y)
          · cases h
        · rename_i xa ya ks h3 h4 h5
          cases hc
          simp only [evOp] at h
          split at h
          · rename_i v' hv
            cases h
            exact res_bin hop hS (eqs_sound (neq := true) hfs hcd.1 hcd.2 h5 hv (cO_sound hE h3) (cO_sound hE h4) x y)
          · cases h
        · cases hc
      · cases hc
    · split at hc
      · rename_i xa ya h3 h4
        cases hc
        simp only [evOp] at h
        split at h
        · rename_i v' hv
          cases h
          exact res_bin hop hS (binA_sound hv (cO_sound hE h3) (cO_sound hE h4) t x y)
        · cases h
      · cases hc
    · rename_i hb
      split at hc
      · rename_i xa ya h3 h4
        cases hc
        simp only [evOp] at h
        split at h
        · rename_i v' hv
          cases h
          exact res_bin hop hS (eqb_sound (neq := false) hb hv (cO_sound hE h3) (cO_sound hE h4) x y)
        · cases h
      · rename_i xa ya h3 h4
        cases hc
        simp only [evOp] at h
        split at h
        · rename_i v' hv
          cases h
          exact res_bin hop hS (eqb_sound (neq := true) hb hv (cO_sound hE h3) (cO_sound hE h4) x y)
        · cases h
      · cases hc
    · rename_i el hb
      split at hc
      · rename_i xa h3
        cases hc
        simp only [evOp] at h
        split at h
        · rename_i v' hv
          cases h
          exact res_bin hop hS (eqnilS_sound (neq := false) hb hv (cO_sound hE h3) x (.const (.slice none 0 0)))
        · cases h
      · rename_i xa h3
        cases hc
        simp only [evOp] at h
        split at h
        · rename_i v' hv
          cases h
          exact res_bin hop hS (eqnilS_sound (neq := true) hb hv (cO_sound hE h3) x (.const (.slice none 0 0)))
        · cases h
      · cases hc
    · rename_i ms hb
      split at hc
      · rename_i xa h3
        cases hc
        simp only [evOp] at h
        split at h
        · rename_i v' hv
          cases h
          exact res_bin hop hS (eqni_sound (neq := false) hb hv (cO_sound hE h3) x)
        · cases h
      · rename_i xa h3
        cases hc
        simp only [evOp] at h
        split at h
        · rename_i v' hv
          cases h
          exact res_bin hop hS (eqni_sound (neq := true) hb hv (cO_sound hE h3) x)
        · cases h
      · cases hc
    · rename_i el hb
      split at hc
      · rename_i xa h3
        cases hc
        simp only [evOp] at h
        split at h
        · rename_i v' hv
          cases h
          exact res_bin hop hS (eqnilP_sound (neq := false) hb hv (cO_sound hE h3) x (.const (.pointer none)))
        · cases h
      · rename_i xa h3
        cases hc
        simp only [evOp] at h
        split at h
        · rename_i v' hv
          cases h
          exact res_bin hop hS (eqnilP_sound (neq := true) hb hv (cO_sound hE h3) x (.const (.pointer none)))
        · cases h
      · rename_i xa h3 _ _
        unfold cPtr at hc
        split at hc
        · rename_i i ya hi h4
          split at hc
          · cases hc
          · rename_i hsz
            split at hc
            · cases hc
              simp only [evOp] at h
              split at h
              · rename_i v' hv
                cases h
                exact res_bin hop hS (eqp_sound (neq := false) hS hb hi hsz hv (cO_sound hE h3) (cO_sound hE h4) x _)
              · cases h
            · cases hc
              simp only [evOp] at h
              split at h
              · rename_i v' hv
                cases h
                exact res_bin hop hS (eqp_sound (neq := true) hS hb hi hsz hv (cO_sound hE h3) (cO_sound hE h4) x _)
              · cases h
            · cases hc
        · cases hc
      · cases hc
    · cases hc
  case unOp op t x =>
    left
    simp only [Option.map_eq_some_iff] at hc
    obtain ⟨q, hq, rfl⟩ := hc
    simp only [evOp] at h
    split at h
    · rename_i v' hv
      cases h
      exact res_sem hS (by simp [execOp, hop]) (un_sound hv (cO_sound hE hq))
    · cases h
  case convert src dst x =>
    left
    split at hc
    · rename_i k1 k2 q h1 h2 h3
      cases hc
      simp only [evOp] at h
      split at h
      · rename_i k m hv
        cases h
        have hx := cO_sound hE h3
        rw [hv] at hx
        have hxe : a.eval x = .int k m := by generalize a.eval x = q at hx; cases hx; rfl
        exact res_still hS (v' := .int k2 (k2.wrap m)) (by simp [execOp, hop, hxe, convert, run_underlying h1, run_underlying h2, Conv.intToInt]) (.int _ _)
      · cases h
    · rename_i el q h1 h2 h3
      split at hc
      · rename_i h4
        cases hc
        simp only [evOp] at h
        split at h
        · rename_i t hv
          cases h
          have hx := cO_sound hE h3
          rw [hv] at hx
          have hxe : a.eval x = .string t := by generalize a.eval x = q at hx; cases hx; rfl
          exact s2b_sound hS h1 h2 h4 hxe hop
        · cases h
      · cases hc
    · cases hc
  case makeFunc fn first caps =>
    left
    cases fn <;> simp only [cOp] at hc <;> try (cases hc; done)
    rename_i f
    split at hc
    · rename_i hf
      simp only [Option.map_eq_some_iff] at hc
      obtain ⟨q, hq, rfl⟩ := hc
      cases h
      have hv := cOs_sound hE hq
      have hf0 : first = #[] := Array.eq_empty_of_size_eq_zero hf
      refine res_still hS (v' := .func (.func f) #[] (caps.map a.eval)) (by simp [execOp, hop, Instr.makeFunc, hf0]) ?_
      have := V.func (ρ := ρ) (w := w) (n := s.size) f _ _ hv
      have he : (caps.toList.map a.eval).toArray = caps.map a.eval := by apply Array.ext'; simp
      rw [he] at this
      exact this
    · cases hc
  case slice t x lo hi mx =>
    left
    split at hc
    · rename_i q l hh h1 h2 h3 h4 h5
      cases hc
      simp only [evOp] at h
      split at h
      · rename_i v' hv
        cases h
        obtain ⟨a1, a2⟩ := optV hE h3
        obtain ⟨b1, b2⟩ := optV hE h4
        have hm := cM_none h5
        subst hm
        exact res_sem hS (x := Instr.sliceAt t (a.eval x) (lo.map a.eval) (hi.map a.eval) none) (by simp [execOp, hop]) (sls_sound h1 hv (cO_sound hE h2) a1 a2 b1 b2)
      · cases h
    · rename_i el q l hh m h1 h2 h3 h4 h5
      split at hc
      · rename_i i hi'
        split at hc
        · rename_i hcd
          cases hc
          simp only [evOp] at h
          split at h
          · rename_i v' hv
            cases h
            obtain ⟨a1, a2⟩ := optV hE h3
            obtain ⟨b1, b2⟩ := optV hE h4
            obtain ⟨c1, c2⟩ := optV hE h5
            refine res_sem hS (by simp [execOp, hop]) (slc_sound h1 hi' hv (cO_sound hE h2) a1 a2 b1 b2 c1 c2 ?_)
            intro hs
            have hms : mx.isSome = true := by
              cases mx with
              | none => cases h5; simp at hs
              | some y => rfl
            have := hcd.2 hms
            cases hi with
            | none => simp at this
            | some y =>
              simp only [cM, Option.map_eq_some_iff] at h4
              obtain ⟨z, -, rfl⟩ := h4
              rfl
          · cases h
        · cases hc
      · cases hc
    · cases hc
  case fieldAddr t x f =>
    left
    split at hc
    · rename_i fs q h1 h2
      split at hc
      · rename_i fl h3
        split at hc
        · rename_i i h4
          split at hc
          · rename_i h5
            cases hc
            simp only [evOp] at h
            split at h
            · rename_i v' hv
              cases h
              exact res_sem hS (by simp [execOp, hop]) (faddr_sound h1 h3 h4 h5 hv (cO_sound hE h2))
            · cases h
          · cases hc
        · cases hc
      · cases hc
    · cases hc
  case field t x f =>
    left
    split at hc
    · rename_i fs q h1 h2
      split at hc
      · rename_i fl h3
        split at hc
        · rename_i g i h4 h5
          cases hc
          simp only [evOp] at h
          split at h
          · rename_i v' hv
            cases h
            exact res_sem hS (by simp [execOp, hop]) (fld_sound h1 h3 h4 h5 hv (cO_sound hE h2))
          · cases h
        · cases hc
      · cases hc
    · cases hc
  case indexAddr t x j =>
    left
    split at hc
    · rename_i el q r h1 h2 h3
      split at hc
      · rename_i i h4
        cases hc
        simp only [evOp] at h
        split at h
        · rename_i v' hv
          cases h
          exact res_sem hS (by simp [execOp, hop]) (iaddr_sound h1 h4 hv (cO_sound hE h2) (cO_sound hE h3))
        · cases h
      · cases hc
    · rename_i len el q r h1 h2 h3
      split at hc
      · rename_i i h4
        cases hc
        simp only [evOp] at h
        split at h
        · rename_i v' hv
          cases h
          exact res_sem hS (by simp [execOp, hop]) (iaddra_sound h1 h4 hv (cO_sound hE h2) (cO_sound hE h3))
        · cases h
      · cases hc
    · cases hc
  case index t x j =>
    left
    split at hc
    · rename_i q r h1 h2 h3
      cases hc
      simp only [evOp] at h
      split at h
      · rename_i v' hv
        cases h
        exact res_sem hS (by simp [execOp, hop]) (idx_sound h1 hv (cO_sound hE h2) (cO_sound hE h3))
      · cases h
    · rename_i len el q r h1 h2 h3
      split at hc
      · rename_i g i h4 h5
        cases hc
        simp only [evOp] at h
        split at h
        · rename_i v' hv
          cases h
          exact res_sem hS (by simp [execOp, hop]) (idxa_sound h1 h4 h5 hv (cO_sound hE h2) (cO_sound hE h3))
        · cases h
      · cases hc
    · cases hc
  case makeSlice t x y =>
    left
    split at hc
    · rename_i el xa ya h1 h2 h3
      split at hc
      · rename_i i zs h4 h5
        split at hc
        · rename_i hcd
          cases hc
          exact mksl_sound hS h1 h4 h5 hcd.1 hcd.2.1 hcd.2.2 (cO_sound hE h2) (cO_sound hE h3) h hop
        · cases hc
      · cases hc
    · cases hc
  case makeInterface t x =>
    left
    split at hc
    · cases hc
    · rename_i d q hni hd hq
      cases hc
      cases h
      refine res_still hS (v' := .iface t (a.eval x)) ?_ (.iface _ _ _ (cO_sound hE hq))
      simp only [execOp, hop, Instr.makeInterface, run_underlying hd, Sem.run_bind, Result.andThen]
      cases d <;> first | rfl | exact absurd rfl (hni _)
    · cases hc
  case typeAssert x xt t ok =>
    left
    split at hc
    · cases hc
    · rename_i d za q hni hd hz hq
      obtain ⟨i, z, hi, hzz, hzv⟩ := zeroV_sound hz
      have hza := hzv ρ w s.size
      have hzr := zero_run hi hzz
      have hX := cO_sound hE hq
      have key : ∀ r, asrtA t ok za (q.ev e) = some r → OpRes P o a ρ s w r s := by
        intro r hr
        unfold asrtA at hr
        generalize hxe : a.eval x = y at hX
        split at hr
        · rename_i u v' hv
          rw [hv] at hX
          cases hX with
          | iface _ _ y' hy =>
            split at hr
            · rename_i hut
              subst hut
              cases hr
              refine res_still hS (v' := if ok then .tuple #[y', .bool true] else y') ?_ ?_
              · simp only [execOp, hop, hxe, Instr.typeAssert, run_underlying hd, Sem.run_bind, Result.andThen]
                cases d <;> first | exact absurd rfl (hni _) | (cases ok <;> simp)
              · cases ok
                · simpa using hy
                · exact .tup _ [y', .bool true] (.cons _ _ _ _ hy (.cons _ _ _ _ (.bool _) .nil))
            · rename_i hut
              split at hr
              · rename_i hok
                cases hr
                subst hok
                refine res_still hS (v' := .tuple #[z, .bool false]) ?_ (.tup _ [z, .bool false] (.cons _ _ _ _ hza (.cons _ _ _ _ (.bool _) .nil)))
                simp only [execOp, hop, hxe, Instr.typeAssert, run_underlying hd, Sem.run_bind, Result.andThen]
                cases d <;> first | exact absurd rfl (hni _) | simp [hut, hzr]
              · cases hr
        · rename_i hv
          rw [hv] at hX
          cases hX
          split at hr
          · rename_i hok
            cases hr
            subst hok
            refine res_still hS (v' := .tuple #[z, .bool false]) ?_ (.tup _ [z, .bool false] (.cons _ _ _ _ hza (.cons _ _ _ _ (.bool _) .nil)))
            simp only [execOp, hop, hxe, Instr.typeAssert, run_underlying hd, Sem.run_bind, Result.andThen]
            cases d <;> first | exact absurd rfl (hni _) | simp [hzr]
          · cases hr
        · cases hr
      cases hc
      simp only [evOp] at h
      split at h
      · rename_i r hr
        cases h
        exact key _ hr
      · cases h
    · cases hc
  case defer c' =>
    left
    split at hc
    · split at hc
      · cases hc; cases h
      · cases hc
    · cases hc
  case panic x =>
    left
    simp only [Option.map_eq_some_iff] at hc
    obtain ⟨q, hq, rfl⟩ := hc
    cases h
  case makeMap t r =>
    left
    cases r with
    | some _ => cases hc
    | none =>
      simp only at hc
      split at hc
      · rename_i kt el ht
        split at hc
        · cases hc
          cases h
          exact mmk_sound hS ht hop
        · cases hc
      · cases hc
  case lookup t m k ok =>
    left
    cases ok with
    | true => cases hc
    | false =>
      simp only at hc
      split at hc
      · rename_i kt el om okk ht hm hk
        split at hc
        · rename_i z hkt hz
          cases hc
          simp only [evOp] at h
          split at h
          · rename_i i es x hmo hka
            cases h
            obtain ⟨e1, e2⟩ := mapOf_some hmo
            obtain ⟨e3, e4⟩ := keyA_some hka
            have hVm := cO_sound hE hm
            have hVk := cO_sound hE hk
            rw [e1] at hVm
            rw [e3] at hVk
            exact mlk_sound hS ht hkt (zeroV_sound hz) hVm hVk e2 e4 hop
          · cases h
        · cases hc
      · cases hc
  case mapUpdate t m k x =>
    left
    split at hc
    · rename_i kt el om okk ox ht hm hk hx
      split at hc
      · rename_i hkt
        cases hc
        simp only [evOp] at h
        split at h
        · rename_i i es y hmo hka
          cases h
          obtain ⟨e1, e2⟩ := mapOf_some hmo
          obtain ⟨e3, e4⟩ := keyA_some hka
          have hVm := cO_sound hE hm
          have hVk := cO_sound hE hk
          rw [e1] at hVm
          rw [e3] at hVk
          exact mup_sound hS ht hkt hVm hVk (cO_sound hE hx) e2 e4 hop
        · cases h
      · cases hc
    · cases hc
  case extract x j =>
    left
    simp only [Option.map_eq_some_iff] at hc
    obtain ⟨q, hq, rfl⟩ := hc
    simp only [evOp] at h
    split at h
    · rename_i vs hv
      split at h
      · rename_i v' hv'
        cases h
        have hx := cO_sound hE hq
        rw [hv] at hx
        generalize hxe : a.eval x = y at hx
        cases hx with
        | tup _ us hus =>
          obtain ⟨u, hu, hVu⟩ := hus.get hv'
          exact res_still hS (v' := u) (by simp [execOp, hop, hxe, Instr.extract, hu]) hVu
      · cases h
    · cases h
  case call c' =>
    split at hc
    · left
      rename_i b hb
      unfold cBuiltin at hc
      split at hc
      · rename_i x t hargs hts
        split at hc
        · rename_i q h1 h2
          cases hc
          simp only [evOp] at h
          split at h
          · rename_i v' hv
            cases h
            have e1 : c'.args = #[x] := by apply Array.ext'; simpa using hargs
            have e2 : c'.argTypes = #[t] := by apply Array.ext'; simpa using hts
            obtain ⟨v2, hr, hV⟩ := lens_sound (P := P) (ty := o.type) h1 hv (cO_sound hE h2)
            refine res_still hS (v' := v2) ?_ hV
            simp [execOp, hop, resolve, hb, invoke, builtin, e1, e2, hr]
          · cases h
        · rename_i el q h1 h2
          cases hc
          simp only [evOp] at h
          split at h
          · rename_i v' hv
            cases h
            have e1 : c'.args = #[x] := by apply Array.ext'; simpa using hargs
            have e2 : c'.argTypes = #[t] := by apply Array.ext'; simpa using hts
            obtain ⟨v2, hr, hV⟩ := len_sound (P := P) (ty := o.type) h1 hv (cO_sound hE h2)
            refine res_still hS (v' := v2) ?_ hV
            simp [execOp, hop, resolve, hb, invoke, builtin, e1, e2, hr]
          · cases h
        · cases hc
      · rename_i x y t u hargs hts
        split at hc
        · rename_i el du xa ya h1 h2 h3 h4
          split at hc
          · rename_i i zs hdu h5 h6
            split at hc
            · rename_i hcd
              cases hc
              obtain ⟨hs0, hb0, hzl⟩ := hcd
              simp only [evOp] at h
              have e1 : c'.args = #[x, y] := by apply Array.ext'; simpa using hargs
              have e2 : c'.argTypes = #[t, u] := by apply Array.ext'; simpa using hts
              obtain ⟨i2, z, hi2, hz, hzv⟩ := zero_sound h6
              obtain rfl : i = i2 := Option.some.inj (h5.symm.trans hi2)
              have hzs : z.cells.size = i.size := by
                have := (hzv ρ w s.size).length
                rw [Array.length_toList, hzl] at this
                exact this
              obtain ⟨ρ', w', v2, hr, hF, hS', hV⟩ := app_sound (P := P) (ty := o.type) h1 h2 (fun k hk => by rw [hk] at hdu; cases hdu) h5 hz hzs hs0 hb0 hS h (cO_sound hE h3) (cO_sound hE h4)
              refine ⟨ρ', w', hF, hS', Or.inl ⟨v2, ?_, hV⟩⟩
              simp [execOp, hop, resolve, hb, invoke, builtin, e1, e2, hr]
            · cases hc
          · cases hc
        · cases hc
      · simp only [Option.map_eq_some_iff] at hc
        obtain ⟨q, hq, rfl⟩ := hc
        simp only [evOp] at h
        split at h
        · rename_i v' hv
          cases h
          obtain ⟨v2, hr, hV⟩ := mm_sound (P := P) (isMin := true) (cOs_sound hE hq) hv
          refine res_still hS (v' := v2) ?_ hV
          have he : (c'.args.map a.eval).toList = c'.args.toList.map a.eval := by simp
          simp only [if_true] at hr
          simp [execOp, hop, resolve, hb, invoke, builtin, Builtin.min_]
          cases hl : c'.args.toList.map a.eval with
          | nil => rw [hl] at hr; simp at hr
          | cons u us => rw [hl] at hr; simp only at hr; simp [hr]
        · cases h
      · simp only [Option.map_eq_some_iff] at hc
        obtain ⟨q, hq, rfl⟩ := hc
        simp only [evOp] at h
        split at h
        · rename_i v' hv
          cases h
          obtain ⟨v2, hr, hV⟩ := mm_sound (P := P) (isMin := false) (cOs_sound hE hq) hv
          refine res_still hS (v' := v2) ?_ hV
          simp only [Bool.false_eq_true, if_false] at hr
          simp [execOp, hop, resolve, hb, invoke, builtin, Builtin.max_]
          cases hl : c'.args.toList.map a.eval with
          | nil => rw [hl] at hr; simp at hr
          | cons u us => rw [hl] at hr; simp only at hr; simp [hr]
        · cases h
      · cases hc; cases h
      · rename_i x t hargs hts
        split at hc
        · rename_i el q h1 h2
          split at hc
          · rename_i i zs h3 h4
            split at hc
            · rename_i hcd
              cases hc
              simp only [evOp] at h
              split at h
              · rename_i s1 hcl
                cases h
                have a1 : c'.args = #[x] := by apply Array.ext'; simpa using hargs
                have a2 : c'.argTypes = #[t] := by apply Array.ext'; simpa using hts
                obtain ⟨ρ', w', hr, hF, hS'⟩ := clr_sound (P := P) (ty := o.type) hS h1 h3 h4 hcd.1 hcd.2 (cO_sound hE h2) hcl
                refine ⟨ρ', w', hF, hS', Or.inl ⟨.tuple #[], ?_, undef_V⟩⟩
                simp [execOp, hop, resolve, hb, invoke, builtin, a1, a2, hr]
              · cases h
            · cases hc
          · cases hc
        · cases hc
      · rename_i m k t kt hargs hts
        split at hc
        · rename_i kt' el om okk ht hkt hm hk
          split at hc
          · rename_i hkk
            cases hc
            simp only [evOp] at h
            split at h
            · rename_i i es y hmo hka
              cases h
              obtain ⟨e1, e2⟩ := mapOf_some hmo
              obtain ⟨e3, e4⟩ := keyA_some hka
              have hVm := cO_sound hE hm
              have hVk := cO_sound hE hk
              rw [e1] at hVm
              rw [e3] at hVk
              have a1 : c'.args = #[m, k] := by apply Array.ext'; simpa using hargs
              have a2 : c'.argTypes = #[t, kt] := by apply Array.ext'; simpa using hts
              obtain ⟨ρ', w', hr, hF, hS'⟩ := mdl_sound (P := P) (kt' := kt) (ty := o.type) hS ht (by rw [hkk]; exact hkt) hVm hVk e2 e4
              refine ⟨ρ', w', hF, hS', Or.inl ⟨.tuple #[], ?_, undef_V⟩⟩
              simp [execOp, hop, resolve, hb, invoke, builtin, a1, a2, hr]
            · cases h
          · cases hc
        · cases hc
      · cases hc
    · rename_i f hf
      right
      simp only [Option.map_eq_some_iff] at hc
      obtain ⟨q, hq, rfl⟩ := hc
      simp only [evOp] at h
      refine ⟨f, _, _, h, cOs_sound hE hq, ?_⟩
      have he : (c'.args.toList.map a.eval).toArray = c'.args.map a.eval := by apply Array.ext'; simp
      rw [he]
      simp [execOp, hop, resolve, hf, Act.eval, Deferred.ofValue, invoke]
    · rename_i t hf
      right
      simp only [Option.map_eq_some_iff] at hc
      obtain ⟨q, hq, rfl⟩ := hc
      simp only [evOp] at h
      split at h
      · rename_i f cap hv
        have hx := hE.1 t
        have hv' : e t = .func f cap := hv
        rw [hv'] at hx
        generalize hy : a.tmps.getD t undef = y at hx
        cases hx with
        | func _ _ vs hvs =>
          refine ⟨f, _, _, h, (cOs_sound hE hq).append hvs, ?_⟩
          have he : (c'.args.toList.map a.eval ++ vs).toArray = c'.args.map a.eval ++ vs.toArray := by apply Array.ext'; simp
          rw [he]
          have hy' : a.eval (.tmp t) = .func (.func f) #[] vs.toArray := hy
          simp only [execOp, hop, resolve, hf, hy', Deferred.ofValue, Sem.run_bind]
          simp [invoke]
      · cases h
    · cases hc
  all_goals cases hc

theorem op_sound {call : Nat → List AV → St → Option (AV × St)} {mu : Bool} {c : COp} {v : AV} {s' : St} (hS : Sim ρ s w) (hE : EnvR G ρ w s.size e a.tmps) (hc : cOp G P mu o.op = some c)
    (h : evOp call c e s = some (v, s')) : OpRes P o a ρ s w v s' ∨ CallRes P call o a ρ s w v s' := by
  unfold cOp at hc
  cases h0 : cOp0 G P mu false o.op with
  | none => rw [h0] at hc; cases hc; simp only [evOp] at h; cases h
  | some c' => rw [h0] at hc; cases hc; exact op_sound0 hS hE h0 h

theorem cOp0_bsl {mu : Bool} {o : Op} {sz len : Nat} {zs : List AV} {ps : List (Nat × Nat × Opd)} (h : cOp0 G P mu false o = some (.bsl sz len zs ps)) : cOp0 G P mu true o = some (.bslm sz len zs ps) := by
  cases o
  case buildSlice t n q =>
    simp only [cOp0] at h ⊢
    split at h
    · rename_i el h1
      split at h
      · rename_i i z h2 h3
        split at h
        · rename_i hcd
          simp only [Option.map_eq_some_iff] at h ⊢
          obtain ⟨q', hq, hb⟩ := h
          simp only [Bool.false_eq_true, if_false, COp.bsl.injEq] at hb
          obtain ⟨rfl, rfl, rfl, rfl⟩ := hb
          rw [if_pos hcd]
          simp [hq]
        · cases h
      · cases h
    · cases h
  all_goals exfalso
  case makeFunc fn first caps => cases fn <;> simp only [cOp0] at h <;> (try (split at h)) <;> simp at h
  case call c =>
    simp only [cOp0] at h
    split at h
    · unfold cBuiltin at h
      repeat' (split at h)
      all_goals simp at h
    all_goals simp at h
  case binOp op t x y yt =>
    simp only [cOp0] at h
    unfold cBin at h
    unfold cPtr at h
    repeat' (split at h)
    all_goals simp at h
  case makeMap t r =>
    cases r <;> simp only [cOp0] at h
    · split at h
      · split at h <;> cases h
      · cases h
    · cases h
  case lookup t m k ok =>
    cases ok <;> simp only [cOp0] at h
    · split at h
      · split at h <;> cases h
      · cases h
    · cases h
  case mapUpdate t m k x =>
    simp only [cOp0] at h
    split at h
    · split at h <;> cases h
    · cases h
  all_goals simp only [cOp0] at h
  all_goals (repeat' (split at h))
  all_goals simp at h
end
end Go.Am
