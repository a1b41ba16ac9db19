/- Maps whose keys are strings: what the abstract machine says of them holds of Go's. Conditions: none. -/
import Derived.Test.YtfleakoephmgaaaDoorAmI
import Derived.Maps.Keyed
import Derived.StringKeys
import Derived.Carry
import Derived.LaidEql
set_option linter.unusedSimpArgs false
set_option linter.unusedVariables false
namespace Go.Am
open Go.Maps Go.WideMaps

theorem mget_none : ∀ {es : List (ByteArray × AV)} {x : ByteArray}, (∀ e, e ∈ es → e.1 ≠ x) → mget es x = none
  | [], _, _ => rfl
  | e :: r, x, h => by rw [mget, if_neg (h e (by simp))]; exact mget_none fun d hd => h d (by simp [hd])
theorem key_apart {es : List (ByteArray × AV)} {e : ByteArray × AV} (hn : ((e :: es).map (·.1)).Nodup) {j : Nat} {d : ByteArray × AV} (hj : es[j]? = some d) : e.1 ≠ d.1 := by
  simp only [List.map_cons, List.nodup_cons] at hn
  intro he
  exact hn.1 (by rw [he]; exact List.mem_map.2 ⟨d, List.mem_of_getElem? hj, rfl⟩)
theorem mget_at : ∀ {es : List (ByteArray × AV)} {j : Nat} {x : ByteArray} {a : AV}, (es.map (·.1)).Nodup → es[j]? = some (x, a) → mget es x = some a
  | [], _, _, _, _, h => by simp at h
  | e :: r, 0, x, a, _, h => by simp at h; subst h; simp [mget]
  | e :: r, j + 1, x, a, hn, h => by
    have hj : r[j]? = some (x, a) := by simpa using h
    rw [mget, if_neg (key_apart hn hj)]
    exact mget_at (by simp only [List.map_cons, List.nodup_cons] at hn; exact hn.2) hj
theorem mput_none : ∀ {es : List (ByteArray × AV)} {x : ByteArray} (a : AV), (∀ e, e ∈ es → e.1 ≠ x) → mput es x a = es ++ [(x, a)]
  | [], _, _, _ => rfl
  | e :: r, x, a, h => by rw [mput, if_neg (h e (by simp)), mput_none a fun d hd => h d (by simp [hd])]; rfl
theorem mput_at : ∀ {es : List (ByteArray × AV)} {j : Nat} {x : ByteArray} {b : AV} (a : AV), (es.map (·.1)).Nodup → es[j]? = some (x, b) → mput es x a = es.set j (x, a)
  | [], _, _, _, _, _, h => by simp at h
  | e :: r, 0, x, b, a, _, h => by simp at h; subst h; simp [mput]
  | e :: r, j + 1, x, b, a, hn, h => by
    have hj : r[j]? = some (x, b) := by simpa using h
    rw [mput, if_neg (key_apart hn hj), mput_at a (by simp only [List.map_cons, List.nodup_cons] at hn; exact hn.2) hj]
    rfl
theorem mdel_none : ∀ {es : List (ByteArray × AV)} {x : ByteArray}, (∀ e, e ∈ es → e.1 ≠ x) → mdel es x = es
  | [], _, _ => rfl
  | e :: r, x, h => by rw [mdel, if_neg (h e (by simp)), mdel_none fun d hd => h d (by simp [hd])]
theorem mdel_at : ∀ {es : List (ByteArray × AV)} {j : Nat} {x : ByteArray} {b : AV}, (es.map (·.1)).Nodup → es[j]? = some (x, b) → mdel es x = es.eraseIdx j
  | [], _, _, _, _, h => by simp at h
  | e :: r, 0, x, b, _, h => by simp at h; subst h; simp [mdel]
  | e :: r, j + 1, x, b, hn, h => by
    have hj : r[j]? = some (x, b) := by simpa using h
    rw [mdel, if_neg (key_apart hn hj), mdel_at (by simp only [List.map_cons, List.nodup_cons] at hn; exact hn.2) hj]
    rfl

section
variable {P : Program} {ρ : Rho} {s : St} {w : World} {a : Act} {o : Oper}

theorem mapOf_some {va : AV} {i : Nat} {es : List (ByteArray × AV)} (h : mapOf s va = some (i, es)) : va = .mapv i ∧ s.obj i = some (.map es) := by
  unfold mapOf at h
  split at h
  · split at h
    · cases h; exact ⟨rfl, by assumption⟩
    · cases h
  · cases h
theorem keyA_some {va : AV} {x : ByteArray} (h : keyA va = some x) : va = .str x ∧ x.size ≤ maxKey := by
  unfold keyA at h
  split at h
  · split at h
    · cases h; exact ⟨rfl, by assumption⟩
    · cases h
  · cases h

theorem MapR.at {n : Nat} {es : List (ByteArray × AV)} {ms : List MapEntry} (h : MapR ρ w n es ms) {j : Nat} {e : MapEntry} (hj : ms[j]? = some e) : ∃ k b, es[j]? = some (k, b) ∧ e.key = .string k ∧ V ρ w n b e.val := by
  have h1 : (ms.map (·.key))[j]? = some e.key := by rw [List.getElem?_map, hj]; rfl
  rw [h.1, List.getElem?_map] at h1
  cases he : es[j]? with
  | none => rw [he] at h1; cases h1
  | some d =>
    rw [he] at h1
    obtain ⟨v, hv, hV⟩ := h.2.1.get (j := j) (a := d.2) (by rw [List.getElem?_map, he]; rfl)
    rw [List.getElem?_map, hj] at hv
    cases hv
    exact ⟨d.1, d.2, rfl, (Option.some.inj h1).symm, hV⟩
theorem MapR.has {n : Nat} {es : List (ByteArray × AV)} {ms : List MapEntry} (h : MapR ρ w n es ms) {x : ByteArray} (hne : ∀ e, e ∈ ms → e.key ≠ .string x) : ∀ e, e ∈ es → e.1 ≠ x := by
  intro e he hx
  have hm : Value.string e.1 ∈ ms.map (·.key) := by rw [h.1]; exact List.mem_map.2 ⟨e, he, rfl⟩
  obtain ⟨d, hd, hk⟩ := List.mem_map.1 hm
  exact hne d hd (by rw [hk, hx])

/-- Where a key is, if it is there. -/
theorem find_map {kt : TypeId} (hk : P.underlying kt = some .string) {n : Nat} {es : List (ByteArray × AV)} {ms : List MapEntry} (h : MapR ρ w n es ms) {x : ByteArray} (hx : x.size ≤ maxKey) :
    ((Instr.findKey kt (.string x) ms).run P w = .ok none w ∧ ∀ e, e ∈ es → e.1 ≠ x) ∨
    ∃ j e b, (Instr.findKey kt (.string x) ms).run P w = .ok (some (j, e.val)) w ∧ ms[j]? = some e ∧ e.key = .string x ∧ es[j]? = some (x, b) ∧ V ρ w n b e.val := by
  have hkey : keyOf P kt (.string x) = some (.string x.data.toList) := keyOf_string_mk hk (by simpa [maxLen, maxKey] using hx)
  rcases (string_keyed hk).find w hkey ms (fun e he => by
    obtain ⟨j, hj⟩ := List.mem_iff_getElem?.1 he
    obtain ⟨k, b, h1, h2, -⟩ := h.at hj
    exact ⟨_, by rw [h2]; exact keyOf_string_mk hk (by have := h.2.2.2 _ (List.mem_of_getElem? h1); simpa [maxLen, maxKey] using this)⟩) with ⟨h1, h2⟩ | ⟨j, e, h1, h2, h3⟩
  · exact Or.inl ⟨h1, h.has h2⟩
  · obtain ⟨k, b, h4, h5, h6⟩ := h.at h2
    rw [h5] at h3
    cases h3
    exact Or.inr ⟨j, e, b, h1, h2, h5, h4, h6⟩

/-- The map's block is written. -/
theorem put_map (hS : Sim ρ s w) {i : Nat} {es es' : List (ByteArray × AV)} (h : s.obj i = some (.map es)) {ms : Array MapEntry} {clock : Nat} (hm' : MapR ρ w s.size es' ms.toList) :
    Fr ρ s w ρ (s.put i (some (.map es'))) (putW w (ρ.blk i) (.map ms clock)) ∧ Sim ρ (s.put i (some (.map es'))) (putW w (ρ.blk i) (.map ms clock)) := by
  obtain ⟨hi, hp, hlab, ms0, c0, hh, -⟩ := hS.maps i es h
  have hb : ρ.blk i < w.heap.size := (Array.getElem?_eq_some_iff.1 hh).1
  have hm : Mono ρ w s.size ρ (putW w (ρ.blk i) (.map ms clock)) (s.put i (some (.map es'))).size := by
    refine ⟨Nat.le_refl _, ?_, fun _ _ _ => rfl, fun _ _ _ => rfl, fun _ _ => rfl, fun _ _ h => h⟩
    intro b o him
    refine ⟨him, cell_put ?_ o⟩
    rintro rfl
    simp [Imm, ImmL, hlab] at him
  have hobj : ∀ j, j ≠ i → (s.put i (some (.map es'))).obj j = s.obj j := fun j hj => by simp only [St.put]; rw [if_neg hj]
  have hself : (s.put i (some (.map es'))).obj i = some (.map es') := by simp [St.put]
  refine ⟨⟨hm, rfl, rfl, rfl, by simp [putW], ?_, fun j hj => hobj j (by rintro rfl; rw [hp] at hj; cases hj), fun _ => rfl⟩, ⟨?_, ?_, ?_, ?_, froz_mono hS hm (fun _ _ h => h) (fun j cs h => by simp only [St.put] at h; split at h <;> first | exact h | cases h), ?_⟩⟩
  · intro b hlt hk
    refine ⟨rfl, heap_put ?_⟩
    rintro rfl
    rw [hlab] at hk
    rcases hk with hk | hk <;> cases hk
  · intro b hb'
    simp only [putW, Array.size_setIfInBounds] at hb'
    exact hS.free b hb'
  · intro j hj
    obtain ⟨hlt, hne⟩ := hS.pn j hj
    exact ⟨hlt, by rw [hobj j (by rintro rfl; rw [hp] at hj; cases hj)]; exact hne⟩
  · intro j cs0 hj hpj
    have hji : j ≠ i := by rintro rfl; rw [hself] at hj; cases hj
    rw [hobj j hji] at hj
    obtain ⟨hj', hl', vs0, rest0, ty0, hh0, hv0, ht0⟩ := hS.cells j cs0 hj hpj
    refine ⟨hj', hl', vs0, rest0, ty0, ?_, hv0.mono hm, ht0⟩
    rw [heap_put]
    · exact hh0
    · intro he
      rw [he, hlab] at hl'
      exact hji (Lab.obj.inj hl').symm
  · intro t ht
    have hti : t ≠ i := by rintro rfl; rw [hself] at ht; cases ht
    rw [hobj t hti] at ht
    obtain ⟨h1, b, len, cap, z, h2, h3, vs, ty, h4, h5⟩ := hS.right t ht
    refine ⟨h1, b, len, cap, z, h2, h3, vs, ty, ?_, h5⟩
    rw [heap_put]
    · exact h4
    · rintro rfl; rw [hlab] at h3; cases h3
  · intro j es0 hj
    by_cases hji : j = i
    · subst hji
      rw [hself] at hj
      cases hj
      exact ⟨hi, hp, hlab, ms, clock, heap_put_same hb, hm'.1, hm'.2.1.mono hm, hm'.2.2⟩
    · rw [hobj j hji] at hj
      obtain ⟨h1, h2, h3, ms1, c1, h4, h5, h6, h7⟩ := hS.maps j es0 hj
      refine ⟨h1, h2, h3, ms1, c1, ?_, h5, h6.mono hm, h7⟩
      rw [heap_put]
      · exact h4
      · intro he
        rw [he, hlab] at h3
        exact hji (Lab.obj.inj h3).symm

/-- A new map. -/
theorem new_map (hS : Sim ρ s w) :
    Fr ρ s w (ρ.newObj w.heap.size s.size 0) (s.new (.map [])) (pushW w (.map #[] 0)) ∧ Sim (ρ.newObj w.heap.size s.size 0) (s.new (.map [])) (pushW w (.map #[] 0)) := by
  have hm : Mono ρ w s.size (ρ.newObj w.heap.size s.size 0) (pushW w (.map #[] 0)) (s.new (.map [])).size := by
    refine ⟨by simp [St.new], ?_, ?_, ?_, fun _ _ => rfl, fun _ _ h => h⟩
    · intro b o hi
      have hb := imm_lt hS hi
      refine ⟨?_, cell_push hb o⟩
      simp only [Imm, Rho.newObj]
      rw [if_neg (by omega)]
      exact hi
    · intro i hi _; simp only [Rho.newObj]; rw [if_neg (by omega)]
    · intro i hi _; simp only [Rho.newObj]; rw [if_neg (by omega)]
  have hobj : ∀ j, j ≠ s.size → (s.new (.map [])).obj j = s.obj j := fun j hj => by simp only [St.new]; rw [if_neg hj]
  have hself : (s.new (.map [])).obj s.size = some (.map []) := by simp [St.new]
  refine ⟨⟨hm, rfl, rfl, rfl, by simp [pushW], ?_, fun i hp => hobj i (by have := (hS.pn i hp).1; omega), fun _ => rfl⟩, ⟨?_, ?_, ?_, ?_, froz_mono hS hm (fun _ _ h => h) (fun i cs h => by simp only [St.new] at h; split at h <;> first | exact h | cases h), ?_⟩⟩
  · intro b hb _
    refine ⟨?_, heap_push hb⟩
    simp only [Rho.newObj]
    rw [if_neg (by omega)]
  · intro b hb
    simp only [pushW, Array.size_push] at hb
    simp only [Rho.newObj]
    rw [if_neg (by omega)]
    exact hS.free b (by omega)
  · intro i hp
    obtain ⟨hlt, hne⟩ := hS.pn i hp
    exact ⟨by simp only [St.new]; omega, by rw [hobj i (by omega)]; exact hne⟩
  · intro i cs' h hp
    have hi : i ≠ s.size := by rintro rfl; rw [hself] at h; cases h
    rw [hobj i hi] at h
    obtain ⟨hi', hl, vs', rest', ty', hh, hvs, ht⟩ := hS.cells i cs' h hp
    have hb := blk_lt hS h hp
    refine ⟨by simp only [St.new]; omega, ?_, vs', rest', ty', ?_, hvs.mono hm, ?_⟩
    · simp only [Rho.newObj, if_neg hi]; rw [if_neg (by omega)]; exact hl
    · simp only [Rho.newObj, if_neg hi]; rw [heap_push hb]; exact hh
    · simp only [Rho.newObj, if_neg hi]; exact ht
  · intro t h
    have hi : t ≠ s.size := by rintro rfl; rw [hself] at h; cases h
    rw [hobj t hi] at h
    obtain ⟨ht, b, len, cap, z, h1, h2, vs', ty', h3, h4⟩ := hS.right t h
    have hb : b < w.heap.size := (Array.getElem?_eq_some_iff.1 h3).1
    refine ⟨by simp only [St.new]; omega, b, len, cap, z, h1, ?_, vs', ty', ?_, h4⟩
    · simp only [Rho.newObj]; rw [if_neg (by omega)]; exact h2
    · rw [heap_push hb]; exact h3
  · intro i es h
    by_cases hi : i = s.size
    · subst hi
      rw [hself] at h
      cases h
      have hpn : ρ.pend s.size = false := pend_new hS
      refine ⟨by simp [St.new], hpn, by simp [Rho.newObj], #[], 0, ?_, rfl, .nil, List.nodup_nil, fun e he => by cases he⟩
      simp only [Rho.newObj, if_true]; exact heap_push_new
    · rw [hobj i hi] at h
      obtain ⟨h1, h2, h3, ms, c, h4, h5, h6, h7⟩ := hS.maps i es h
      have hb : ρ.blk i < w.heap.size := (Array.getElem?_eq_some_iff.1 h4).1
      refine ⟨by simp only [St.new]; omega, h2, ?_, ms, c, ?_, h5, h6.mono hm, h7⟩
      · simp only [Rho.newObj, if_neg hi]; rw [if_neg (by omega)]; exact h3
      · simp only [Rho.newObj, if_neg hi]; rw [heap_push hb]; exact h4

theorem key_ok {kt : TypeId} (hk : P.underlying kt = some .string) {x : ByteArray} (hx : x.size ≤ maxKey) : keyOf P kt (.string x) = some (.string x.data.toList) := keyOf_string_mk hk (by simpa [maxLen, maxKey] using hx)

theorem mmk_sound {t kt el : TypeId} (hS : Sim ρ s w) (ht : P.underlying t = some (.map kt el)) (ho : o.op = .makeMap t none) : OpRes P o a ρ s w (.mapv s.size) (s.new (.map [])) := by
  obtain ⟨hF, hS'⟩ := new_map hS
  refine ⟨_, _, hF, hS', Or.inl ⟨.map (some w.heap.size), ?_, ?_⟩⟩
  · simp [execOp, ho, Instr.makeMap, pushW_eq]
  · have h := hS'.maps s.size [] (by simp [St.new])
    have := V.mapv (ρ := ρ.newObj w.heap.size s.size 0) (w := pushW w (.map #[] 0)) (n := (s.new (.map [])).size) s.size h.1 h.2.1
    simpa [Rho.newObj] using this

theorem V.mapv_inv {n : Nat} {i : Nat} {v : Value} (h : V ρ w n (.mapv i) v) : v = .map (some (ρ.blk i)) := by
  cases h; rfl
theorem V.str_inv {n : Nat} {x : ByteArray} {v : Value} (h : V ρ w n (.str x) v) : v = .string x := by
  cases h; rfl

theorem mlk_sound {t kt el : TypeId} {m k : Operand} {i : Nat} {es : List (ByteArray × AV)} {x : ByteArray} {z : AV} (hS : Sim ρ s w) (ht : P.underlying t = some (.map kt el)) (hk : P.underlying kt = some .string) (hz : ∃ i z', P.info? el = some i ∧ i.zero = some z' ∧ ∀ ρ w n, V ρ w n z z')
    (hm : V ρ w s.size (.mapv i) (a.eval m)) (hx : V ρ w s.size (.str x) (a.eval k)) (hi : s.obj i = some (.map es)) (hl : x.size ≤ maxKey) (ho : o.op = .lookup t m k false) : OpRes P o a ρ s w ((mget es x).getD z) s := by
  obtain ⟨h1, h2, h3, ms, clock, h4, h5⟩ := hS.maps i es hi
  obtain ⟨ii, z', hz1, hz2, hz3⟩ := hz
  have em := hm.mapv_inv
  have ek := hx.str_inv
  have hc := (string_keyed hk).check w ms.isEmpty (key_ok hk hl)
  rcases find_map hk h5 hl with ⟨h6, h7⟩ | ⟨j, e, b, h6, h7, h8, h9, h10⟩
  · rw [mget_none h7]
    refine res_still hS (v' := z') ?_ (hz3 _ _ _)
    simp [execOp, ho, em, ek, Instr.lookup, run_underlying ht, MapKept.run_getObj_map h4, hc, h6, zero_run hz1 hz2]
  · rw [mget_at h5.2.2.1 h9]
    refine res_still hS (v' := e.val) ?_ h10
    simp [execOp, ho, em, ek, Instr.lookup, run_underlying ht, MapKept.run_getObj_map h4, hc, h6]

theorem MapR.put {n : Nat} {es : List (ByteArray × AV)} {ms : List MapEntry} (h : MapR ρ w n es ms) {x : ByteArray} (hne : ∀ e, e ∈ es → e.1 ≠ x) (hl : x.size ≤ maxKey) {b : AV} {v : Value} (hV : V ρ w n b v) (c : Nat) : MapR ρ w n (es ++ [(x, b)]) (ms ++ [⟨.string x, v, c⟩]) := by
  refine ⟨by simp [h.1], ?_, ?_, ?_⟩
  · rw [List.map_append, List.map_append]
    exact h.2.1.append (.cons _ _ _ _ hV .nil)
  · rw [List.map_append, List.nodup_append]
    refine ⟨h.2.2.1, by simp, ?_⟩
    intro y hy z hz
    simp only [List.map_cons, List.map_nil, List.mem_singleton] at hz
    obtain ⟨e, he, rfl⟩ := List.mem_map.1 hy
    rw [hz]
    exact hne e he
  · intro e he
    rcases List.mem_append.1 he with he | he
    · exact h.2.2.2 e he
    · rw [List.mem_singleton.1 he]; exact hl

theorem Vs.setAt : ∀ {n : Nat} {cs : List AV} {vs : List Value} {j : Nat} {b : AV} {v : Value}, Vs ρ w n cs vs → V ρ w n b v → Vs ρ w n (cs.set j b) (vs.set j v)
  | _, _, _, _, _, _, .nil, _ => .nil
  | _, _, _, 0, _, _, .cons _ _ _ _ _ hs, hV => .cons _ _ _ _ hV hs
  | _, _, _, _ + 1, _, _, .cons _ _ _ _ h hs, hV => .cons _ _ _ _ h (Vs.setAt hs hV)
theorem Vs.eraseAt : ∀ {n : Nat} {cs : List AV} {vs : List Value} {j : Nat}, Vs ρ w n cs vs → Vs ρ w n (cs.eraseIdx j) (vs.eraseIdx j)
  | _, _, _, _, .nil => .nil
  | _, _, _, 0, .cons _ _ _ _ _ hs => hs
  | _, _, _, _ + 1, .cons _ _ _ _ h hs => .cons _ _ _ _ h (Vs.eraseAt hs)

theorem map_set' {α β : Type} (f : α → β) (l : List α) (j : Nat) (x : α) : (l.set j x).map f = (l.map f).set j (f x) := by simp
theorem set_self {α : Type} : ∀ {l : List α} {j : Nat} {x : α}, l[j]? = some x → l.set j x = l
  | [], _, _, h => by simp at h
  | y :: l, 0, x, h => by simp at h; simp [h]
  | y :: l, j + 1, x, h => by
    have : l[j]? = some x := by simpa using h
    simp [set_self this]
theorem map_erase {α β : Type} (f : α → β) : ∀ (l : List α) (j : Nat), (l.eraseIdx j).map f = (l.map f).eraseIdx j
  | [], _ => rfl
  | y :: l, 0 => rfl
  | y :: l, j + 1 => by simp [map_erase f l j]

theorem MapR.set {n : Nat} {es : List (ByteArray × AV)} {ms : List MapEntry} (h : MapR ρ w n es ms) {x : ByteArray} {j : Nat} {a0 : AV} {e : MapEntry} (hj : es[j]? = some (x, a0)) (hm : ms[j]? = some e) (hk : e.key = .string x) {b : AV} {v : Value} (hV : V ρ w n b v) :
    MapR ρ w n (es.set j (x, b)) (ms.set j { e with key := .string x, val := v }) := by
  have h1 : (es.set j (x, b)).map (·.1) = es.map (·.1) := by
    rw [map_set', set_self]; rw [List.getElem?_map, hj]; rfl
  refine ⟨?_, ?_, by rw [h1]; exact h.2.2.1, ?_⟩
  · have h2 : (ms.set j { e with key := .string x, val := v }).map (·.key) = ms.map (·.key) := by
      rw [map_set', set_self]; rw [List.getElem?_map, hm, ← hk]; rfl
    rw [h2, h.1]
    rw [map_set' (fun e : ByteArray × AV => Value.string e.1), set_self]
    rw [List.getElem?_map, hj]; rfl
  · rw [map_set', map_set']
    exact h.2.1.setAt hV
  · intro d hd
    have : d.1 ∈ (es.set j (x, b)).map (·.1) := List.mem_map.2 ⟨d, hd, rfl⟩
    rw [h1] at this
    obtain ⟨d', hd', e'⟩ := List.mem_map.1 this
    rw [← e']; exact h.2.2.2 d' hd'

theorem MapR.erase {n : Nat} {es : List (ByteArray × AV)} {ms : List MapEntry} (h : MapR ρ w n es ms) (j : Nat) : MapR ρ w n (es.eraseIdx j) (ms.eraseIdx j) := by
  refine ⟨by rw [map_erase, map_erase, h.1], by rw [map_erase, map_erase]; exact h.2.1.eraseAt, ?_, fun e he => h.2.2.2 e ((List.eraseIdx_sublist _ _).subset he)⟩
  rw [map_erase]
  exact h.2.2.1.sublist (List.eraseIdx_sublist _ _)

theorem mup_sound {t kt el : TypeId} {m k x : Operand} {i : Nat} {es : List (ByteArray × AV)} {y : ByteArray} {b : AV} (hS : Sim ρ s w) (ht : P.underlying t = some (.map kt el)) (hk : P.underlying kt = some .string)
    (hm : V ρ w s.size (.mapv i) (a.eval m)) (hx : V ρ w s.size (.str y) (a.eval k)) (hb : V ρ w s.size b (a.eval x)) (hi : s.obj i = some (.map es)) (hl : y.size ≤ maxKey) (ho : o.op = .mapUpdate t m k x) : OpRes P o a ρ s w undefA (s.put i (some (.map (mput es y b)))) := by
  obtain ⟨h1, h2, h3, ms, clock, h4, h5⟩ := hS.maps i es hi
  have em := hm.mapv_inv
  have ek := hx.str_inv
  have hc := (string_keyed hk).check w false (key_ok hk hl)
  rcases find_map hk h5 hl with ⟨h6, h7⟩ | ⟨j, e, b0, h6, h7, h8, h9, h10⟩
  · rw [mput_none _ h7]
    obtain ⟨hF, hS'⟩ := put_map (ms := ms.push ⟨.string y, a.eval x, clock⟩) (clock := clock + 1) hS hi (by rw [Array.toList_push]; exact h5.put h7 hl hb clock)
    refine ⟨_, _, hF, hS', Or.inr ⟨?_, rfl⟩⟩
    simp [execOp, ho, em, ek, Instr.mapUpdate, run_underlying ht, MapKept.run_getObj_map h4, hc, h6, MapKept.run_setObj_map _ h4, putW]
  · rw [mput_at _ h5.2.2.1 h9]
    have hj : ms[j]? = some e := by simpa using h7
    have hs := (string_keyed hk).stays w (key_ok hk hl)
    have hlist : (ms.modify j (fun e' => { e' with key := .string y, val := a.eval x })).toList = ms.toList.set j { e with key := .string y, val := a.eval x } := by
      rw [Array.toList_modify, List.modify_eq_set, h7]; rfl
    obtain ⟨hF, hS'⟩ := put_map (ms := ms.modify j (fun e' => { e' with key := .string y, val := a.eval x })) (clock := clock) hS hi (by rw [hlist]; exact h5.set h9 h7 h8 hb)
    refine ⟨_, _, hF, hS', Or.inr ⟨?_, rfl⟩⟩
    simp [execOp, ho, em, ek, Instr.mapUpdate, run_underlying ht, MapKept.run_getObj_map h4, hc, h6, hj, h8, hs, MapKept.run_setObj_map _ h4, putW]

theorem mdl_sound {t kt kt' el ty : TypeId} {vm vk : Value} {i : Nat} {es : List (ByteArray × AV)} {y : ByteArray} (hS : Sim ρ s w) (ht : P.underlying t = some (.map kt el)) (hk : P.underlying kt = some .string)
    (hm : V ρ w s.size (.mapv i) vm) (hx : V ρ w s.size (.str y) vk) (hi : s.obj i = some (.map es)) (hl : y.size ≤ maxKey) :
    ∃ ρ' w', (Builtin.delete_ #[t, kt'] ty #[vm, vk]).run P w = .ok (.tuple #[]) w' ∧ Fr ρ s w ρ' (s.put i (some (.map (mdel es y)))) w' ∧ Sim ρ' (s.put i (some (.map (mdel es y)))) w' := by
  obtain ⟨h1, h2, h3, ms, clock, h4, h5⟩ := hS.maps i es hi
  rw [hm.mapv_inv, hx.str_inv]
  have hc := (string_keyed hk).check w ms.isEmpty (key_ok hk hl)
  rcases find_map hk h5 hl with ⟨h6, h7⟩ | ⟨j, e, b0, h6, h7, h8, h9, h10⟩
  · rw [mdel_none h7]
    obtain ⟨hF, hS'⟩ := put_map (ms := ms) (clock := clock) hS hi h5
    refine ⟨_, _, ?_, hF, hS'⟩
    simp [Builtin.delete_, run_underlying ht, MapKept.run_getObj_map h4, hc, h6, MapKept.run_setObj_map _ h4, putW]
  · rw [mdel_at h5.2.2.1 h9]
    have hjs : j < ms.size := by simpa using (List.getElem?_eq_some_iff.1 h7).1
    have hsub : (ms.eraseIdxIfInBounds j).toList = ms.toList.eraseIdx j := by
      unfold Array.eraseIdxIfInBounds
      rw [dif_pos hjs]
      simp
    obtain ⟨hF, hS'⟩ := put_map (ms := ms.eraseIdxIfInBounds j) (clock := clock) hS hi (by rw [hsub]; exact h5.erase j)
    refine ⟨_, _, ?_, hF, hS'⟩
    simp [Builtin.delete_, run_underlying ht, MapKept.run_getObj_map h4, hc, h6, MapKept.run_setObj_map _ h4, putW]

theorem equal_pp {t el : TypeId} (ht : P.underlying t = some (.pointer el)) (k : Nat) {a b : Option Addr} {r : Bool}
    (h : (a = none ∧ r = b.isNone) ∨ (b = none ∧ r = a.isNone) ∨ ∃ x y n, a = some x ∧ b = some y ∧ (sizeOf el).run P w = .ok n w ∧ n ≠ 0 ∧ (sameAddr x y).run P w = .ok r w) : (Op.equalIn (k + 1) t (.pointer a) (.pointer b)).run P w = .ok r w := by
  rcases h with ⟨rfl, rfl⟩ | ⟨rfl, rfl⟩ | ⟨x, y, n, rfl, rfl, h1, h2, h3⟩
  · simp [Op.equalIn, run_underlying ht]
  · cases a <;> simp [Op.equalIn, run_underlying ht]
  · simp [Op.equalIn, run_underlying ht, h1, h2, h3]

/-- Two pointers to objects that live. -/
theorem eqp_sound {neq : Bool} {t el : TypeId} {i : TypeInfo} (hS : Sim ρ s w) (ht : P.underlying t = some (.pointer el)) (hi : P.info? el = some i) (hsz : i.size ≠ 0) {x y v : AV} {xv yv : Value} (h : eqpA neq s x y = some v)
    (hX : V ρ w s.size x xv) (hY : V ρ w s.size y yv) (ox oy : Operand) :
    ∃ v', (do eqGuard (if neq then .neq else .eql) t ox oy xv yv; binOp (if neq then .neq else .eql) t xv yv : Sem Value).run P w = .ok v' w ∧ V ρ w s.size v v' := by
  unfold eqpA at h
  split at h
  · cases h; cases hX; cases hY
    exact ⟨_, eqbin_run (r := true) (fun _ _ _ => eqGuard_at_pointer ..) (by rintro op (rfl | rfl) <;> rfl) (equal_pp ht 9999 (Or.inl ⟨rfl, rfl⟩)) neq ox oy, by cases neq <;> exact .bool _⟩
  · cases h; cases hX; cases hY
    exact ⟨_, eqbin_run (r := false) (fun _ _ _ => eqGuard_at_pointer ..) (by rintro op (rfl | rfl) <;> rfl) (equal_pp ht 9999 (Or.inl ⟨rfl, rfl⟩)) neq ox oy, by cases neq <;> exact .bool _⟩
  · cases h; cases hX; cases hY
    exact ⟨_, eqbin_run (r := false) (fun _ _ _ => eqGuard_at_pointer ..) (by rintro op (rfl | rfl) <;> rfl) (equal_pp ht 9999 (Or.inr (Or.inl ⟨rfl, rfl⟩))) neq ox oy, by cases neq <;> exact .bool _⟩
  · rename_i p o q r
    split at h
    · rename_i cs ds hp hq
      cases h
      cases hX with
      | ptr _ _ hpl hpp =>
        cases hY with
        | ptr _ _ hql hqp =>
          obtain ⟨_, l1, vs1, r1, t1, m1, -, -⟩ := hS.cells p cs hp hpp
          obtain ⟨_, l2, vs2, r2, t2, m2, -, -⟩ := hS.cells q ds hq hqp
          have hrun : (sameAddr ⟨ρ.blk p, o, none⟩ ⟨ρ.blk q, r, none⟩).run P w = .ok (p == q && o == r) w := by
            by_cases he : p = q ∧ o = r
            · obtain ⟨rfl, rfl⟩ := he
              simp [run_sameAddr_same]
            · have hne : (⟨ρ.blk p, o, none⟩ : Addr) ≠ ⟨ρ.blk q, r, none⟩ := by
                intro hh
                injection hh with h1 h2
                rw [h1, l2] at l1
                exact he ⟨(Lab.obj.inj l1).symm, h2⟩
              have hb : (p == q && o == r) = false := by
                cases hx : (p == q && o == r) with
                | false => rfl
                | true =>
                  simp only [Bool.and_eq_true, beq_iff_eq] at hx
                  exact absurd hx he
              rw [hb]
              exact run_sameAddr_other w hne m1 m2
          have hsz' : (sizeOf el).run P w = .ok i.size w := by simp [sizeOf, info_run hi]
          exact ⟨_, eqbin_run (r := (p == q && o == r)) (fun _ _ _ => eqGuard_at_pointer ..) (by rintro op (rfl | rfl) <;> rfl) (equal_pp ht 9999 (Or.inr (Or.inr ⟨_, _, _, rfl, rfl, hsz', hsz, hrun⟩))) neq ox oy, by cases neq <;> exact .bool _⟩
    · cases h
  · cases h

theorem repCells_len (zs : List AV) : ∀ m, (repCells zs m).length = m * zs.length
  | 0 => by simp [repCells]
  | m + 1 => by rw [repCells, List.length_append, repCells_len zs m, Nat.add_mul, Nat.one_mul, Nat.add_comm]
theorem repCells_one {zs : List AV} (h : zs.all AV.one = true) : ∀ m, (repCells zs m).all AV.one = true
  | 0 => rfl
  | m + 1 => by rw [repCells, List.all_append, h, repCells_one h m]; rfl

/-- The cells of a slice set to zero. -/
theorem clr_sound {t el ty : TypeId} {i : TypeInfo} {zs : List AV} {s' : St} {xa : AV} {xv : Value} (hS : Sim ρ s w) (hu : P.underlying t = some (.slice el)) (hi : P.info? el = some i) (hz : zeroOf P el = some zs) (h0 : 0 < i.size) (hzl : zs.length = i.size)
    (hX : V ρ w s.size xa xv) (h : clrA s zs xa = some s') : ∃ ρ' w', (Builtin.clear_ #[t] ty #[xv]).run P w = .ok (.tuple #[]) w' ∧ Fr ρ s w ρ' s' w' ∧ Sim ρ' s' w' := by
  unfold clrA at h
  split at h
  · cases h; cases hX
    exact ⟨ρ, w, by simp [Builtin.clear_, run_underlying hu], Fr.refl _ _ _, hS⟩
  · split at h
    · rename_i hl
      cases h
      subst hl
      cases hX with
      | sl => exact ⟨ρ, w, by simp [Builtin.clear_, run_underlying hu], Fr.refl _ _ _, hS⟩
      | sl0 a => exact ⟨ρ, w, by cases a <;> simp [Builtin.clear_, run_underlying hu], Fr.refl _ _ _, hS⟩
    · cases h
  · rename_i j off len z
    split at h
    · rename_i hl
      cases h
      subst hl
      cases hX with
      | msl => exact ⟨ρ, w, by simp [Builtin.clear_, run_underlying hu], Fr.refl _ _ _, hS⟩
    · rename_i hl
      split at h
      · rename_i cs hob
        split at h
        · rename_i hc
          obtain ⟨hz1, hz2, hz3⟩ := hc
          cases h
          cases hX with
          | msl _ _ _ cap _ hjn hjp hlc htot =>
            obtain ⟨hj, hlab, vs, rest, ty', hh, hvs, htot'⟩ := hS.cells j cs hob hjp
            have hvl := hvs.length
            obtain ⟨i', zv, hi', hzz, hv⟩ := zero_sound hz
            obtain rfl : i = i' := Option.some.inj (hi.symm.trans hi')
            have hzv := (hv ρ w s.size).length
            rw [Array.length_toList, hzl] at hzv
            have hV := rep_V (hv ρ w s.size) len
            have hlen : (repV zv.cells.toList len).length = len * i.size := by rw [hV.length, repCells_len, hzl]
            have hcell : (Builtin.zeroCells zv.cells len).toList = repV zv.cells.toList len := by
              rw [← repV_eq zv.cells i.size hzv h0 len]
              simp [Builtin.zeroCells, hzv]
            have hst := storeCells_run (P := P) (repV zv.cells.toList len) (o := off) (k := 0) hh (by rw [List.length_append, hlen, ← hzl, hz1]; omega) (ones_V hV (repCells_one hz3 len))
            rw [Nat.add_zero, setV_append _ _ _ _ (by rw [hlen, ← hzl, hz1]; omega)] at hst
            have htot2 : (setV vs off (repV zv.cells.toList len) ++ rest).length = ρ.tot j := by rw [List.length_append, setV_length, ← List.length_append]; exact htot'
            obtain ⟨hF, hS'⟩ := put_obj hS (ty := ty') hob hjp (setAt_V off hV hvs) htot2
            refine ⟨_, _, ?_, hF, hS'⟩
            cases len with
            | zero => exact absurd rfl hl
            | succ m =>
              simp [Builtin.clear_, run_underlying hu, zero_run hi hzz, hcell, hst]
        · cases h
      · cases h
  · cases h
end
end Go.Am
