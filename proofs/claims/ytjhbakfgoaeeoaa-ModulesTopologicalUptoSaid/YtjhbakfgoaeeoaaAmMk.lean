/- A graph in which nothing may come next has a cycle; one that is in order has none. Conditions: none. -/
import Derived.Test.YtjhbakfgoaeeoaaAmMf
namespace Go.Am.M2
open Go.Am.M1 (ChkP)
set_option maxRecDepth 100000
variable {names : List ByteArray} {ims : List (List ByteArray)}

def iter (f : ByteArray → ByteArray) : Nat → ByteArray → ByteArray
  | 0, x => x
  | n + 1, x => f (iter f n x)
theorem iter_add (f : ByteArray → ByteArray) (x : ByteArray) (n : Nat) : ∀ m, iter f (n + m) x = iter f m (iter f n x)
  | 0 => rfl
  | m + 1 => by rw [Nat.add_succ, iter, iter, iter_add f x n m]

/-- Of so many steps two come to the same. -/
theorem twice {U : List ByteArray} {f : ByteArray → ByteArray} {x : ByteArray} (h : ∀ n, iter f n x ∈ U) : ∃ i j, i < j ∧ iter f i x = iter f j x := by
  have hn : ¬ ((List.range (U.length + 1)).map fun n => iter f n x).Nodup := fun hnd => by
    have := hnd.length_le_of_subset (l₂ := U) (fun y hy => by obtain ⟨n, -, rfl⟩ := List.mem_map.1 hy; exact h n)
    simp at this
    omega
  rcases Classical.em (∃ i j, i < j ∧ iter f i x = iter f j x) with hh | hh
  · exact hh
  · exfalso
    apply hn
    unfold List.Nodup
    rw [List.pairwise_map]
    refine List.Pairwise.imp ?_ List.pairwise_lt_range
    intro a b hab he
    exact hh ⟨a, b, hab, he⟩

theorem min_of : ∀ (l : List ByteArray) (p : ByteArray → Prop) (x : ByteArray), x ∈ l → p x → ∃ m, m ∈ l ∧ p m ∧ ∀ y, y ∈ l → p y → bts m ≤ bts y
  | [], _, x, h, _ => by cases h
  | a :: l, p, x, h, hp => by
    rcases Classical.em (∃ y, y ∈ l ∧ p y) with ⟨y, hy, hpy⟩ | hno
    · obtain ⟨m, h1, h2, h3⟩ := min_of l p y hy hpy
      by_cases ha : p a
      · rcases bl_total (bts a) (bts m) with hle | hle
        · refine ⟨a, List.mem_cons_self, ha, fun z hz hpz => ?_⟩
          rcases List.mem_cons.1 hz with rfl | hz
          · exact List.le_refl _
          · exact bl_le_trans hle (h3 z hz hpz)
        · refine ⟨m, List.mem_cons_of_mem _ h1, h2, fun z hz hpz => ?_⟩
          rcases List.mem_cons.1 hz with rfl | hz
          · exact hle
          · exact h3 z hz hpz
      · refine ⟨m, List.mem_cons_of_mem _ h1, h2, fun z hz hpz => ?_⟩
        rcases List.mem_cons.1 hz with rfl | hz
        · exact absurd hpz ha
        · exact h3 z hz hpz
    · rcases List.mem_cons.1 h with rfl | h
      · refine ⟨x, List.mem_cons_self, hp, fun z hz hpz => ?_⟩
        rcases List.mem_cons.1 hz with rfl | hz
        · exact List.le_refl _
        · exact absurd ⟨z, hz, hpz⟩ hno
      · exact absurd ⟨x, h, hp⟩ hno

/-- Nothing may come next. -/
def Stuck (names : List ByteArray) (ims : List (List ByteArray)) (D : List ByteArray) : Prop := (∃ x, x ∈ names ∧ x ∉ D) ∧ ∀ x, x ∈ names → x ∉ D → ∃ y, Imp names ims x y ∧ y ∉ D

theorem least (p : Nat → Prop) {n : Nat} (h : p n) : ∃ m, p m ∧ ∀ k, k < m → ¬ p k := by
  induction n using Nat.strongRecOn with
  | ind n ih =>
    rcases Classical.em (∃ k, k < n ∧ p k) with ⟨k, hk, hp⟩ | hno
    · exact ih k hk hp
    · exact ⟨n, h, fun k hk hp => hno ⟨k, hk, hp⟩⟩

open Classical in
theorem stuck_cyc (hc : ChkP names ims) {D : List ByteArray} (h : Stuck names ims D) : ∃ c, Cyc names ims c := by
  obtain ⟨⟨x0, hx0, hd0⟩, hs⟩ := h
  -- a next one for each
  have hf : ∃ f : ByteArray → ByteArray, ∀ x, x ∈ names ∧ x ∉ D → Imp names ims x (f x) ∧ f x ∈ names ∧ f x ∉ D := by
    refine ⟨fun x => if h : x ∈ names ∧ x ∉ D then Classical.choose (hs x h.1 h.2) else x, fun x hx => ?_⟩
    have hsp := Classical.choose_spec (hs x hx.1 hx.2)
    simp only [dif_pos hx]
    exact ⟨hsp.1, imp_mem hc hsp.1, hsp.2⟩
  obtain ⟨f, hf⟩ := hf
  have hit : ∀ x, x ∈ names ∧ x ∉ D → ∀ n, iter f n x ∈ names ∧ iter f n x ∉ D := by
    intro x hx n
    induction n with
    | zero => exact hx
    | succ n ih => exact (hf _ ih).2
  have himp : ∀ x, x ∈ names ∧ x ∉ D → ∀ n, Imp names ims (iter f n x) (iter f (n + 1) x) := fun x hx n => (hf _ (hit x hx n)).1
  let Per : ByteArray → Prop := fun x => x ∉ D ∧ ∃ p, 0 < p ∧ iter f p x = x
  obtain ⟨i, j, hij, he⟩ := twice (U := names) (f := f) (x := x0) (fun n => (hit x0 ⟨hx0, hd0⟩ n).1)
  have hp0 : Per (iter f i x0) := ⟨(hit x0 ⟨hx0, hd0⟩ i).2, j - i, by omega, by rw [← iter_add, show i + (j - i) = j by omega]; exact he.symm⟩
  obtain ⟨m, hmn, ⟨hmd, p0, hp0', hper⟩, hmin⟩ := min_of names Per _ (hit x0 ⟨hx0, hd0⟩ i).1 hp0
  obtain ⟨p, ⟨hpp, hpe⟩, hpl⟩ := least (fun p => 0 < p ∧ iter f p m = m) ⟨hp0', hper⟩
  have hm2 : m ∈ names ∧ m ∉ D := ⟨hmn, hmd⟩
  have hcat : ∀ (k : Nat) y, ((List.range p).map fun n => iter f n m)[k]? = some y ↔ k < p ∧ y = iter f k m := by
    intro k y
    rw [List.getElem?_map]
    by_cases hk : k < p
    · rw [List.getElem?_range hk]; simp [hk, eq_comm]
    · rw [List.getElem?_eq_none (by simpa using hk)]; simp [hk]
  have hinj : ∀ a b, a < b → b < p → iter f a m ≠ iter f b m := by
    intro a b hab hb he
    have h1 : iter f (b + (p - b)) m = iter f (a + (p - b)) m := by rw [iter_add, iter_add, he]
    rw [show b + (p - b) = p by omega, hpe] at h1
    exact hpl (a + (p - b)) (by omega) ⟨by omega, h1.symm⟩
  refine ⟨(List.range p).map fun n => iter f n m, ⟨by simpa using hpp, fun x hx => ?_, fun k x y hx hy => ?_, ?_, fun k x y hx hy => ?_⟩, fun x y hx hy => ?_⟩
  · obtain ⟨n, -, rfl⟩ := List.mem_map.1 hx
    exact (hit m hm2 n).1
  · obtain ⟨-, rfl⟩ := (hcat k x).1 hx
    obtain ⟨-, rfl⟩ := (hcat (k + 1) y).1 hy
    exact himp m hm2 k
  · unfold List.Nodup
    rw [List.pairwise_iff_getElem]
    intro a b ha hb hab
    simp only [List.length_map, List.length_range] at ha hb
    simp only [List.getElem_map, List.getElem_range]
    exact hinj a b hab hb
  · have hxm : x = m := ((hcat 0 x).1 hx).2
    obtain ⟨hk, rfl⟩ := (hcat (k + 1) y).1 hy
    rw [hxm]
    refine bl_lt_of (hmin _ (hit m hm2 (k + 1)).1 ⟨(hit m hm2 (k + 1)).2, p, hpp, ?_⟩) ?_
    · rw [← iter_add, Nat.add_comm, iter_add, hpe]
    · intro hb
      have : iter f 0 m = iter f (k + 1) m := ByteArray.ext (Array.toList_inj.1 hb.symm)
      exact hinj 0 (k + 1) (by omega) hk this
  · simp only [List.length_map, List.length_range] at hx
    obtain ⟨-, rfl⟩ := (hcat (p - 1) x).1 hx
    have hym : y = m := ((hcat 0 y).1 hy).2
    rw [hym]
    have := himp m hm2 (p - 1)
    rw [show p - 1 + 1 = p by omega, hpe] at this
    exact this

/-- In order: each one behind those that it imports. -/
structure Topo (names : List ByteArray) (ims : List (List ByteArray)) (D : List ByteArray) : Prop where
  nodup : D.Nodup
  mem : ∀ x, x ∈ D → x ∈ names
  dep : ∀ (k : Nat) x y, D[k]? = some x → Imp names ims x y → y ∈ D.take k

theorem Topo.all {D : List ByteArray} (h : Topo names ims D) (hl : D.length = names.length) : ∀ x, x ∈ names → x ∈ D := by
  intro x hx
  rcases Classical.em (x ∈ D) with hd | hd
  · exact hd
  · have hnd : (x :: D).Nodup := List.nodup_cons.2 ⟨hd, h.nodup⟩
    have := hnd.length_le_of_subset (l₂ := names) (fun y hy => by
      rcases List.mem_cons.1 hy with rfl | hy
      · exact hx
      · exact h.mem y hy)
    simp only [List.length_cons] at this
    omega

theorem topo_no (D : List ByteArray) (h : Topo names ims D) (hl : D.length = names.length) (c : List ByteArray) : ¬ Cyc names ims c := by
  intro hcy
  have hall := h.all hl
  have hpos := hcy.way.pos
  obtain ⟨x0, hx0⟩ : ∃ x, c[0]? = some x := ⟨_, List.getElem?_eq_getElem hpos⟩
  obtain ⟨k0, hk0⟩ := List.getElem?_of_mem (hall x0 (hcy.way.mem x0 (List.mem_of_getElem? hx0)))
  obtain ⟨k, ⟨x, hkx, hxc⟩, hmin⟩ := least (fun k => ∃ x, D[k]? = some x ∧ x ∈ c) ⟨x0, hk0, List.mem_of_getElem? hx0⟩
  obtain ⟨i, hi⟩ := List.getElem?_of_mem hxc
  have hil := (List.getElem?_eq_some_iff.1 hi).1
  have hnext : ∃ y, y ∈ c ∧ Imp names ims x y := by
    by_cases hl1 : i + 1 < c.length
    · exact ⟨_, List.getElem_mem hl1, hcy.way.chain i x _ hi (List.getElem?_eq_getElem hl1)⟩
    · refine ⟨x0, List.mem_of_getElem? hx0, hcy.back x x0 (by rw [show c.length - 1 = i by omega]; exact hi) hx0⟩
  obtain ⟨y, hyc, him⟩ := hnext
  obtain ⟨k', hk'⟩ := List.getElem?_of_mem (h.dep k x y hkx him)
  have hlt := (List.getElem?_eq_some_iff.1 hk').1
  rw [List.length_take] at hlt
  rw [List.getElem?_take_of_lt (by omega)] at hk'
  exact hmin k' (by omega) ⟨y, hk', hyc⟩
end Go.Am.M2
