/- A law's arguments read as the abstract machine's, and the law's frame. Conditions: none. -/
import Derived.Test.YtfleakoephmgaaaDoorAmP
import Derived.SliceStrings
import Derived.OpenShut
set_option linter.unusedSimpArgs false
set_option linter.unusedVariables false
namespace Go.Am
open Go.RowKit

section
variable {R : Nat} {H : Type} {enc : TypeId × Value → H} {P : Program} {W : World}

theorem mapM_of_index {α β : Type} {g : α → Option β} : ∀ {l : List α} {r : List β}, r.length = l.length → (∀ (i : Nat) x, l[i]? = some x → g x = r[i]?) → l.mapM g = some r
  | [], [], _, _ => rfl
  | a :: l, b :: r, hl, h => by
    have h0 := h 0 a rfl
    have h1 := mapM_of_index (g := g) (l := l) (r := r) (by simpa using hl) (fun i x hx => h (i + 1) x hx)
    simp only [List.mapM_cons, h0, h1]
    rfl
  | [], _ :: _, hl, _ => by simp at hl
  | _ :: _, [], hl, _ => by simp at hl

theorem spot_none {a : Addr} {v : Value} (h : W.cell? a = some v) : a.spot = none := by
  unfold World.cell? at h
  split at h
  · split at h
    · cases h
    · rename_i hn; cases hs : a.spot with
      | none => rfl
      | some _ => simp [hs] at hn
  · cases h

theorem TyR.len {t : TypeId} {cs : List AV} (h : TyR R P t cs) : (∃ fs, P.underlying t = some (.struct fs)) ∨ cs.length = 1 := by
  cases h <;> first | exact Or.inr rfl | exact Or.inl ⟨_, ‹_›⟩

theorem read_ty {ts : List TypeId} (hc : closedB P ts = true) : ∀ (fuel : Nat) (t : TypeId) (cs : List Value) (d : DataW H) (ps : List MemPlace), t ∈ ts →
    DataW.trod enc P W 0 (fun _ => true) true fuel t cs = some (d, ps) → (d.weights P t).all (· ≤ R) = true → ∃ as, TyR R P t as ∧ Vs (rho0 W) W 0 as cs
  | 0, t, cs, d, ps, _, h, _ => by simp [DataW.trod] at h
  | fuel + 1, t, cs, d, ps, ht, h, hw => by
    rcases closed_at hc ht with hu | ⟨k, hu⟩ | hu | ⟨e, hu, he, hpos⟩ | ⟨fs, hu, hcg, hfs⟩
    · obtain ⟨b, rfl, _⟩ := DataW.trod_bool hu h
      exact ⟨_, .bool t b hu, .cons _ _ _ _ (.bool b) .nil⟩
    · obtain ⟨n, rfl, _, hwf⟩ := DataW.trod_int hu h
      exact ⟨_, .int t k n hu hwf, .cons _ _ _ _ (.int k n) .nil⟩
    · obtain ⟨s, rfl, hd, hs⟩ := DataW.trod_string hu h
      cases hd
      have hb : s.size ≤ R := by
        simp only [DataW.weights, List.all_cons, List.all_nil, Bool.and_true, decide_eq_true_eq] at hw
        rw [Array.length_toList] at hw
        exact hw
      exact ⟨_, .str t s hu hb, .cons _ _ _ _ (.str s) .nil⟩
    · rcases DataW.trod_slice hu h with ⟨rfl, hd⟩ | ⟨a, len, cap, elems, rest, n, hf, rfl, hd, _, hl, hm, hlen, hel, hsp, _⟩
      · exact ⟨_, .slice t e 0 [] hu (.zero e) (by omega), .cons _ _ _ _ (.sl0 none 0 false none (fun h => by cases h) (fun _ => rfl) (fun h => by cases h)) .nil⟩
      · obtain rfl : fuel = n := by omega
        cases hd
        simp only [DataW.weights, hu, List.all_cons, List.all_append, Bool.and_eq_true, decide_eq_true_eq, List.length_map] at hw
        obtain ⟨hw1, hw2, _⟩ := hw
        have hb : len * P.bytesOf e ≤ R := Nat.le_trans (Nat.mul_le_mul_right _ (by omega)) hw1
        by_cases h0 : len = 0
        · subst h0
          exact ⟨_, .slice t e 0 [] hu (.zero e) (by omega), .cons _ _ _ _ (.sl0 (some a) cap false none (fun h => by cases h) (fun h => by cases h) (fun h => by cases h)) .nil⟩
        · have hrow : ∀ i, i < len → ∃ row x, W.cells? 0 (a.add (i * P.cellsOf e)) (P.cellsOf e) = some row ∧ DataW.trod enc P W 0 (fun _ => true) true fuel e row = some x ∧ x.1 ∈ elems.map (·.1) := by
            intro i hi
            have h1 := hel i hi
            have h2 : elems[i]? = some (elems[i]'(by omega)) := List.getElem?_eq_getElem _
            rw [h2, Option.bind_eq_some_iff] at h1
            obtain ⟨row, hr, hx⟩ := h1
            exact ⟨row, _, hr, hx, List.mem_map.2 ⟨_, List.getElem_mem _, rfl⟩⟩
          have hspot : a.spot = none := by
            obtain ⟨row, x, hr, _⟩ := hrow 0 (by omega)
            obtain ⟨hrl, hrc⟩ := cells_some hr
            have := hrc 0 hpos
            rw [List.getElem?_eq_getElem (by omega), Nat.zero_mul] at this
            exact spot_none this
          obtain ⟨b, o, sp⟩ := a
          simp only at hspot
          subst hspot
          have hadd : ∀ k, Addr.add ⟨b, o, none⟩ k = ⟨b, o + k, none⟩ := by intro k; unfold Addr.add; split <;> simp_all
          have hadd2 : ∀ o k, Addr.add ⟨b, o, none⟩ k = ⟨b, o + k, none⟩ := by intro o k; unfold Addr.add; split <;> simp_all
          obtain ⟨as, vs, hT, hV, hvl, hcell⟩ := read_row (P := P) (W := W) (e := e) (b := b) (o := o) rfl len 0
            (fun i => ((W.cells? 0 (Addr.add ⟨b, o, none⟩ (i * P.cellsOf e)) (P.cellsOf e)).getD [])) (fun i hi => by
              obtain ⟨row, x, hr, hx, hmem⟩ := hrow i hi
              obtain ⟨hrl, hrc⟩ := cells_some hr
              obtain ⟨as, h1, h2⟩ := read_ty hc fuel e row x.1 x.2 he hx (weights_all hw2 _ hmem)
              simp only [hr, Option.getD_some]
              refine ⟨hrl, fun j v hj => ?_, as, h1, h2⟩
              have hjl : j < P.cellsOf e := by have := (List.getElem?_eq_some_iff.1 hj).1; omega
              have := hrc j hjl
              rw [hadd, hadd2, hj] at this
              rw [Nat.zero_add]; exact this)
          refine ⟨_, .slice t e len as hu hT hb, .cons _ _ _ _ (.sl as vs b o len cap false none hV (at0 (fun j v hj => ?_)) (fun h => by cases h) hl (fun t ht => by cases ht)) .nil⟩
          have := hcell j v hj
          rwa [Nat.zero_mul, Nat.add_zero] at this
    · obtain ⟨xs, n, hf, hd, hcl, hxl, hx⟩ := DataW.trod_struct hu h
      obtain rfl : fuel = n := by omega
      cases hd
      simp only [DataW.weights, hu] at hw
      obtain ⟨as, h1, h2⟩ := read_fields (P := P) (W := W) (enc := enc) (ts := ts) (fuel := fuel) (fun t cs d ps ht h hw _ => read_ty hc fuel t cs d ps ht h hw) fs.toList 0 _ cs xs hcg hcl hfs
        (mapM_of_index (by simpa using hxl) (fun i f hi => hx i f (by simpa using hi))) hw
      exact ⟨as, .struct t fs as hu h1, by simpa using h2⟩

/-- An empty slice is nil or not. -/
theorem V.nil_or {ρ : Rho} {w : World} {n : Nat} {v : Value} (h : V ρ w n (.sl [] 0 false none) v) : V ρ w n .nils v ∨ V ρ w n (.sl [] 0 false (some 0)) v := by
  cases h with
  | sl _ vs b o _ cap _ _ hvs ha hf hl ht => exact Or.inr (.sl0 (some ⟨b, o, none⟩) cap false (some 0) (fun h => by cases h) (fun h => by cases h) (fun _ h => by cases h))
  | sl0 a cap _ _ hf ha ht =>
    cases a with
    | none => rw [ha rfl]; exact Or.inl .nils
    | some a => exact Or.inr (.sl0 (some a) cap false (some 0) (fun h => by cases h) (fun h => by cases h) (fun _ h => by cases h))

/-- An argument. -/
theorem read_arg {ts : List TypeId} (hc : closedB P ts = true) {t : TypeId} {v : Value} {d : DataW H} {ps : List MemPlace} {base : Nat} {r : Reach} (ht : t ∈ ts) (hok : Value.okWide P W r base t v)
    (h : DataW.Trod enc P W 0 (fun _ => true) true t v d ps) (hw : (d.weights P t).all (· ≤ R) = true) : ∃ a, TyAR R P t a ∧ V (rho0 W) W 0 a v := by
  obtain ⟨fuel, hf⟩ := h
  obtain ⟨as, h1, h2⟩ := read_ty hc fuel t _ d ps ht hf hw
  unfold Value.okWide at hok
  have hone : (∀ fs, P.underlying t ≠ some (.struct fs)) → ∃ a, TyAR R P t a ∧ V (rho0 W) W 0 a v := by
    intro hns
    have hl : as.length = 1 := by
      rcases h1.len with ⟨fs, hfs⟩ | hl
      · exact absurd hfs (hns fs)
      · exact hl
    obtain ⟨a, rfl⟩ := List.length_eq_one_iff.1 hl
    have hA : ∀ v, V (rho0 W) W 0 a v → ∃ a, TyAR R P t a ∧ V (rho0 W) W 0 a v := by
      intro v hv
      cases hu : P.underlying t with
      | none => exact ⟨a, by unfold TyAR; rw [hu]; exact h1, hv⟩
      | some d =>
        cases d
        case struct fs => exact absurd hu (hns fs)
        case slice e =>
          cases h1 with
          | slice t' e' len cs hu' hc' hb' =>
            obtain rfl : e = e' := by rw [hu] at hu'; cases hu'; rfl
            by_cases h0 : len = 0
            · subst h0
              cases hc'
              rcases hv.nil_or with hv | hv
              · exact ⟨_, by unfold TyAR; rw [hu]; exact Or.inl rfl, hv⟩
              · exact ⟨_, by unfold TyAR; rw [hu]; exact Or.inr (Or.inl rfl), hv⟩
            · exact ⟨_, by unfold TyAR; rw [hu]; exact Or.inr (Or.inr ⟨len, cs, by omega, rfl, hc', hb'⟩), hv⟩
          | bool _ _ hu' => rw [hu] at hu'; cases hu'
          | int _ _ _ hu' => rw [hu] at hu'; cases hu'
          | str _ _ hu' => rw [hu] at hu'; cases hu'
          | struct _ _ _ hu' => rw [hu] at hu'; cases hu'
        all_goals exact ⟨a, by unfold TyAR; rw [hu]; exact h1, hv⟩
    generalize hgen : v.cells.toList = l at h2
    cases h2 with
    | cons _ v' _ vs hv hvs =>
      cases hvs
      refine hA v ?_
      cases v with
      | agg cs =>
        exfalso
        rcases closed_at hc ht with hu | ⟨k, hu⟩ | hu | ⟨e, hu, he, hpos⟩ | ⟨fs, hu, hcg, hfs⟩
        · rw [hu] at hok; simp [Cell.okWide, Cell.ok, hu] at hok
        · rw [hu] at hok; simp [Cell.okWide, Cell.ok, hu] at hok
        · rw [hu] at hok; simp [Cell.okWide, Cell.ok, hu] at hok
        · rw [hu] at hok; simp [Cell.okWide, Cell.ok, hu] at hok
        · exact hns fs hu
      | _ => simp only [Value.cells, List.cons.injEq, and_true] at hgen; exact hgen ▸ hv
  rcases closed_at hc ht with hu | ⟨k, hu⟩ | hu | ⟨e, hu, he, hpos⟩ | ⟨fs, hu, hcg, hfs⟩
  · exact hone (by simp [hu])
  · exact hone (by simp [hu])
  · exact hone (by simp [hu])
  · exact hone (by simp [hu])
  · rw [hu] at hok
    obtain ⟨cs, rfl, _, _⟩ := hok
    refine ⟨.agg as, ?_, ?_⟩
    · unfold TyAR; rw [hu]; exact ⟨as, rfl, h1⟩
    · exact .agg as cs.toList h2

theorem read_args {ts : List TypeId} (hc : closedB P ts = true) {base : Nat} {r : Reach} : ∀ (pts : List TypeId) (vs : List Value) (ds : List (DataW H)) (ps : List MemPlace), (∀ t, t ∈ pts → t ∈ ts) →
    (∀ (j : Nat) t v, pts[j]? = some t → vs[j]? = some v → Value.okWide P W r base t v) → DataW.TrodAll enc P W 0 (fun _ => true) true pts vs ds ps →
    (DataW.weightsEach P pts ds).all (· ≤ R) = true → ∃ as, TyAsR R P pts as ∧ Vs (rho0 W) W 0 as vs
  | [], vs, ds, ps, _, _, h, _ => by
    obtain ⟨rfl, rfl, rfl⟩ := ChangeShapes.trodAll_nil h
    exact ⟨[], .nil, .nil⟩
  | t :: pts, vs, ds, ps, hin, hok, h, hw => by
    obtain ⟨v, vs1, d, ds1, p, q, rfl, rfl, rfl, h1, h2⟩ := ChangeShapes.trodAll_cons h
    simp only [DataW.weightsEach, List.all_append, Bool.and_eq_true] at hw
    obtain ⟨a, ha1, ha2⟩ := read_arg hc (hin t (by simp)) (hok 0 t v rfl rfl) h1 hw.1
    obtain ⟨as, has1, has2⟩ := read_args hc pts vs1 ds1 q (fun t ht => hin t (by simp [ht])) (fun j t v ht hv => hok (j + 1) t v ht hv) h2 hw.2
    exact ⟨a :: as, .cons t a pts as ha1 has1, .cons a v as vs1 ha2 has2⟩

end
end Go.Am
