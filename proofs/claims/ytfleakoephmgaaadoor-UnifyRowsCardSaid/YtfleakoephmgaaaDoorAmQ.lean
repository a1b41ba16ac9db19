/- A law's arguments read as the abstract machine's, and the law's frame. Conditions: none. -/
import Derived.Test.YtfleakoephmgaaaDoorAmP
import Derived.SliceStrings
import Derived.OpenShut
import Derived.Test.YtfleakoephmgaaaDoorAmA
set_option linter.unusedSimpArgs false
set_option linter.unusedVariables false
namespace Go.Am
open Go.RowKit

section
variable {R : Nat} {H : Type} {enc : TypeId × Value → H} {P : Program} {W : World}

theorem mapM_of_index {α β : Type} {g : α → Option β} : ∀ {l : List α} {r : List β}, r.length = l.length → (∀ (i : Nat) x, l[i]? = some x → g x = r[i]?) → l.mapM g = some r
  | [], [], _, _ => rfl
  | a :: l, b :: r, hl, h => by
    have h0 := h 0 a rfl
    have h1 := mapM_of_index (g := g) (l := l) (r := r) (by simpa using hl) (fun i x hx => h (i + 1) x hx)
    simp only [List.mapM_cons, h0, h1]
    rfl
  | [], _ :: _, hl, _ => by simp at hl
  | _ :: _, [], hl, _ => by simp at hl

theorem spot_none {a : Addr} {v : Value} (h : W.cell? a = some v) : a.spot = none := by
  unfold World.cell? at h
  split at h
  · split at h
    · cases h
    · rename_i hn; cases hs : a.spot with
      | none => rfl
      | some _ => simp [hs] at hn
  · cases h

theorem TyR.len {t : TypeId} {cs : List AV} (h : TyR R P t cs) : (∃ fs, P.underlying t = some (.struct fs)) ∨ cs.length = 1 := by
  cases h <;> first | exact Or.inr rfl | exact Or.inl ⟨_, ‹_›⟩

theorem read_ty {ts : List TypeId} (hc : closedB P ts = true) : ∀ (fuel : Nat) (t : TypeId) (cs : List Value) (d : DataW H) (ps : List MemPlace), t ∈ ts →
    DataW.trod enc P W 0 (fun _ => true) true fuel t cs = some (d, ps) → (d.weights P t).all (· ≤ R) = true → ∃ as, TyR R P t as ∧ Vs (rho0 W) W 0 as cs
  | 0, t, cs, d, ps, _, h, _ => by simp [DataW.trod] at h
  | fuel + 1, t, cs, d, ps, ht, h, hw => by
    rcases closed_at hc ht with hu | ⟨k, hu⟩ | hu | ⟨e, hu, he, hpos⟩ | ⟨fs, hu, hcg, hfs⟩
    · obtain ⟨b, rfl, _⟩ := DataW.trod_bool hu h
      exact ⟨_, .bool t b hu, .cons _ _ _ _ (.bool b) .nil⟩
    · obtain ⟨n, rfl, _, hwf⟩ := DataW.trod_int hu h
      exact ⟨_, .int t k n hu hwf, .cons _ _ _ _ (.int k n) .nil⟩
    · obtain ⟨s, rfl, hd, hs⟩ := DataW.trod_string hu h
      cases hd
      have hb : s.size ≤ R := by
        simp only [DataW.weights, List.all_cons, List.all_nil, Bool.and_true, decide_eq_true_eq] at hw
        rw [Array.length_toList] at hw
        exact hw
      exact ⟨_, .str t s hu hb, .cons _ _ _ _ (.str s) .nil⟩
    · rcases DataW.trod_slice hu h with ⟨rfl, hd⟩ | ⟨a, len, cap, elems, rest, n, hf, rfl, hd, _, hl, hm, hlen, hel, hsp, _⟩
      · exact ⟨_, .slice t e 0 [] hu (.zero e) (by omega), .cons _ _ _ _ (.sl0 none 0 false none (fun h => by cases h) (fun _ => rfl) (fun h => by cases h)) .nil⟩
      · obtain rfl : fuel = n := by omega
        cases hd
        simp only [DataW.weights, hu, List.all_cons, List.all_append, Bool.and_eq_true, decide_eq_true_eq, List.length_map] at hw
        obtain ⟨hw1, hw2, _⟩ := hw
        have hb : len * P.bytesOf e ≤ R := Nat.le_trans (Nat.mul_le_mul_right _ (by omega)) hw1
        by_cases h0 : len = 0
        · subst h0
          exact ⟨_, .slice t e 0 [] hu (.zero e) (by omega), .cons _ _ _ _ (.sl0 (some a) cap false none (fun h => by cases h) (fun h => by cases h) (fun h => by cases h)) .nil⟩
        · have hrow : ∀ i, i < len → ∃ row x, W.cells? 0 (a.add (i * P.cellsOf e)) (P.cellsOf e) = some row ∧ DataW.trod enc P W 0 (fun _ => true) true fuel e row = some x ∧ x.1 ∈ elems.map (·.1) := by
            intro i hi
            have h1 := hel i hi
            have h2 : elems[i]? = some (elems[i]'(by omega)) := List.getElem?_eq_getElem _
            rw [h2, Option.bind_eq_some_iff] at h1
            obtain ⟨row, hr, hx⟩ := h1
            exact ⟨row, _, hr, hx, List.mem_map.2 ⟨_, List.getElem_mem _, rfl⟩⟩
          have hspot : a.spot = none := by
            obtain ⟨row, x, hr, _⟩ := hrow 0 (by omega)
            obtain ⟨hrl, hrc⟩ := cells_some hr
            have := hrc 0 hpos
            rw [List.getElem?_eq_getElem (by omega), Nat.zero_mul] at this
            exact spot_none this
          obtain ⟨b, o, sp⟩ := a
          simp only at hspot
          subst hspot
          have hadd : ∀ k, Addr.add ⟨b, o, none⟩ k = ⟨b, o + k, none⟩ := by intro k; unfold Addr.add; split <;> simp_all
          have hadd2 : ∀ o k, Addr.add ⟨b, o, none⟩ k = ⟨b, o + k, none⟩ := by intro o k; unfold Addr.add; split <;> simp_all
          obtain ⟨as, vs, hT, hV, hvl, hcell⟩ := read_row (P := P) (W := W) (e := e) (b := b) (o := o) rfl len 0
            (fun i => ((W.cells? 0 (Addr.add ⟨b, o, none⟩ (i * P.cellsOf e)) (P.cellsOf e)).getD [])) (fun i hi => by
              obtain ⟨row, x, hr, hx, hmem⟩ := hrow i hi
              obtain ⟨hrl, hrc⟩ := cells_some hr
              obtain ⟨as, h1, h2⟩ := read_ty hc fuel e row x.1 x.2 he hx (weights_all hw2 _ hmem)
              simp only [hr, Option.getD_some]
              refine ⟨hrl, fun j v hj => ?_, as, h1, h2⟩
              have hjl : j < P.cellsOf e := by have := (List.getElem?_eq_some_iff.1 hj).1; omega
              have := hrc j hjl
              rw [hadd, hadd2, hj] at this
              rw [Nat.zero_add]; exact this)
          refine ⟨_, .slice t e len as hu hT hb, .cons _ _ _ _ (.sl as vs b o len cap false none hV (at0 (fun j v hj => ?_)) (fun h => by cases h) hl (fun t ht => by cases ht)) .nil⟩
          have := hcell j v hj
          rwa [Nat.zero_mul, Nat.add_zero] at this
    · obtain ⟨xs, n, hf, hd, hcl, hxl, hx⟩ := DataW.trod_struct hu h
      obtain rfl : fuel = n := by omega
      cases hd
      simp only [DataW.weights, hu] at hw
      obtain ⟨as, h1, h2⟩ := read_fields (P := P) (W := W) (enc := enc) (ts := ts) (fuel := fuel) (fun t cs d ps ht h hw _ => read_ty hc fuel t cs d ps ht h hw) fs.toList 0 _ cs xs hcg hcl hfs
        (mapM_of_index (by simpa using hxl) (fun i f hi => hx i f (by simpa using hi))) hw
      exact ⟨as, .struct t fs as hu h1, by simpa using h2⟩

/-- An empty slice is nil or not. -/
theorem V.nil_or {ρ : Rho} {w : World} {n : Nat} {v : Value} (h : V ρ w n (.sl [] 0 false none) v) : V ρ w n .nils v ∨ V ρ w n (.sl [] 0 false (some 0)) v := by
  cases h with
  | sl _ vs b o _ cap _ _ hvs ha hf hl ht => exact Or.inr (.sl0 (some ⟨b, o, none⟩) cap false (some 0) (fun h => by cases h) (fun h => by cases h) (fun _ h => by cases h))
  | sl0 a cap _ _ hf ha ht =>
    cases a with
    | none => rw [ha rfl]; exact Or.inl .nils
    | some a => exact Or.inr (.sl0 (some a) cap false (some 0) (fun h => by cases h) (fun h => by cases h) (fun _ h => by cases h))

/-- An argument. -/
theorem read_arg {ts : List TypeId} (hc : closedB P ts = true) {t : TypeId} {v : Value} {d : DataW H} {ps : List MemPlace} {base : Nat} {r : Reach} (ht : t ∈ ts) (hok : Value.okWide P W r base t v)
    (h : DataW.Trod enc P W 0 (fun _ => true) true t v d ps) (hw : (d.weights P t).all (· ≤ R) = true) : ∃ a, TyAR R P t a ∧ V (rho0 W) W 0 a v := by
  obtain ⟨fuel, hf⟩ := h
  obtain ⟨as, h1, h2⟩ := read_ty hc fuel t _ d ps ht hf hw
  unfold Value.okWide at hok
  have hone : (∀ fs, P.underlying t ≠ some (.struct fs)) → ∃ a, TyAR R P t a ∧ V (rho0 W) W 0 a v := by
    intro hns
    have hl : as.length = 1 := by
      rcases h1.len with ⟨fs, hfs⟩ | hl
      · exact absurd hfs (hns fs)
      · exact hl
    obtain ⟨a, rfl⟩ := List.length_eq_one_iff.1 hl
    have hA : ∀ v, V (rho0 W) W 0 a v → ∃ a, TyAR R P t a ∧ V (rho0 W) W 0 a v := by
      intro v hv
      cases hu : P.underlying t with
      | none => exact ⟨a, by unfold TyAR; rw [hu]; exact h1, hv⟩
      | some d =>
        cases d
        case struct fs => exact absurd hu (hns fs)
        case slice e =>
          cases h1 with
          | slice t' e' len cs hu' hc' hb' =>
            obtain rfl : e = e' := by rw [hu] at hu'; cases hu'; rfl
            by_cases h0 : len = 0
            · subst h0
              cases hc'
              rcases hv.nil_or with hv | hv
              · exact ⟨_, by unfold TyAR; rw [hu]; exact Or.inl rfl, hv⟩
              · exact ⟨_, by unfold TyAR; rw [hu]; exact Or.inr (Or.inl rfl), hv⟩
            · exact ⟨_, by unfold TyAR; rw [hu]; exact Or.inr (Or.inr ⟨len, cs, by omega, rfl, hc', hb'⟩), hv⟩
          | bool _ _ hu' => rw [hu] at hu'; cases hu'
          | int _ _ _ hu' => rw [hu] at hu'; cases hu'
          | str _ _ hu' => rw [hu] at hu'; cases hu'
          | struct _ _ _ hu' => rw [hu] at hu'; cases hu'
        all_goals exact ⟨a, by unfold TyAR; rw [hu]; exact h1, hv⟩
    generalize hgen : v.cells.toList = l at h2
    cases h2 with
    | cons _ v' _ vs hv hvs =>
      cases hvs
      refine hA v ?_
      cases v with
      | agg cs =>
        exfalso
        rcases closed_at hc ht with hu | ⟨k, hu⟩ | hu | ⟨e, hu, he, hpos⟩ | ⟨fs, hu, hcg, hfs⟩
        · rw [hu] at hok; simp [Cell.okWide, Cell.ok, hu] at hok
        · rw [hu] at hok; simp [Cell.okWide, Cell.ok, hu] at hok
        · rw [hu] at hok; simp [Cell.okWide, Cell.ok, hu] at hok
        · rw [hu] at hok; simp [Cell.okWide, Cell.ok, hu] at hok
        · exact hns fs hu
      | _ => simp only [Value.cells, List.cons.injEq, and_true] at hgen; exact hgen ▸ hv
  rcases closed_at hc ht with hu | ⟨k, hu⟩ | hu | ⟨e, hu, he, hpos⟩ | ⟨fs, hu, hcg, hfs⟩
  · exact hone (by simp [hu])
  · exact hone (by simp [hu])
  · exact hone (by simp [hu])
  · exact hone (by simp [hu])
  · rw [hu] at hok
    obtain ⟨cs, rfl, _, _⟩ := hok
    refine ⟨.agg as, ?_, ?_⟩
    · unfold TyAR; rw [hu]; exact ⟨as, rfl, h1⟩
    · exact .agg as cs.toList h2

theorem read_args {ts : List TypeId} (hc : closedB P ts = true) {base : Nat} {r : Reach} : ∀ (pts : List TypeId) (vs : List Value) (ds : List (DataW H)) (ps : List MemPlace), (∀ t, t ∈ pts → t ∈ ts) →
    (∀ (j : Nat) t v, pts[j]? = some t → vs[j]? = some v → Value.okWide P W r base t v) → DataW.TrodAll enc P W 0 (fun _ => true) true pts vs ds ps →
    (DataW.weightsEach P pts ds).all (· ≤ R) = true → ∃ as, TyAsR R P pts as ∧ Vs (rho0 W) W 0 as vs
  | [], vs, ds, ps, _, _, h, _ => by
    obtain ⟨rfl, rfl, rfl⟩ := ChangeShapes.trodAll_nil h
    exact ⟨[], .nil, .nil⟩
  | t :: pts, vs, ds, ps, hin, hok, h, hw => by
    obtain ⟨v, vs1, d, ds1, p, q, rfl, rfl, rfl, h1, h2⟩ := ChangeShapes.trodAll_cons h
    simp only [DataW.weightsEach, List.all_append, Bool.and_eq_true] at hw
    obtain ⟨a, ha1, ha2⟩ := read_arg hc (hin t (by simp)) (hok 0 t v rfl rfl) h1 hw.1
    obtain ⟨as, has1, has2⟩ := read_args hc pts vs1 ds1 q (fun t ht => hin t (by simp [ht])) (fun j t v ht hv => hok (j + 1) t v ht hv) h2 hw.2
    exact ⟨a :: as, .cons t a pts as ha1 has1, .cons a v as vs1 ha2 has2⟩

end
end Go.Am

/- Reasoning about runs of the abstract machine. Conditions: none. -/
namespace Go.Am

abbrev CallF := Nat → List AV → St → Option (AV × St)

def CLe (c1 c2 : CallF) : Prop := ∀ f a s r, c1 f a s = some r → c2 f a s = some r

def noCall : CallF := fun _ _ _ => none
theorem noCall_le (c : CallF) : CLe noCall c := fun _ _ _ _ h => by cases h

theorem evOp_mono {c1 c2 : CallF} (h : CLe c1 c2) {o : COp} {e : Env} {s : St} {r : AV × St} (hr : evOp c1 o e s = some r) : evOp c2 o e s = some r := by
  cases o with
  | call f args => exact h _ _ _ _ hr
  | callv x args =>
    simp only [evOp] at hr ⊢
    split at hr
    · exact h _ _ _ _ hr
    · cases hr
  | _ => exact hr

theorem evOps_mono {c1 c2 : CallF} (h : CLe c1 c2) : ∀ (ops : List CO) (e : Env) (s : St) (r : Env × St), evOps c1 ops e s = some r → evOps c2 ops e s = some r
  | [], _, _, _, hr => hr
  | o :: ops, e, s, r, hr => by
    simp only [evOps] at hr ⊢
    split
    · rename_i hg
      rw [if_pos hg] at hr
      split at hr
      · rename_i v s' hv
        rw [evOp_mono h hv]
        exact evOps_mono h ops _ _ _ hr
      · cases hr
    · rename_i hg
      rw [if_neg hg] at hr
      exact evOps_mono h ops _ _ _ hr

theorem evRest_mono {c1 c2 : CallF} (h : CLe c1 c2) : ∀ (ops : List CO) (e : Env) (s : St) (r : Env × St), evRest c1 ops e s = some r → evRest c2 ops e s = some r
  | [], _, _, _, hr => hr
  | o :: ops, e, s, r, hr => by
    simp only [evRest] at hr ⊢
    split
    · rename_i ha
      rw [if_pos ha] at hr
      exact evRest_mono h ops _ _ _ hr
    · rename_i ha
      rw [if_neg ha] at hr
      split
      · rename_i hg
        rw [if_pos hg] at hr
        split at hr
        · rename_i v s' hv
          rw [evOp_mono h hv]
          exact evRest_mono h ops _ _ _ hr
        · cases hr
      · rename_i hg
        rw [if_neg hg] at hr
        exact evRest_mono h ops _ _ _ hr

theorem evTr_mono {c1 c2 : CallF} (h : CLe c1 c2) : ∀ (ops : List CO) (e : Env) (s : St) (k : Nat) (x : Env × St), (evTr c1 ops e s)[k]? = some x → (evTr c2 ops e s)[k]? = some x
  | [], _, _, _, _, hr => hr
  | o :: ops, e, s, k, x, hr => by
    cases k with
    | zero => simpa [evTr] using hr
    | succ k =>
      simp only [evTr, List.getElem?_cons_succ] at hr ⊢
      split
      · rename_i ha
        rw [if_pos ha] at hr
        exact evTr_mono h ops _ _ _ _ hr
      · rename_i ha
        rw [if_neg ha] at hr
        split
        · rename_i hg
          rw [if_pos hg] at hr
          split at hr
          · rename_i v s' hv
            rw [evOp_mono h hv]
            exact evTr_mono h ops _ _ _ _ hr
          · simp at hr
        · rename_i hg
          rw [if_neg hg] at hr
          exact evTr_mono h ops _ _ _ _ hr

theorem chk1_mono {c1 c2 : CallF} (h : CLe c1 c2) {ops : List CO} {tr tr' : List (Env × St)} (ht : ∀ (k : Nat) x, tr[k]? = some x → tr'[k]? = some x) {p : Nat × Nat} (hc : chk1 c1 ops tr p = true) : chk1 c2 ops tr' p = true := by
  unfold chk1 at hc ⊢
  split at hc
  · rename_i c x y h1 h2 h3
    rw [h1, ht _ _ h2, ht _ _ h3]
    simp only
    by_cases hst : c.op.isStore = true
    · rw [if_pos hst] at hc ⊢
      unfold apartS at hc ⊢
      split at hc
      · rename_i c' x' d y' g1 g2 g3 g4
        rw [g1, ht _ _ g2, g3, ht _ _ g4]
        exact hc
      · cases hc
    rw [if_neg hst] at hc ⊢
    simp only [Bool.or_eq_true] at hc ⊢
    rcases hc with hc | hc
    · exact Or.inl hc
    · right
      split at hc
      · rename_i v _ u _ h4 h5
        rw [evOp_mono h h4, evOp_mono h h5]
        exact hc
      · cases hc
  · cases hc

theorem mono1 (T : Nat → Option CF) (X : Ext) : ∀ n, (∀ c e s r, ev T X n c e s = some r → ev T X (n + 1) c e s = some r) ∧ CLe (evCall T X n) (evCall T X (n + 1))
  | 0 => ⟨fun c e s r h => by simp [ev] at h, fun f a s r h => by simp [evCall] at h⟩
  | n + 1 => by
    obtain ⟨h1, h2⟩ := mono1 T X n
    refine ⟨fun c e s r h => ?_, fun f a s r h => ?_⟩
    · cases c with
      | skip => simpa [ev] using h
      | exit => simpa [ev] using h
      | ret => simpa [ev] using h
      | bad => simp [ev] at h
      | back => simp [ev] at h
      | reg ops =>
        simp only [ev] at h ⊢
        split at h
        · rename_i e' s' ho
          have := evOps_mono h2 _ _ _ _ ho
          simp only [this]; exact h
        · cases h
      | dreg ops chk =>
        simp only [ev] at h ⊢
        split at h
        · rename_i e' s' ho
          have := evRest_mono h2 _ _ _ _ ho
          simp only [this]
          split at h
          · rename_i hc
            rw [if_pos]
            · exact h
            · rw [List.all_eq_true] at hc ⊢
              exact fun p hp => chk1_mono h2 (fun k x hk => evTr_mono h2 _ _ _ _ _ hk) (hc p hp)
          · cases h
        · cases h
      | seq a b =>
        rw [ev] at h ⊢
        split at h
        · rename_i e' s' ha
          rw [h1 _ _ _ _ ha]
          exact h1 _ _ _ _ h
        · rename_i hn
          cases ho : ev T X n a e s with
          | none => rw [ho] at h; cases h
          | some q =>
            rw [ho] at h
            rw [h1 _ _ _ _ ho]
            obtain ⟨x, e', s'⟩ := q
            cases x with
            | normal => exact absurd ho (by simpa using hn e' s')
            | exit j => exact h
            | ret => exact h
      | cond c a b =>
        rw [ev] at h ⊢
        split at h
        · exact h1 _ _ _ _ h
        · exact h1 _ _ _ _ h
        · cases h
      | block id b =>
        rw [ev] at h ⊢
        cases ho : ev T X n b e s with
        | none => rw [ho] at h; cases h
        | some q => rw [ho] at h; rw [h1 _ _ _ _ ho]; exact h
      | loop b =>
        rw [ev] at h ⊢
        split at h
        · rename_i e' s' ha
          rw [h1 _ _ _ _ ha]
          exact h1 _ _ _ _ h
        · rename_i hn
          cases ho : ev T X n b e s with
          | none => rw [ho] at h; cases h
          | some q =>
            rw [ho] at h
            rw [h1 _ _ _ _ ho]
            obtain ⟨x, e', s'⟩ := q
            cases x with
            | normal => exact absurd ho (by simpa using hn e' s')
            | exit j => exact h
            | ret => exact h
    · rw [evCall] at h ⊢
      split at h
      · exact h
      · split at h
        · cases h
        · rename_i cf hT
          split at h
          · rename_i hl
            rw [if_pos hl]
            cases ho : ev T X n cf.body (env0 a) s with
            | none => rw [ho] at h; cases h
            | some q => rw [ho] at h; rw [h1 _ _ _ _ ho]; exact h
          · cases h

theorem ev_mono {T : Nat → Option CF} {X : Ext} {n m : Nat} (h : n ≤ m) {c : CC} {e : Env} {s : St} {r : CX × Env × St} (hr : ev T X n c e s = some r) : ev T X m c e s = some r := by
  induction h with
  | refl => exact hr
  | step _ ih => exact (mono1 T X _).1 _ _ _ _ ih

theorem call_mono {T : Nat → Option CF} {X : Ext} {n m : Nat} (h : n ≤ m) : CLe (evCall T X n) (evCall T X m) := by
  intro f a s r hr
  induction h with
  | refl => exact hr
  | step _ ih => exact (mono1 T X _).2 _ _ _ _ ih

/-! ### Weakest runs -/
section
variable {T : Nat → Option CF} {X : Ext}

def W (T : Nat → Option CF) (X : Ext) (c : CC) (e : Env) (s : St) (Q : CX → Env → St → Prop) : Prop := ∃ n x e' s', ev T X n c e s = some (x, e', s') ∧ Q x e' s'
def WC (T : Nat → Option CF) (X : Ext) (f : Nat) (args : List AV) (s : St) (Q : AV → St → Prop) : Prop := ∃ n v s', evCall T X n f args s = some (v, s') ∧ Q v s'
/-- The operations one after the other, with the states on the way. -/
def WT (T : Nat → Option CF) (X : Ext) (ops : List CO) (e : Env) (s : St) (Q : List (Env × St) → Env → St → Prop) : Prop :=
  ∃ n e' s', evRest (evCall T X n) ops e s = some (e', s') ∧ Q (evTr (evCall T X n) ops e s) e' s'
def WO (T : Nat → Option CF) (X : Ext) (ops : List CO) (e : Env) (s : St) (Q : Env → St → Prop) : Prop :=
  ∃ n e' s', evOps (evCall T X n) ops e s = some (e', s') ∧ Q e' s'

theorem W.mono {c : CC} {e : Env} {s : St} {Q R : CX → Env → St → Prop} (h : W T X c e s Q) (hq : ∀ x e' s', Q x e' s' → R x e' s') : W T X c e s R :=
  let ⟨n, x, e', s', h1, h2⟩ := h
  ⟨n, x, e', s', h1, hq _ _ _ h2⟩
theorem WC.mono {f : Nat} {args : List AV} {s : St} {Q R : AV → St → Prop} (h : WC T X f args s Q) (hq : ∀ v s', Q v s' → R v s') : WC T X f args s R :=
  let ⟨n, v, s', h1, h2⟩ := h
  ⟨n, v, s', h1, hq _ _ h2⟩

theorem W_skip {e : Env} {s : St} {Q : CX → Env → St → Prop} (h : Q .normal e s) : W T X .skip e s Q := ⟨1, _, _, _, rfl, h⟩
theorem W_ret {e : Env} {s : St} {Q : CX → Env → St → Prop} (h : Q .ret e s) : W T X .ret e s Q := ⟨1, _, _, _, rfl, h⟩
theorem W_exit {i : Nat} {e : Env} {s : St} {Q : CX → Env → St → Prop} (h : Q (.exit i) e s) : W T X (.exit i) e s Q := ⟨1, _, _, _, rfl, h⟩

/-- What comes after. -/
def Then (T : Nat → Option CF) (X : Ext) (b : CC) (Q : CX → Env → St → Prop) (x : CX) (e : Env) (s : St) : Prop :=
  match x with
  | .normal => W T X b e s Q
  | y => Q y e s

theorem W_seq {a b : CC} {e : Env} {s : St} {Q : CX → Env → St → Prop} (h : W T X a e s (Then T X b Q)) : W T X (.seq a b) e s Q := by
  obtain ⟨n, x, e', s', h1, h2⟩ := h
  cases x with
  | normal =>
    obtain ⟨m, y, e2, s2, h3, h4⟩ := h2
    refine ⟨max n m + 1, y, e2, s2, ?_, h4⟩
    rw [ev, ev_mono (Nat.le_max_left n m) h1]
    exact ev_mono (Nat.le_max_right n m) h3
  | exit j => exact ⟨n + 1, _, _, _, by rw [ev, h1], h2⟩
  | ret => exact ⟨n + 1, _, _, _, by rw [ev, h1], h2⟩

theorem W_loop {b : CC} {e : Env} {s : St} {Q : CX → Env → St → Prop} (h : W T X b e s (Then T X (.loop b) Q)) : W T X (.loop b) e s Q := by
  obtain ⟨n, x, e', s', h1, h2⟩ := h
  cases x with
  | normal =>
    obtain ⟨m, y, e2, s2, h3, h4⟩ := h2
    refine ⟨max n m + 1, y, e2, s2, ?_, h4⟩
    rw [ev, ev_mono (Nat.le_max_left n m) h1]
    exact ev_mono (Nat.le_max_right n m) h3
  | exit j => exact ⟨n + 1, _, _, _, by rw [ev, h1], h2⟩
  | ret => exact ⟨n + 1, _, _, _, by rw [ev, h1], h2⟩

def Catch (id : Nat) (Q : CX → Env → St → Prop) (x : CX) (e : Env) (s : St) : Prop :=
  match x with
  | .exit j => if j = id then Q .normal e s else Q (.exit j) e s
  | y => Q y e s

theorem W_block {id : Nat} {b : CC} {e : Env} {s : St} {Q : CX → Env → St → Prop} (h : W T X b e s (Catch id Q)) : W T X (.block id b) e s Q := by
  obtain ⟨n, x, e', s', h1, h2⟩ := h
  cases x with
  | exit j =>
    simp only [Catch] at h2
    by_cases hj : j = id
    · rw [if_pos hj] at h2; exact ⟨n + 1, _, _, _, by rw [ev, h1]; simp only [if_pos hj], h2⟩
    · rw [if_neg hj] at h2; exact ⟨n + 1, _, _, _, by rw [ev, h1]; simp only [if_neg hj], h2⟩
  | normal => exact ⟨n + 1, _, _, _, by rw [ev, h1], h2⟩
  | ret => exact ⟨n + 1, _, _, _, by rw [ev, h1], h2⟩

theorem W_cond {c : Opd} {a b : CC} {e : Env} {s : St} {Q : CX → Env → St → Prop} (t : Bool) (hc : c.ev e = .bool t) (h1 : t = true → W T X a e s Q) (h2 : t = false → W T X b e s Q) : W T X (.cond c a b) e s Q := by
  cases t with
  | true => obtain ⟨n, x, e', s', h3, h4⟩ := h1 rfl; exact ⟨n + 1, x, e', s', by rw [ev, hc]; exact h3, h4⟩
  | false => obtain ⟨n, x, e', s', h3, h4⟩ := h2 rfl; exact ⟨n + 1, x, e', s', by rw [ev, hc]; exact h3, h4⟩

theorem W_reg {ops : List CO} {e : Env} {s : St} {Q : CX → Env → St → Prop} (h : WO T X ops e s (Q .normal)) : W T X (.reg ops) e s Q := by
  obtain ⟨n, e', s', h1, h2⟩ := h
  exact ⟨n + 1, _, _, _, by simp only [ev, h1], h2⟩

theorem W_dreg {ops : List CO} {chk : List (Nat × Nat)} {e : Env} {s : St} {Q : CX → Env → St → Prop}
    (h : WT T X ops (evAllocs ops e s).1 (evAllocs ops e s).2 (fun tr e' s' => chk.all (chk1 noCall ops tr) = true ∧ Q .normal e' s')) : W T X (.dreg ops chk) e s Q := by
  obtain ⟨n, e', s', h1, h2, h3⟩ := h
  refine ⟨n + 1, _, _, _, ?_, h3⟩
  simp only [ev, h1]
  rw [if_pos]
  rw [List.all_eq_true] at h2 ⊢
  exact fun p hp => chk1_mono (noCall_le _) (fun k x hk => hk) (h2 p hp)

theorem WO_nil {e : Env} {s : St} {Q : Env → St → Prop} (h : Q e s) : WO T X [] e s Q := ⟨0, _, _, rfl, h⟩

/-- An operation that calls nothing. -/
theorem WO_op {o : CO} {r : List CO} {e : Env} {s : St} {Q : Env → St → Prop} {v : AV} {s1 : St} (hg : wantedA e o.guard = true) (ho : evOp noCall o.op e s = some (v, s1)) (h : WO T X r (e.put o.dst v) s1 Q) : WO T X (o :: r) e s Q := by
  obtain ⟨n, e', s', h1, h2⟩ := h
  refine ⟨n, e', s', ?_, h2⟩
  simp only [evOps]
  rw [if_pos hg, evOp_mono (noCall_le _) ho]
  exact h1

theorem WO_call {d : Option Nat} {g : Option (Option Nat × Bool)} {f : Nat} {args : List Opd} {r : List CO} {e : Env} {s : St} {Q : Env → St → Prop} (hg : wantedA e g = true)
    (h : WC T X f (args.map (Opd.ev e)) s (fun v s1 => WO T X r (e.put d v) s1 Q)) : WO T X (⟨d, g, .call f args⟩ :: r) e s Q := by
  obtain ⟨n, v, s1, h1, m, e', s', h2, h3⟩ := h
  refine ⟨max n m, e', s', ?_, h3⟩
  simp only [evOps]
  rw [if_pos hg]
  simp only [evOp]
  rw [call_mono (Nat.le_max_left n m) _ _ _ _ h1]
  exact evOps_mono (call_mono (Nat.le_max_right n m)) _ _ _ _ h2

theorem WO_callv {d : Option Nat} {g : Option (Option Nat × Bool)} {x : Opd} {args : List Opd} {r : List CO} {e : Env} {s : St} {Q : Env → St → Prop} {f : Nat} {cap : List AV} (hg : wantedA e g = true) (hx : x.ev e = .func f cap)
    (h : WC T X f (args.map (Opd.ev e) ++ cap) s (fun v s1 => WO T X r (e.put d v) s1 Q)) : WO T X (⟨d, g, .callv x args⟩ :: r) e s Q := by
  obtain ⟨n, v, s1, h1, m, e', s', h2, h3⟩ := h
  refine ⟨max n m, e', s', ?_, h3⟩
  simp only [evOps]
  rw [if_pos hg]
  simp only [evOp, hx]
  rw [call_mono (Nat.le_max_left n m) _ _ _ _ h1]
  exact evOps_mono (call_mono (Nat.le_max_right n m)) _ _ _ _ h2

theorem WT_nil {e : Env} {s : St} {Q : List (Env × St) → Env → St → Prop} (h : Q [(e, s)] e s) : WT T X [] e s Q := ⟨0, _, _, rfl, h⟩

theorem WT_alloc {d : Option Nat} {g : Option (Option Nat × Bool)} {zs : List AV} {r : List CO} {e : Env} {s : St} {Q : List (Env × St) → Env → St → Prop} (h : WT T X r e s (fun tr => Q ((e, s) :: tr))) : WT T X (⟨d, g, .alloc zs⟩ :: r) e s Q := by
  obtain ⟨n, e', s', h1, h2⟩ := h
  exact ⟨n, e', s', by simpa [evRest, isAlloc] using h1, by simpa [evTr, isAlloc] using h2⟩

theorem WT_op {o : CO} {r : List CO} {e : Env} {s : St} {Q : List (Env × St) → Env → St → Prop} {v : AV} {s1 : St} (ha : isAlloc o.op = false) (hg : wantedA e o.guard = true) (ho : evOp noCall o.op e s = some (v, s1))
    (h : WT T X r (e.put o.dst v) s1 (fun tr => Q ((e, s) :: tr))) : WT T X (o :: r) e s Q := by
  obtain ⟨n, e', s', h1, h2⟩ := h
  refine ⟨n, e', s', ?_, ?_⟩
  · simp only [evRest, ha]
    rw [if_neg (by simp), if_pos hg, evOp_mono (noCall_le _) ho]
    exact h1
  · simp only [evTr, ha]
    rw [if_neg (by simp), if_pos hg, evOp_mono (noCall_le _) ho]
    exact h2

theorem evTr_same {c1 c2 : CallF} (h : CLe c1 c2) : ∀ (ops : List CO) (e : Env) (s : St) (r : Env × St), evRest c1 ops e s = some r → evTr c2 ops e s = evTr c1 ops e s
  | [], _, _, _, _ => rfl
  | o :: ops, e, s, r, hr => by
    simp only [evRest] at hr
    simp only [evTr]
    congr 1
    split at hr
    · rename_i ha; rw [if_pos ha, if_pos ha]; exact evTr_same h _ _ _ _ hr
    · rename_i ha; rw [if_neg ha, if_neg ha]
      split at hr
      · rename_i hg; rw [if_pos hg, if_pos hg]
        split at hr
        · rename_i v s' hv
          rw [evOp_mono h hv]
          exact evTr_same h _ _ _ _ hr
        · cases hr
      · rename_i hg; rw [if_neg hg, if_neg hg]; exact evTr_same h _ _ _ _ hr

theorem WT_call {d : Option Nat} {g : Option (Option Nat × Bool)} {f : Nat} {args : List Opd} {r : List CO} {e : Env} {s : St} {Q : List (Env × St) → Env → St → Prop} (hg : wantedA e g = true)
    (h : WC T X f (args.map (Opd.ev e)) s (fun v s1 => WT T X r (e.put d v) s1 (fun tr => Q ((e, s) :: tr)))) : WT T X (⟨d, g, .call f args⟩ :: r) e s Q := by
  obtain ⟨n, v, s1, h1, m, e', s', h2, h3⟩ := h
  have k1 := call_mono (Nat.le_max_left n m) _ _ _ _ h1
  refine ⟨max n m, e', s', ?_, ?_⟩
  · simp only [evRest, isAlloc]
    rw [if_neg (by simp), if_pos hg]
    simp only [evOp]
    rw [k1]
    exact evRest_mono (call_mono (Nat.le_max_right n m)) _ _ _ _ h2
  · simp only [evTr, isAlloc]
    rw [if_neg (by simp), if_pos hg]
    simp only [evOp]
    rw [k1]
    simp only
    rw [evTr_same (call_mono (Nat.le_max_right n m)) _ _ _ _ h2]
    exact h3

theorem WC_fn {f : Nat} {args : List AV} {s : St} {Q : AV → St → Prop} (cf : CF) (hX : X f = none) (hT : T f = some cf) (hl : args.length ≤ cf.ntmps)
    (h : W T X cf.body (env0 args) s (fun x e' s' => (∀ j, x ≠ .exit j) ∧ ∃ v, retA e' s' cf.results = some v ∧ Q v s')) : WC T X f args s Q := by
  obtain ⟨n, x, e', s', h1, hx, v, h2, h3⟩ := h
  refine ⟨n + 1, v, s', ?_, h3⟩
  rw [evCall, hX]
  simp only [hT]
  rw [if_pos hl, h1]
  cases x with
  | normal => simp only [h2]
  | ret => simp only [h2]
  | exit j => exact absurd rfl (hx j)

theorem WC_ext {f : Nat} {args : List AV} {s : St} {Q : AV → St → Prop} {h : List AV → St → Option (AV × St)} (hX : X f = some h) {v : AV} {s' : St} (hh : h args s = some (v, s')) (hq : Q v s') : WC T X f args s Q :=
  ⟨1, v, s', by rw [evCall, hX]; exact hh, hq⟩

end
end Go.Am
