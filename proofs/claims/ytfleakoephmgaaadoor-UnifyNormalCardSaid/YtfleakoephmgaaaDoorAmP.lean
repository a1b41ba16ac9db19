/- A law's arguments, as the abstract machine has them. Conditions: none. -/
import Derived.Test.YtfleakoephmgaaaDoorAmL
import Derived.SizedLaws
import Derived.WideShapes
import Derived.Below
import Derived.SliceStrings
import Derived.OpenShut
set_option linter.unusedSimpArgs false
set_option linter.unusedVariables false
namespace Go.Am
open Go.RowKit

/-! ### Values of a type -/
mutual
inductive TyR (R : Nat) (P : Program) : TypeId → List AV → Prop
  | bool (t : TypeId) (b : Bool) (h : P.underlying t = some .bool) : TyR R P t [.bool b]
  | int (t : TypeId) (k : IntKind) (n : Int) (h : P.underlying t = some (.int k)) (hw : (Lit.int k n).wf = true) : TyR R P t [.int k n]
  | str (t : TypeId) (s : ByteArray) (h : P.underlying t = some .string) (hs : s.size ≤ R) : TyR R P t [.str s]
  | slice (t e : TypeId) (len : Nat) (cs : List AV) (h : P.underlying t = some (.slice e)) (hc : TyNR R P e len cs) (hb : len * P.bytesOf e ≤ R) : TyR R P t [.sl cs len false none]
  | struct (t : TypeId) (fs : Array Field) (cs : List AV) (h : P.underlying t = some (.struct fs)) (hc : TyFR R P fs.toList cs) : TyR R P t cs
inductive TyNR (R : Nat) (P : Program) : TypeId → Nat → List AV → Prop
  | zero (e : TypeId) : TyNR R P e 0 []
  | succ (e : TypeId) (n : Nat) (cs ds : List AV) (h : TyR R P e cs) (hl : cs.length = P.cellsOf e) (hs : TyNR R P e n ds) : TyNR R P e (n + 1) (cs ++ ds)
inductive TyFR (R : Nat) (P : Program) : List Field → List AV → Prop
  | nil : TyFR R P [] []
  | cons (f : Field) (r : List Field) (cs ds : List AV) (h : TyR R P f.type cs) (hl : cs.length = P.cellsOf f.type) (hs : TyFR R P r ds) : TyFR R P (f :: r) (cs ++ ds)
end

/-- An argument of a type. -/
def TyAR (R : Nat) (P : Program) (t : TypeId) (a : AV) : Prop :=
  match P.underlying t with
  | some (.struct _) => ∃ cs, a = .agg cs ∧ TyR R P t cs
  | some (.slice e) => a = .nils ∨ a = .sl [] 0 false (some 0) ∨ ∃ len cs, 0 < len ∧ a = .sl cs len false none ∧ TyNR R P e len cs ∧ len * P.bytesOf e ≤ R
  | _ => TyR R P t [a]

inductive TyAsR (R : Nat) (P : Program) : List TypeId → List AV → Prop
  | nil : TyAsR R P [] []
  | cons (t : TypeId) (a : AV) (ts : List TypeId) (as : List AV) (h : TyAR R P t a) (hs : TyAsR R P ts as) : TyAsR R P (t :: ts) (a :: as)

abbrev Ty := TyR reachBytes
abbrev TyN := TyNR reachBytes
abbrev TyF := TyFR reachBytes
abbrev TyA := TyAR reachBytes
abbrev TyAs := TyAsR reachBytes

/-- The fields lie one behind the other. -/
def contig (P : Program) : List Field → Nat → Option Nat
  | [], k => some k
  | f :: r, k => if f.offset = k then contig P r (k + P.cellsOf f.type) else none

/-- These types lead to no others than these, and to whole numbers, bools, strings, slices and structs alone. -/
def closedB (P : Program) (ts : List TypeId) : Bool :=
  ts.all fun t => match P.underlying t with
    | some .bool => true
    | some (.int _) => true
    | some .string => true
    | some (.slice e) => ts.contains e && 0 < P.cellsOf e
    | some (.struct fs) => contig P fs.toList 0 == some (P.cellsOf t) && fs.toList.all fun f => ts.contains f.type
    | _ => false

def rho0 (W : World) : Rho := { lab := fun b => if b < W.heap.size then .ro else .free, blk := fun _ => 0, tot := fun _ => 0, rt := fun _ => (0, 0, 0, 0), pend := fun _ => false }
def st0 : St := ⟨0, fun _ => none⟩

theorem sim0 (W : World) : Sim (rho0 W) st0 W :=
  ⟨fun b h => by simp only [rho0]; rw [if_neg (by omega)], fun i h => by simp [rho0] at h, fun i cs h => by simp [st0] at h, fun t h => by simp [st0] at h, fun i cs h => by simp [st0] at h, fun i es h => by simp [st0] at h⟩

theorem below_of {W W' : World} {ρ' : Rho} {s' : St} (h : Fr (rho0 W) st0 W ρ' s' W') : Below W.heap.size W W' :=
  ⟨h.os, h.tape, h.output, h.size, fun k hk => (h.keep k hk (Or.inr (by simp [rho0, hk]))).2⟩

theorem at0 {W : World} {b o : Nat} {vs : List Value} (h : ∀ j v, vs[j]? = some v → W.cell? ⟨b, o + j, none⟩ = some v) : At (rho0 W) W b o vs := by
  intro j v hj
  refine ⟨?_, h j v hj⟩
  have hlt : b < W.heap.size := World.block_lt_of_cell? W ⟨b, o + j, none⟩ (h j v hj)
  simp [Imm, ImmL, rho0, hlt]

section
variable {R : Nat} {H : Type} {enc : TypeId × Value → H} {P : Program} {W : World}

theorem mapM_some {α β : Type} {f : α → Option β} : ∀ {l : List α} {r : List β}, l.mapM f = some r → r.length = l.length ∧ ∀ (i : Nat) (x : α), l[i]? = some x → ∃ y, r[i]? = some y ∧ f x = some y
  | [], r, h => by simp at h; subst h; simp
  | a :: l, r, h => by
    simp only [List.mapM_cons, Option.bind_eq_bind, Option.bind_eq_some_iff, Option.pure_def, Option.some.injEq] at h
    obtain ⟨y, hy, ys, hys, rfl⟩ := h
    obtain ⟨h1, h2⟩ := mapM_some hys
    refine ⟨by simp [h1], ?_⟩
    intro i x hi
    cases i with
    | zero => simp at hi; subst hi; exact ⟨y, rfl, hy⟩
    | succ i => exact h2 i x (by simpa using hi)

theorem cells_some {a : Addr} {n : Nat} {cs : List Value} (h : W.cells? 0 a n = some cs) : cs.length = n ∧ ∀ j, j < n → W.cell? (a.add j) = cs[j]? := by
  unfold World.cells? at h
  rw [if_pos (Nat.zero_le _)] at h
  obtain ⟨h1, h2⟩ := mapM_some h
  refine ⟨by simpa using h1, fun j hj => ?_⟩
  obtain ⟨y, hy, hf⟩ := h2 j j (by simp [hj])
  rw [hf, hy]

theorem closed_at {ts : List TypeId} (hc : closedB P ts = true) {t : TypeId} (ht : t ∈ ts) :
    P.underlying t = some .bool ∨ (∃ k, P.underlying t = some (.int k)) ∨ P.underlying t = some .string ∨ (∃ e, P.underlying t = some (.slice e) ∧ e ∈ ts ∧ 0 < P.cellsOf e) ∨
      ∃ fs, P.underlying t = some (.struct fs) ∧ contig P fs.toList 0 = some (P.cellsOf t) ∧ ∀ f, f ∈ fs.toList → f.type ∈ ts := by
  have := List.all_eq_true.1 hc t ht
  split at this
  · exact Or.inl ‹_›
  · exact Or.inr (Or.inl ⟨_, ‹_›⟩)
  · exact Or.inr (Or.inr (Or.inl ‹_›))
  · rename_i e he
    simp only [Bool.and_eq_true, decide_eq_true_eq] at this
    exact Or.inr (Or.inr (Or.inr (Or.inl ⟨e, he, by simpa using this.1, this.2⟩)))
  · rename_i fs hf
    simp only [Bool.and_eq_true, beq_iff_eq, List.all_eq_true] at this
    exact Or.inr (Or.inr (Or.inr (Or.inr ⟨fs, hf, this.1, fun f hf => by simpa using this.2 f hf⟩)))
  · cases this

theorem weights_all {e : TypeId} : ∀ {l : List (DataW H)}, (DataW.weightsAll P e l).all (· ≤ R) = true → ∀ d, d ∈ l → (d.weights P e).all (· ≤ R) = true
  | [], _, d, hd => by simp at hd
  | x :: l, h, d, hd => by
    simp only [DataW.weightsAll, List.all_append, Bool.and_eq_true] at h
    rcases List.mem_cons.1 hd with rfl | hd
    · exact h.1
    · exact weights_all h.2 d hd

/-- So many elements, one behind the other. -/
theorem read_row {e : TypeId} {sz b o : Nat} (hsz : sz = P.cellsOf e) : ∀ (n k : Nat) (parts : Nat → List Value), (∀ i, i < n → (parts i).length = sz ∧ (∀ j v, (parts i)[j]? = some v → W.cell? ⟨b, o + (k + i) * sz + j, none⟩ = some v) ∧ ∃ as, TyR R P e as ∧ Vs (rho0 W) W 0 as (parts i)) →
    ∃ cs vs, TyNR R P e n cs ∧ Vs (rho0 W) W 0 cs vs ∧ vs.length = n * sz ∧ ∀ j v, vs[j]? = some v → W.cell? ⟨b, o + k * sz + j, none⟩ = some v
  | 0, k, parts, _ => ⟨[], [], .zero e, .nil, by simp, by simp⟩
  | n + 1, k, parts, h => by
    obtain ⟨h1, h2, as, h3, h4⟩ := h 0 (by omega)
    obtain ⟨cs, vs, h5, h6, h7, h8⟩ := read_row hsz n (k + 1) (fun i => parts (i + 1)) (fun i hi => by
      have := h (i + 1) (by omega)
      rwa [show k + (i + 1) = k + 1 + i by omega] at this)
    have hla := h4.length
    refine ⟨as ++ cs, parts 0 ++ vs, .succ e n as cs h3 (by omega) h5, h4.append h6, by rw [List.length_append, h1, h7, Nat.add_mul]; omega, ?_⟩
    intro j v hj
    by_cases hlt : j < (parts 0).length
    · rw [List.getElem?_append_left hlt] at hj
      exact h2 j v hj
    · rw [List.getElem?_append_right (by omega)] at hj
      have := h8 (j - (parts 0).length) v hj
      rw [h1] at this
      rw [show o + k * sz + j = o + (k + 1) * sz + (j - sz) by rw [Nat.add_mul]; omega]
      exact this

theorem contig_le : ∀ (fs : List Field) (k tot : Nat), contig P fs k = some tot → k ≤ tot
  | [], k, tot, h => by cases h; exact Nat.le_refl _
  | f :: fs, k, tot, h => by
    simp only [contig] at h
    split at h
    · have := contig_le fs _ _ h; omega
    · cases h

theorem read_fields {ts : List TypeId} {fuel : Nat} (ih : ∀ (t : TypeId) (cs : List Value) (d : DataW H) (ps : List MemPlace), t ∈ ts → DataW.trod enc P W 0 (fun _ => true) true fuel t cs = some (d, ps) → (d.weights P t).all (· ≤ R) = true → cs.length = P.cellsOf t ∨ True → ∃ as, TyR R P t as ∧ Vs (rho0 W) W 0 as cs) :
    ∀ (fs : List Field) (off tot : Nat) (cs : List Value) (xs : List (DataW H × List MemPlace)), contig P fs off = some tot → cs.length = tot → (∀ f, f ∈ fs → f.type ∈ ts) →
      fs.mapM (fun f => DataW.trod enc P W 0 (fun _ => true) true fuel f.type ((cs.drop f.offset).take (P.cellsOf f.type))) = some xs → (DataW.weightsEach P (fs.map (·.type)) (xs.map (·.1))).all (· ≤ R) = true →
      ∃ as, TyFR R P fs as ∧ Vs (rho0 W) W 0 as (cs.drop off)
  | [], off, tot, cs, xs, hc, hl, _, _, _ => by
    cases hc
    exact ⟨[], .nil, by rw [List.drop_eq_nil_of_le (by omega)]; exact .nil⟩
  | f :: fs, off, tot, cs, xs, hc, hl, hts, hm, hw => by
    simp only [contig] at hc
    split at hc
    · rename_i ho
      simp only [List.mapM_cons, Option.bind_eq_bind, Option.bind_eq_some_iff, Option.pure_def, Option.some.injEq] at hm
      obtain ⟨x, hx, ys, hys, rfl⟩ := hm
      simp only [List.map_cons, DataW.weightsEach, List.all_append, Bool.and_eq_true] at hw
      obtain ⟨as, hT, hV⟩ := ih f.type _ x.1 x.2 (hts f (by simp)) hx hw.1 (Or.inr trivial)
      obtain ⟨bs, hT2, hV2⟩ := read_fields ih fs (off + P.cellsOf f.type) tot cs ys hc hl (fun g hg => hts g (by simp [hg])) hys hw.2
      have hle := contig_le fs _ _ hc
      have hla := hV.length
      rw [ho] at hla hV
      have hlen : ((cs.drop off).take (P.cellsOf f.type)).length = P.cellsOf f.type := by simp; omega
      refine ⟨as ++ bs, .cons f fs as bs hT (by omega) hT2, ?_⟩
      have hsplit : cs.drop off = (cs.drop off).take (P.cellsOf f.type) ++ cs.drop (off + P.cellsOf f.type) := by
        rw [← List.drop_drop, List.take_append_drop]
      rw [hsplit]
      exact hV.append hV2
    · cases hc

end
end Go.Am

/- A law's arguments read as the abstract machine's, and the law's frame. Conditions: none. -/
namespace Go.Am
open Go.RowKit

section
variable {R : Nat} {H : Type} {enc : TypeId × Value → H} {P : Program} {W : World}

theorem mapM_of_index {α β : Type} {g : α → Option β} : ∀ {l : List α} {r : List β}, r.length = l.length → (∀ (i : Nat) x, l[i]? = some x → g x = r[i]?) → l.mapM g = some r
  | [], [], _, _ => rfl
  | a :: l, b :: r, hl, h => by
    have h0 := h 0 a rfl
    have h1 := mapM_of_index (g := g) (l := l) (r := r) (by simpa using hl) (fun i x hx => h (i + 1) x hx)
    simp only [List.mapM_cons, h0, h1]
    rfl
  | [], _ :: _, hl, _ => by simp at hl
  | _ :: _, [], hl, _ => by simp at hl

theorem spot_none {a : Addr} {v : Value} (h : W.cell? a = some v) : a.spot = none := by
  unfold World.cell? at h
  split at h
  · split at h
    · cases h
    · rename_i hn; cases hs : a.spot with
      | none => rfl
      | some _ => simp [hs] at hn
  · cases h

theorem TyR.len {t : TypeId} {cs : List AV} (h : TyR R P t cs) : (∃ fs, P.underlying t = some (.struct fs)) ∨ cs.length = 1 := by
  cases h <;> first | exact Or.inr rfl | exact Or.inl ⟨_, ‹_›⟩

theorem read_ty {ts : List TypeId} (hc : closedB P ts = true) : ∀ (fuel : Nat) (t : TypeId) (cs : List Value) (d : DataW H) (ps : List MemPlace), t ∈ ts →
    DataW.trod enc P W 0 (fun _ => true) true fuel t cs = some (d, ps) → (d.weights P t).all (· ≤ R) = true → ∃ as, TyR R P t as ∧ Vs (rho0 W) W 0 as cs
  | 0, t, cs, d, ps, _, h, _ => by simp [DataW.trod] at h
  | fuel + 1, t, cs, d, ps, ht, h, hw => by
    rcases closed_at hc ht with hu | ⟨k, hu⟩ | hu | ⟨e, hu, he, hpos⟩ | ⟨fs, hu, hcg, hfs⟩
    · obtain ⟨b, rfl, _⟩ := DataW.trod_bool hu h
      exact ⟨_, .bool t b hu, .cons _ _ _ _ (.bool b) .nil⟩
    · obtain ⟨n, rfl, _, hwf⟩ := DataW.trod_int hu h
      exact ⟨_, .int t k n hu hwf, .cons _ _ _ _ (.int k n) .nil⟩
    · obtain ⟨s, rfl, hd, hs⟩ := DataW.trod_string hu h
      cases hd
      have hb : s.size ≤ R := by
        simp only [DataW.weights, List.all_cons, List.all_nil, Bool.and_true, decide_eq_true_eq] at hw
        rw [Array.length_toList] at hw
        exact hw
      exact ⟨_, .str t s hu hb, .cons _ _ _ _ (.str s) .nil⟩
    · rcases DataW.trod_slice hu h with ⟨rfl, hd⟩ | ⟨a, len, cap, elems, rest, n, hf, rfl, hd, _, hl, hm, hlen, hel, hsp, _⟩
      · exact ⟨_, .slice t e 0 [] hu (.zero e) (by omega), .cons _ _ _ _ (.sl0 none 0 false none (fun h => by cases h) (fun _ => rfl) (fun h => by cases h)) .nil⟩
      · obtain rfl : fuel = n := by omega
        cases hd
        simp only [DataW.weights, hu, List.all_cons, List.all_append, Bool.and_eq_true, decide_eq_true_eq, List.length_map] at hw
        obtain ⟨hw1, hw2, _⟩ := hw
        have hb : len * P.bytesOf e ≤ R := Nat.le_trans (Nat.mul_le_mul_right _ (by omega)) hw1
        by_cases h0 : len = 0
        · subst h0
          exact ⟨_, .slice t e 0 [] hu (.zero e) (by omega), .cons _ _ _ _ (.sl0 (some a) cap false none (fun h => by cases h) (fun h => by cases h) (fun h => by cases h)) .nil⟩
        · have hrow : ∀ i, i < len → ∃ row x, W.cells? 0 (a.add (i * P.cellsOf e)) (P.cellsOf e) = some row ∧ DataW.trod enc P W 0 (fun _ => true) true fuel e row = some x ∧ x.1 ∈ elems.map (·.1) := by
            intro i hi
            have h1 := hel i hi
            have h2 : elems[i]? = some (elems[i]'(by omega)) := List.getElem?_eq_getElem _
            rw [h2, Option.bind_eq_some_iff] at h1
            obtain ⟨row, hr, hx⟩ := h1
            exact ⟨row, _, hr, hx, List.mem_map.2 ⟨_, List.getElem_mem _, rfl⟩⟩
          have hspot : a.spot = none := by
            obtain ⟨row, x, hr, _⟩ := hrow 0 (by omega)
            obtain ⟨hrl, hrc⟩ := cells_some hr
            have := hrc 0 hpos
            rw [List.getElem?_eq_getElem (by omega), Nat.zero_mul] at this
            exact spot_none this
          obtain ⟨b, o, sp⟩ := a
          simp only at hspot
          subst hspot
          have hadd : ∀ k, Addr.add ⟨b, o, none⟩ k = ⟨b, o + k, none⟩ := by intro k; unfold Addr.add; split <;> simp_all
          have hadd2 : ∀ o k, Addr.add ⟨b, o, none⟩ k = ⟨b, o + k, none⟩ := by intro o k; unfold Addr.add; split <;> simp_all
          obtain ⟨as, vs, hT, hV, hvl, hcell⟩ := read_row (P := P) (W := W) (e := e) (b := b) (o := o) rfl len 0
            (fun i => ((W.cells? 0 (Addr.add ⟨b, o, none⟩ (i * P.cellsOf e)) (P.cellsOf e)).getD [])) (fun i hi => by
              obtain ⟨row, x, hr, hx, hmem⟩ := hrow i hi
              obtain ⟨hrl, hrc⟩ := cells_some hr
              obtain ⟨as, h1, h2⟩ := read_ty hc fuel e row x.1 x.2 he hx (weights_all hw2 _ hmem)
              simp only [hr, Option.getD_some]
              refine ⟨hrl, fun j v hj => ?_, as, h1, h2⟩
              have hjl : j < P.cellsOf e := by have := (List.getElem?_eq_some_iff.1 hj).1; omega
              have := hrc j hjl
              rw [hadd, hadd2, hj] at this
              rw [Nat.zero_add]; exact this)
          refine ⟨_, .slice t e len as hu hT hb, .cons _ _ _ _ (.sl as vs b o len cap false none hV (at0 (fun j v hj => ?_)) (fun h => by cases h) hl (fun t ht => by cases ht)) .nil⟩
          have := hcell j v hj
          rwa [Nat.zero_mul, Nat.add_zero] at this
    · obtain ⟨xs, n, hf, hd, hcl, hxl, hx⟩ := DataW.trod_struct hu h
      obtain rfl : fuel = n := by omega
      cases hd
      simp only [DataW.weights, hu] at hw
      obtain ⟨as, h1, h2⟩ := read_fields (P := P) (W := W) (enc := enc) (ts := ts) (fuel := fuel) (fun t cs d ps ht h hw _ => read_ty hc fuel t cs d ps ht h hw) fs.toList 0 _ cs xs hcg hcl hfs
        (mapM_of_index (by simpa using hxl) (fun i f hi => hx i f (by simpa using hi))) hw
      exact ⟨as, .struct t fs as hu h1, by simpa using h2⟩

/-- An empty slice is nil or not. -/
theorem V.nil_or {ρ : Rho} {w : World} {n : Nat} {v : Value} (h : V ρ w n (.sl [] 0 false none) v) : V ρ w n .nils v ∨ V ρ w n (.sl [] 0 false (some 0)) v := by
  cases h with
  | sl _ vs b o _ cap _ _ hvs ha hf hl ht => exact Or.inr (.sl0 (some ⟨b, o, none⟩) cap false (some 0) (fun h => by cases h) (fun h => by cases h) (fun _ h => by cases h))
  | sl0 a cap _ _ hf ha ht =>
    cases a with
    | none => rw [ha rfl]; exact Or.inl .nils
    | some a => exact Or.inr (.sl0 (some a) cap false (some 0) (fun h => by cases h) (fun h => by cases h) (fun _ h => by cases h))

/-- An argument. -/
theorem read_arg {ts : List TypeId} (hc : closedB P ts = true) {t : TypeId} {v : Value} {d : DataW H} {ps : List MemPlace} {base : Nat} {r : Reach} (ht : t ∈ ts) (hok : Value.okWide P W r base t v)
    (h : DataW.Trod enc P W 0 (fun _ => true) true t v d ps) (hw : (d.weights P t).all (· ≤ R) = true) : ∃ a, TyAR R P t a ∧ V (rho0 W) W 0 a v := by
  obtain ⟨fuel, hf⟩ := h
  obtain ⟨as, h1, h2⟩ := read_ty hc fuel t _ d ps ht hf hw
  unfold Value.okWide at hok
  have hone : (∀ fs, P.underlying t ≠ some (.struct fs)) → ∃ a, TyAR R P t a ∧ V (rho0 W) W 0 a v := by
    intro hns
    have hl : as.length = 1 := by
      rcases h1.len with ⟨fs, hfs⟩ | hl
      · exact absurd hfs (hns fs)
      · exact hl
    obtain ⟨a, rfl⟩ := List.length_eq_one_iff.1 hl
    have hA : ∀ v, V (rho0 W) W 0 a v → ∃ a, TyAR R P t a ∧ V (rho0 W) W 0 a v := by
      intro v hv
      cases hu : P.underlying t with
      | none => exact ⟨a, by unfold TyAR; rw [hu]; exact h1, hv⟩
      | some d =>
        cases d
        case struct fs => exact absurd hu (hns fs)
        case slice e =>
          cases h1 with
          | slice t' e' len cs hu' hc' hb' =>
            obtain rfl : e = e' := by rw [hu] at hu'; cases hu'; rfl
            by_cases h0 : len = 0
            · subst h0
              cases hc'
              rcases hv.nil_or with hv | hv
              · exact ⟨_, by unfold TyAR; rw [hu]; exact Or.inl rfl, hv⟩
              · exact ⟨_, by unfold TyAR; rw [hu]; exact Or.inr (Or.inl rfl), hv⟩
            · exact ⟨_, by unfold TyAR; rw [hu]; exact Or.inr (Or.inr ⟨len, cs, by omega, rfl, hc', hb'⟩), hv⟩
          | bool _ _ hu' => rw [hu] at hu'; cases hu'
          | int _ _ _ hu' => rw [hu] at hu'; cases hu'
          | str _ _ hu' => rw [hu] at hu'; cases hu'
          | struct _ _ _ hu' => rw [hu] at hu'; cases hu'
        all_goals exact ⟨a, by unfold TyAR; rw [hu]; exact h1, hv⟩
    generalize hgen : v.cells.toList = l at h2
    cases h2 with
    | cons _ v' _ vs hv hvs =>
      cases hvs
      refine hA v ?_
      cases v with
      | agg cs =>
        exfalso
        rcases closed_at hc ht with hu | ⟨k, hu⟩ | hu | ⟨e, hu, he, hpos⟩ | ⟨fs, hu, hcg, hfs⟩
        · rw [hu] at hok; simp [Cell.okWide, Cell.ok, hu] at hok
        · rw [hu] at hok; simp [Cell.okWide, Cell.ok, hu] at hok
        · rw [hu] at hok; simp [Cell.okWide, Cell.ok, hu] at hok
        · rw [hu] at hok; simp [Cell.okWide, Cell.ok, hu] at hok
        · exact hns fs hu
      | _ => simp only [Value.cells, List.cons.injEq, and_true] at hgen; exact hgen ▸ hv
  rcases closed_at hc ht with hu | ⟨k, hu⟩ | hu | ⟨e, hu, he, hpos⟩ | ⟨fs, hu, hcg, hfs⟩
  · exact hone (by simp [hu])
  · exact hone (by simp [hu])
  · exact hone (by simp [hu])
  · exact hone (by simp [hu])
  · rw [hu] at hok
    obtain ⟨cs, rfl, _, _⟩ := hok
    refine ⟨.agg as, ?_, ?_⟩
    · unfold TyAR; rw [hu]; exact ⟨as, rfl, h1⟩
    · exact .agg as cs.toList h2

theorem read_args {ts : List TypeId} (hc : closedB P ts = true) {base : Nat} {r : Reach} : ∀ (pts : List TypeId) (vs : List Value) (ds : List (DataW H)) (ps : List MemPlace), (∀ t, t ∈ pts → t ∈ ts) →
    (∀ (j : Nat) t v, pts[j]? = some t → vs[j]? = some v → Value.okWide P W r base t v) → DataW.TrodAll enc P W 0 (fun _ => true) true pts vs ds ps →
    (DataW.weightsEach P pts ds).all (· ≤ R) = true → ∃ as, TyAsR R P pts as ∧ Vs (rho0 W) W 0 as vs
  | [], vs, ds, ps, _, _, h, _ => by
    obtain ⟨rfl, rfl, rfl⟩ := ChangeShapes.trodAll_nil h
    exact ⟨[], .nil, .nil⟩
  | t :: pts, vs, ds, ps, hin, hok, h, hw => by
    obtain ⟨v, vs1, d, ds1, p, q, rfl, rfl, rfl, h1, h2⟩ := ChangeShapes.trodAll_cons h
    simp only [DataW.weightsEach, List.all_append, Bool.and_eq_true] at hw
    obtain ⟨a, ha1, ha2⟩ := read_arg hc (hin t (by simp)) (hok 0 t v rfl rfl) h1 hw.1
    obtain ⟨as, has1, has2⟩ := read_args hc pts vs1 ds1 q (fun t ht => hin t (by simp [ht])) (fun j t v ht hv => hok (j + 1) t v ht hv) h2 hw.2
    exact ⟨a :: as, .cons t a pts as ha1 has1, .cons a v as vs1 ha2 has2⟩

end
end Go.Am
