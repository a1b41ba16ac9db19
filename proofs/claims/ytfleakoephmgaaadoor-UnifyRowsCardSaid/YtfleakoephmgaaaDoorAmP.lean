/- A law's arguments, as the abstract machine has them. Conditions: none. -/
import Derived.Test.YtfleakoephmgaaaDoorAmL
import Derived.SizedLaws
import Derived.WideShapes
import Derived.Below
set_option linter.unusedSimpArgs false
set_option linter.unusedVariables false
namespace Go.Am
open Go.RowKit

/-! ### Values of a type -/
mutual
inductive TyR (R : Nat) (P : Program) : TypeId → List AV → Prop
  | bool (t : TypeId) (b : Bool) (h : P.underlying t = some .bool) : TyR R P t [.bool b]
  | int (t : TypeId) (k : IntKind) (n : Int) (h : P.underlying t = some (.int k)) (hw : (Lit.int k n).wf = true) : TyR R P t [.int k n]
  | str (t : TypeId) (s : ByteArray) (h : P.underlying t = some .string) (hs : s.size ≤ R) : TyR R P t [.str s]
  | slice (t e : TypeId) (len : Nat) (cs : List AV) (h : P.underlying t = some (.slice e)) (hc : TyNR R P e len cs) (hb : len * P.bytesOf e ≤ R) : TyR R P t [.sl cs len false none]
  | struct (t : TypeId) (fs : Array Field) (cs : List AV) (h : P.underlying t = some (.struct fs)) (hc : TyFR R P fs.toList cs) : TyR R P t cs
inductive TyNR (R : Nat) (P : Program) : TypeId → Nat → List AV → Prop
  | zero (e : TypeId) : TyNR R P e 0 []
  | succ (e : TypeId) (n : Nat) (cs ds : List AV) (h : TyR R P e cs) (hl : cs.length = P.cellsOf e) (hs : TyNR R P e n ds) : TyNR R P e (n + 1) (cs ++ ds)
inductive TyFR (R : Nat) (P : Program) : List Field → List AV → Prop
  | nil : TyFR R P [] []
  | cons (f : Field) (r : List Field) (cs ds : List AV) (h : TyR R P f.type cs) (hl : cs.length = P.cellsOf f.type) (hs : TyFR R P r ds) : TyFR R P (f :: r) (cs ++ ds)
end

/-- An argument of a type. -/
def TyAR (R : Nat) (P : Program) (t : TypeId) (a : AV) : Prop :=
  match P.underlying t with
  | some (.struct _) => ∃ cs, a = .agg cs ∧ TyR R P t cs
  | some (.slice e) => a = .nils ∨ a = .sl [] 0 false (some 0) ∨ ∃ len cs, 0 < len ∧ a = .sl cs len false none ∧ TyNR R P e len cs ∧ len * P.bytesOf e ≤ R
  | _ => TyR R P t [a]

inductive TyAsR (R : Nat) (P : Program) : List TypeId → List AV → Prop
  | nil : TyAsR R P [] []
  | cons (t : TypeId) (a : AV) (ts : List TypeId) (as : List AV) (h : TyAR R P t a) (hs : TyAsR R P ts as) : TyAsR R P (t :: ts) (a :: as)

abbrev Ty := TyR reachBytes
abbrev TyN := TyNR reachBytes
abbrev TyF := TyFR reachBytes
abbrev TyA := TyAR reachBytes
abbrev TyAs := TyAsR reachBytes

/-- The fields lie one behind the other. -/
def contig (P : Program) : List Field → Nat → Option Nat
  | [], k => some k
  | f :: r, k => if f.offset = k then contig P r (k + P.cellsOf f.type) else none

/-- These types lead to no others than these, and to whole numbers, bools, strings, slices and structs alone. -/
def closedB (P : Program) (ts : List TypeId) : Bool :=
  ts.all fun t => match P.underlying t with
    | some .bool => true
    | some (.int _) => true
    | some .string => true
    | some (.slice e) => ts.contains e && 0 < P.cellsOf e
    | some (.struct fs) => contig P fs.toList 0 == some (P.cellsOf t) && fs.toList.all fun f => ts.contains f.type
    | _ => false

def rho0 (W : World) : Rho := { lab := fun b => if b < W.heap.size then .ro else .free, blk := fun _ => 0, tot := fun _ => 0, rt := fun _ => (0, 0, 0, 0), pend := fun _ => false }
def st0 : St := ⟨0, fun _ => none⟩

theorem sim0 (W : World) : Sim (rho0 W) st0 W :=
  ⟨fun b h => by simp only [rho0]; rw [if_neg (by omega)], fun i h => by simp [rho0] at h, fun i cs h => by simp [st0] at h, fun t h => by simp [st0] at h, fun i cs h => by simp [st0] at h, fun i es h => by simp [st0] at h⟩

theorem below_of {W W' : World} {ρ' : Rho} {s' : St} (h : Fr (rho0 W) st0 W ρ' s' W') : Below W.heap.size W W' :=
  ⟨h.os, h.tape, h.output, h.size, fun k hk => (h.keep k hk (Or.inr (by simp [rho0, hk]))).2⟩

theorem at0 {W : World} {b o : Nat} {vs : List Value} (h : ∀ j v, vs[j]? = some v → W.cell? ⟨b, o + j, none⟩ = some v) : At (rho0 W) W b o vs := by
  intro j v hj
  refine ⟨?_, h j v hj⟩
  have hlt : b < W.heap.size := World.block_lt_of_cell? W ⟨b, o + j, none⟩ (h j v hj)
  simp [Imm, ImmL, rho0, hlt]

section
variable {R : Nat} {H : Type} {enc : TypeId × Value → H} {P : Program} {W : World}

theorem mapM_some {α β : Type} {f : α → Option β} : ∀ {l : List α} {r : List β}, l.mapM f = some r → r.length = l.length ∧ ∀ (i : Nat) (x : α), l[i]? = some x → ∃ y, r[i]? = some y ∧ f x = some y
  | [], r, h => by simp at h; subst h; simp
  | a :: l, r, h => by
    simp only [List.mapM_cons, Option.bind_eq_bind, Option.bind_eq_some_iff, Option.pure_def, Option.some.injEq] at h
    obtain ⟨y, hy, ys, hys, rfl⟩ := h
    obtain ⟨h1, h2⟩ := mapM_some hys
    refine ⟨by simp [h1], ?_⟩
    intro i x hi
    cases i with
    | zero => simp at hi; subst hi; exact ⟨y, rfl, hy⟩
    | succ i => exact h2 i x (by simpa using hi)

theorem cells_some {a : Addr} {n : Nat} {cs : List Value} (h : W.cells? 0 a n = some cs) : cs.length = n ∧ ∀ j, j < n → W.cell? (a.add j) = cs[j]? := by
  unfold World.cells? at h
  rw [if_pos (Nat.zero_le _)] at h
  obtain ⟨h1, h2⟩ := mapM_some h
  refine ⟨by simpa using h1, fun j hj => ?_⟩
  obtain ⟨y, hy, hf⟩ := h2 j j (by simp [hj])
  rw [hf, hy]

theorem closed_at {ts : List TypeId} (hc : closedB P ts = true) {t : TypeId} (ht : t ∈ ts) :
    P.underlying t = some .bool ∨ (∃ k, P.underlying t = some (.int k)) ∨ P.underlying t = some .string ∨ (∃ e, P.underlying t = some (.slice e) ∧ e ∈ ts ∧ 0 < P.cellsOf e) ∨
      ∃ fs, P.underlying t = some (.struct fs) ∧ contig P fs.toList 0 = some (P.cellsOf t) ∧ ∀ f, f ∈ fs.toList → f.type ∈ ts := by
  have := List.all_eq_true.1 hc t ht
  split at this
  · exact Or.inl ‹_›
  · exact Or.inr (Or.inl ⟨_, ‹_›⟩)
  · exact Or.inr (Or.inr (Or.inl ‹_›))
  · rename_i e he
    simp only [Bool.and_eq_true, decide_eq_true_eq] at this
    exact Or.inr (Or.inr (Or.inr (Or.inl ⟨e, he, by simpa using this.1, this.2⟩)))
  · rename_i fs hf
    simp only [Bool.and_eq_true, beq_iff_eq, List.all_eq_true] at this
    exact Or.inr (Or.inr (Or.inr (Or.inr ⟨fs, hf, this.1, fun f hf => by simpa using this.2 f hf⟩)))
  · cases this

theorem weights_all {e : TypeId} : ∀ {l : List (DataW H)}, (DataW.weightsAll P e l).all (· ≤ R) = true → ∀ d, d ∈ l → (d.weights P e).all (· ≤ R) = true
  | [], _, d, hd => by simp at hd
  | x :: l, h, d, hd => by
    simp only [DataW.weightsAll, List.all_append, Bool.and_eq_true] at h
    rcases List.mem_cons.1 hd with rfl | hd
    · exact h.1
    · exact weights_all h.2 d hd

/-- So many elements, one behind the other. -/
theorem read_row {e : TypeId} {sz b o : Nat} (hsz : sz = P.cellsOf e) : ∀ (n k : Nat) (parts : Nat → List Value), (∀ i, i < n → (parts i).length = sz ∧ (∀ j v, (parts i)[j]? = some v → W.cell? ⟨b, o + (k + i) * sz + j, none⟩ = some v) ∧ ∃ as, TyR R P e as ∧ Vs (rho0 W) W 0 as (parts i)) →
    ∃ cs vs, TyNR R P e n cs ∧ Vs (rho0 W) W 0 cs vs ∧ vs.length = n * sz ∧ ∀ j v, vs[j]? = some v → W.cell? ⟨b, o + k * sz + j, none⟩ = some v
  | 0, k, parts, _ => ⟨[], [], .zero e, .nil, by simp, by simp⟩
  | n + 1, k, parts, h => by
    obtain ⟨h1, h2, as, h3, h4⟩ := h 0 (by omega)
    obtain ⟨cs, vs, h5, h6, h7, h8⟩ := read_row hsz n (k + 1) (fun i => parts (i + 1)) (fun i hi => by
      have := h (i + 1) (by omega)
      rwa [show k + (i + 1) = k + 1 + i by omega] at this)
    have hla := h4.length
    refine ⟨as ++ cs, parts 0 ++ vs, .succ e n as cs h3 (by omega) h5, h4.append h6, by rw [List.length_append, h1, h7, Nat.add_mul]; omega, ?_⟩
    intro j v hj
    by_cases hlt : j < (parts 0).length
    · rw [List.getElem?_append_left hlt] at hj
      exact h2 j v hj
    · rw [List.getElem?_append_right (by omega)] at hj
      have := h8 (j - (parts 0).length) v hj
      rw [h1] at this
      rw [show o + k * sz + j = o + (k + 1) * sz + (j - sz) by rw [Nat.add_mul]; omega]
      exact this

theorem contig_le : ∀ (fs : List Field) (k tot : Nat), contig P fs k = some tot → k ≤ tot
  | [], k, tot, h => by cases h; exact Nat.le_refl _
  | f :: fs, k, tot, h => by
    simp only [contig] at h
    split at h
    · have := contig_le fs _ _ h; omega
    · cases h

theorem read_fields {ts : List TypeId} {fuel : Nat} (ih : ∀ (t : TypeId) (cs : List Value) (d : DataW H) (ps : List MemPlace), t ∈ ts → DataW.trod enc P W 0 (fun _ => true) true fuel t cs = some (d, ps) → (d.weights P t).all (· ≤ R) = true → cs.length = P.cellsOf t ∨ True → ∃ as, TyR R P t as ∧ Vs (rho0 W) W 0 as cs) :
    ∀ (fs : List Field) (off tot : Nat) (cs : List Value) (xs : List (DataW H × List MemPlace)), contig P fs off = some tot → cs.length = tot → (∀ f, f ∈ fs → f.type ∈ ts) →
      fs.mapM (fun f => DataW.trod enc P W 0 (fun _ => true) true fuel f.type ((cs.drop f.offset).take (P.cellsOf f.type))) = some xs → (DataW.weightsEach P (fs.map (·.type)) (xs.map (·.1))).all (· ≤ R) = true →
      ∃ as, TyFR R P fs as ∧ Vs (rho0 W) W 0 as (cs.drop off)
  | [], off, tot, cs, xs, hc, hl, _, _, _ => by
    cases hc
    exact ⟨[], .nil, by rw [List.drop_eq_nil_of_le (by omega)]; exact .nil⟩
  | f :: fs, off, tot, cs, xs, hc, hl, hts, hm, hw => by
    simp only [contig] at hc
    split at hc
    · rename_i ho
      simp only [List.mapM_cons, Option.bind_eq_bind, Option.bind_eq_some_iff, Option.pure_def, Option.some.injEq] at hm
      obtain ⟨x, hx, ys, hys, rfl⟩ := hm
      simp only [List.map_cons, DataW.weightsEach, List.all_append, Bool.and_eq_true] at hw
      obtain ⟨as, hT, hV⟩ := ih f.type _ x.1 x.2 (hts f (by simp)) hx hw.1 (Or.inr trivial)
      obtain ⟨bs, hT2, hV2⟩ := read_fields ih fs (off + P.cellsOf f.type) tot cs ys hc hl (fun g hg => hts g (by simp [hg])) hys hw.2
      have hle := contig_le fs _ _ hc
      have hla := hV.length
      rw [ho] at hla hV
      have hlen : ((cs.drop off).take (P.cellsOf f.type)).length = P.cellsOf f.type := by simp; omega
      refine ⟨as ++ bs, .cons f fs as bs hT (by omega) hT2, ?_⟩
      have hsplit : cs.drop off = (cs.drop off).take (P.cellsOf f.type) ++ cs.drop (off + P.cellsOf f.type) := by
        rw [← List.drop_drop, List.take_append_drop]
      rw [hsplit]
      exact hV.append hV2
    · cases hc

end
end Go.Am
