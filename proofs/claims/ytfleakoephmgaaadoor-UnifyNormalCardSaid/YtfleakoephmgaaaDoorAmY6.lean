/- A law's arguments, opened. Conditions: none. -/
import Derived.Test.YtfleakoephmgaaaDoorAmS
import Derived.Test.YtfleakoephmgaaaDoorAmY1
set_option linter.unusedSimpArgs false
set_option linter.unusedVariables false
namespace Go.Am
section
variable {R : Nat} {P : Program}

theorem ty_int {t : TypeId} {k : IntKind} {cs : List AV} (hu : P.underlying t = some (.int k)) (h : TyR R P t cs) : ∃ n, cs = [.int k n] ∧ (Lit.int k n).wf = true := by
  cases h with
  | int t k' n h hw => rw [hu] at h; cases h; exact ⟨n, rfl, hw⟩
  | bool t b h => rw [hu] at h; cases h
  | str t s h hs => rw [hu] at h; cases h
  | slice t e len cs h hc hb => rw [hu] at h; cases h
  | struct t fs cs h hc => rw [hu] at h; cases h
theorem ty_bool {t : TypeId} {cs : List AV} (hu : P.underlying t = some .bool) (h : TyR R P t cs) : ∃ b, cs = [.bool b] := by
  cases h with
  | bool t b h => exact ⟨b, rfl⟩
  | int t k' n h hw => rw [hu] at h; cases h
  | str t s h hs => rw [hu] at h; cases h
  | slice t e len cs h hc hb => rw [hu] at h; cases h
  | struct t fs cs h hc => rw [hu] at h; cases h
theorem ty_str {t : TypeId} {cs : List AV} (hu : P.underlying t = some .string) (h : TyR R P t cs) : ∃ s, cs = [.str s] ∧ s.size ≤ R := by
  cases h with
  | int t k' n h hw => rw [hu] at h; cases h
  | bool t b h => rw [hu] at h; cases h
  | str t s h hs => exact ⟨s, rfl, hs⟩
  | slice t e len cs h hc hb => rw [hu] at h; cases h
  | struct t fs cs h hc => rw [hu] at h; cases h
theorem ty_struct {t : TypeId} {fs : Array Field} {cs : List AV} (hu : P.underlying t = some (.struct fs)) (h : TyR R P t cs) : TyFR R P fs.toList cs := by
  cases h with
  | int t k' n h hw => rw [hu] at h; cases h
  | bool t b h => rw [hu] at h; cases h
  | str t s h hs => rw [hu] at h; cases h
  | slice t e len cs h hc hb => rw [hu] at h; cases h
  | struct t fs cs h hc => rw [hu] at h; cases h; exact hc
theorem ty_slice {t e : TypeId} {cs : List AV} (hu : P.underlying t = some (.slice e)) (h : TyR R P t cs) : ∃ len ds, cs = [.sl ds len false none] ∧ TyNR R P e len ds ∧ len * P.bytesOf e ≤ R := by
  cases h with
  | int t k' n h hw => rw [hu] at h; cases h
  | bool t b h => rw [hu] at h; cases h
  | str t s h hs => rw [hu] at h; cases h
  | slice t e len cs h hc hb => rw [hu] at h; cases h; exact ⟨_, _, rfl, hc, hb⟩
  | struct t fs cs h hc => rw [hu] at h; cases h
theorem tyf_cons {f : Field} {r : List Field} {cs : List AV} (h : TyFR R P (f :: r) cs) : ∃ us bs, cs = us ++ bs ∧ TyR R P f.type us ∧ TyFR R P r bs := by
  cases h with
  | cons f r us bs h hl hs => exact ⟨us, bs, rfl, h, hs⟩
theorem tyf_nil {cs : List AV} (h : TyFR R P [] cs) : cs = [] := by cases h; rfl

theorem tyn_of {α : Type} {e : TypeId} {f : α → List AV} {p : α → Prop} (hf : ∀ cs, TyR R P e cs → ∃ x, cs = f x ∧ p x) : ∀ (len : Nat) (ds : List AV), TyNR R P e len ds → ∃ l : List α, l.length = len ∧ ds = l.flatMap f ∧ ∀ x, x ∈ l → p x
  | 0, ds, h => by cases h; exact ⟨[], rfl, rfl, by simp⟩
  | n + 1, ds, h => by
    cases h with
    | succ e n cs ds h hl hs =>
      obtain ⟨x, rfl, hx⟩ := hf _ h
      obtain ⟨l, rfl, rfl, hp⟩ := tyn_of hf n ds hs
      exact ⟨x :: l, rfl, by simp, by simpa using ⟨hx, hp⟩⟩

/-- A slice as an argument. -/
theorem slice_arg {α : Type} {t e : TypeId} {f : α → List AV} {p : α → Prop} {a : AV} (hu : P.underlying t = some (.slice e)) (hf : ∀ cs, TyR R P e cs → ∃ x, cs = f x ∧ p x) (h : TyAR R P t a) :
    ∃ l, ISl f a l ∧ Known a ∧ (∀ x, x ∈ l → p x) ∧ l.length * P.bytesOf e ≤ R := by
  unfold TyAR at h
  rw [hu] at h
  rcases h with hd | hd | ⟨len, ds, h0, hd, hn, hb⟩
  · subst hd; exact ⟨[], Or.inl ⟨rfl, rfl⟩, Or.inl rfl, by simp, by simp⟩
  · subst hd; exact ⟨[], Or.inr ⟨false, some 0, rfl⟩, Or.inr ⟨_, _, _, _, rfl, Or.inr rfl⟩, by simp, by simp⟩
  · obtain ⟨l, rfl, rfl, hp⟩ := tyn_of hf len ds hn
    subst hd
    exact ⟨l, Or.inr ⟨false, none, rfl⟩, Or.inr ⟨_, _, _, _, rfl, Or.inl h0⟩, hp, hb⟩
theorem int_arg {t : TypeId} {k : IntKind} {a : AV} (hu : P.underlying t = some (.int k)) (h : TyAR R P t a) : ∃ n, a = .int k n ∧ (Lit.int k n).wf = true := by
  unfold TyAR at h
  rw [hu] at h
  obtain ⟨n, hn, hw⟩ := ty_int hu h
  simp only [List.cons.injEq, and_true] at hn
  exact ⟨n, hn, hw⟩
theorem str_arg {t : TypeId} {a : AV} (hu : P.underlying t = some .string) (h : TyAR R P t a) : ∃ s, a = .str s ∧ s.size ≤ R := by
  unfold TyAR at h
  rw [hu] at h
  obtain ⟨n, hn, hw⟩ := ty_str hu h
  simp only [List.cons.injEq, and_true] at hn
  exact ⟨n, hn, hw⟩
end
end Go.Am
