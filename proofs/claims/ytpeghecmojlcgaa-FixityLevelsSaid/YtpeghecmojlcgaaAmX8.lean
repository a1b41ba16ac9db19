/- A part of the proof of fixityLevels. Conditions: none. -/
import Derived.Test.YtpeghecmojlcgaaAmX7
namespace Go.Am.R1
open Go.Proofs
set_option maxRecDepth 100000

theorem ty_int {t : TypeId} {k : IntKind} {cs : List AV} (hu : Try.prog.underlying t = some (.int k)) (h : Ty Try.prog t cs) : ∃ n, cs = [.int k n] := by
  cases h with
  | int t k' n h hw => rw [hu] at h; cases h; exact ⟨n, rfl⟩
  | bool t b h => rw [hu] at h; cases h
  | str t s h hs => rw [hu] at h; cases h
  | slice t e len cs h hc hb => rw [hu] at h; cases h
  | struct t fs cs h hc => rw [hu] at h; cases h
theorem ty_str {t : TypeId} {cs : List AV} (hu : Try.prog.underlying t = some .string) (h : Ty Try.prog t cs) : ∃ s, cs = [.str s] := by
  cases h with
  | int t k' n h hw => rw [hu] at h; cases h
  | bool t b h => rw [hu] at h; cases h
  | str t s h hs => exact ⟨s, rfl⟩
  | slice t e len cs h hc hb => rw [hu] at h; cases h
  | struct t fs cs h hc => rw [hu] at h; cases h
theorem ty_struct {t : TypeId} {fs : Array Field} {cs : List AV} (hu : Try.prog.underlying t = some (.struct fs)) (h : Ty Try.prog t cs) : TyF Try.prog fs.toList cs := by
  cases h with
  | int t k' n h hw => rw [hu] at h; cases h
  | bool t b h => rw [hu] at h; cases h
  | str t s h hs => rw [hu] at h; cases h
  | slice t e len cs h hc hb => rw [hu] at h; cases h
  | struct t fs cs h hc => rw [hu] at h; cases h; exact hc
theorem ty_slice {t e : TypeId} {cs : List AV} (hu : Try.prog.underlying t = some (.slice e)) (h : Ty Try.prog t cs) : ∃ len ds, cs = [.sl ds len false none] ∧ TyN Try.prog e len ds ∧ len * Try.prog.bytesOf e ≤ reachBytes := by
  cases h with
  | int t k' n h hw => rw [hu] at h; cases h
  | bool t b h => rw [hu] at h; cases h
  | str t s h hs => rw [hu] at h; cases h
  | slice t e len cs h hc hb => rw [hu] at h; cases h; exact ⟨_, _, rfl, hc, hb⟩
  | struct t fs cs h hc => rw [hu] at h; cases h
theorem tyf_cons {f : Field} {r : List Field} {cs : List AV} (h : TyF Try.prog (f :: r) cs) : ∃ us bs, cs = us ++ bs ∧ Ty Try.prog f.type us ∧ TyF Try.prog r bs := by
  cases h with
  | cons f r us bs h hl hs => exact ⟨us, bs, rfl, h, hs⟩
theorem tyf_nil {cs : List AV} (h : TyF Try.prog [] cs) : cs = [] := by cases h; rfl

theorem ty_fx {cs : List AV} (h : Ty Try.prog 34 cs) : ∃ x, cs = fxc x := by
  have h1 := ty_struct Try.underlying34 h
  obtain ⟨a, b1, rfl, ha, h2⟩ := tyf_cons h1
  obtain ⟨b, c1, rfl, hb, h3⟩ := tyf_cons h2
  obtain ⟨c, d1, rfl, hc, h4⟩ := tyf_cons h3
  obtain rfl := tyf_nil h4
  obtain ⟨s, rfl⟩ := ty_str Try.underlying9 ha
  obtain ⟨n, rfl⟩ := ty_int Try.underlying3 hb
  obtain ⟨m, rfl⟩ := ty_int Try.underlying3 hc
  exact ⟨⟨s, n, m⟩, rfl⟩
theorem ty_it {cs : List AV} (h : Ty Try.prog 44 cs) : ∃ x, cs = itc x := by
  have h1 := ty_struct Try.underlying44 h
  obtain ⟨a, b1, rfl, ha, h2⟩ := tyf_cons h1
  obtain ⟨b, c1, rfl, hb, h3⟩ := tyf_cons h2
  obtain rfl := tyf_nil h3
  obtain ⟨s, rfl⟩ := ty_str Try.underlying9 ha
  obtain ⟨n, rfl⟩ := ty_int Try.underlying3 hb
  exact ⟨⟨s, n⟩, rfl⟩

theorem tyn_of {α : Type} {e : TypeId} {f : α → List AV} (hf : ∀ cs, Ty Try.prog e cs → ∃ x, cs = f x) : ∀ (len : Nat) (ds : List AV), TyN Try.prog e len ds → ∃ l : List α, l.length = len ∧ ds = l.flatMap f
  | 0, ds, h => by cases h; exact ⟨[], rfl, rfl⟩
  | n + 1, ds, h => by
    cases h with
    | succ e n cs ds h hl hs =>
      obtain ⟨x, rfl⟩ := hf _ h
      obtain ⟨l, rfl, rfl⟩ := tyn_of hf n ds hs
      exact ⟨x :: l, rfl, by simp⟩

theorem b34 : Try.prog.bytesOf 34 = 32 := by kernel_rfl
theorem b44 : Try.prog.bytesOf 44 = 24 := by kernel_rfl

theorem args_tab {a : AV} (h : TyA Try.prog 31 a) : ∃ tb, TabAV a tb ∧ tb.length ≤ big := by
  unfold TyA at h
  rw [Try.underlying31] at h
  obtain ⟨len, ds, hd, hn, hb⟩ := ty_slice Try.underlying31 h
  simp only [List.cons.injEq, and_true] at hd
  obtain ⟨l, rfl, rfl⟩ := tyn_of (fun cs => ty_fx) len ds hn
  rw [b34] at hb
  exact ⟨l, Or.inr ⟨false, none, hd⟩, by simp only [big]; simp only [reachBytes] at hb; omega⟩
theorem args_items {a : AV} (h : TyA Try.prog 32 a) : ∃ its, ItemsAV a its ∧ its.length ≤ big := by
  unfold TyA at h
  rw [Try.underlying32] at h
  obtain ⟨len, ds, hd, hn, hb⟩ := ty_slice Try.underlying32 h
  simp only [List.cons.injEq, and_true] at hd
  obtain ⟨l, rfl, rfl⟩ := tyn_of (fun cs => ty_it) len ds hn
  rw [b44] at hb
  exact ⟨l, Or.inr ⟨false, none, hd⟩, by simp only [big]; simp only [reachBytes] at hb; omega⟩

theorem levels : ∀ xs, TyAs Try.prog [31, 32] xs → WC T nx 6 xs st0 (fun v _ => v = .bool true) := by
  intro xs h
  cases h with
  | cons t a ts us h1 hs =>
    cases hs with
    | cons t b ts us h2 hs =>
      cases hs
      obtain ⟨tb, ht, hb⟩ := args_tab h1
      obtain ⟨its, hi, hb2⟩ := args_items h2
      exact levels_law a b tb its ht hi hb hb2 st0
end Go.Am.R1
