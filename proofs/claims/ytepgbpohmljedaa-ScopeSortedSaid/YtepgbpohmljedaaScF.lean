/- ScopeSorted: its arguments. Conditions: none. -/
import Derived.Test.YtepgbpohmljedaaScE
import Derived.Test.YtepgbpohmljedaaAmY6
set_option linter.unusedSimpArgs false
set_option linter.unusedVariables false
namespace Go.Am.W1
open Go.Proofs
set_option maxRecDepth 100000

theorem ty_dg {cs : List AV} (h : Ty Try.prog 38 cs) : ∃ x : Dg, cs = dgc x ∧ True := by
  obtain ⟨us, bs, rfl, h1, h2⟩ := tyf_cons (ty_struct Try.underlying38 h)
  obtain ⟨us2, bs2, rfl, h3, h4⟩ := tyf_cons h2
  obtain ⟨us3, bs3, rfl, h5, h6⟩ := tyf_cons h4
  obtain ⟨us4, bs4, rfl, h7, h8⟩ := tyf_cons h6
  have := tyf_nil h8
  subst this
  obtain ⟨a, rfl, -⟩ := ty_int Try.underlying24 h1
  obtain ⟨b, rfl, -⟩ := ty_int Try.underlying3 h3
  obtain ⟨c, rfl, -⟩ := ty_int Try.underlying3 h5
  obtain ⟨d, rfl, -⟩ := ty_str Try.underlying9 h7
  exact ⟨⟨a, b, c, d⟩, rfl, trivial⟩
theorem b38 : Try.prog.bytesOf 38 = 40 := by kernel_rfl
theorem hX : ∀ f h, xw f = some h → ∀ args s v s', h args s = some (v, s') → CallC G0 Try.prog f args s v s' := fun f h hx => by cases hx
theorem scope_all : ∀ xs, TyAs Try.prog [36] xs → WC T xw 4 xs st0 (fun v _ => v = .bool true) := by
  intro xs h
  cases h with
  | cons t a ts us h1 hs =>
    cases hs
    obtain ⟨l, hi, hk, -, hb⟩ := slice_arg Try.underlying36 (fun cs h => ty_dg h) h1
    rw [b38] at hb
    simp only [reachBytes] at hb
    exact scope_law hi hk (by omega) st0
end Go.Am.W1
