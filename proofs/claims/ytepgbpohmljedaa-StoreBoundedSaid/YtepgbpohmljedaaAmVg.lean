/- StoreBounded: arguments and told functions. Conditions: none. -/
import Derived.Test.YtepgbpohmljedaaAmVf
import Derived.Test.YtepgbpohmljedaaAmY6
import Derived.Test.YtepgbpohmljedaaShelf
set_option linter.unusedSimpArgs false
set_option linter.unusedVariables false
namespace Go.Am.V1
open Go.Proofs
set_option maxRecDepth 100000

theorem hX : ∀ f h, xv f = some h → ∀ args s v s', h args s = some (v, s') → CallC G0 Try.prog f args s v s' := by
  intro f h hx
  unfold xv at hx
  split at hx
  · rename_i hf
    subst hf
    cases hx
    exact clone_callC (enters_of Try.func29 (by kernel_rfl) rfl) (fun s w hl => Try.stringslite_Clone s w hl)
  · cases hx
theorem b9 : Try.prog.bytesOf 9 = 16 := by kernel_rfl
theorem args_strs {a : AV} (h : TyA Try.prog 22 a) : ∃ l, ISl strc a l ∧ (∀ s, s ∈ l → s.size ≤ reachBytes) ∧ l.length * 16 ≤ reachBytes := by
  obtain ⟨l, h1, -, h3, h2⟩ := slice_arg (f := strc) (p := fun s => s.size ≤ reachBytes) Try.underlying22 (fun cs h => by obtain ⟨s, rfl, hs⟩ := ty_str Try.underlying9 h; exact ⟨s, rfl, hs⟩) h
  rw [b9] at h2
  exact ⟨l, h1, h3, h2⟩
theorem bounded : ∀ xs, TyAs Try.prog [3, 22, 22] xs → WC T xv 3 xs st0 (fun v _ => v = .bool true) := by
  intro xs h
  cases h with
  | cons t a ts us h1 hs =>
    cases hs with
    | cons t b ts us h2 hs =>
      cases hs with
      | cons t c ts us h3 hs =>
        cases hs
        obtain ⟨n, rfl, -⟩ := int_arg Try.underlying3 h1
        obtain ⟨ks, hk, hks, hkl⟩ := args_strs h2
        obtain ⟨vs, hv, hvs, -⟩ := args_strs h3
        simp only [reachBytes] at hks hvs hkl
        exact bounded_law n hk hv (by omega) (fun s hs => by have := hks s hs; omega) (fun s hs => by have := hvs s hs; omega) st0
end Go.Am.V1
