/- The library's functions by their contracts; the arguments of ModulesCycleReal read. Conditions: none. -/
import Derived.Test.YtjhbakfgoaeeoaaAmMg
import Derived.Test.YtjhbakfgoaeeoaaAmM5
namespace Go.Am.M2
open Go.Am.M1 (impc big)
open Go.Proofs Go.Shelf
set_option maxRecDepth 100000

theorem hX : ∀ f h, xn f = some h → ∀ args s v s', h args s = some (v, s') → CallC G0 Try.prog f args s v s' := by
  intro f h hx
  unfold xn at hx
  split at hx
  · rename_i hf
    subst hf
    cases hx
    exact M1.hX 16 sortX rfl
  split at hx
  · rename_i hf
    subst hf
    cases hx
    exact M1.hX 17 compactX rfl
  split at hx
  · rename_i hf
    subst hf
    cases hx
    exact collect_callC (enters_of Try.func27 (by kernel_rfl) rfl) (fun Bs bo sv zs h1 h2 w h3 h4 h5 => Try.collect Bs bo sv zs h1 h2 w h3 h4 h5)
  · cases hx

/-- What the bound of bulk leaves: so many bytes at most. -/
def R0 : Nat := 1048576 * 24

theorem args_strs {a : AV} (h : TyAR R0 Try.prog 22 a) : ∃ l, ISl strc a l ∧ l.length ≤ 4194304 := by
  obtain ⟨l, h1, -, -, h2⟩ := slice_arg (f := strc) (p := fun _ => True) Try.underlying22 (fun cs h => by obtain ⟨s, rfl, -⟩ := ty_str Try.underlying9 h; exact ⟨s, rfl, trivial⟩) h
  rw [M1.b9] at h2
  exact ⟨l, h1, by simp only [R0] at h2; omega⟩
theorem ty_imp {cs : List AV} (h : TyR R0 Try.prog 22 cs) : ∃ l : List ByteArray, cs = impc l ∧ l.length ≤ 4194304 := by
  obtain ⟨len, ds, rfl, hn, hb⟩ := ty_slice Try.underlying22 h
  obtain ⟨l, rfl, rfl, -⟩ := tyn_of (f := strc) (p := fun _ => True) (fun cs h => by obtain ⟨s, rfl, -⟩ := ty_str Try.underlying9 h; exact ⟨s, rfl, trivial⟩) len ds hn
  rw [M1.b9] at hb
  exact ⟨l, rfl, by simp only [R0] at hb; omega⟩
theorem args_imps {a : AV} (h : TyAR R0 Try.prog 23 a) : ∃ l, ISl impc a l ∧ (∀ x, x ∈ l → x.length ≤ 4194304) ∧ l.length ≤ 4194304 := by
  obtain ⟨l, h1, -, h2, h3⟩ := slice_arg Try.underlying23 (fun cs h => ty_imp h) h
  rw [M1.b22] at h3
  exact ⟨l, h1, h2, by simp only [R0] at h3; omega⟩

theorem real_all : ∀ xs, TyAsR R0 Try.prog [22, 23] xs → WC T xn 4 xs st0 (fun v _ => v = .bool true) := by
  intro xs h
  cases h with
  | cons t a ts us h1 hs =>
    cases hs with
    | cons t b ts us h2 hs =>
      cases hs
      obtain ⟨l, h3, h4⟩ := args_strs h1
      obtain ⟨m, h5, h6, h7⟩ := args_imps h2
      exact real_law h3 h5 (by simp only [big]; omega) (by simp only [big]; omega) h6 st0
end Go.Am.M2
