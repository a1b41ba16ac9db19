/- A part of the proof of modulesTopological. Conditions: none. -/
import Derived.Test.YtjhbakfgoaeeoaaAmM4
import Derived.Test.YtjhbakfgoaeeoaaAmY6
import Derived.Test.YtjhbakfgoaeeoaaShelf
namespace Go.Am.M1
open Go.Proofs
set_option maxRecDepth 100000

theorem hX : ∀ f h, xm f = some h → ∀ args s v s', h args s = some (v, s') → CallC G0 Try.prog f args s v s' := by
  intro f h hx
  unfold xm at hx
  split at hx
  · rename_i hf
    subst hf
    cases hx
    exact sort_callC (enters_of Try.func16 (by kernel_rfl) rfl) (fun blk off cap ss w h1 h2 h3 => Try.slices_Sort_string blk off cap ss w h1 h2 h3) (fun p cap w => Try.slices_Sort_string_none p cap w)
  · split at hx
    · rename_i hf
      subst hf
      cases hx
      exact compact_callC (enters_of Try.func17 (by kernel_rfl) rfl) (fun blk off cap ss w h1 h2 h3 => Try.slices_Compact_string blk off cap ss w h1 h2 h3) (fun p cap w => Try.slices_Compact_string_empty p cap w)
    · cases hx

theorem b9 : Try.prog.bytesOf 9 = 16 := by kernel_rfl
theorem b22 : Try.prog.bytesOf 22 = 24 := by kernel_rfl

theorem args_strs {a : AV} (h : TyA Try.prog 22 a) : ∃ l, ISl strc a l ∧ l.length * 16 ≤ reachBytes := by
  obtain ⟨l, h1, -, -, h2⟩ := slice_arg (f := strc) (p := fun _ => True) Try.underlying22 (fun cs h => by obtain ⟨s, rfl, -⟩ := ty_str Try.underlying9 h; exact ⟨s, rfl, trivial⟩) h
  rw [b9] at h2
  exact ⟨l, h1, h2⟩
theorem ty_imp {cs : List AV} (h : Ty Try.prog 22 cs) : ∃ l : List ByteArray, cs = impc l ∧ l.length ≤ big := by
  obtain ⟨len, ds, rfl, hn, hb⟩ := ty_slice Try.underlying22 h
  obtain ⟨l, rfl, rfl, -⟩ := tyn_of (f := strc) (p := fun _ => True) (fun cs h => by obtain ⟨s, rfl, -⟩ := ty_str Try.underlying9 h; exact ⟨s, rfl, trivial⟩) len ds hn
  rw [b9] at hb
  exact ⟨l, rfl, by simp only [big]; simp only [reachBytes] at hb; omega⟩
theorem args_imps {a : AV} (h : TyA Try.prog 23 a) : ∃ l, ISl impc a l ∧ (∀ x, x ∈ l → x.length ≤ big) ∧ l.length * 24 ≤ reachBytes := by
  obtain ⟨l, h1, -, h2, h3⟩ := slice_arg Try.underlying23 (fun cs h => ty_imp h) h
  rw [b22] at h3
  exact ⟨l, h1, h2, h3⟩

theorem affected : ∀ xs, TyAs Try.prog [22, 23, 22] xs → WC T xm 3 xs st0 (fun v _ => v = .bool true) := by
  intro xs h
  cases h with
  | cons t a ts us h1 hs =>
    cases hs with
    | cons t b ts us h2 hs =>
      cases hs with
      | cons t c ts us h3 hs =>
        cases hs
        obtain ⟨names, hn, hb⟩ := args_strs h1
        obtain ⟨ims, hi, hb3, hb2⟩ := args_imps h2
        obtain ⟨ch, hc, hb4⟩ := args_strs h3
        simp only [reachBytes] at hb hb2 hb4
        exact affected_law hn hi (by simp only [big]; omega) (by simp only [big]; omega) hb3 st0 hc (by omega)
end Go.Am.M1
