/- A part of the proof of fixityRenamed. Conditions: none. -/
import Derived.Test.YtpeghecmojlcgaaAmXd
import Derived.Test.YtpeghecmojlcgaaAmXa
namespace Go.Am.R1
open Go.Proofs
set_option maxRecDepth 100000

theorem args_int {a : AV} (h : TyA Try.prog 3 a) : ∃ n, a = .int .i64 n := by
  unfold TyA at h
  rw [Try.underlying3] at h
  obtain ⟨n, hn⟩ := ty_int Try.underlying3 h
  simp only [List.cons.injEq, and_true] at hn
  exact ⟨n, hn⟩

theorem renamed : ∀ xs, TyAs Try.prog [31, 32, 3] xs → WC T nx 8 xs st0 (fun v _ => v = .bool true) := by
  intro xs h
  cases h with
  | cons t a ts us h1 hs =>
    cases hs with
    | cons t b ts us h2 hs =>
      cases hs with
      | cons t c ts us h3 hs =>
        cases hs
        obtain ⟨tb, ht, htn, hb⟩ := args_tab h1
        obtain ⟨its, hi, hn, hb2⟩ := args_items h2
        obtain ⟨n, rfl⟩ := args_int h3
        exact renamed_law a b n tb its ht htn hi hn (by simp only [reachBytes] at hb; omega) (by simp only [reachBytes] at hb2; omega) st0
end Go.Am.R1
