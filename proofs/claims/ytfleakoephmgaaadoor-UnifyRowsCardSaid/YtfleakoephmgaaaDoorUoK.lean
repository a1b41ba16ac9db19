/- The normal form has as many nodes. Conditions: none. -/
import Derived.Test.YtfleakoephmgaaaDoorSoA
set_option linter.unusedSimpArgs false
set_option linter.unusedVariables false
namespace Go.Am
namespace Un
open Go.So

/-! ### Sizes -/
def lsz (L : List Lb) : Nat := (L.map fun x => 1 + tsz x.2).sum
theorem bld_tsz : ∀ (L : List Lb) (e : Tm), tsz (bld L e) = lsz L + tsz e
  | [], e => by simp [bld, lsz]
  | x :: L, e => by
    rw [bld, tsz, tszs, tszs, tszs, bld_tsz L e]
    simp only [lsz, List.map_cons, List.sum_cons]
    omega
theorem spn_tsz {t : Tm} {L : List Lb} {e : Tm} (h : Spn t L e) : tsz t = lsz L + tsz e := by
  induction h with
  | nil t h => simp [lsz]
  | cons n v a r L e h ih =>
    rw [tsz, tszs, tszs, tszs, ih]
    simp only [lsz, List.map_cons, List.sum_cons]
    omega
theorem ins_lsz (x : Lb) : ∀ L : List Lb, lsz (ins ltL x L) = 1 + tsz x.2 + lsz L
  | [] => by simp [Go.So.ins, lsz]
  | y :: L => by
    rw [Go.So.ins]
    split
    · have := ins_lsz x L
      simp only [lsz, List.map_cons, List.sum_cons] at this ⊢
      omega
    · simp only [lsz, List.map_cons, List.sum_cons]
theorem isort_lsz : ∀ L : List Lb, lsz (isort ltL L) = lsz L
  | [] => rfl
  | x :: L => by
    have := isort_lsz L
    rw [show isort ltL (x :: L) = ins ltL x (isort ltL L) from rfl, ins_lsz, this]
    simp [lsz]
theorem tszs_sum : ∀ l : List Tm, tszs l = (l.map tsz).sum
  | [] => by rw [tszs]; rfl
  | t :: r => by rw [tszs, tszs_sum r]; simp
theorem nf_tsz : ∀ (n : Nat) (t : Tm), tsz t ≤ n → Val t → tsz (nf t) = tsz t := by
  intro n
  induction n with
  | zero => intro t h; cases t; rw [tsz] at h; omega
  | succ n ih =>
    intro t h hv
    obtain ⟨L, e, hs⟩ := spn_of _ t (Nat.le_refl _) hv
    obtain ⟨h1, h2, h3⟩ := spn_mem hs
    have he := spn_end hs
    have hL : lsz (L.map nfl) = lsz L := by
      simp only [lsz, List.map_map]
      congr 1
      refine List.map_congr_left fun x hx => ?_
      obtain ⟨h8, h9⟩ := h1 x hx
      show 1 + tsz (nf x.2) = 1 + tsz x.2
      rw [ih x.2 (by omega) (h9 hv)]
    have hE : tsz (nf e) = tsz e := by
      rw [nf_oth he]
      obtain ⟨k, m, v, l⟩ := e
      rw [tsz, tsz, tszs_sum, tszs_sum]
      simp only [lof, List.map_map]
      congr 2
      refine List.map_congr_left fun a ha => ?_
      have := tsz_mem (t := .mk k m v l) ha
      exact ih a (by omega) (val_arg (h3 hv) ha)
    rw [nf_spn hs, bld_tsz, isort_lsz, hL, hE, spn_tsz hs]

end Un
end Go.Am
