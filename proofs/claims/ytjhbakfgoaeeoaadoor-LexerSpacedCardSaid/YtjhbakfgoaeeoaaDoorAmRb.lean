/- (*layout.marker).enclosing as the abstract machine has it. Conditions: none. -/
import Derived.Test.YtjhbakfgoaeeoaaDoorAmRa
import Derived.Test.YtjhbakfgoaeeoaaDoorAmY8
set_option linter.unusedSimpArgs false
set_option linter.unusedVariables false
namespace Go.Am
open Go.RowKit Go.Proofs

/-- The contexts of the first rows. -/
def cxsOf : Nat → List AV → Option (List (Int × ByteArray))
  | 0, _ => some []
  | n + 1, .int .i64 c :: .str o :: r => match cxsOf n r with | some l => some ((c, o) :: l) | none => none
  | _ + 1, _ => none

def enclX : List AV → St → Option (AV × St)
  | [.ptr p 0], st => match st.obj p with
    | some (.cells [.nils, _]) => some (.int .i64 0, st)
    | some (.cells [.msl i 0 n 2, _]) => match st.obj i with
      | some (.cells cs) => match cxsOf n cs with
        | some zs => if n * 24 ≤ 140737488351232 then some (.int .i64 (Tryd.enclV zs.reverse), st) else none
        | none => none
      | _ => none
    | _ => none
  | _, _ => none

theorem cxsOf_spec {ρ : Rho} {w : World} {m : Nat} : ∀ (n : Nat) (cs : List AV) (zs : List (Int × ByteArray)) (vs : List Value), cxsOf n cs = some zs → Vs ρ w m cs vs →
    zs.length = n ∧ ∀ j, j < n → vs[j * 2]? = some (.int .i64 (Tryd.cxAt zs j).1) ∧ vs[j * 2 + 1]? = some (.string (Tryd.cxAt zs j).2)
  | 0, cs, zs, vs, h, _ => by cases h; exact ⟨rfl, fun j hj => by omega⟩
  | n + 1, cs, zs, vs, h, hv => by
    unfold cxsOf at h
    split at h
    · omega
    · rename_i n' c o r he
      split at h
      · rename_i l hl
        cases h
        cases he
        cases hv with
        | cons _ x _ vs1 hx hvs =>
          cases hvs with
          | cons _ y _ vs2 hy hvs2 =>
            cases hx; cases hy
            obtain ⟨h1, h2⟩ := cxsOf_spec _ r l vs2 hl hvs2
            refine ⟨by simp [h1], fun j hj => ?_⟩
            cases j with
            | zero => exact ⟨rfl, rfl⟩
            | succ j =>
              obtain ⟨h3, h4⟩ := h2 j (by omega)
              refine ⟨?_, ?_⟩
              · rw [show (j + 1) * 2 = j * 2 + 1 + 1 by omega]
                simpa [Tryd.cxAt] using h3
              · rw [show (j + 1) * 2 + 1 = (j * 2 + 1) + 1 + 1 by omega]
                simpa [Tryd.cxAt] using h4
      · cases h
    · cases h

theorem encl_callC {G : Glob} (he : ∀ args w, (callFunc 99 args).run Tryd.prog w = .ok (.enter 99 args) w) : ∀ args s v s', enclX args s = some (v, s') → CallC G Tryd.prog 99 args s v s' := by
  intro args s v s' h
  have cell2 : ∀ (p : Nat) (ρ : Rho) (w : World) (a b : AV), Sim ρ s w → s.obj p = some (.cells [a, b]) → ρ.pend p = false → ρ.blk p < w.heap.size ∧ ∃ sv, V ρ w s.size a sv ∧ w.cell? ⟨ρ.blk p, 0, none⟩ = some sv := by
    intro p ρ w a b hS ho hp
    obtain ⟨-, -, vs, rest, ty, hh, hvs, -⟩ := hS.cells p _ ho hp
    obtain ⟨y, z, rfl, hy, -⟩ := argv2 hvs
    exact ⟨blk_lt hS ho hp, y, hy, by simp [World.cell?, hh]⟩
  unfold enclX at h
  split at h
  · rename_i p
    split at h
    · rename_i ov ho
      cases h
      refine callC_of fun ρ w argv hS hG hV => ⟨he _, ?_⟩
      obtain ⟨x, rfl, hx⟩ := argv1 hV
      cases hx with
      | ptr _ _ hi hp =>
        obtain ⟨hb, sv, hsv, hcell⟩ := cell2 p ρ w _ _ hS ho hp
        cases hsv
        refine (Tryd.encl (ρ.blk p) 0 none 0 0 [] w hb hcell (Or.inl ⟨_, _, rfl, rfl⟩)).mono ?_
        rintro e w' ⟨rfl, hbel⟩
        exact ⟨_, rfl, hbel, fun _ => .int _ _⟩
    · rename_i i n ov ho
      split at h
      · rename_i cs hoi
        split at h
        · rename_i zs hzs
          split at h
          · rename_i hnb
            cases h
            refine callC_of fun ρ w argv hS hG hV => ⟨he _, ?_⟩
            obtain ⟨x, rfl, hx⟩ := argv1 hV
            cases hx with
            | ptr _ _ hi hp =>
              obtain ⟨hb, sv, hsv, hcell⟩ := cell2 p ρ w _ _ hS ho hp
              cases hsv with
              | msl _ _ _ cap _ hj hjp hlc htot =>
                obtain ⟨-, -, vs, rest, ty, hh, hvs, -⟩ := hS.cells i _ hoi hjp
                obtain ⟨hzl, hat⟩ := cxsOf_spec n cs zs vs hzs hvs
                have hget : ∀ (j : Nat) u, vs[j]? = some u → w.cell? ⟨ρ.blk i, 0 + j, none⟩ = some u := fun j u hj => by
                  have hlt := (List.getElem?_eq_some_iff.1 hj).1
                  simp [World.cell?, hh, List.getElem?_append_left hlt, hj]
                refine (Tryd.encl (ρ.blk p) 0 (some ⟨ρ.blk i, 0, none⟩) n cap zs w hb hcell (Or.inr ⟨ρ.blk i, 0, cap, by rw [hzl], blk_lt hS hoi hjp, by rw [hzl]; exact hnb, fun j hj => ?_, fun j hj => ?_⟩)).mono ?_
                · exact hget (j * 2) _ (hat j (by omega)).1
                · rw [Nat.add_assoc]; exact hget (j * 2 + 1) _ (hat j (by omega)).2
                · rintro e w' ⟨rfl, hbel⟩
                  exact ⟨_, rfl, hbel, fun _ => .int _ _⟩
          · cases h
        · cases h
      · cases h
    · cases h
  · cases h
end Go.Am
