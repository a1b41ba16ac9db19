/- Functions that are told by a law of their own: from what the law says of Go's run to what the abstract machine wants. Conditions: none. -/
import Derived.Test.YtfleakoephmgaaaDoorAmL
import Derived.Below
set_option linter.unusedSimpArgs false
set_option linter.unusedVariables false
namespace Go.Am
open Go.RowKit

variable {G : Glob} {P : Program}

/-- Old memory is as it was. -/
theorem below_mono {ρ : Rho} {s : St} {w w' : World} (hS : Sim ρ s w) (hb : Below w.heap.size w w') : Mono ρ w s.size ρ w' s.size := by
  refine ⟨Nat.le_refl _, fun b o h => ⟨h, ?_⟩, fun _ _ _ => rfl, fun _ _ _ => rfl, fun _ _ => rfl, fun _ _ h => h⟩
  have := imm_lt hS h
  simp only [World.cell?, hb.block b this]

theorem below_sim {ρ : Rho} {s : St} {w w' : World} (hS : Sim ρ s w) (hb : Below w.heap.size w w') : Fr ρ s w ρ s w' ∧ Sim ρ s w' := by
  have hm := below_mono hS hb
  refine ⟨⟨hm, hb.os, hb.tape, hb.output, hb.size, fun b h _ => ⟨rfl, hb.block b h⟩, fun _ _ => rfl, fun _ => rfl⟩, fun b h => hS.free b (Nat.le_trans hb.size h), hS.pn, ?_, ?_, froz_mono hS hm (fun _ _ h => h) (fun _ _ h => h), map_mono hS hm (fun _ _ h => h) (fun j es _ _ hl hlt => ⟨hl, hb.block _ hlt⟩)⟩
  · intro i cs h hp
    obtain ⟨h1, h2, vs, rest, ty, h3, h4, h5⟩ := hS.cells i cs h hp
    refine ⟨h1, h2, vs, rest, ty, ?_, h4.mono hm, h5⟩
    rw [hb.block _ (blk_lt hS h hp)]; exact h3
  · intro t h
    obtain ⟨h1, b, len, cap, z, h2, h3, vs, ty, h4, h5⟩ := hS.right t h
    refine ⟨h1, b, len, cap, z, h2, h3, vs, ty, ?_, h5⟩
    rw [hb.block _ (Array.getElem?_eq_some_iff.1 h4).1]; exact h4

/-- A call that leaves memory alone and gives a value. -/
theorem callC_of {f : Nat} {args : List AV} {s : St} {v : AV}
    (h : ∀ ρ w (argv : List Value), Sim ρ s w → GlobR G ρ w s.size → Vs ρ w s.size args argv →
      (∀ w1, (callFunc f argv.toArray).run P w1 = .ok (.enter f argv.toArray) w1) ∧
      Calls P f argv.toArray w fun en w' => ∃ v', en = .returned v' ∧ Below w.heap.size w w' ∧ (Mono ρ w s.size ρ w' s.size → V ρ w' s.size v v')) : CallC G P f args s v s := by
  intro ρ w argv hS hG hV
  obtain ⟨h1, h2⟩ := h ρ w argv hS hG hV
  refine ⟨h1, h2.mono ?_⟩
  rintro en w' ⟨v', he, hb, hv⟩
  obtain ⟨hF, hS'⟩ := below_sim hS hb
  exact ⟨ρ, v', he, hF, hS', hv hF.mono⟩
end Go.Am
