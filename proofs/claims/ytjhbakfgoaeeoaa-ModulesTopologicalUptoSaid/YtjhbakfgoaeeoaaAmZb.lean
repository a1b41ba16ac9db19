/- Each module comes after those that it imports, and there is an order exactly if there is no cycle, where what comes in is of bulk at most 1048576: modulesTopological.proved. Conditions: that bound. -/
import Derived.Test.YtjhbakfgoaeeoaaAmMq
import Derived.Test.YtjhbakfgoaeeoaaAmMh
import Derived.Test.YtjhbakfgoaeeoaaRows
import Derived.WalkKit
import Derived.ProofKit
import Derived.OpenShut
import Derived.ShutString
import Derived.JoinedCond
import Derived.Deep.CondSized
namespace Go.Proofs.Ytjhbakfgoaeeoaa.modulesTopological
open Go.ChangeShapes Go.WideShapes Go.ChangeAt Go.RowKit
set_option linter.unusedVariables false
theorem own : ownKnob Try.prog.godebug = none := by kernel_rfl
theorem laid : laidOutB Try.prog = true := by kernel_rfl
def ts : List TypeId := [9, 22, 23]
theorem closed : Am.closedB Try.prog ts = true := by kernel_rfl
theorem sizes : ts.all (fun t => decide (Try.prog.bytesOf t ≤ 24)) = true := by kernel_rfl
set_option maxRecDepth 100000 in
theorem lifted (os : Os) (started : os.Started) (H : Type) (enc : TypeId × Value → H) (F : Stop.Interp) :
    ReturnsInHanded {} Try.checked os 5 .any ((Rows.OpenSpec.upto Rows.modulesTopologicalSpec).pre6 enc Try.prog Try.f5 Rows.modulesTopologicalUptoRow.domain false) (((Rows.OpenSpec.upto Rows.modulesTopologicalSpec).at F).post enc Try.prog Try.f5 false true false false) := by
  refine returnsInHanded_of_cond_sized (C := Try.checked) (s := Rows.OpenSpec.upto Rows.modulesTopologicalSpec) (k := Rows.uptoSmall) rfl own started (by kernel_rfl) Try.func5
    (OpenSpec.witness (enc := enc) (C := Try.checked) (s := Rows.OpenSpec.upto Rows.modulesTopologicalSpec) (k := Rows.uptoSmall) rfl false ⟨#[], #[.slice none 0 0, .slice none 0 0], []⟩ 8 (by kernel_rfl) (by kernel_rfl) (by kernel_rfl)
      (x := ([.nil, .nil], [], [])) (by kernel_rfl) rfl (by kernel_rfl)) ?_
  intro W base args ds gs before hval0 hW hcnd hk hsz0 _
  have hval : ∀ (j : Nat) t v, Try.f5.params[j]? = some t → args[j]? = some v → Value.okWide Try.prog W .any base t v := hval0
  have hW' := hW
  obtain ⟨p, q, hA0, hV, rfl, hfz, hnd⟩ := hW
  have hA : DataW.TrodAll enc Try.prog W 0 (fun _ => true) true Try.f5.params.toList args.toList ds p := hA0
  rw [Try.params5] at hA hval
  obtain ⟨rfl, rfl⟩ := trodVars_none hV
  have hsz := Am.M2.each_le (P := Try.prog) (B := 1048576) closed sizes (by decide) (us := [22, 23]) (by kernel_rfl) (l := ds) (by rw [List.append_nil] at hk; exact of_decide_eq_true hk)
  have hA1 := hA
  obtain ⟨v0, vs0, d0, ds0, p0, q0, hargs, rfl, rfl, h0, r0⟩ := trodAll_cons hA1
  obtain ⟨v1, vs1, d1, ds1, p1, q1, rfl, rfl, rfl, h1, r1⟩ := trodAll_cons r0
  obtain ⟨rfl, rfl, rfl⟩ := trodAll_nil r1
  refine (Am.law_calls (R := Am.M2.R0) (Am.M2.good Am.M2.hX) (fun g cs h => by cases h) closed (pts := [22, 23]) (by kernel_rfl) laid (by kernel_rfl) Am.M2.topo_all (fun j t v ht hv => hval j t v (by simpa using ht) hv) hA hsz (fun x hx => hW'.lt x (by simp only [List.append_nil] at hx ⊢; exact hx))).mono fun e W' ⟨he, bel, hb⟩ => ?_
  subst he
  exact ⟨_, rfl, _, _, _, [], _, [], hW', trodAll_mk1 (shut_bool Try.underlying4 _), hb, rfl, bel.frame _, fun h => by cases h⟩
theorem over : Rows.modulesTopologicalUptoRow.holds Try.pinned (Rows.OpenSpec.upto Rows.modulesTopologicalSpec) :=
  OpenClaim.holds_of_cond 5 Try.f5 rfl rfl rfl rfl rfl rfl rfl ⟨rfl, rfl, rfl, rfl, rfl⟩ rfl rfl rfl rfl rfl (by kernel_rfl) Try.func5 (by kernel_rfl)
    (of_decide_eq_true (by kernel_rfl)) (by unfold Func.isWrapper; first | (rw [if_pos (by decide +kernel)]; kernel_rfl) | (rw [if_neg (by decide +kernel)]; exact ⟨rfl, rfl⟩))
    (fun os started H enc _ F => lifted os started H enc F)
theorem proved : Rows.ModulesTopologicalUptoSaid := over
#print axioms proved
end Go.Proofs.Ytjhbakfgoaeeoaa.modulesTopological
