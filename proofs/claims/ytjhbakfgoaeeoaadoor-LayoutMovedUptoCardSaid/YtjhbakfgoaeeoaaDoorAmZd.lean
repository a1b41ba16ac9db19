/- A text moved to the right is marked as it was, where what comes in is of bulk at most 1048576: layoutMoved.proved (the tied card of the second form). Conditions: that bound. -/
import Derived.Test.YtjhbakfgoaeeoaaDoorAmRu
import Derived.Test.YtjhbakfgoaeeoaaDoorAmYd
import Derived.Test.YtjhbakfgoaeeoaaDoorAmY9
import Derived.Test.YtjhbakfgoaeeoaaDoorCards
import Derived.Test.YtjhbakfgoaeeoaaDoorTie
import Derived.WalkKit
import Derived.ProofKit
import Derived.OpenShut
import Derived.ShutString
import Derived.ChangeOld
import Derived.LaidMore
import Derived.Lay
import Derived.SevenTiedAt
import Derived.Shelf.Vars
set_option linter.unusedSimpArgs false
set_option linter.unusedVariables false
namespace Go.Proofs.YtjhbakfgoaeeoaaDoor.layoutMoved
open Go.ChangeShapes Go.WideShapes Go.ChangeAt Go.RowKit
set_option linter.unusedVariables false
theorem own : ownKnob Tryd.prog.godebug = none := by kernel_rfl
theorem laid : laidOutB Tryd.prog = true := by kernel_rfl
def ts : List TypeId := [3, 9]
theorem closed : Am.closedB Tryd.prog ts = true := by kernel_rfl
theorem sizes : ts.all (fun t => decide (Tryd.prog.bytesOf t ≤ 16)) = true := by kernel_rfl
set_option maxRecDepth 100000 in
theorem lifted (os : Os) (started : os.Started) (H : Type) (enc : TypeId × Value → H) (F : Stop.Interp) :
    ReturnsInHanded {} Tryd.checked os 11 .any (fun w args => ((Rows.OpenSpec.upto Rows.layoutMovedSpec).pre enc Tryd.prog Tryd.f11 Rows.layoutMovedUptoRow.domain false w args ∧ laidMetH Tryd.prog Rows.layoutMovedUptoRow.laid w) ∧ sizedMet enc Tryd.prog Tryd.f11 (Rows.OpenSpec.upto Rows.layoutMovedSpec) false w args)
      (((Rows.OpenSpec.upto Rows.layoutMovedSpec).at F).post enc Tryd.prog Tryd.f11 false true false false) := by
  refine returnsInHanded_of_cond_and_shaped (C := Tryd.checked) (s := Rows.OpenSpec.upto Rows.layoutMovedSpec) (k := Rows.uptoSmall) rfl (X := fun w _ => laidMetH Tryd.prog Rows.layoutMovedUptoRow.laid w) (fun _ _ _ hh h => h.of_heap hh) own started (by kernel_rfl) Tryd.func11
    (OpenSpec.witness_shaped (enc := enc) (C := Tryd.checked) (os := os) (s := Rows.OpenSpec.upto Rows.layoutMovedSpec) (k := Rows.uptoSmall) rfl (X := fun w _ => laidMetH Tryd.prog Rows.layoutMovedUptoRow.laid w) false (World.laidAll Tryd.prog os Rows.layoutMovedUptoRow.laid) #[.string ⟨#[]⟩, .int .i64 0] 8 (World.laidAll_os _ _ _)
      (World.shaped_of_ZipB (by kernel_rfl) (by kernel_rfl)) (by kernel_rfl) (x := ([.lit (.string []), .lit (.int .i64 0)], [], [])) (by kernel_rfl) rfl (by kernel_rfl) (by kernel_rfl)
      (by rw [MakeChecks.laidMetH_plain _ _ _ (by kernel_rfl)]; exact laidMet_laidAll _ (by kernel_rfl) (by kernel_rfl))) ?_
  intro W base args ds gs before hval0 hW hk hsz0 hL hsh
  have hval : ∀ (j : Nat) t v, Tryd.f11.params[j]? = some t → args[j]? = some v → Value.okWide Tryd.prog W .any base t v := hval0
  obtain ⟨m, hm⟩ := cell_of_shapedOpen_int (P := Tryd.prog) (g := 1) (t := 3) (zero := #[.int .i64 0]) (k := .i64) hsh (by decide +kernel) (by kernel_rfl) rfl (by kernel_rfl) (by kernel_rfl) Tryd.underlying3
  have hW' := hW
  obtain ⟨p, q, hA0, hV, rfl, hfz, hnd⟩ := hW
  have hA : DataW.TrodAll enc Tryd.prog W 0 (fun _ => true) true Tryd.f11.params.toList args.toList ds p := hA0
  rw [Tryd.params11] at hA hval
  obtain ⟨rfl, rfl⟩ := trodVars_none hV
  have hsz := Am.Yd.each_le (P := Tryd.prog) (B := 1048576) closed sizes (by decide) (us := [9, 3]) (by kernel_rfl) (l := ds) (by rw [List.append_nil] at hk; exact of_decide_eq_true hk)
  have hA1 := hA
  obtain ⟨v0, vs0, d0, ds0, p0, q0, hargs, rfl, rfl, h0, r0⟩ := trodAll_cons hA1
  obtain ⟨v1, vs1, d1, ds1, p1, q1, rfl, rfl, rfl, h1, r1⟩ := trodAll_cons r0
  obtain ⟨rfl, rfl, rfl⟩ := trodAll_nil r1
  refine (Am.law_calls (R := Am.Y2.R0) (Am.Y2.good2 m (Am.Y2.hX m)) (Am.Y1.glob m hm) closed (pts := [9, 3]) (by kernel_rfl) laid (by kernel_rfl) Am.Y2.moved_all (fun j t v ht hv => hval j t v (by simpa using ht) hv) hA hsz (fun x hx => hW'.lt x (by simp only [List.append_nil] at hx ⊢; exact hx))).mono fun e W' ⟨he, bel, hb⟩ => ?_
  subst he
  exact ⟨_, rfl, _, _, _, [], _, [], hW', trodAll_mk1 (shut_bool Tryd.underlying4 _), hb, rfl, bel.frame _, fun h => by cases h⟩
theorem holds : Rows.LayoutMovedUptoSaid :=
  OpenClaim.holds_of_cond 11 Tryd.f11 rfl rfl rfl rfl rfl rfl rfl ⟨rfl, rfl, rfl, rfl, rfl⟩ rfl rfl rfl rfl rfl (by kernel_rfl) Tryd.func11 (by kernel_rfl)
    (of_decide_eq_true (by kernel_rfl)) (by unfold Func.isWrapper; first | (rw [if_pos (by decide +kernel)]; kernel_rfl) | (rw [if_neg (by decide +kernel)]; exact ⟨rfl, rfl⟩))
    (fun os started H enc _ F => lifted os started H enc F)
theorem proved : Rows.LayoutMovedUptoCardSaid :=
  Claim7.holds_tied_plain_at .later [] [.data, .pinned] true Rows.layoutMovedUptoCard.stood.harness false holds (fun _ h => by cases h) (by kernel_rfl) (fun _ h => by cases h) layoutMovedUpto_row_tie rfl ⟨rfl, rfl⟩ (by kernel_rfl) rfl
    (fun f fn hf hfn => by
      obtain rfl : f = 11 := Option.some.inj ((show Tryd.prog.funcNamed Rows.layoutMovedUptoRow.func = some 11 by kernel_rfl).symm.trans hf) |>.symm
      obtain rfl : fn = Tryd.f11 := (Option.some.inj (Tryd.func11.symm.trans hfn)).symm
      exact ⟨by kernel_rfl, fun j t ht => by
        rw [Tryd.params11] at ht
        have hm : t ∈ [9, 3] := by simpa using Array.mem_of_getElem? ht
        have hall : ([9, 3].all fun u => !Tryd.prog.wantsStandIn u) = true := by kernel_rfl
        exact (show Tryd.prog.wantsStandIn t = false by simpa using List.all_eq_true.1 hall t hm)⟩)
    (by kernel_rfl)
#print axioms proved
end Go.Proofs.YtjhbakfgoaeeoaaDoor.layoutMoved
