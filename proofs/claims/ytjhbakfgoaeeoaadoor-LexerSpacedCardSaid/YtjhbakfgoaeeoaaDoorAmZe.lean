/- Tokens with spaces between them are scanned as the same tokens: lexerSpaced.proved (the tied card). Conditions: none. -/
import Derived.Test.YtjhbakfgoaeeoaaDoorAmSc
import Derived.Test.YtjhbakfgoaeeoaaDoorAmY6
import Derived.Test.YtjhbakfgoaeeoaaDoorAmY9
import Derived.Test.YtjhbakfgoaeeoaaDoorCards
import Derived.Test.YtjhbakfgoaeeoaaDoorTie
import Derived.WalkKit
import Derived.ProofKit
import Derived.OpenShut
import Derived.ShutString
import Derived.ChangeOld
import Derived.LaidMore
import Derived.Lay
import Derived.SevenTiedAt
import Derived.Shelf.Vars
set_option linter.unusedSimpArgs false
set_option linter.unusedVariables false
namespace Go.Proofs.YtjhbakfgoaeeoaaDoor.lexerSpaced
open Go.ChangeShapes Go.WideShapes Go.ChangeAt Go.RowKit
set_option linter.unusedVariables false
theorem own : ownKnob Tryd.prog.godebug = none := by kernel_rfl
theorem laid : laidOutB Tryd.prog = true := by kernel_rfl
def ts : List TypeId := [3, 9]
theorem closed : Am.closedB Tryd.prog ts = true := by kernel_rfl
set_option maxRecDepth 100000 in
theorem lifted (os : Os) (started : os.Started) (H : Type) (enc : TypeId × Value → H) :
    ReturnsInHanded {} Tryd.checked os 7 .any (fun w args => (Rows.lexerSpacedSpec.pre enc Tryd.prog Tryd.f7 Rows.lexerSpacedRow.domain false w args ∧ laidMetH Tryd.prog Rows.lexerSpacedRow.laid w) ∧ sizedMet enc Tryd.prog Tryd.f7 (OpenSpec.ofChange Rows.lexerSpacedSpec) false w args)
      (Rows.lexerSpacedSpec.post enc Tryd.prog Tryd.f7 false true false false) := by
  refine returnsInHanded_of_change_and_shaped (C := Tryd.checked) (X := fun w _ => laidMetH Tryd.prog Rows.lexerSpacedRow.laid w) (fun _ _ _ hh h => h.of_heap hh) own started (by kernel_rfl) Tryd.func7
    (ChangeSpec.witness_shaped (enc := enc) (C := Tryd.checked) (os := os) (X := fun w _ => laidMetH Tryd.prog Rows.lexerSpacedRow.laid w) false (World.laidAll Tryd.prog os Rows.lexerSpacedRow.laid) #[.string ⟨#[]⟩] 8 (World.laidAll_os _ _ _)
      (World.shaped_of_ZipB (by kernel_rfl) (by kernel_rfl)) (by kernel_rfl) (by kernel_rfl) (by kernel_rfl)
      (by rw [MakeChecks.laidMetH_plain _ _ _ (by kernel_rfl)]; exact laidMet_laidAll _ (by kernel_rfl) (by kernel_rfl))) ?_
  intro W base args ds gs before hval0 hW hsz0 hL hsh
  have hsz : (DataW.weightsEach Tryd.prog (Tryd.f7.params.toList ++ Rows.lexerSpacedSpec.plain.varTypes Tryd.prog) (ds ++ gs)).all (· ≤ reachBytes) = true := hsz0
  have hval : ∀ (j : Nat) t v, Tryd.f7.params[j]? = some t → args[j]? = some v → Value.okWide Tryd.prog W .any base t v := hval0
  obtain ⟨m, hm⟩ := cell_of_shapedOpen_int (P := Tryd.prog) (g := 1) (t := 3) (zero := #[.int .i64 0]) (k := .i64) hsh (by decide +kernel) (by kernel_rfl) rfl (by kernel_rfl) (by kernel_rfl) Tryd.underlying3
  have hW' := hW
  obtain ⟨p, q, hA0, hV, rfl, hfz, hnd⟩ := hW
  have hA : DataW.TrodAll enc Tryd.prog W 0 (fun _ => true) true Tryd.f7.params.toList args.toList ds p := hA0
  rw [Tryd.params7] at hA hval hsz
  obtain ⟨rfl, rfl⟩ := trodVars_none hV
  have hA1 := hA
  obtain ⟨v0, vs0, d0, ds0, p0, q0, hargs0, rfl, rfl, h0, r0⟩ := trodAll_cons hA1
  obtain ⟨rfl, rfl, rfl⟩ := trodAll_nil r0
  obtain ⟨vs, h1, h2⟩ := Am.read_args (R := reachBytes) closed [9] args.toList _ _ (fun t ht => by simp at ht; subst ht; decide) (fun j t v ht hv => hval j t v (by simpa using ht) (by simpa using hv)) hA hsz
  have arg : ∀ (s : ByteArray) (l : List Value), Am.Vs (Am.rho0 W) W 0 [.str s] l → l = [.string s] := fun s l h => by
    cases h with
    | cons _ v _ vs h hs => cases hs; cases h; rfl
  cases h1 with
  | cons t a ts us h1 hs =>
    cases hs
    obtain ⟨s, rfl, hs⟩ := Am.str_arg Tryd.underlying9 h1
    have hargs' : args = #[.string s] := by rw [← Array.toArray_toList (xs := args), arg s _ h2]
    have hbig : s.size ≤ Am.L1.big := by simp only [reachBytes] at hs; simp only [Am.L1.big]; omega
    have hC := Am.Y3.spaced_calls m s hbig W hm
    rw [← hargs'] at hC
    refine hC.mono fun e W' ⟨he, bel⟩ => ?_
    subst he
    have hb := Am.back laid bel [9] args.toList _ _ (by kernel_rfl) hA (fun x hx => hW'.lt x (by simp only [List.append_nil] at hx ⊢; exact hx))
    exact ⟨_, rfl, _, _, _, [], _, [], hW', trodAll_mk1 (shut_bool Tryd.underlying4 _), hb, rfl, bel.frame _, fun h => by cases h⟩
theorem holds : Rows.LexerSpacedSaid :=
  OpenClaim.holds_of_wide 7 Tryd.f7 rfl rfl rfl rfl rfl rfl rfl ⟨rfl, rfl, rfl, rfl, rfl⟩ rfl rfl rfl rfl rfl (by kernel_rfl) Tryd.func7 (by kernel_rfl)
    (of_decide_eq_true (by kernel_rfl)) (by unfold Func.isWrapper; first | (rw [if_pos (by decide +kernel)]; kernel_rfl) | (rw [if_neg (by decide +kernel)]; exact ⟨rfl, rfl⟩))
    (fun os started H enc _ => lifted os started H enc)
theorem proved : Rows.LexerSpacedCardSaid :=
  Claim7.holds_tied_plain_at .later [] [.data, .pinned] true Rows.lexerSpacedCard.stood.harness false holds (fun _ h => by cases h) (by kernel_rfl) (fun _ h => by cases h) lexerSpaced_row_tie rfl ⟨rfl, rfl⟩ (by kernel_rfl) rfl
    (fun f fn hf hfn => by
      obtain rfl : f = 7 := Option.some.inj ((show Tryd.prog.funcNamed Rows.lexerSpacedRow.func = some 7 by kernel_rfl).symm.trans hf) |>.symm
      obtain rfl : fn = Tryd.f7 := (Option.some.inj (Tryd.func7.symm.trans hfn)).symm
      exact ⟨by kernel_rfl, fun j t ht => by
        rw [Tryd.params7] at ht
        have hm : t ∈ [9] := by simpa using Array.mem_of_getElem? ht
        have hall : ([9].all fun u => !Tryd.prog.wantsStandIn u) = true := by kernel_rfl
        exact (show Tryd.prog.wantsStandIn t = false by simpa using List.all_eq_true.1 hall t hm)⟩)
    (by kernel_rfl)
#print axioms proved
end Go.Proofs.YtjhbakfgoaeeoaaDoor.lexerSpaced
