/-
  DERIVED. GIVEN WITH THE SEED: THE CARDS: each row of YtfleakoephmgaaaDoorRows.lean that lists a variable, with what it lists TIED to the program's text (the seventh form; the later family's looks); each row that meets fmt, with fmt's text TOLD by the authors' own Lean function (tested against real Go, not proved from fmt's source: count such statements apart). THE CARD IS WHAT COUNTS. Prove the row's statement (the work); the ties are given (YtfleakoephmgaaaDoorTie.lean); close each card by the builder's one call (the guide's Derived/Test/ToyasCard.lean, 'card_holds'). Laid BY PROGRAM, IN A SANDBOX (cutbox-door.mjs). By AI agents, Wed Nov 11 2026. No macro, syntax, notation, axiom, sorry.
-/
import Derived.Test.YtfleakoephmgaaaDoorRows
import GoSem.ClaimSeven
namespace Go.Proofs.YtfleakoephmgaaaDoor
namespace Rows

/-- THE TIED CARD OF 'provenancekeep1.UnifyOccurs'. -/
def unifyOccursCard : Claim7 := { stood := { row := unifyOccursRow, standIns := [], harness := (true, "22bd20b44a1b6eeab715e71e50f6617bb6d9ac55f18c6d236ce1de214262c983"), looks := false }, kinds := [], alts := [], laidByText := true, laidKinds := [.data], laidTests := true, laidLooks := .later }
def UnifyOccursCardSaid : Prop := Claim7.holds Tryd.pinned (.plain (OpenSpec.ofChange unifyOccursSpec)) unifyOccursCard

/-- THE TIED CARD OF 'provenancekeep1.UnifyNormal'. -/
def unifyNormalCard : Claim7 := { stood := { row := unifyNormalRow, standIns := [], harness := (true, "22bd20b44a1b6eeab715e71e50f6617bb6d9ac55f18c6d236ce1de214262c983"), looks := false }, kinds := [], alts := [], laidByText := true, laidKinds := [.data], laidTests := true, laidLooks := .later }
def UnifyNormalCardSaid : Prop := Claim7.holds Tryd.pinned (.plain (OpenSpec.ofChange unifyNormalSpec)) unifyNormalCard

/-- THE TIED CARD OF 'provenancekeep1.UnifySymmetric'. -/
def unifySymmetricCard : Claim7 := { stood := { row := unifySymmetricRow, standIns := [], harness := (true, "22bd20b44a1b6eeab715e71e50f6617bb6d9ac55f18c6d236ce1de214262c983"), looks := false }, kinds := [], alts := [], laidByText := true, laidKinds := [.data], laidTests := true, laidLooks := .later }
def UnifySymmetricCardSaid : Prop := Claim7.holds Tryd.pinned (.plain (OpenSpec.ofChange unifySymmetricSpec)) unifySymmetricCard

/-- THE TIED CARD OF 'provenancekeep1.UnifyRows'. -/
def unifyRowsCard : Claim7 := { stood := { row := unifyRowsRow, standIns := [], harness := (true, "22bd20b44a1b6eeab715e71e50f6617bb6d9ac55f18c6d236ce1de214262c983"), looks := false }, kinds := [], alts := [], laidByText := true, laidKinds := [.data], laidTests := true, laidLooks := .later }
def UnifyRowsCardSaid : Prop := Claim7.holds Tryd.pinned (.plain (OpenSpec.ofChange unifyRowsSpec)) unifyRowsCard

/-- THE TIED CARD OF 'provenancekeep1.UnifyStable'. -/
def unifyStableCard : Claim7 := { stood := { row := unifyStableRow, standIns := [], harness := (true, "22bd20b44a1b6eeab715e71e50f6617bb6d9ac55f18c6d236ce1de214262c983"), looks := false }, kinds := [], alts := [], laidByText := true, laidKinds := [.data], laidTests := true, laidLooks := .later }
def UnifyStableCardSaid : Prop := Claim7.holds Tryd.pinned (.plain (OpenSpec.ofChange unifyStableSpec)) unifyStableCard

/-- THE TIED CARD OF 'provenancekeep1.UnifyExtends'. -/
def unifyExtendsCard : Claim7 := { stood := { row := unifyExtendsRow, standIns := [], harness := (true, "22bd20b44a1b6eeab715e71e50f6617bb6d9ac55f18c6d236ce1de214262c983"), looks := false }, kinds := [], alts := [], laidByText := true, laidKinds := [.data], laidTests := true, laidLooks := .later }
def UnifyExtendsCardSaid : Prop := Claim7.holds Tryd.pinned (.plain (OpenSpec.ofChange unifyExtendsSpec)) unifyExtendsCard

/-- THE TIED CARD OF 'provenancekeep1.UnifyInstances'. -/
def unifyInstancesCard : Claim7 := { stood := { row := unifyInstancesRow, standIns := [], harness := (true, "22bd20b44a1b6eeab715e71e50f6617bb6d9ac55f18c6d236ce1de214262c983"), looks := false }, kinds := [], alts := [], laidByText := true, laidKinds := [.data], laidTests := true, laidLooks := .later }
def UnifyInstancesCardSaid : Prop := Claim7.holds Tryd.pinned (.plain (OpenSpec.ofChange unifyInstancesSpec)) unifyInstancesCard

/-- THE TIED CARD OF 'provenancekeep1.ClassesSupers'. -/
def classesSupersCard : Claim7 := { stood := { row := classesSupersRow, standIns := [], harness := (true, "22bd20b44a1b6eeab715e71e50f6617bb6d9ac55f18c6d236ce1de214262c983"), looks := false }, kinds := [], alts := [], laidByText := true, laidKinds := [.data, .data, .data, .data], laidTests := true, laidLooks := .later }
def ClassesSupersCardSaid : Prop := Claim7.holds Tryd.pinned (.plain (OpenSpec.ofChange classesSupersSpec)) classesSupersCard

/-- THE TIED CARD OF 'provenancekeep1.ClassesWeakened'. -/
def classesWeakenedCard : Claim7 := { stood := { row := classesWeakenedRow, standIns := [], harness := (true, "22bd20b44a1b6eeab715e71e50f6617bb6d9ac55f18c6d236ce1de214262c983"), looks := false }, kinds := [], alts := [], laidByText := true, laidKinds := [.data, .data, .data, .data], laidTests := true, laidLooks := .later }
def ClassesWeakenedCardSaid : Prop := Claim7.holds Tryd.pinned (.plain (OpenSpec.ofChange classesWeakenedSpec)) classesWeakenedCard

/-- THE TIED CARD OF 'provenancekeep1.ClassesForged'. -/
def classesForgedCard : Claim7 := { stood := { row := classesForgedRow, standIns := [], harness := (true, "22bd20b44a1b6eeab715e71e50f6617bb6d9ac55f18c6d236ce1de214262c983"), looks := false }, kinds := [], alts := [], laidByText := true, laidKinds := [.data, .data, .data, .data], laidTests := true, laidLooks := .later }
def ClassesForgedCardSaid : Prop := Claim7.holds Tryd.pinned (.plain (OpenSpec.ofChange classesForgedSpec)) classesForgedCard

/-- THE TIED CARD OF 'provenancekeep1.ClassesReduced'. -/
def classesReducedCard : Claim7 := { stood := { row := classesReducedRow, standIns := [], harness := (true, "22bd20b44a1b6eeab715e71e50f6617bb6d9ac55f18c6d236ce1de214262c983"), looks := false }, kinds := [], alts := [], laidByText := true, laidKinds := [.data, .data, .data, .data], laidTests := true, laidLooks := .later }
def ClassesReducedCardSaid : Prop := Claim7.holds Tryd.pinned (.plain (OpenSpec.ofChange classesReducedSpec)) classesReducedCard

/-- THE SECOND FORM's CARD OF 'provenancekeep1.UnifyOccurs'. -/
def unifyOccursUptoCard : Claim7 := { stood := { row := unifyOccursUptoRow, standIns := [], harness := (true, "22bd20b44a1b6eeab715e71e50f6617bb6d9ac55f18c6d236ce1de214262c983"), looks := false }, kinds := [], alts := [], laidByText := true, laidKinds := [.data], laidTests := true, laidLooks := .later }
def UnifyOccursUptoCardSaid : Prop := Claim7.holds Tryd.pinned (.plain (OpenSpec.upto unifyOccursSpec)) unifyOccursUptoCard

/-- THE SECOND FORM's CARD OF 'provenancekeep1.UnifyNormal'. -/
def unifyNormalUptoCard : Claim7 := { stood := { row := unifyNormalUptoRow, standIns := [], harness := (true, "22bd20b44a1b6eeab715e71e50f6617bb6d9ac55f18c6d236ce1de214262c983"), looks := false }, kinds := [], alts := [], laidByText := true, laidKinds := [.data], laidTests := true, laidLooks := .later }
def UnifyNormalUptoCardSaid : Prop := Claim7.holds Tryd.pinned (.plain (OpenSpec.upto unifyNormalSpec)) unifyNormalUptoCard

/-- THE SECOND FORM's CARD OF 'provenancekeep1.UnifySymmetric'. -/
def unifySymmetricUptoCard : Claim7 := { stood := { row := unifySymmetricUptoRow, standIns := [], harness := (true, "22bd20b44a1b6eeab715e71e50f6617bb6d9ac55f18c6d236ce1de214262c983"), looks := false }, kinds := [], alts := [], laidByText := true, laidKinds := [.data], laidTests := true, laidLooks := .later }
def UnifySymmetricUptoCardSaid : Prop := Claim7.holds Tryd.pinned (.plain (OpenSpec.upto unifySymmetricSpec)) unifySymmetricUptoCard

/-- THE SECOND FORM's CARD OF 'provenancekeep1.UnifyRows'. -/
def unifyRowsUptoCard : Claim7 := { stood := { row := unifyRowsUptoRow, standIns := [], harness := (true, "22bd20b44a1b6eeab715e71e50f6617bb6d9ac55f18c6d236ce1de214262c983"), looks := false }, kinds := [], alts := [], laidByText := true, laidKinds := [.data], laidTests := true, laidLooks := .later }
def UnifyRowsUptoCardSaid : Prop := Claim7.holds Tryd.pinned (.plain (OpenSpec.upto unifyRowsSpec)) unifyRowsUptoCard

/-- THE SECOND FORM's CARD OF 'provenancekeep1.UnifyStable'. -/
def unifyStableUptoCard : Claim7 := { stood := { row := unifyStableUptoRow, standIns := [], harness := (true, "22bd20b44a1b6eeab715e71e50f6617bb6d9ac55f18c6d236ce1de214262c983"), looks := false }, kinds := [], alts := [], laidByText := true, laidKinds := [.data], laidTests := true, laidLooks := .later }
def UnifyStableUptoCardSaid : Prop := Claim7.holds Tryd.pinned (.plain (OpenSpec.upto unifyStableSpec)) unifyStableUptoCard

/-- THE SECOND FORM's CARD OF 'provenancekeep1.UnifyExtends'. -/
def unifyExtendsUptoCard : Claim7 := { stood := { row := unifyExtendsUptoRow, standIns := [], harness := (true, "22bd20b44a1b6eeab715e71e50f6617bb6d9ac55f18c6d236ce1de214262c983"), looks := false }, kinds := [], alts := [], laidByText := true, laidKinds := [.data], laidTests := true, laidLooks := .later }
def UnifyExtendsUptoCardSaid : Prop := Claim7.holds Tryd.pinned (.plain (OpenSpec.upto unifyExtendsSpec)) unifyExtendsUptoCard

/-- THE SECOND FORM's CARD OF 'provenancekeep1.UnifyInstances'. -/
def unifyInstancesUptoCard : Claim7 := { stood := { row := unifyInstancesUptoRow, standIns := [], harness := (true, "22bd20b44a1b6eeab715e71e50f6617bb6d9ac55f18c6d236ce1de214262c983"), looks := false }, kinds := [], alts := [], laidByText := true, laidKinds := [.data], laidTests := true, laidLooks := .later }
def UnifyInstancesUptoCardSaid : Prop := Claim7.holds Tryd.pinned (.plain (OpenSpec.upto unifyInstancesSpec)) unifyInstancesUptoCard

/-- THE SECOND FORM's CARD OF 'provenancekeep1.ClassesSupers'. -/
def classesSupersUptoCard : Claim7 := { stood := { row := classesSupersUptoRow, standIns := [], harness := (true, "22bd20b44a1b6eeab715e71e50f6617bb6d9ac55f18c6d236ce1de214262c983"), looks := false }, kinds := [], alts := [], laidByText := true, laidKinds := [.data, .data, .data, .data], laidTests := true, laidLooks := .later }
def ClassesSupersUptoCardSaid : Prop := Claim7.holds Tryd.pinned (.plain (OpenSpec.upto classesSupersSpec)) classesSupersUptoCard

/-- THE SECOND FORM's CARD OF 'provenancekeep1.ClassesWeakened'. -/
def classesWeakenedUptoCard : Claim7 := { stood := { row := classesWeakenedUptoRow, standIns := [], harness := (true, "22bd20b44a1b6eeab715e71e50f6617bb6d9ac55f18c6d236ce1de214262c983"), looks := false }, kinds := [], alts := [], laidByText := true, laidKinds := [.data, .data, .data, .data], laidTests := true, laidLooks := .later }
def ClassesWeakenedUptoCardSaid : Prop := Claim7.holds Tryd.pinned (.plain (OpenSpec.upto classesWeakenedSpec)) classesWeakenedUptoCard

/-- THE SECOND FORM's CARD OF 'provenancekeep1.ClassesForged'. -/
def classesForgedUptoCard : Claim7 := { stood := { row := classesForgedUptoRow, standIns := [], harness := (true, "22bd20b44a1b6eeab715e71e50f6617bb6d9ac55f18c6d236ce1de214262c983"), looks := false }, kinds := [], alts := [], laidByText := true, laidKinds := [.data, .data, .data, .data], laidTests := true, laidLooks := .later }
def ClassesForgedUptoCardSaid : Prop := Claim7.holds Tryd.pinned (.plain (OpenSpec.upto classesForgedSpec)) classesForgedUptoCard

/-- THE SECOND FORM's CARD OF 'provenancekeep1.ClassesReduced'. -/
def classesReducedUptoCard : Claim7 := { stood := { row := classesReducedUptoRow, standIns := [], harness := (true, "22bd20b44a1b6eeab715e71e50f6617bb6d9ac55f18c6d236ce1de214262c983"), looks := false }, kinds := [], alts := [], laidByText := true, laidKinds := [.data, .data, .data, .data], laidTests := true, laidLooks := .later }
def ClassesReducedUptoCardSaid : Prop := Claim7.holds Tryd.pinned (.plain (OpenSpec.upto classesReducedSpec)) classesReducedUptoCard
end Rows
end Go.Proofs.YtfleakoephmgaaaDoor
