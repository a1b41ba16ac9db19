/-
  DERIVED. GIVEN WITH THE SEED: THE CARDS: each row of YtjhbakfgoaeeoaaDoorRows.lean that lists a variable, with what it lists TIED to the program's text (the seventh form; the later family's looks); each row that meets fmt, with fmt's text TOLD by the authors' own Lean function (tested against real Go, not proved from fmt's source: count such statements apart). THE CARD IS WHAT COUNTS. Prove the row's statement (the work); the ties are given (YtjhbakfgoaeeoaaDoorTie.lean); close each card by the builder's one call (the guide's Derived/Test/ToyasCard.lean, 'card_holds'). Laid BY PROGRAM, IN A SANDBOX (cutbox-door.mjs). By AI agents, Wed Nov 11 2026. No macro, syntax, notation, axiom, sorry.
-/
import Derived.Test.YtjhbakfgoaeeoaaDoorRows
import GoSem.ClaimSeven
namespace Go.Proofs.YtjhbakfgoaeeoaaDoor
namespace Rows

/-- THE TIED CARD OF 'provenancekeep1.KindsOnce'. -/
def kindsOnceCard : Claim7 := { stood := { row := kindsOnceRow, standIns := [], harness := (true, "2fb01c2a6a52b9c6f7c403cd617cfedf40087b540dd794223b62b2d8aa2f5db6"), looks := false }, kinds := [], alts := [], laidByText := true, laidKinds := [.data], laidTests := true, laidLooks := .later }
def KindsOnceCardSaid : Prop := Claim7.holds Tryd.pinned (.plain (OpenSpec.ofChange kindsOnceSpec)) kindsOnceCard

/-- THE TIED CARD OF 'provenancekeep1.KindsPermuted'. -/
def kindsPermutedCard : Claim7 := { stood := { row := kindsPermutedRow, standIns := [], harness := (true, "2fb01c2a6a52b9c6f7c403cd617cfedf40087b540dd794223b62b2d8aa2f5db6"), looks := false }, kinds := [], alts := [], laidByText := true, laidKinds := [.data], laidTests := true, laidLooks := .later }
def KindsPermutedCardSaid : Prop := Claim7.holds Tryd.pinned (.plain (OpenSpec.ofChange kindsPermutedSpec)) kindsPermutedCard

/-- THE TIED CARD OF 'provenancekeep1.SourceBack'. -/
def sourceBackCard : Claim7 := { stood := { row := sourceBackRow, standIns := [], harness := (true, "2fb01c2a6a52b9c6f7c403cd617cfedf40087b540dd794223b62b2d8aa2f5db6"), looks := false }, kinds := [], alts := [], laidByText := true, laidKinds := [.data, .pinned], laidTests := true, laidLooks := .later }
def SourceBackCardSaid : Prop := Claim7.holds Tryd.pinned (.plain (OpenSpec.ofChange sourceBackSpec)) sourceBackCard

/-- THE TIED CARD OF 'provenancekeep1.SourceLines'. -/
def sourceLinesCard : Claim7 := { stood := { row := sourceLinesRow, standIns := [], harness := (true, "2fb01c2a6a52b9c6f7c403cd617cfedf40087b540dd794223b62b2d8aa2f5db6"), looks := false }, kinds := [], alts := [], laidByText := true, laidKinds := [.data, .pinned], laidTests := true, laidLooks := .later }
def SourceLinesCardSaid : Prop := Claim7.holds Tryd.pinned (.plain (OpenSpec.ofChange sourceLinesSpec)) sourceLinesCard

/-- THE TIED CARD OF 'provenancekeep1.LexerSpaced'. -/
def lexerSpacedCard : Claim7 := { stood := { row := lexerSpacedRow, standIns := [], harness := (true, "2fb01c2a6a52b9c6f7c403cd617cfedf40087b540dd794223b62b2d8aa2f5db6"), looks := false }, kinds := [], alts := [], laidByText := true, laidKinds := [.data, .pinned], laidTests := true, laidLooks := .later }
def LexerSpacedCardSaid : Prop := Claim7.holds Tryd.pinned (.plain (OpenSpec.ofChange lexerSpacedSpec)) lexerSpacedCard

/-- THE TIED CARD OF 'provenancekeep1.LexerLines'. -/
def lexerLinesCard : Claim7 := { stood := { row := lexerLinesRow, standIns := [], harness := (true, "2fb01c2a6a52b9c6f7c403cd617cfedf40087b540dd794223b62b2d8aa2f5db6"), looks := false }, kinds := [], alts := [], laidByText := true, laidKinds := [.data, .pinned], laidTests := true, laidLooks := .later }
def LexerLinesCardSaid : Prop := Claim7.holds Tryd.pinned (.plain (OpenSpec.ofChange lexerLinesSpec)) lexerLinesCard

/-- THE TIED CARD OF 'provenancekeep1.LayoutBalanced'. -/
def layoutBalancedCard : Claim7 := { stood := { row := layoutBalancedRow, standIns := [], harness := (true, "2fb01c2a6a52b9c6f7c403cd617cfedf40087b540dd794223b62b2d8aa2f5db6"), looks := false }, kinds := [], alts := [], laidByText := true, laidKinds := [.data, .pinned], laidTests := true, laidLooks := .later }
def LayoutBalancedCardSaid : Prop := Claim7.holds Tryd.pinned (.plain (OpenSpec.ofChange layoutBalancedSpec)) layoutBalancedCard

/-- THE TIED CARD OF 'provenancekeep1.LexerPlaces'. -/
def lexerPlacesCard : Claim7 := { stood := { row := lexerPlacesRow, standIns := [], harness := (true, "2fb01c2a6a52b9c6f7c403cd617cfedf40087b540dd794223b62b2d8aa2f5db6"), looks := false }, kinds := [], alts := [], laidByText := true, laidKinds := [.data, .listed, .data, .pinned], laidTests := true, laidLooks := .later }
def LexerPlacesCardSaid : Prop := Claim7.holds Tryd.pinned (.plain (OpenSpec.ofChange lexerPlacesSpec)) lexerPlacesCard

/-- THE TIED CARD OF 'provenancekeep1.LayoutMoved'. -/
def layoutMovedCard : Claim7 := { stood := { row := layoutMovedRow, standIns := [], harness := (true, "2fb01c2a6a52b9c6f7c403cd617cfedf40087b540dd794223b62b2d8aa2f5db6"), looks := false }, kinds := [], alts := [], laidByText := true, laidKinds := [.data, .pinned], laidTests := true, laidLooks := .later }
def LayoutMovedCardSaid : Prop := Claim7.holds Tryd.pinned (.plain (OpenSpec.ofChange layoutMovedSpec)) layoutMovedCard

/-- THE SECOND FORM's CARD OF 'provenancekeep1.KindsOnce'. -/
def kindsOnceUptoCard : Claim7 := { stood := { row := kindsOnceUptoRow, standIns := [], harness := (true, "2fb01c2a6a52b9c6f7c403cd617cfedf40087b540dd794223b62b2d8aa2f5db6"), looks := false }, kinds := [], alts := [], laidByText := true, laidKinds := [.data], laidTests := true, laidLooks := .later }
def KindsOnceUptoCardSaid : Prop := Claim7.holds Tryd.pinned (.plain (OpenSpec.upto kindsOnceSpec)) kindsOnceUptoCard

/-- THE SECOND FORM's CARD OF 'provenancekeep1.KindsPermuted'. -/
def kindsPermutedUptoCard : Claim7 := { stood := { row := kindsPermutedUptoRow, standIns := [], harness := (true, "2fb01c2a6a52b9c6f7c403cd617cfedf40087b540dd794223b62b2d8aa2f5db6"), looks := false }, kinds := [], alts := [], laidByText := true, laidKinds := [.data], laidTests := true, laidLooks := .later }
def KindsPermutedUptoCardSaid : Prop := Claim7.holds Tryd.pinned (.plain (OpenSpec.upto kindsPermutedSpec)) kindsPermutedUptoCard

/-- THE SECOND FORM's CARD OF 'provenancekeep1.SourceBack'. -/
def sourceBackUptoCard : Claim7 := { stood := { row := sourceBackUptoRow, standIns := [], harness := (true, "2fb01c2a6a52b9c6f7c403cd617cfedf40087b540dd794223b62b2d8aa2f5db6"), looks := false }, kinds := [], alts := [], laidByText := true, laidKinds := [.data, .pinned], laidTests := true, laidLooks := .later }
def SourceBackUptoCardSaid : Prop := Claim7.holds Tryd.pinned (.plain (OpenSpec.upto sourceBackSpec)) sourceBackUptoCard

/-- THE SECOND FORM's CARD OF 'provenancekeep1.SourceLines'. -/
def sourceLinesUptoCard : Claim7 := { stood := { row := sourceLinesUptoRow, standIns := [], harness := (true, "2fb01c2a6a52b9c6f7c403cd617cfedf40087b540dd794223b62b2d8aa2f5db6"), looks := false }, kinds := [], alts := [], laidByText := true, laidKinds := [.data, .pinned], laidTests := true, laidLooks := .later }
def SourceLinesUptoCardSaid : Prop := Claim7.holds Tryd.pinned (.plain (OpenSpec.upto sourceLinesSpec)) sourceLinesUptoCard

/-- THE SECOND FORM's CARD OF 'provenancekeep1.LexerSpaced'. -/
def lexerSpacedUptoCard : Claim7 := { stood := { row := lexerSpacedUptoRow, standIns := [], harness := (true, "2fb01c2a6a52b9c6f7c403cd617cfedf40087b540dd794223b62b2d8aa2f5db6"), looks := false }, kinds := [], alts := [], laidByText := true, laidKinds := [.data, .pinned], laidTests := true, laidLooks := .later }
def LexerSpacedUptoCardSaid : Prop := Claim7.holds Tryd.pinned (.plain (OpenSpec.upto lexerSpacedSpec)) lexerSpacedUptoCard

/-- THE SECOND FORM's CARD OF 'provenancekeep1.LexerLines'. -/
def lexerLinesUptoCard : Claim7 := { stood := { row := lexerLinesUptoRow, standIns := [], harness := (true, "2fb01c2a6a52b9c6f7c403cd617cfedf40087b540dd794223b62b2d8aa2f5db6"), looks := false }, kinds := [], alts := [], laidByText := true, laidKinds := [.data, .pinned], laidTests := true, laidLooks := .later }
def LexerLinesUptoCardSaid : Prop := Claim7.holds Tryd.pinned (.plain (OpenSpec.upto lexerLinesSpec)) lexerLinesUptoCard

/-- THE SECOND FORM's CARD OF 'provenancekeep1.LayoutBalanced'. -/
def layoutBalancedUptoCard : Claim7 := { stood := { row := layoutBalancedUptoRow, standIns := [], harness := (true, "2fb01c2a6a52b9c6f7c403cd617cfedf40087b540dd794223b62b2d8aa2f5db6"), looks := false }, kinds := [], alts := [], laidByText := true, laidKinds := [.data, .pinned], laidTests := true, laidLooks := .later }
def LayoutBalancedUptoCardSaid : Prop := Claim7.holds Tryd.pinned (.plain (OpenSpec.upto layoutBalancedSpec)) layoutBalancedUptoCard

/-- THE SECOND FORM's CARD OF 'provenancekeep1.LexerPlaces'. -/
def lexerPlacesUptoCard : Claim7 := { stood := { row := lexerPlacesUptoRow, standIns := [], harness := (true, "2fb01c2a6a52b9c6f7c403cd617cfedf40087b540dd794223b62b2d8aa2f5db6"), looks := false }, kinds := [], alts := [], laidByText := true, laidKinds := [.data, .listed, .data, .pinned], laidTests := true, laidLooks := .later }
def LexerPlacesUptoCardSaid : Prop := Claim7.holds Tryd.pinned (.plain (OpenSpec.upto lexerPlacesSpec)) lexerPlacesUptoCard

/-- THE SECOND FORM's CARD OF 'provenancekeep1.LayoutMoved'. -/
def layoutMovedUptoCard : Claim7 := { stood := { row := layoutMovedUptoRow, standIns := [], harness := (true, "2fb01c2a6a52b9c6f7c403cd617cfedf40087b540dd794223b62b2d8aa2f5db6"), looks := false }, kinds := [], alts := [], laidByText := true, laidKinds := [.data, .pinned], laidTests := true, laidLooks := .later }
def LayoutMovedUptoCardSaid : Prop := Claim7.holds Tryd.pinned (.plain (OpenSpec.upto layoutMovedSpec)) layoutMovedUptoCard
end Rows
end Go.Proofs.YtjhbakfgoaeeoaaDoor
