/-
  DERIVED. GIVEN WITH THE SEED: THE CARDS: each row of YtbahdcebgcgeeaaDoorRows.lean that lists a variable, with what it lists TIED to the program's text (the seventh form; the later family's looks); each row that meets fmt, with fmt's text TOLD by the authors' own Lean function (tested against real Go, not proved from fmt's source: count such statements apart). THE CARD IS WHAT COUNTS. Prove the row's statement (the work); the ties are given (YtbahdcebgcgeeaaDoorTie.lean); close each card by the builder's one call (the guide's Derived/Test/ToyasCard.lean, 'card_holds'). Laid BY PROGRAM, IN A SANDBOX (cutbox-door.mjs). By AI agents, Wed Nov 11 2026. No macro, syntax, notation, axiom, sorry.
-/
import Derived.Test.YtbahdcebgcgeeaaDoorRows
import GoSem.ClaimSeven
namespace Go.Proofs.YtbahdcebgcgeeaaDoor
namespace Rows

/-- THE TIED CARD OF 'sundiallaw02.FieldLaws'. -/
def fieldLawsCard : Claim7 := { stood := { row := fieldLawsRow, standIns := [], harness := (true, "7c674b6901f2d0d0c85135e6039f43b9b3c5068ff85e5ce273f31a6f1f5d93f0"), looks := false }, kinds := [], alts := [], laidByText := true, laidKinds := [.data], laidTests := true, laidLooks := .later }
def FieldLawsCardSaid : Prop := Claim7.holds Tryd.pinned (.plain (OpenSpec.ofChange fieldLawsSpec)) fieldLawsCard

/-- THE TIED CARD OF 'sundiallaw02.FieldBoxes'. -/
def fieldBoxesCard : Claim7 := { stood := { row := fieldBoxesRow, standIns := [], harness := (true, "7c674b6901f2d0d0c85135e6039f43b9b3c5068ff85e5ce273f31a6f1f5d93f0"), looks := false }, kinds := [], alts := [], laidByText := true, laidKinds := [.data], laidTests := true, laidLooks := .later }
def FieldBoxesCardSaid : Prop := Claim7.holds Tryd.pinned (.plain (OpenSpec.ofChange fieldBoxesSpec)) fieldBoxesCard

/-- THE TIED CARD OF 'sundiallaw02.FieldWords'. -/
def fieldWordsCard : Claim7 := { stood := { row := fieldWordsRow, standIns := [], harness := (true, "7c674b6901f2d0d0c85135e6039f43b9b3c5068ff85e5ce273f31a6f1f5d93f0"), looks := false }, kinds := [], alts := [], laidByText := true, laidKinds := [.data], laidTests := true, laidLooks := .later }
def FieldWordsCardSaid : Prop := Claim7.holds Tryd.pinned (.plain (OpenSpec.ofChange fieldWordsSpec)) fieldWordsCard

/-- THE TIED CARD OF 'sundiallaw02.FieldInverses'. -/
def fieldInversesCard : Claim7 := { stood := { row := fieldInversesRow, standIns := [], harness := (true, "7c674b6901f2d0d0c85135e6039f43b9b3c5068ff85e5ce273f31a6f1f5d93f0"), looks := false }, kinds := [], alts := [], laidByText := true, laidKinds := [.data], laidTests := true, laidLooks := .later }
def FieldInversesCardSaid : Prop := Claim7.holds Tryd.pinned (.plain (OpenSpec.ofChange fieldInversesSpec)) fieldInversesCard

/-- THE TIED CARD OF 'sundiallaw02.FieldTells'. -/
def fieldTellsCard : Claim7 := { stood := { row := fieldTellsRow, standIns := [], harness := (true, "7c674b6901f2d0d0c85135e6039f43b9b3c5068ff85e5ce273f31a6f1f5d93f0"), looks := false }, kinds := [], alts := [], laidByText := true, laidKinds := [.data], laidTests := true, laidLooks := .later }
def FieldTellsCardSaid : Prop := Claim7.holds Tryd.pinned (.plain (OpenSpec.ofChange fieldTellsSpec)) fieldTellsCard

/-- THE TIED CARD OF 'sundiallaw02.FieldRounds'. -/
def fieldRoundsCard : Claim7 := { stood := { row := fieldRoundsRow, standIns := [], harness := (true, "7c674b6901f2d0d0c85135e6039f43b9b3c5068ff85e5ce273f31a6f1f5d93f0"), looks := false }, kinds := [], alts := [], laidByText := true, laidKinds := [.data], laidTests := true, laidLooks := .later }
def FieldRoundsCardSaid : Prop := Claim7.holds Tryd.pinned (.plain (OpenSpec.ofChange fieldRoundsSpec)) fieldRoundsCard

/-- THE SECOND FORM's CARD OF 'sundiallaw02.FieldLaws'. -/
def fieldLawsUptoCard : Claim7 := { stood := { row := fieldLawsUptoRow, standIns := [], harness := (true, "7c674b6901f2d0d0c85135e6039f43b9b3c5068ff85e5ce273f31a6f1f5d93f0"), looks := false }, kinds := [], alts := [], laidByText := true, laidKinds := [.data], laidTests := true, laidLooks := .later }
def FieldLawsUptoCardSaid : Prop := Claim7.holds Tryd.pinned (.plain (OpenSpec.upto fieldLawsSpec)) fieldLawsUptoCard

/-- THE SECOND FORM's CARD OF 'sundiallaw02.FieldBoxes'. -/
def fieldBoxesUptoCard : Claim7 := { stood := { row := fieldBoxesUptoRow, standIns := [], harness := (true, "7c674b6901f2d0d0c85135e6039f43b9b3c5068ff85e5ce273f31a6f1f5d93f0"), looks := false }, kinds := [], alts := [], laidByText := true, laidKinds := [.data], laidTests := true, laidLooks := .later }
def FieldBoxesUptoCardSaid : Prop := Claim7.holds Tryd.pinned (.plain (OpenSpec.upto fieldBoxesSpec)) fieldBoxesUptoCard

/-- THE SECOND FORM's CARD OF 'sundiallaw02.FieldWords'. -/
def fieldWordsUptoCard : Claim7 := { stood := { row := fieldWordsUptoRow, standIns := [], harness := (true, "7c674b6901f2d0d0c85135e6039f43b9b3c5068ff85e5ce273f31a6f1f5d93f0"), looks := false }, kinds := [], alts := [], laidByText := true, laidKinds := [.data], laidTests := true, laidLooks := .later }
def FieldWordsUptoCardSaid : Prop := Claim7.holds Tryd.pinned (.plain (OpenSpec.upto fieldWordsSpec)) fieldWordsUptoCard

/-- THE SECOND FORM's CARD OF 'sundiallaw02.FieldInverses'. -/
def fieldInversesUptoCard : Claim7 := { stood := { row := fieldInversesUptoRow, standIns := [], harness := (true, "7c674b6901f2d0d0c85135e6039f43b9b3c5068ff85e5ce273f31a6f1f5d93f0"), looks := false }, kinds := [], alts := [], laidByText := true, laidKinds := [.data], laidTests := true, laidLooks := .later }
def FieldInversesUptoCardSaid : Prop := Claim7.holds Tryd.pinned (.plain (OpenSpec.upto fieldInversesSpec)) fieldInversesUptoCard

/-- THE SECOND FORM's CARD OF 'sundiallaw02.FieldTells'. -/
def fieldTellsUptoCard : Claim7 := { stood := { row := fieldTellsUptoRow, standIns := [], harness := (true, "7c674b6901f2d0d0c85135e6039f43b9b3c5068ff85e5ce273f31a6f1f5d93f0"), looks := false }, kinds := [], alts := [], laidByText := true, laidKinds := [.data], laidTests := true, laidLooks := .later }
def FieldTellsUptoCardSaid : Prop := Claim7.holds Tryd.pinned (.plain (OpenSpec.upto fieldTellsSpec)) fieldTellsUptoCard

/-- THE SECOND FORM's CARD OF 'sundiallaw02.FieldRounds'. -/
def fieldRoundsUptoCard : Claim7 := { stood := { row := fieldRoundsUptoRow, standIns := [], harness := (true, "7c674b6901f2d0d0c85135e6039f43b9b3c5068ff85e5ce273f31a6f1f5d93f0"), looks := false }, kinds := [], alts := [], laidByText := true, laidKinds := [.data], laidTests := true, laidLooks := .later }
def FieldRoundsUptoCardSaid : Prop := Claim7.holds Tryd.pinned (.plain (OpenSpec.upto fieldRoundsSpec)) fieldRoundsUptoCard
end Rows
end Go.Proofs.YtbahdcebgcgeeaaDoor
