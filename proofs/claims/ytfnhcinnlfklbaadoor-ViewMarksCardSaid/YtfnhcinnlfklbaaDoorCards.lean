/-
  DERIVED. GIVEN WITH THE SEED: THE CARDS: each row of YtfnhcinnlfklbaaDoorRows.lean that lists a variable, with what it lists TIED to the program's text (the seventh form; the later family's looks); each row that meets fmt, with fmt's text TOLD by the authors' own Lean function (tested against real Go, not proved from fmt's source: count such statements apart). THE CARD IS WHAT COUNTS. Prove the row's statement (the work); the ties are given (YtfnhcinnlfklbaaDoorTie.lean); close each card by the builder's one call (the guide's Derived/Test/ToyasCard.lean, 'card_holds'). Laid BY PROGRAM, IN A SANDBOX (cutbox-door.mjs). By AI agents, Wed Nov 11 2026. No macro, syntax, notation, axiom, sorry.
-/
import Derived.Test.YtfnhcinnlfklbaaDoorRows
import GoSem.ClaimSeven
namespace Go.Proofs.YtfnhcinnlfklbaaDoor
namespace Rows

/-- THE TIED CARD OF 'omnibuslaw17.ViewGrows'. -/
def viewGrowsCard : Claim7 := { stood := { row := viewGrowsRow, standIns := [], harness := (true, "809cccea2e8b70abdc0d8034d2615caf383048dda5b8d1bbc66da3ff1e58d67e"), looks := false }, kinds := [], alts := [], laidByText := true, laidKinds := [.data], laidTests := true, laidLooks := .later }
def ViewGrowsCardSaid : Prop := Claim7.holds Tryd.pinned (.plain (OpenSpec.ofChange viewGrowsSpec)) viewGrowsCard

/-- THE TIED CARD OF 'omnibuslaw17.ViewMarks'. -/
def viewMarksCard : Claim7 := { stood := { row := viewMarksRow, standIns := [], harness := (true, "809cccea2e8b70abdc0d8034d2615caf383048dda5b8d1bbc66da3ff1e58d67e"), looks := false }, kinds := [], alts := [], laidByText := true, laidKinds := [.data], laidTests := true, laidLooks := .later }
def ViewMarksCardSaid : Prop := Claim7.holds Tryd.pinned (.plain (OpenSpec.ofChange viewMarksSpec)) viewMarksCard

/-- THE TIED CARD OF 'omnibuslaw17.ViewParts'. -/
def viewPartsCard : Claim7 := { stood := { row := viewPartsRow, standIns := [], harness := (true, "809cccea2e8b70abdc0d8034d2615caf383048dda5b8d1bbc66da3ff1e58d67e"), looks := false }, kinds := [], alts := [], laidByText := true, laidKinds := [.data], laidTests := true, laidLooks := .later }
def ViewPartsCardSaid : Prop := Claim7.holds Tryd.pinned (.plain (OpenSpec.ofChange viewPartsSpec)) viewPartsCard

/-- THE TIED CARD OF 'omnibuslaw17.ViewOnly'. -/
def viewOnlyCard : Claim7 := { stood := { row := viewOnlyRow, standIns := [], harness := (true, "809cccea2e8b70abdc0d8034d2615caf383048dda5b8d1bbc66da3ff1e58d67e"), looks := false }, kinds := [], alts := [], laidByText := true, laidKinds := [.data], laidTests := true, laidLooks := .later }
def ViewOnlyCardSaid : Prop := Claim7.holds Tryd.pinned (.plain (OpenSpec.ofChange viewOnlySpec)) viewOnlyCard

/-- THE TIED CARD OF 'omnibuslaw17.ViewTerms'. -/
def viewTermsCard : Claim7 := { stood := { row := viewTermsRow, standIns := [], harness := (true, "809cccea2e8b70abdc0d8034d2615caf383048dda5b8d1bbc66da3ff1e58d67e"), looks := false }, kinds := [], alts := [], laidByText := true, laidKinds := [.data], laidTests := true, laidLooks := .later }
def ViewTermsCardSaid : Prop := Claim7.holds Tryd.pinned (.plain (OpenSpec.ofChange viewTermsSpec)) viewTermsCard

/-- THE SECOND FORM's CARD OF 'omnibuslaw17.ViewGrows'. -/
def viewGrowsUptoCard : Claim7 := { stood := { row := viewGrowsUptoRow, standIns := [], harness := (true, "809cccea2e8b70abdc0d8034d2615caf383048dda5b8d1bbc66da3ff1e58d67e"), looks := false }, kinds := [], alts := [], laidByText := true, laidKinds := [.data], laidTests := true, laidLooks := .later }
def ViewGrowsUptoCardSaid : Prop := Claim7.holds Tryd.pinned (.plain (OpenSpec.upto viewGrowsSpec)) viewGrowsUptoCard

/-- THE SECOND FORM's CARD OF 'omnibuslaw17.ViewMarks'. -/
def viewMarksUptoCard : Claim7 := { stood := { row := viewMarksUptoRow, standIns := [], harness := (true, "809cccea2e8b70abdc0d8034d2615caf383048dda5b8d1bbc66da3ff1e58d67e"), looks := false }, kinds := [], alts := [], laidByText := true, laidKinds := [.data], laidTests := true, laidLooks := .later }
def ViewMarksUptoCardSaid : Prop := Claim7.holds Tryd.pinned (.plain (OpenSpec.upto viewMarksSpec)) viewMarksUptoCard

/-- THE SECOND FORM's CARD OF 'omnibuslaw17.ViewParts'. -/
def viewPartsUptoCard : Claim7 := { stood := { row := viewPartsUptoRow, standIns := [], harness := (true, "809cccea2e8b70abdc0d8034d2615caf383048dda5b8d1bbc66da3ff1e58d67e"), looks := false }, kinds := [], alts := [], laidByText := true, laidKinds := [.data], laidTests := true, laidLooks := .later }
def ViewPartsUptoCardSaid : Prop := Claim7.holds Tryd.pinned (.plain (OpenSpec.upto viewPartsSpec)) viewPartsUptoCard

/-- THE SECOND FORM's CARD OF 'omnibuslaw17.ViewOnly'. -/
def viewOnlyUptoCard : Claim7 := { stood := { row := viewOnlyUptoRow, standIns := [], harness := (true, "809cccea2e8b70abdc0d8034d2615caf383048dda5b8d1bbc66da3ff1e58d67e"), looks := false }, kinds := [], alts := [], laidByText := true, laidKinds := [.data], laidTests := true, laidLooks := .later }
def ViewOnlyUptoCardSaid : Prop := Claim7.holds Tryd.pinned (.plain (OpenSpec.upto viewOnlySpec)) viewOnlyUptoCard

/-- THE SECOND FORM's CARD OF 'omnibuslaw17.ViewTerms'. -/
def viewTermsUptoCard : Claim7 := { stood := { row := viewTermsUptoRow, standIns := [], harness := (true, "809cccea2e8b70abdc0d8034d2615caf383048dda5b8d1bbc66da3ff1e58d67e"), looks := false }, kinds := [], alts := [], laidByText := true, laidKinds := [.data], laidTests := true, laidLooks := .later }
def ViewTermsUptoCardSaid : Prop := Claim7.holds Tryd.pinned (.plain (OpenSpec.upto viewTermsSpec)) viewTermsUptoCard
end Rows
end Go.Proofs.YtfnhcinnlfklbaaDoor
