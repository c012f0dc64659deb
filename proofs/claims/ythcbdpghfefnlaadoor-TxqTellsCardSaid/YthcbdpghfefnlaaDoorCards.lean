/-
  DERIVED. GIVEN WITH THE SEED: THE CARDS: each row of YthcbdpghfefnlaaDoorRows.lean that lists a variable, with what it lists TIED to the program's text (the seventh form; the later family's looks); each row that meets fmt, with fmt's text TOLD by the authors' own Lean function (tested against real Go, not proved from fmt's source: count such statements apart). THE CARD IS WHAT COUNTS. Prove the row's statement (the work); the ties are given (YthcbdpghfefnlaaDoorTie.lean); close each card by the builder's one call (the guide's Derived/Test/ToyasCard.lean, 'card_holds'). Laid BY PROGRAM, IN A SANDBOX (cutbox-door.mjs). By AI agents, Wed Nov 11 2026. No macro, syntax, notation, axiom, sorry.
-/
import Derived.Test.YthcbdpghfefnlaaDoorRows
import GoSem.ClaimSeven
namespace Go.Proofs.YthcbdpghfefnlaaDoor
namespace Rows

/-- THE TIED CARD OF 'omnibuslaw13.TxqTells'. -/
def txqTellsCard : Claim7 := { stood := { row := txqTellsRow, standIns := [], harness := (true, "7b0e0875cf57c415a2362fb59c81b69631f3134ceb30fce10e09ea67a8f27b71"), looks := false }, kinds := [], alts := [], laidByText := true, laidKinds := [.data], laidTests := true, laidLooks := .later }
def TxqTellsCardSaid : Prop := Claim7.holds Tryd.pinned (.plain (OpenSpec.ofChange txqTellsSpec)) txqTellsCard

/-- THE TIED CARD OF 'omnibuslaw13.TxqOrder'. -/
def txqOrderCard : Claim7 := { stood := { row := txqOrderRow, standIns := [], harness := (true, "7b0e0875cf57c415a2362fb59c81b69631f3134ceb30fce10e09ea67a8f27b71"), looks := false }, kinds := [], alts := [], laidByText := true, laidKinds := [.data], laidTests := true, laidLooks := .later }
def TxqOrderCardSaid : Prop := Claim7.holds Tryd.pinned (.plain (OpenSpec.ofChange txqOrderSpec)) txqOrderCard

/-- THE TIED CARD OF 'omnibuslaw13.TxqFull'. -/
def txqFullCard : Claim7 := { stood := { row := txqFullRow, standIns := [], harness := (true, "7b0e0875cf57c415a2362fb59c81b69631f3134ceb30fce10e09ea67a8f27b71"), looks := false }, kinds := [], alts := [], laidByText := true, laidKinds := [.data], laidTests := true, laidLooks := .later }
def TxqFullCardSaid : Prop := Claim7.holds Tryd.pinned (.plain (OpenSpec.ofChange txqFullSpec)) txqFullCard

/-- THE TIED CARD OF 'omnibuslaw13.TxqSame'. -/
def txqSameCard : Claim7 := { stood := { row := txqSameRow, standIns := [], harness := (true, "7b0e0875cf57c415a2362fb59c81b69631f3134ceb30fce10e09ea67a8f27b71"), looks := false }, kinds := [], alts := [], laidByText := true, laidKinds := [.data], laidTests := true, laidLooks := .later }
def TxqSameCardSaid : Prop := Claim7.holds Tryd.pinned (.plain (OpenSpec.ofChange txqSameSpec)) txqSameCard

/-- THE TIED CARD OF 'omnibuslaw13.TxqAborts'. -/
def txqAbortsCard : Claim7 := { stood := { row := txqAbortsRow, standIns := [], harness := (true, "7b0e0875cf57c415a2362fb59c81b69631f3134ceb30fce10e09ea67a8f27b71"), looks := false }, kinds := [], alts := [], laidByText := true, laidKinds := [.data], laidTests := true, laidLooks := .later }
def TxqAbortsCardSaid : Prop := Claim7.holds Tryd.pinned (.plain (OpenSpec.ofChange txqAbortsSpec)) txqAbortsCard

/-- THE SECOND FORM's CARD OF 'omnibuslaw13.TxqTells'. -/
def txqTellsUptoCard : Claim7 := { stood := { row := txqTellsUptoRow, standIns := [], harness := (true, "7b0e0875cf57c415a2362fb59c81b69631f3134ceb30fce10e09ea67a8f27b71"), looks := false }, kinds := [], alts := [], laidByText := true, laidKinds := [.data], laidTests := true, laidLooks := .later }
def TxqTellsUptoCardSaid : Prop := Claim7.holds Tryd.pinned (.plain (OpenSpec.upto txqTellsSpec)) txqTellsUptoCard

/-- THE SECOND FORM's CARD OF 'omnibuslaw13.TxqOrder'. -/
def txqOrderUptoCard : Claim7 := { stood := { row := txqOrderUptoRow, standIns := [], harness := (true, "7b0e0875cf57c415a2362fb59c81b69631f3134ceb30fce10e09ea67a8f27b71"), looks := false }, kinds := [], alts := [], laidByText := true, laidKinds := [.data], laidTests := true, laidLooks := .later }
def TxqOrderUptoCardSaid : Prop := Claim7.holds Tryd.pinned (.plain (OpenSpec.upto txqOrderSpec)) txqOrderUptoCard

/-- THE SECOND FORM's CARD OF 'omnibuslaw13.TxqFull'. -/
def txqFullUptoCard : Claim7 := { stood := { row := txqFullUptoRow, standIns := [], harness := (true, "7b0e0875cf57c415a2362fb59c81b69631f3134ceb30fce10e09ea67a8f27b71"), looks := false }, kinds := [], alts := [], laidByText := true, laidKinds := [.data], laidTests := true, laidLooks := .later }
def TxqFullUptoCardSaid : Prop := Claim7.holds Tryd.pinned (.plain (OpenSpec.upto txqFullSpec)) txqFullUptoCard

/-- THE SECOND FORM's CARD OF 'omnibuslaw13.TxqSame'. -/
def txqSameUptoCard : Claim7 := { stood := { row := txqSameUptoRow, standIns := [], harness := (true, "7b0e0875cf57c415a2362fb59c81b69631f3134ceb30fce10e09ea67a8f27b71"), looks := false }, kinds := [], alts := [], laidByText := true, laidKinds := [.data], laidTests := true, laidLooks := .later }
def TxqSameUptoCardSaid : Prop := Claim7.holds Tryd.pinned (.plain (OpenSpec.upto txqSameSpec)) txqSameUptoCard

/-- THE SECOND FORM's CARD OF 'omnibuslaw13.TxqAborts'. -/
def txqAbortsUptoCard : Claim7 := { stood := { row := txqAbortsUptoRow, standIns := [], harness := (true, "7b0e0875cf57c415a2362fb59c81b69631f3134ceb30fce10e09ea67a8f27b71"), looks := false }, kinds := [], alts := [], laidByText := true, laidKinds := [.data], laidTests := true, laidLooks := .later }
def TxqAbortsUptoCardSaid : Prop := Claim7.holds Tryd.pinned (.plain (OpenSpec.upto txqAbortsSpec)) txqAbortsUptoCard
end Rows
end Go.Proofs.YthcbdpghfefnlaaDoor
