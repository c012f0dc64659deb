/-
  DERIVED. GIVEN WITH THE SEED: THE CARDS: each row of YtokomdenoegkgaaDoorRows.lean that lists a variable, with what it lists TIED to the program's text (the seventh form; the later family's looks); each row that meets fmt, with fmt's text TOLD by the authors' own Lean function (tested against real Go, not proved from fmt's source: count such statements apart). THE CARD IS WHAT COUNTS. Prove the row's statement (the work); the ties are given (YtokomdenoegkgaaDoorTie.lean); close each card by the builder's one call (the guide's Derived/Test/ToyasCard.lean, 'card_holds'). Laid BY PROGRAM, IN A SANDBOX (cutbox-door.mjs). By AI agents, Wed Nov 11 2026. No macro, syntax, notation, axiom, sorry.
-/
import Derived.Test.YtokomdenoegkgaaDoorRows
import GoSem.ClaimSeven
namespace Go.Proofs.YtokomdenoegkgaaDoor
namespace Rows

/-- THE TIED CARD OF 'omnibuslaw04.MsgTells'. -/
def msgTellsCard : Claim7 := { stood := { row := msgTellsRow, standIns := [], harness := (true, "97a490169cac236880bc9c9d0bbc44b5355728c7ee516764191a6f5d4b353fad"), looks := false }, kinds := [], alts := [], laidByText := true, laidKinds := [.data], laidTests := true, laidLooks := .later }
def MsgTellsCardSaid : Prop := Claim7.holds Tryd.pinned (.plain (OpenSpec.ofChange msgTellsSpec)) msgTellsCard

/-- THE TIED CARD OF 'omnibuslaw04.MsgSorts'. -/
def msgSortsCard : Claim7 := { stood := { row := msgSortsRow, standIns := [], harness := (true, "97a490169cac236880bc9c9d0bbc44b5355728c7ee516764191a6f5d4b353fad"), looks := false }, kinds := [], alts := [], laidByText := true, laidKinds := [.data], laidTests := true, laidLooks := .later }
def MsgSortsCardSaid : Prop := Claim7.holds Tryd.pinned (.plain (OpenSpec.ofChange msgSortsSpec)) msgSortsCard

/-- THE TIED CARD OF 'omnibuslaw04.MsgBack'. -/
def msgBackCard : Claim7 := { stood := { row := msgBackRow, standIns := [], harness := (true, "97a490169cac236880bc9c9d0bbc44b5355728c7ee516764191a6f5d4b353fad"), looks := false }, kinds := [], alts := [], laidByText := true, laidKinds := [.data], laidTests := true, laidLooks := .later }
def MsgBackCardSaid : Prop := Claim7.holds Tryd.pinned (.plain (OpenSpec.ofChange msgBackSpec)) msgBackCard

/-- THE TIED CARD OF 'omnibuslaw04.MsgOrder'. -/
def msgOrderCard : Claim7 := { stood := { row := msgOrderRow, standIns := [], harness := (true, "97a490169cac236880bc9c9d0bbc44b5355728c7ee516764191a6f5d4b353fad"), looks := false }, kinds := [], alts := [], laidByText := true, laidKinds := [.data], laidTests := true, laidLooks := .later }
def MsgOrderCardSaid : Prop := Claim7.holds Tryd.pinned (.plain (OpenSpec.ofChange msgOrderSpec)) msgOrderCard

/-- THE TIED CARD OF 'omnibuslaw04.MsgTwice'. -/
def msgTwiceCard : Claim7 := { stood := { row := msgTwiceRow, standIns := [], harness := (true, "97a490169cac236880bc9c9d0bbc44b5355728c7ee516764191a6f5d4b353fad"), looks := false }, kinds := [], alts := [], laidByText := true, laidKinds := [.data], laidTests := true, laidLooks := .later }
def MsgTwiceCardSaid : Prop := Claim7.holds Tryd.pinned (.plain (OpenSpec.ofChange msgTwiceSpec)) msgTwiceCard

/-- THE TIED CARD OF 'omnibuslaw04.MsgRows'. -/
def msgRowsCard : Claim7 := { stood := { row := msgRowsRow, standIns := [], harness := (true, "97a490169cac236880bc9c9d0bbc44b5355728c7ee516764191a6f5d4b353fad"), looks := false }, kinds := [], alts := [], laidByText := true, laidKinds := [.data], laidTests := true, laidLooks := .later }
def MsgRowsCardSaid : Prop := Claim7.holds Tryd.pinned (.plain (OpenSpec.ofChange msgRowsSpec)) msgRowsCard

/-- THE SECOND FORM's CARD OF 'omnibuslaw04.MsgTells'. -/
def msgTellsUptoCard : Claim7 := { stood := { row := msgTellsUptoRow, standIns := [], harness := (true, "97a490169cac236880bc9c9d0bbc44b5355728c7ee516764191a6f5d4b353fad"), looks := false }, kinds := [], alts := [], laidByText := true, laidKinds := [.data], laidTests := true, laidLooks := .later }
def MsgTellsUptoCardSaid : Prop := Claim7.holds Tryd.pinned (.plain (OpenSpec.upto msgTellsSpec)) msgTellsUptoCard

/-- THE SECOND FORM's CARD OF 'omnibuslaw04.MsgSorts'. -/
def msgSortsUptoCard : Claim7 := { stood := { row := msgSortsUptoRow, standIns := [], harness := (true, "97a490169cac236880bc9c9d0bbc44b5355728c7ee516764191a6f5d4b353fad"), looks := false }, kinds := [], alts := [], laidByText := true, laidKinds := [.data], laidTests := true, laidLooks := .later }
def MsgSortsUptoCardSaid : Prop := Claim7.holds Tryd.pinned (.plain (OpenSpec.upto msgSortsSpec)) msgSortsUptoCard

/-- THE SECOND FORM's CARD OF 'omnibuslaw04.MsgBack'. -/
def msgBackUptoCard : Claim7 := { stood := { row := msgBackUptoRow, standIns := [], harness := (true, "97a490169cac236880bc9c9d0bbc44b5355728c7ee516764191a6f5d4b353fad"), looks := false }, kinds := [], alts := [], laidByText := true, laidKinds := [.data], laidTests := true, laidLooks := .later }
def MsgBackUptoCardSaid : Prop := Claim7.holds Tryd.pinned (.plain (OpenSpec.upto msgBackSpec)) msgBackUptoCard

/-- THE SECOND FORM's CARD OF 'omnibuslaw04.MsgOrder'. -/
def msgOrderUptoCard : Claim7 := { stood := { row := msgOrderUptoRow, standIns := [], harness := (true, "97a490169cac236880bc9c9d0bbc44b5355728c7ee516764191a6f5d4b353fad"), looks := false }, kinds := [], alts := [], laidByText := true, laidKinds := [.data], laidTests := true, laidLooks := .later }
def MsgOrderUptoCardSaid : Prop := Claim7.holds Tryd.pinned (.plain (OpenSpec.upto msgOrderSpec)) msgOrderUptoCard

/-- THE SECOND FORM's CARD OF 'omnibuslaw04.MsgTwice'. -/
def msgTwiceUptoCard : Claim7 := { stood := { row := msgTwiceUptoRow, standIns := [], harness := (true, "97a490169cac236880bc9c9d0bbc44b5355728c7ee516764191a6f5d4b353fad"), looks := false }, kinds := [], alts := [], laidByText := true, laidKinds := [.data], laidTests := true, laidLooks := .later }
def MsgTwiceUptoCardSaid : Prop := Claim7.holds Tryd.pinned (.plain (OpenSpec.upto msgTwiceSpec)) msgTwiceUptoCard

/-- THE SECOND FORM's CARD OF 'omnibuslaw04.MsgRows'. -/
def msgRowsUptoCard : Claim7 := { stood := { row := msgRowsUptoRow, standIns := [], harness := (true, "97a490169cac236880bc9c9d0bbc44b5355728c7ee516764191a6f5d4b353fad"), looks := false }, kinds := [], alts := [], laidByText := true, laidKinds := [.data], laidTests := true, laidLooks := .later }
def MsgRowsUptoCardSaid : Prop := Claim7.holds Tryd.pinned (.plain (OpenSpec.upto msgRowsSpec)) msgRowsUptoCard
end Rows
end Go.Proofs.YtokomdenoegkgaaDoor
