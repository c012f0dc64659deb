/-
  DERIVED. GIVEN WITH THE SEED: THE CARDS: each row of YtelbkabgkcogpaaDoorRows.lean that lists a variable, with what it lists TIED to the program's text (the seventh form; the later family's looks); each row that meets fmt, with fmt's text TOLD by the authors' own Lean function (tested against real Go, not proved from fmt's source: count such statements apart). THE CARD IS WHAT COUNTS. Prove the row's statement (the work); the ties are given (YtelbkabgkcogpaaDoorTie.lean); close each card by the builder's one call (the guide's Derived/Test/ToyasCard.lean, 'card_holds'). Laid BY PROGRAM, IN A SANDBOX (cutbox-door.mjs). By AI agents, Wed Nov 11 2026. No macro, syntax, notation, axiom, sorry.
-/
import Derived.Test.YtelbkabgkcogpaaDoorRows
import GoSem.ClaimSeven
namespace Go.Proofs.YtelbkabgkcogpaaDoor
namespace Rows

/-- THE TIED CARD OF 'omnibuslaw16.LogPuts'. -/
def logPutsCard : Claim7 := { stood := { row := logPutsRow, standIns := [], harness := (true, "bd4070acd2acbc3fffb09430d1dfb407b853e4faad26897777dee0fb38bc6b34"), looks := false }, kinds := [], alts := [], laidByText := true, laidKinds := [.data], laidTests := true, laidLooks := .later }
def LogPutsCardSaid : Prop := Claim7.holds Tryd.pinned (.plain (OpenSpec.ofChange logPutsSpec)) logPutsCard

/-- THE TIED CARD OF 'omnibuslaw16.LogAgrees'. -/
def logAgreesCard : Claim7 := { stood := { row := logAgreesRow, standIns := [], harness := (true, "bd4070acd2acbc3fffb09430d1dfb407b853e4faad26897777dee0fb38bc6b34"), looks := false }, kinds := [], alts := [], laidByText := true, laidKinds := [.data], laidTests := true, laidLooks := .later }
def LogAgreesCardSaid : Prop := Claim7.holds Tryd.pinned (.plain (OpenSpec.ofChange logAgreesSpec)) logAgreesCard

/-- THE TIED CARD OF 'omnibuslaw16.LogCovers'. -/
def logCoversCard : Claim7 := { stood := { row := logCoversRow, standIns := [], harness := (true, "bd4070acd2acbc3fffb09430d1dfb407b853e4faad26897777dee0fb38bc6b34"), looks := false }, kinds := [], alts := [], laidByText := true, laidKinds := [.data], laidTests := true, laidLooks := .later }
def LogCoversCardSaid : Prop := Claim7.holds Tryd.pinned (.plain (OpenSpec.ofChange logCoversSpec)) logCoversCard

/-- THE TIED CARD OF 'omnibuslaw16.LogBuilds'. -/
def logBuildsCard : Claim7 := { stood := { row := logBuildsRow, standIns := [], harness := (true, "bd4070acd2acbc3fffb09430d1dfb407b853e4faad26897777dee0fb38bc6b34"), looks := false }, kinds := [], alts := [], laidByText := true, laidKinds := [.data], laidTests := true, laidLooks := .later }
def LogBuildsCardSaid : Prop := Claim7.holds Tryd.pinned (.plain (OpenSpec.ofChange logBuildsSpec)) logBuildsCard

/-- THE TIED CARD OF 'omnibuslaw16.LogGaps'. -/
def logGapsCard : Claim7 := { stood := { row := logGapsRow, standIns := [], harness := (true, "bd4070acd2acbc3fffb09430d1dfb407b853e4faad26897777dee0fb38bc6b34"), looks := false }, kinds := [], alts := [], laidByText := true, laidKinds := [.data], laidTests := true, laidLooks := .later }
def LogGapsCardSaid : Prop := Claim7.holds Tryd.pinned (.plain (OpenSpec.ofChange logGapsSpec)) logGapsCard

/-- THE TIED CARD OF 'omnibuslaw16.LogCommon'. -/
def logCommonCard : Claim7 := { stood := { row := logCommonRow, standIns := [], harness := (true, "bd4070acd2acbc3fffb09430d1dfb407b853e4faad26897777dee0fb38bc6b34"), looks := false }, kinds := [], alts := [], laidByText := true, laidKinds := [.data], laidTests := true, laidLooks := .later }
def LogCommonCardSaid : Prop := Claim7.holds Tryd.pinned (.plain (OpenSpec.ofChange logCommonSpec)) logCommonCard

/-- THE SECOND FORM's CARD OF 'omnibuslaw16.LogPuts'. -/
def logPutsUptoCard : Claim7 := { stood := { row := logPutsUptoRow, standIns := [], harness := (true, "bd4070acd2acbc3fffb09430d1dfb407b853e4faad26897777dee0fb38bc6b34"), looks := false }, kinds := [], alts := [], laidByText := true, laidKinds := [.data], laidTests := true, laidLooks := .later }
def LogPutsUptoCardSaid : Prop := Claim7.holds Tryd.pinned (.plain (OpenSpec.upto logPutsSpec)) logPutsUptoCard

/-- THE SECOND FORM's CARD OF 'omnibuslaw16.LogAgrees'. -/
def logAgreesUptoCard : Claim7 := { stood := { row := logAgreesUptoRow, standIns := [], harness := (true, "bd4070acd2acbc3fffb09430d1dfb407b853e4faad26897777dee0fb38bc6b34"), looks := false }, kinds := [], alts := [], laidByText := true, laidKinds := [.data], laidTests := true, laidLooks := .later }
def LogAgreesUptoCardSaid : Prop := Claim7.holds Tryd.pinned (.plain (OpenSpec.upto logAgreesSpec)) logAgreesUptoCard

/-- THE SECOND FORM's CARD OF 'omnibuslaw16.LogCovers'. -/
def logCoversUptoCard : Claim7 := { stood := { row := logCoversUptoRow, standIns := [], harness := (true, "bd4070acd2acbc3fffb09430d1dfb407b853e4faad26897777dee0fb38bc6b34"), looks := false }, kinds := [], alts := [], laidByText := true, laidKinds := [.data], laidTests := true, laidLooks := .later }
def LogCoversUptoCardSaid : Prop := Claim7.holds Tryd.pinned (.plain (OpenSpec.upto logCoversSpec)) logCoversUptoCard

/-- THE SECOND FORM's CARD OF 'omnibuslaw16.LogBuilds'. -/
def logBuildsUptoCard : Claim7 := { stood := { row := logBuildsUptoRow, standIns := [], harness := (true, "bd4070acd2acbc3fffb09430d1dfb407b853e4faad26897777dee0fb38bc6b34"), looks := false }, kinds := [], alts := [], laidByText := true, laidKinds := [.data], laidTests := true, laidLooks := .later }
def LogBuildsUptoCardSaid : Prop := Claim7.holds Tryd.pinned (.plain (OpenSpec.upto logBuildsSpec)) logBuildsUptoCard

/-- THE SECOND FORM's CARD OF 'omnibuslaw16.LogGaps'. -/
def logGapsUptoCard : Claim7 := { stood := { row := logGapsUptoRow, standIns := [], harness := (true, "bd4070acd2acbc3fffb09430d1dfb407b853e4faad26897777dee0fb38bc6b34"), looks := false }, kinds := [], alts := [], laidByText := true, laidKinds := [.data], laidTests := true, laidLooks := .later }
def LogGapsUptoCardSaid : Prop := Claim7.holds Tryd.pinned (.plain (OpenSpec.upto logGapsSpec)) logGapsUptoCard

/-- THE SECOND FORM's CARD OF 'omnibuslaw16.LogCommon'. -/
def logCommonUptoCard : Claim7 := { stood := { row := logCommonUptoRow, standIns := [], harness := (true, "bd4070acd2acbc3fffb09430d1dfb407b853e4faad26897777dee0fb38bc6b34"), looks := false }, kinds := [], alts := [], laidByText := true, laidKinds := [.data], laidTests := true, laidLooks := .later }
def LogCommonUptoCardSaid : Prop := Claim7.holds Tryd.pinned (.plain (OpenSpec.upto logCommonSpec)) logCommonUptoCard
end Rows
end Go.Proofs.YtelbkabgkcogpaaDoor
