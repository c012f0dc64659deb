/-
  NARROWER THAN 'FOR EVERY INPUT', by the rows' own cells (each row's printed sentence says how): MsgTells: laid · MsgSorts: laid · MsgBack: laid · MsgOrder: laid · MsgTwice: laid · MsgRows: laid.
  DERIVED. THE GIVEN ROWS OF THIS SEAT. 6 by the template 'for every input the law returns true; each argument reads behind the call as it read before'; 0 by the template 'total and deterministic' (their statements: YtokomdenoegkgaaDoorTotals.lean).
  GIVEN WITH THE SEED: the statements are not yours to turn. If you find one false, say at which input.
  Laid BY PROGRAM, IN A SANDBOX (cutbox-rows.mjs): the forced cells as the released guide's own fill.sh prints them over the translation ad9fb21244ba6781… (all of the seat's roots in one cut). By AI agents, Wed Nov 11 2026. No macro, syntax, notation, axiom, sorry.
-/
import Derived.Test.YtokomdenoegkgaaDoorChecked
import GoSem.Claim
import GoSem.ClaimJoined
import GoSem.ClaimMapViews
import Derived.JoinedTies
import Derived.KernelRfl
namespace Go.Proofs.YtokomdenoegkgaaDoor
/- THE CELL 'sum', in the pinned program and in every row, IS THE sha256 OF THE DUMP (.gsa) THAT YtokomdenoegkgaaDoorProg.lean LOADS. Nothing in Lean hashes anything: it is a label: what it is worth is what the hold of that sum in a sandbox is worth. -/
noncomputable def Tryd.pinned : Pinned := { name := "ytokomdenoegkgaadoor", sum := "ad9fb21244ba67814be1a07633ff4459aee926707193d776d02f17e37496a207", checked := Tryd.checked }
namespace Rows
def none {H : Type} : Left H := { results := [], args := [] }

/- WHAT THE LISTED PACKAGE-LEVEL VARIABLES READ AS WHEN THE CALL BEGINS. Each datum BY PROGRAM (the guide's laid-datum.mjs) off the statement by which the dump's own 'gosem.cut.vars' lays the variable. In a bare row this is a premise. The card (YtokomdenoegkgaaDoorCards.lean) ties it to the program's text. -/
def laid_omnibus_ident_greatest {H : Type} : DataW H := .agg [.lit (.int .i64 2047), .lit (.int .i64 536870911)]

/-- 'omnibuslaw04.MsgTells': WHATEVER THE INPUT: true; the input reads as it did. -/
def msgTellsSpec : ChangeSpec := { name := "msgTells", fn := fun _ => fun
  | [d1, d2, d3, d4, d5, d6] => { results := [.lit (.bool true)], args := [d1, d2, d3, d4, d5, d6] }
  | _ => none }
def msgTellsRow : OpenClaim := { program := "ytokomdenoegkgaadoor", sum := "ad9fb21244ba67814be1a07633ff4459aee926707193d776d02f17e37496a207", func := "omnibus/omnibuslaw04.MsgTells", spec := "msgTells", inPlace := ["slices.overlaps[omnibus/api.Message]"], unfollowed := true, recurses := true, named := ["omnibus/ident.greatest"], apart := false, laid := [("omnibus/ident.greatest", laid_omnibus_ident_greatest)] }
def MsgTellsSaid : Prop := msgTellsRow.holds Tryd.pinned (OpenSpec.ofChange msgTellsSpec)

/-- ITS FALSE NEIGHBOUR: 'it returns false'. Refute it at one input. -/
def msgTellsWrong : ChangeSpec := { name := "msgTells", fn := fun _ => fun
  | [d1, d2, d3, d4, d5, d6] => { results := [.lit (.bool false)], args := [d1, d2, d3, d4, d5, d6] }
  | _ => none }
def MsgTellsWrongFalsely : Prop := msgTellsRow.holds Tryd.pinned (OpenSpec.ofChange msgTellsWrong)

/-- 'omnibuslaw04.MsgSorts': WHATEVER THE INPUT: true; the input reads as it did. -/
def msgSortsSpec : ChangeSpec := { name := "msgSorts", fn := fun _ => fun
  | [d1, d2] => { results := [.lit (.bool true)], args := [d1, d2] }
  | _ => none }
def msgSortsRow : OpenClaim := { program := "ytokomdenoegkgaadoor", sum := "ad9fb21244ba67814be1a07633ff4459aee926707193d776d02f17e37496a207", func := "omnibus/omnibuslaw04.MsgSorts", spec := "msgSorts", inPlace := ["slices.overlaps[omnibus/api.Message]"], unfollowed := true, recurses := true, named := ["omnibus/ident.greatest"], apart := false, laid := [("omnibus/ident.greatest", laid_omnibus_ident_greatest)] }
def MsgSortsSaid : Prop := msgSortsRow.holds Tryd.pinned (OpenSpec.ofChange msgSortsSpec)

/-- ITS FALSE NEIGHBOUR: 'it returns false'. Refute it at one input. -/
def msgSortsWrong : ChangeSpec := { name := "msgSorts", fn := fun _ => fun
  | [d1, d2] => { results := [.lit (.bool false)], args := [d1, d2] }
  | _ => none }
def MsgSortsWrongFalsely : Prop := msgSortsRow.holds Tryd.pinned (OpenSpec.ofChange msgSortsWrong)

/-- 'omnibuslaw04.MsgBack': WHATEVER THE INPUT: true; the input reads as it did. -/
def msgBackSpec : ChangeSpec := { name := "msgBack", fn := fun _ => fun
  | [d1, d2, d3] => { results := [.lit (.bool true)], args := [d1, d2, d3] }
  | _ => none }
def msgBackRow : OpenClaim := { program := "ytokomdenoegkgaadoor", sum := "ad9fb21244ba67814be1a07633ff4459aee926707193d776d02f17e37496a207", func := "omnibus/omnibuslaw04.MsgBack", spec := "msgBack", inPlace := ["slices.overlaps[omnibus/api.Message]"], unfollowed := true, recurses := true, named := ["omnibus/ident.greatest"], apart := false, laid := [("omnibus/ident.greatest", laid_omnibus_ident_greatest)] }
def MsgBackSaid : Prop := msgBackRow.holds Tryd.pinned (OpenSpec.ofChange msgBackSpec)

/-- ITS FALSE NEIGHBOUR: 'it returns false'. Refute it at one input. -/
def msgBackWrong : ChangeSpec := { name := "msgBack", fn := fun _ => fun
  | [d1, d2, d3] => { results := [.lit (.bool false)], args := [d1, d2, d3] }
  | _ => none }
def MsgBackWrongFalsely : Prop := msgBackRow.holds Tryd.pinned (OpenSpec.ofChange msgBackWrong)

/-- 'omnibuslaw04.MsgOrder': WHATEVER THE INPUT: true; the input reads as it did. -/
def msgOrderSpec : ChangeSpec := { name := "msgOrder", fn := fun _ => fun
  | [d1, d2] => { results := [.lit (.bool true)], args := [d1, d2] }
  | _ => none }
def msgOrderRow : OpenClaim := { program := "ytokomdenoegkgaadoor", sum := "ad9fb21244ba67814be1a07633ff4459aee926707193d776d02f17e37496a207", func := "omnibus/omnibuslaw04.MsgOrder", spec := "msgOrder", inPlace := ["slices.overlaps[omnibus/api.Message]"], unfollowed := true, recurses := true, named := ["omnibus/ident.greatest"], apart := false, laid := [("omnibus/ident.greatest", laid_omnibus_ident_greatest)] }
def MsgOrderSaid : Prop := msgOrderRow.holds Tryd.pinned (OpenSpec.ofChange msgOrderSpec)

/-- ITS FALSE NEIGHBOUR: 'it returns false'. Refute it at one input. -/
def msgOrderWrong : ChangeSpec := { name := "msgOrder", fn := fun _ => fun
  | [d1, d2] => { results := [.lit (.bool false)], args := [d1, d2] }
  | _ => none }
def MsgOrderWrongFalsely : Prop := msgOrderRow.holds Tryd.pinned (OpenSpec.ofChange msgOrderWrong)

/-- 'omnibuslaw04.MsgTwice': WHATEVER THE INPUT: true; the input reads as it did. -/
def msgTwiceSpec : ChangeSpec := { name := "msgTwice", fn := fun _ => fun
  | [d1, d2] => { results := [.lit (.bool true)], args := [d1, d2] }
  | _ => none }
def msgTwiceRow : OpenClaim := { program := "ytokomdenoegkgaadoor", sum := "ad9fb21244ba67814be1a07633ff4459aee926707193d776d02f17e37496a207", func := "omnibus/omnibuslaw04.MsgTwice", spec := "msgTwice", inPlace := ["slices.overlaps[omnibus/api.Message]"], unfollowed := true, recurses := true, named := ["omnibus/ident.greatest"], apart := false, laid := [("omnibus/ident.greatest", laid_omnibus_ident_greatest)] }
def MsgTwiceSaid : Prop := msgTwiceRow.holds Tryd.pinned (OpenSpec.ofChange msgTwiceSpec)

/-- ITS FALSE NEIGHBOUR: 'it returns false'. Refute it at one input. -/
def msgTwiceWrong : ChangeSpec := { name := "msgTwice", fn := fun _ => fun
  | [d1, d2] => { results := [.lit (.bool false)], args := [d1, d2] }
  | _ => none }
def MsgTwiceWrongFalsely : Prop := msgTwiceRow.holds Tryd.pinned (OpenSpec.ofChange msgTwiceWrong)

/-- 'omnibuslaw04.MsgRows': WHATEVER THE INPUT: true; the input reads as it did. -/
def msgRowsSpec : ChangeSpec := { name := "msgRows", fn := fun _ => fun
  | [d1, d2, d3] => { results := [.lit (.bool true)], args := [d1, d2, d3] }
  | _ => none }
def msgRowsRow : OpenClaim := { program := "ytokomdenoegkgaadoor", sum := "ad9fb21244ba67814be1a07633ff4459aee926707193d776d02f17e37496a207", func := "omnibus/omnibuslaw04.MsgRows", spec := "msgRows", inPlace := ["slices.overlaps[omnibus/api.Message]"], unfollowed := true, recurses := true, named := ["omnibus/ident.greatest"], apart := false, laid := [("omnibus/ident.greatest", laid_omnibus_ident_greatest)] }
def MsgRowsSaid : Prop := msgRowsRow.holds Tryd.pinned (OpenSpec.ofChange msgRowsSpec)

/-- ITS FALSE NEIGHBOUR: 'it returns false'. Refute it at one input. -/
def msgRowsWrong : ChangeSpec := { name := "msgRows", fn := fun _ => fun
  | [d1, d2, d3] => { results := [.lit (.bool false)], args := [d1, d2, d3] }
  | _ => none }
def MsgRowsWrongFalsely : Prop := msgRowsRow.holds Tryd.pinned (OpenSpec.ofChange msgRowsWrong)

/- THE SECOND FORM. 'bulk': how many values and letters a reading holds, each counted each time it is reached (what is shared counts as often as it is met; a slice's spare places count too). A statement '..UptoSaid' is the law's where the arguments, and the package variables that the reading takes, are together of bulk at most 1048576: NARROWER than '..Said'. Prove '..Said' where nothing that the law and all that it calls make is longer than what came in: it says more and counts as full. Else prove '..UptoSaid'. A law counts once. -/
mutual
def uptoBulk {H : Type} : DataW H → Nat
  | .lit (.string bytes) => bytes.length + 1
  | .lit _ => 1
  | .nil => 1
  | .ptr d => uptoBulk d + 1
  | .slice elems spare => uptoBulkAll elems + uptoBulkAll spare + 1
  | .agg parts => uptoBulkAll parts + 1
  | .iface _ d => uptoBulk d + 1
  | .map entries => uptoBulkEntries entries + 1
  | .held _ => 1
def uptoBulkAll {H : Type} : List (DataW H) → Nat
  | [] => 0
  | d :: r => uptoBulk d + uptoBulkAll r
def uptoBulkEntries {H : Type} : List (Lit × DataW H) → Nat
  | [] => 0
  | x :: r => uptoBulkEntry x + uptoBulkEntries r
def uptoBulkEntry {H : Type} : Lit × DataW H → Nat
  | (.string bytes, d) => bytes.length + uptoBulk d + 1
  | (_, d) => uptoBulk d + 1
 end
def uptoSmall : (H : Type) → List (DataW H) → Bool := fun _ ds => decide (uptoBulkAll ds ≤ 1048576)
def OpenSpec.upto (s : _root_.Go.ChangeSpec) : _root_.Go.OpenSpec := { _root_.Go.OpenSpec.ofChange s with cond := some uptoSmall }

/-- 'omnibuslaw04.MsgTells', WHERE WHAT IT READS IS OF BULK AT MOST 1048576: true; the input reads as it did. -/
def msgTellsUptoRow : OpenClaim := { program := "ytokomdenoegkgaadoor", sum := "ad9fb21244ba67814be1a07633ff4459aee926707193d776d02f17e37496a207", func := "omnibus/omnibuslaw04.MsgTells", spec := "msgTells", inPlace := ["slices.overlaps[omnibus/api.Message]"], unfollowed := true, recurses := true, named := ["omnibus/ident.greatest"], apart := false, laid := [("omnibus/ident.greatest", laid_omnibus_ident_greatest)], narrowed := true }
def MsgTellsUptoSaid : Prop := msgTellsUptoRow.holds Tryd.pinned (OpenSpec.upto msgTellsSpec)

/-- 'omnibuslaw04.MsgSorts', WHERE WHAT IT READS IS OF BULK AT MOST 1048576: true; the input reads as it did. -/
def msgSortsUptoRow : OpenClaim := { program := "ytokomdenoegkgaadoor", sum := "ad9fb21244ba67814be1a07633ff4459aee926707193d776d02f17e37496a207", func := "omnibus/omnibuslaw04.MsgSorts", spec := "msgSorts", inPlace := ["slices.overlaps[omnibus/api.Message]"], unfollowed := true, recurses := true, named := ["omnibus/ident.greatest"], apart := false, laid := [("omnibus/ident.greatest", laid_omnibus_ident_greatest)], narrowed := true }
def MsgSortsUptoSaid : Prop := msgSortsUptoRow.holds Tryd.pinned (OpenSpec.upto msgSortsSpec)

/-- 'omnibuslaw04.MsgBack', WHERE WHAT IT READS IS OF BULK AT MOST 1048576: true; the input reads as it did. -/
def msgBackUptoRow : OpenClaim := { program := "ytokomdenoegkgaadoor", sum := "ad9fb21244ba67814be1a07633ff4459aee926707193d776d02f17e37496a207", func := "omnibus/omnibuslaw04.MsgBack", spec := "msgBack", inPlace := ["slices.overlaps[omnibus/api.Message]"], unfollowed := true, recurses := true, named := ["omnibus/ident.greatest"], apart := false, laid := [("omnibus/ident.greatest", laid_omnibus_ident_greatest)], narrowed := true }
def MsgBackUptoSaid : Prop := msgBackUptoRow.holds Tryd.pinned (OpenSpec.upto msgBackSpec)

/-- 'omnibuslaw04.MsgOrder', WHERE WHAT IT READS IS OF BULK AT MOST 1048576: true; the input reads as it did. -/
def msgOrderUptoRow : OpenClaim := { program := "ytokomdenoegkgaadoor", sum := "ad9fb21244ba67814be1a07633ff4459aee926707193d776d02f17e37496a207", func := "omnibus/omnibuslaw04.MsgOrder", spec := "msgOrder", inPlace := ["slices.overlaps[omnibus/api.Message]"], unfollowed := true, recurses := true, named := ["omnibus/ident.greatest"], apart := false, laid := [("omnibus/ident.greatest", laid_omnibus_ident_greatest)], narrowed := true }
def MsgOrderUptoSaid : Prop := msgOrderUptoRow.holds Tryd.pinned (OpenSpec.upto msgOrderSpec)

/-- 'omnibuslaw04.MsgTwice', WHERE WHAT IT READS IS OF BULK AT MOST 1048576: true; the input reads as it did. -/
def msgTwiceUptoRow : OpenClaim := { program := "ytokomdenoegkgaadoor", sum := "ad9fb21244ba67814be1a07633ff4459aee926707193d776d02f17e37496a207", func := "omnibus/omnibuslaw04.MsgTwice", spec := "msgTwice", inPlace := ["slices.overlaps[omnibus/api.Message]"], unfollowed := true, recurses := true, named := ["omnibus/ident.greatest"], apart := false, laid := [("omnibus/ident.greatest", laid_omnibus_ident_greatest)], narrowed := true }
def MsgTwiceUptoSaid : Prop := msgTwiceUptoRow.holds Tryd.pinned (OpenSpec.upto msgTwiceSpec)

/-- 'omnibuslaw04.MsgRows', WHERE WHAT IT READS IS OF BULK AT MOST 1048576: true; the input reads as it did. -/
def msgRowsUptoRow : OpenClaim := { program := "ytokomdenoegkgaadoor", sum := "ad9fb21244ba67814be1a07633ff4459aee926707193d776d02f17e37496a207", func := "omnibus/omnibuslaw04.MsgRows", spec := "msgRows", inPlace := ["slices.overlaps[omnibus/api.Message]"], unfollowed := true, recurses := true, named := ["omnibus/ident.greatest"], apart := false, laid := [("omnibus/ident.greatest", laid_omnibus_ident_greatest)], narrowed := true }
def MsgRowsUptoSaid : Prop := msgRowsUptoRow.holds Tryd.pinned (OpenSpec.upto msgRowsSpec)

end Rows
end Go.Proofs.YtokomdenoegkgaaDoor
