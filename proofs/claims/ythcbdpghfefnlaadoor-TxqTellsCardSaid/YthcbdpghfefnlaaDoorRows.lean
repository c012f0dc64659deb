/-
  NARROWER THAN 'FOR EVERY INPUT', by the rows' own cells (each row's printed sentence says how): TxqTells: laid · TxqOrder: laid · TxqFull: laid · TxqSame: laid · TxqAborts: laid.
  DERIVED. THE GIVEN ROWS OF THIS SEAT. 5 by the template 'for every input the law returns true; each argument reads behind the call as it read before'; 0 by the template 'total and deterministic' (their statements: YthcbdpghfefnlaaDoorTotals.lean).
  GIVEN WITH THE SEED: the statements are not yours to turn. If you find one false, say at which input.
  Laid BY PROGRAM, IN A SANDBOX (cutbox-rows.mjs): the forced cells as the released guide's own fill.sh prints them over the translation f1a4c97bd43f58a7… (all of the seat's roots in one cut). By AI agents, Wed Nov 11 2026. No macro, syntax, notation, axiom, sorry.
-/
import Derived.Test.YthcbdpghfefnlaaDoorChecked
import GoSem.Claim
import GoSem.ClaimJoined
import GoSem.ClaimMapViews
import Derived.JoinedTies
import Derived.KernelRfl
namespace Go.Proofs.YthcbdpghfefnlaaDoor
/- THE CELL 'sum', in the pinned program and in every row, IS THE sha256 OF THE DUMP (.gsa) THAT YthcbdpghfefnlaaDoorProg.lean LOADS. Nothing in Lean hashes anything: it is a label: what it is worth is what the hold of that sum in a sandbox is worth. -/
noncomputable def Tryd.pinned : Pinned := { name := "ythcbdpghfefnlaadoor", sum := "f1a4c97bd43f58a754e582fc48acf1def38fbcb21d483016191ba7902ae64fc4", checked := Tryd.checked }
namespace Rows
def none {H : Type} : Left H := { results := [], args := [] }

/- WHAT THE LISTED PACKAGE-LEVEL VARIABLES READ AS WHEN THE CALL BEGINS. Each datum BY PROGRAM (the guide's laid-datum.mjs) off the statement by which the dump's own 'gosem.cut.vars' lays the variable. In a bare row this is a premise. The card (YthcbdpghfefnlaaDoorCards.lean) ties it to the program's text. -/
def laid_omnibus_ident_greatest {H : Type} : DataW H := .agg [.lit (.int .i64 2047), .lit (.int .i64 536870911)]

/-- 'omnibuslaw13.TxqTells': WHATEVER THE INPUT: true; the input reads as it did. -/
def txqTellsSpec : ChangeSpec := { name := "txqTells", fn := fun _ => fun
  | [d1, d2, d3, d4, d5, d6, d7] => { results := [.lit (.bool true)], args := [d1, d2, d3, d4, d5, d6, d7] }
  | _ => none }
def txqTellsRow : OpenClaim := { program := "ythcbdpghfefnlaadoor", sum := "f1a4c97bd43f58a754e582fc48acf1def38fbcb21d483016191ba7902ae64fc4", func := "omnibus/omnibuslaw13.TxqTells", spec := "txqTells", inPlace := ["slices.overlaps[omnibus/api.Message]"], unfollowed := true, recurses := true, named := ["omnibus/ident.greatest"], apart := false, laid := [("omnibus/ident.greatest", laid_omnibus_ident_greatest)] }
def TxqTellsSaid : Prop := txqTellsRow.holds Tryd.pinned (OpenSpec.ofChange txqTellsSpec)

/-- ITS FALSE NEIGHBOUR: 'it returns false'. Refute it at one input. -/
def txqTellsWrong : ChangeSpec := { name := "txqTells", fn := fun _ => fun
  | [d1, d2, d3, d4, d5, d6, d7] => { results := [.lit (.bool false)], args := [d1, d2, d3, d4, d5, d6, d7] }
  | _ => none }
def TxqTellsWrongFalsely : Prop := txqTellsRow.holds Tryd.pinned (OpenSpec.ofChange txqTellsWrong)

/-- 'omnibuslaw13.TxqOrder': WHATEVER THE INPUT: true; the input reads as it did. -/
def txqOrderSpec : ChangeSpec := { name := "txqOrder", fn := fun _ => fun
  | [d1, d2] => { results := [.lit (.bool true)], args := [d1, d2] }
  | _ => none }
def txqOrderRow : OpenClaim := { program := "ythcbdpghfefnlaadoor", sum := "f1a4c97bd43f58a754e582fc48acf1def38fbcb21d483016191ba7902ae64fc4", func := "omnibus/omnibuslaw13.TxqOrder", spec := "txqOrder", inPlace := ["slices.overlaps[omnibus/api.Message]"], unfollowed := true, recurses := true, named := ["omnibus/ident.greatest"], apart := false, laid := [("omnibus/ident.greatest", laid_omnibus_ident_greatest)] }
def TxqOrderSaid : Prop := txqOrderRow.holds Tryd.pinned (OpenSpec.ofChange txqOrderSpec)

/-- ITS FALSE NEIGHBOUR: 'it returns false'. Refute it at one input. -/
def txqOrderWrong : ChangeSpec := { name := "txqOrder", fn := fun _ => fun
  | [d1, d2] => { results := [.lit (.bool false)], args := [d1, d2] }
  | _ => none }
def TxqOrderWrongFalsely : Prop := txqOrderRow.holds Tryd.pinned (OpenSpec.ofChange txqOrderWrong)

/-- 'omnibuslaw13.TxqFull': WHATEVER THE INPUT: true; the input reads as it did. -/
def txqFullSpec : ChangeSpec := { name := "txqFull", fn := fun _ => fun
  | [d1, d2] => { results := [.lit (.bool true)], args := [d1, d2] }
  | _ => none }
def txqFullRow : OpenClaim := { program := "ythcbdpghfefnlaadoor", sum := "f1a4c97bd43f58a754e582fc48acf1def38fbcb21d483016191ba7902ae64fc4", func := "omnibus/omnibuslaw13.TxqFull", spec := "txqFull", inPlace := ["slices.overlaps[omnibus/api.Message]"], unfollowed := true, recurses := true, named := ["omnibus/ident.greatest"], apart := false, laid := [("omnibus/ident.greatest", laid_omnibus_ident_greatest)] }
def TxqFullSaid : Prop := txqFullRow.holds Tryd.pinned (OpenSpec.ofChange txqFullSpec)

/-- ITS FALSE NEIGHBOUR: 'it returns false'. Refute it at one input. -/
def txqFullWrong : ChangeSpec := { name := "txqFull", fn := fun _ => fun
  | [d1, d2] => { results := [.lit (.bool false)], args := [d1, d2] }
  | _ => none }
def TxqFullWrongFalsely : Prop := txqFullRow.holds Tryd.pinned (OpenSpec.ofChange txqFullWrong)

/-- 'omnibuslaw13.TxqSame': WHATEVER THE INPUT: true; the input reads as it did. -/
def txqSameSpec : ChangeSpec := { name := "txqSame", fn := fun _ => fun
  | [d1, d2] => { results := [.lit (.bool true)], args := [d1, d2] }
  | _ => none }
def txqSameRow : OpenClaim := { program := "ythcbdpghfefnlaadoor", sum := "f1a4c97bd43f58a754e582fc48acf1def38fbcb21d483016191ba7902ae64fc4", func := "omnibus/omnibuslaw13.TxqSame", spec := "txqSame", inPlace := ["slices.overlaps[omnibus/api.Message]"], unfollowed := true, recurses := true, named := ["omnibus/ident.greatest"], apart := false, laid := [("omnibus/ident.greatest", laid_omnibus_ident_greatest)] }
def TxqSameSaid : Prop := txqSameRow.holds Tryd.pinned (OpenSpec.ofChange txqSameSpec)

/-- ITS FALSE NEIGHBOUR: 'it returns false'. Refute it at one input. -/
def txqSameWrong : ChangeSpec := { name := "txqSame", fn := fun _ => fun
  | [d1, d2] => { results := [.lit (.bool false)], args := [d1, d2] }
  | _ => none }
def TxqSameWrongFalsely : Prop := txqSameRow.holds Tryd.pinned (OpenSpec.ofChange txqSameWrong)

/-- 'omnibuslaw13.TxqAborts': WHATEVER THE INPUT: true; the input reads as it did. -/
def txqAbortsSpec : ChangeSpec := { name := "txqAborts", fn := fun _ => fun
  | [d1, d2, d3] => { results := [.lit (.bool true)], args := [d1, d2, d3] }
  | _ => none }
def txqAbortsRow : OpenClaim := { program := "ythcbdpghfefnlaadoor", sum := "f1a4c97bd43f58a754e582fc48acf1def38fbcb21d483016191ba7902ae64fc4", func := "omnibus/omnibuslaw13.TxqAborts", spec := "txqAborts", inPlace := ["slices.overlaps[omnibus/api.Message]"], unfollowed := true, recurses := true, named := ["omnibus/ident.greatest"], apart := false, laid := [("omnibus/ident.greatest", laid_omnibus_ident_greatest)] }
def TxqAbortsSaid : Prop := txqAbortsRow.holds Tryd.pinned (OpenSpec.ofChange txqAbortsSpec)

/-- ITS FALSE NEIGHBOUR: 'it returns false'. Refute it at one input. -/
def txqAbortsWrong : ChangeSpec := { name := "txqAborts", fn := fun _ => fun
  | [d1, d2, d3] => { results := [.lit (.bool false)], args := [d1, d2, d3] }
  | _ => none }
def TxqAbortsWrongFalsely : Prop := txqAbortsRow.holds Tryd.pinned (OpenSpec.ofChange txqAbortsWrong)

/- THE SECOND FORM. 'bulk': how many values and letters a reading holds, each counted each time it is reached (what is shared counts as often as it is met; a slice's spare places count too). A statement '..UptoSaid' is the law's where the arguments, and the package variables that the reading takes, are together of bulk at most 1048576: NARROWER than '..Said'. Prove '..Said' where nothing that the law and all that it calls make is longer than what came in: it says more and counts as full. Else prove '..UptoSaid'. A law counts once. -/
mutual
def uptoBulk {H : Type} : DataW H → Nat
  | .lit (.string bytes) => bytes.length + 1
  | .lit _ => 1
  | .nil => 1
  | .ptr d => uptoBulk d + 1
  | .slice elems spare => uptoBulkAll elems + uptoBulkAll spare + 1
  | .agg parts => uptoBulkAll parts + 1
  | .iface _ d => uptoBulk d + 1
  | .map entries => uptoBulkEntries entries + 1
  | .held _ => 1
def uptoBulkAll {H : Type} : List (DataW H) → Nat
  | [] => 0
  | d :: r => uptoBulk d + uptoBulkAll r
def uptoBulkEntries {H : Type} : List (Lit × DataW H) → Nat
  | [] => 0
  | x :: r => uptoBulkEntry x + uptoBulkEntries r
def uptoBulkEntry {H : Type} : Lit × DataW H → Nat
  | (.string bytes, d) => bytes.length + uptoBulk d + 1
  | (_, d) => uptoBulk d + 1
 end
def uptoSmall : (H : Type) → List (DataW H) → Bool := fun _ ds => decide (uptoBulkAll ds ≤ 1048576)
def OpenSpec.upto (s : _root_.Go.ChangeSpec) : _root_.Go.OpenSpec := { _root_.Go.OpenSpec.ofChange s with cond := some uptoSmall }

/-- 'omnibuslaw13.TxqTells', WHERE WHAT IT READS IS OF BULK AT MOST 1048576: true; the input reads as it did. -/
def txqTellsUptoRow : OpenClaim := { program := "ythcbdpghfefnlaadoor", sum := "f1a4c97bd43f58a754e582fc48acf1def38fbcb21d483016191ba7902ae64fc4", func := "omnibus/omnibuslaw13.TxqTells", spec := "txqTells", inPlace := ["slices.overlaps[omnibus/api.Message]"], unfollowed := true, recurses := true, named := ["omnibus/ident.greatest"], apart := false, laid := [("omnibus/ident.greatest", laid_omnibus_ident_greatest)], narrowed := true }
def TxqTellsUptoSaid : Prop := txqTellsUptoRow.holds Tryd.pinned (OpenSpec.upto txqTellsSpec)

/-- 'omnibuslaw13.TxqOrder', WHERE WHAT IT READS IS OF BULK AT MOST 1048576: true; the input reads as it did. -/
def txqOrderUptoRow : OpenClaim := { program := "ythcbdpghfefnlaadoor", sum := "f1a4c97bd43f58a754e582fc48acf1def38fbcb21d483016191ba7902ae64fc4", func := "omnibus/omnibuslaw13.TxqOrder", spec := "txqOrder", inPlace := ["slices.overlaps[omnibus/api.Message]"], unfollowed := true, recurses := true, named := ["omnibus/ident.greatest"], apart := false, laid := [("omnibus/ident.greatest", laid_omnibus_ident_greatest)], narrowed := true }
def TxqOrderUptoSaid : Prop := txqOrderUptoRow.holds Tryd.pinned (OpenSpec.upto txqOrderSpec)

/-- 'omnibuslaw13.TxqFull', WHERE WHAT IT READS IS OF BULK AT MOST 1048576: true; the input reads as it did. -/
def txqFullUptoRow : OpenClaim := { program := "ythcbdpghfefnlaadoor", sum := "f1a4c97bd43f58a754e582fc48acf1def38fbcb21d483016191ba7902ae64fc4", func := "omnibus/omnibuslaw13.TxqFull", spec := "txqFull", inPlace := ["slices.overlaps[omnibus/api.Message]"], unfollowed := true, recurses := true, named := ["omnibus/ident.greatest"], apart := false, laid := [("omnibus/ident.greatest", laid_omnibus_ident_greatest)], narrowed := true }
def TxqFullUptoSaid : Prop := txqFullUptoRow.holds Tryd.pinned (OpenSpec.upto txqFullSpec)

/-- 'omnibuslaw13.TxqSame', WHERE WHAT IT READS IS OF BULK AT MOST 1048576: true; the input reads as it did. -/
def txqSameUptoRow : OpenClaim := { program := "ythcbdpghfefnlaadoor", sum := "f1a4c97bd43f58a754e582fc48acf1def38fbcb21d483016191ba7902ae64fc4", func := "omnibus/omnibuslaw13.TxqSame", spec := "txqSame", inPlace := ["slices.overlaps[omnibus/api.Message]"], unfollowed := true, recurses := true, named := ["omnibus/ident.greatest"], apart := false, laid := [("omnibus/ident.greatest", laid_omnibus_ident_greatest)], narrowed := true }
def TxqSameUptoSaid : Prop := txqSameUptoRow.holds Tryd.pinned (OpenSpec.upto txqSameSpec)

/-- 'omnibuslaw13.TxqAborts', WHERE WHAT IT READS IS OF BULK AT MOST 1048576: true; the input reads as it did. -/
def txqAbortsUptoRow : OpenClaim := { program := "ythcbdpghfefnlaadoor", sum := "f1a4c97bd43f58a754e582fc48acf1def38fbcb21d483016191ba7902ae64fc4", func := "omnibus/omnibuslaw13.TxqAborts", spec := "txqAborts", inPlace := ["slices.overlaps[omnibus/api.Message]"], unfollowed := true, recurses := true, named := ["omnibus/ident.greatest"], apart := false, laid := [("omnibus/ident.greatest", laid_omnibus_ident_greatest)], narrowed := true }
def TxqAbortsUptoSaid : Prop := txqAbortsUptoRow.holds Tryd.pinned (OpenSpec.upto txqAbortsSpec)

end Rows
end Go.Proofs.YthcbdpghfefnlaaDoor
