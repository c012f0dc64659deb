/-
  NARROWER THAN 'FOR EVERY INPUT', by the rows' own cells (each row's printed sentence says how): ViewGrows: laid · ViewMarks: laid · ViewParts: laid · ViewOnly: laid · ViewTerms: laid.
  DERIVED. THE GIVEN ROWS OF THIS SEAT. 5 by the template 'for every input the law returns true; each argument reads behind the call as it read before'; 0 by the template 'total and deterministic' (their statements: YtfnhcinnlfklbaaDoorTotals.lean).
  GIVEN WITH THE SEED: the statements are not yours to turn. If you find one false, say at which input.
  Laid BY PROGRAM, IN A SANDBOX (cutbox-rows.mjs): the forced cells as the released guide's own fill.sh prints them over the translation 39fd71b1e670c03f… (all of the seat's roots in one cut). By AI agents, Wed Nov 11 2026. No macro, syntax, notation, axiom, sorry.
-/
import Derived.Test.YtfnhcinnlfklbaaDoorChecked
import GoSem.Claim
import GoSem.ClaimJoined
import GoSem.ClaimMapViews
import Derived.JoinedTies
import Derived.KernelRfl
namespace Go.Proofs.YtfnhcinnlfklbaaDoor
/- THE CELL 'sum', in the pinned program and in every row, IS THE sha256 OF THE DUMP (.gsa) THAT YtfnhcinnlfklbaaDoorProg.lean LOADS. Nothing in Lean hashes anything: it is a label: what it is worth is what the hold of that sum in a sandbox is worth. -/
noncomputable def Tryd.pinned : Pinned := { name := "ytfnhcinnlfklbaadoor", sum := "39fd71b1e670c03f4085e43bef08d12673d23bdf51e0c11719ac04a968c71dab", checked := Tryd.checked }
namespace Rows
def none {H : Type} : Left H := { results := [], args := [] }

/- WHAT THE LISTED PACKAGE-LEVEL VARIABLES READ AS WHEN THE CALL BEGINS. Each datum BY PROGRAM (the guide's laid-datum.mjs) off the statement by which the dump's own 'gosem.cut.vars' lays the variable. In a bare row this is a premise. The card (YtfnhcinnlfklbaaDoorCards.lean) ties it to the program's text. -/
def laid_omnibus_ident_greatest {H : Type} : DataW H := .agg [.lit (.int .i64 2047), .lit (.int .i64 536870911)]

/-- 'omnibuslaw17.ViewGrows': WHATEVER THE INPUT: true; the input reads as it did. -/
def viewGrowsSpec : ChangeSpec := { name := "viewGrows", fn := fun _ => fun
  | [d1, d2] => { results := [.lit (.bool true)], args := [d1, d2] }
  | _ => none }
def viewGrowsRow : OpenClaim := { program := "ytfnhcinnlfklbaadoor", sum := "39fd71b1e670c03f4085e43bef08d12673d23bdf51e0c11719ac04a968c71dab", func := "omnibus/omnibuslaw17.ViewGrows", spec := "viewGrows", inPlace := ["slices.overlaps[omnibus/api.Message]"], unfollowed := true, recurses := true, named := ["omnibus/ident.greatest"], apart := false, laid := [("omnibus/ident.greatest", laid_omnibus_ident_greatest)] }
def ViewGrowsSaid : Prop := viewGrowsRow.holds Tryd.pinned (OpenSpec.ofChange viewGrowsSpec)

/-- ITS FALSE NEIGHBOUR: 'it returns false'. Refute it at one input. -/
def viewGrowsWrong : ChangeSpec := { name := "viewGrows", fn := fun _ => fun
  | [d1, d2] => { results := [.lit (.bool false)], args := [d1, d2] }
  | _ => none }
def ViewGrowsWrongFalsely : Prop := viewGrowsRow.holds Tryd.pinned (OpenSpec.ofChange viewGrowsWrong)

/-- 'omnibuslaw17.ViewMarks': WHATEVER THE INPUT: true; the input reads as it did. -/
def viewMarksSpec : ChangeSpec := { name := "viewMarks", fn := fun _ => fun
  | [d1, d2] => { results := [.lit (.bool true)], args := [d1, d2] }
  | _ => none }
def viewMarksRow : OpenClaim := { program := "ytfnhcinnlfklbaadoor", sum := "39fd71b1e670c03f4085e43bef08d12673d23bdf51e0c11719ac04a968c71dab", func := "omnibus/omnibuslaw17.ViewMarks", spec := "viewMarks", inPlace := ["slices.overlaps[omnibus/api.Message]"], unfollowed := true, recurses := true, named := ["omnibus/ident.greatest"], apart := false, laid := [("omnibus/ident.greatest", laid_omnibus_ident_greatest)] }
def ViewMarksSaid : Prop := viewMarksRow.holds Tryd.pinned (OpenSpec.ofChange viewMarksSpec)

/-- ITS FALSE NEIGHBOUR: 'it returns false'. Refute it at one input. -/
def viewMarksWrong : ChangeSpec := { name := "viewMarks", fn := fun _ => fun
  | [d1, d2] => { results := [.lit (.bool false)], args := [d1, d2] }
  | _ => none }
def ViewMarksWrongFalsely : Prop := viewMarksRow.holds Tryd.pinned (OpenSpec.ofChange viewMarksWrong)

/-- 'omnibuslaw17.ViewParts': WHATEVER THE INPUT: true; the input reads as it did. -/
def viewPartsSpec : ChangeSpec := { name := "viewParts", fn := fun _ => fun
  | [d1, d2, d3, d4, d5] => { results := [.lit (.bool true)], args := [d1, d2, d3, d4, d5] }
  | _ => none }
def viewPartsRow : OpenClaim := { program := "ytfnhcinnlfklbaadoor", sum := "39fd71b1e670c03f4085e43bef08d12673d23bdf51e0c11719ac04a968c71dab", func := "omnibus/omnibuslaw17.ViewParts", spec := "viewParts", inPlace := ["slices.overlaps[omnibus/api.Message]"], unfollowed := true, recurses := true, named := ["omnibus/ident.greatest"], apart := false, laid := [("omnibus/ident.greatest", laid_omnibus_ident_greatest)] }
def ViewPartsSaid : Prop := viewPartsRow.holds Tryd.pinned (OpenSpec.ofChange viewPartsSpec)

/-- ITS FALSE NEIGHBOUR: 'it returns false'. Refute it at one input. -/
def viewPartsWrong : ChangeSpec := { name := "viewParts", fn := fun _ => fun
  | [d1, d2, d3, d4, d5] => { results := [.lit (.bool false)], args := [d1, d2, d3, d4, d5] }
  | _ => none }
def ViewPartsWrongFalsely : Prop := viewPartsRow.holds Tryd.pinned (OpenSpec.ofChange viewPartsWrong)

/-- 'omnibuslaw17.ViewOnly': WHATEVER THE INPUT: true; the input reads as it did. -/
def viewOnlySpec : ChangeSpec := { name := "viewOnly", fn := fun _ => fun
  | [d1, d2] => { results := [.lit (.bool true)], args := [d1, d2] }
  | _ => none }
def viewOnlyRow : OpenClaim := { program := "ytfnhcinnlfklbaadoor", sum := "39fd71b1e670c03f4085e43bef08d12673d23bdf51e0c11719ac04a968c71dab", func := "omnibus/omnibuslaw17.ViewOnly", spec := "viewOnly", inPlace := ["slices.overlaps[omnibus/api.Message]"], unfollowed := true, recurses := true, named := ["omnibus/ident.greatest"], apart := false, laid := [("omnibus/ident.greatest", laid_omnibus_ident_greatest)] }
def ViewOnlySaid : Prop := viewOnlyRow.holds Tryd.pinned (OpenSpec.ofChange viewOnlySpec)

/-- ITS FALSE NEIGHBOUR: 'it returns false'. Refute it at one input. -/
def viewOnlyWrong : ChangeSpec := { name := "viewOnly", fn := fun _ => fun
  | [d1, d2] => { results := [.lit (.bool false)], args := [d1, d2] }
  | _ => none }
def ViewOnlyWrongFalsely : Prop := viewOnlyRow.holds Tryd.pinned (OpenSpec.ofChange viewOnlyWrong)

/-- 'omnibuslaw17.ViewTerms': WHATEVER THE INPUT: true; the input reads as it did. -/
def viewTermsSpec : ChangeSpec := { name := "viewTerms", fn := fun _ => fun
  | [d1, d2, d3, d4] => { results := [.lit (.bool true)], args := [d1, d2, d3, d4] }
  | _ => none }
def viewTermsRow : OpenClaim := { program := "ytfnhcinnlfklbaadoor", sum := "39fd71b1e670c03f4085e43bef08d12673d23bdf51e0c11719ac04a968c71dab", func := "omnibus/omnibuslaw17.ViewTerms", spec := "viewTerms", inPlace := ["slices.overlaps[omnibus/api.Message]"], unfollowed := true, recurses := true, named := ["omnibus/ident.greatest"], apart := false, laid := [("omnibus/ident.greatest", laid_omnibus_ident_greatest)] }
def ViewTermsSaid : Prop := viewTermsRow.holds Tryd.pinned (OpenSpec.ofChange viewTermsSpec)

/-- ITS FALSE NEIGHBOUR: 'it returns false'. Refute it at one input. -/
def viewTermsWrong : ChangeSpec := { name := "viewTerms", fn := fun _ => fun
  | [d1, d2, d3, d4] => { results := [.lit (.bool false)], args := [d1, d2, d3, d4] }
  | _ => none }
def ViewTermsWrongFalsely : Prop := viewTermsRow.holds Tryd.pinned (OpenSpec.ofChange viewTermsWrong)

/- THE SECOND FORM. 'bulk': how many values and letters a reading holds, each counted each time it is reached (what is shared counts as often as it is met; a slice's spare places count too). A statement '..UptoSaid' is the law's where the arguments, and the package variables that the reading takes, are together of bulk at most 1048576: NARROWER than '..Said'. Prove '..Said' where nothing that the law and all that it calls make is longer than what came in: it says more and counts as full. Else prove '..UptoSaid'. A law counts once. -/
mutual
def uptoBulk {H : Type} : DataW H → Nat
  | .lit (.string bytes) => bytes.length + 1
  | .lit _ => 1
  | .nil => 1
  | .ptr d => uptoBulk d + 1
  | .slice elems spare => uptoBulkAll elems + uptoBulkAll spare + 1
  | .agg parts => uptoBulkAll parts + 1
  | .iface _ d => uptoBulk d + 1
  | .map entries => uptoBulkEntries entries + 1
  | .held _ => 1
def uptoBulkAll {H : Type} : List (DataW H) → Nat
  | [] => 0
  | d :: r => uptoBulk d + uptoBulkAll r
def uptoBulkEntries {H : Type} : List (Lit × DataW H) → Nat
  | [] => 0
  | x :: r => uptoBulkEntry x + uptoBulkEntries r
def uptoBulkEntry {H : Type} : Lit × DataW H → Nat
  | (.string bytes, d) => bytes.length + uptoBulk d + 1
  | (_, d) => uptoBulk d + 1
 end
def uptoSmall : (H : Type) → List (DataW H) → Bool := fun _ ds => decide (uptoBulkAll ds ≤ 1048576)
def OpenSpec.upto (s : _root_.Go.ChangeSpec) : _root_.Go.OpenSpec := { _root_.Go.OpenSpec.ofChange s with cond := some uptoSmall }

/-- 'omnibuslaw17.ViewGrows', WHERE WHAT IT READS IS OF BULK AT MOST 1048576: true; the input reads as it did. -/
def viewGrowsUptoRow : OpenClaim := { program := "ytfnhcinnlfklbaadoor", sum := "39fd71b1e670c03f4085e43bef08d12673d23bdf51e0c11719ac04a968c71dab", func := "omnibus/omnibuslaw17.ViewGrows", spec := "viewGrows", inPlace := ["slices.overlaps[omnibus/api.Message]"], unfollowed := true, recurses := true, named := ["omnibus/ident.greatest"], apart := false, laid := [("omnibus/ident.greatest", laid_omnibus_ident_greatest)], narrowed := true }
def ViewGrowsUptoSaid : Prop := viewGrowsUptoRow.holds Tryd.pinned (OpenSpec.upto viewGrowsSpec)

/-- 'omnibuslaw17.ViewMarks', WHERE WHAT IT READS IS OF BULK AT MOST 1048576: true; the input reads as it did. -/
def viewMarksUptoRow : OpenClaim := { program := "ytfnhcinnlfklbaadoor", sum := "39fd71b1e670c03f4085e43bef08d12673d23bdf51e0c11719ac04a968c71dab", func := "omnibus/omnibuslaw17.ViewMarks", spec := "viewMarks", inPlace := ["slices.overlaps[omnibus/api.Message]"], unfollowed := true, recurses := true, named := ["omnibus/ident.greatest"], apart := false, laid := [("omnibus/ident.greatest", laid_omnibus_ident_greatest)], narrowed := true }
def ViewMarksUptoSaid : Prop := viewMarksUptoRow.holds Tryd.pinned (OpenSpec.upto viewMarksSpec)

/-- 'omnibuslaw17.ViewParts', WHERE WHAT IT READS IS OF BULK AT MOST 1048576: true; the input reads as it did. -/
def viewPartsUptoRow : OpenClaim := { program := "ytfnhcinnlfklbaadoor", sum := "39fd71b1e670c03f4085e43bef08d12673d23bdf51e0c11719ac04a968c71dab", func := "omnibus/omnibuslaw17.ViewParts", spec := "viewParts", inPlace := ["slices.overlaps[omnibus/api.Message]"], unfollowed := true, recurses := true, named := ["omnibus/ident.greatest"], apart := false, laid := [("omnibus/ident.greatest", laid_omnibus_ident_greatest)], narrowed := true }
def ViewPartsUptoSaid : Prop := viewPartsUptoRow.holds Tryd.pinned (OpenSpec.upto viewPartsSpec)

/-- 'omnibuslaw17.ViewOnly', WHERE WHAT IT READS IS OF BULK AT MOST 1048576: true; the input reads as it did. -/
def viewOnlyUptoRow : OpenClaim := { program := "ytfnhcinnlfklbaadoor", sum := "39fd71b1e670c03f4085e43bef08d12673d23bdf51e0c11719ac04a968c71dab", func := "omnibus/omnibuslaw17.ViewOnly", spec := "viewOnly", inPlace := ["slices.overlaps[omnibus/api.Message]"], unfollowed := true, recurses := true, named := ["omnibus/ident.greatest"], apart := false, laid := [("omnibus/ident.greatest", laid_omnibus_ident_greatest)], narrowed := true }
def ViewOnlyUptoSaid : Prop := viewOnlyUptoRow.holds Tryd.pinned (OpenSpec.upto viewOnlySpec)

/-- 'omnibuslaw17.ViewTerms', WHERE WHAT IT READS IS OF BULK AT MOST 1048576: true; the input reads as it did. -/
def viewTermsUptoRow : OpenClaim := { program := "ytfnhcinnlfklbaadoor", sum := "39fd71b1e670c03f4085e43bef08d12673d23bdf51e0c11719ac04a968c71dab", func := "omnibus/omnibuslaw17.ViewTerms", spec := "viewTerms", inPlace := ["slices.overlaps[omnibus/api.Message]"], unfollowed := true, recurses := true, named := ["omnibus/ident.greatest"], apart := false, laid := [("omnibus/ident.greatest", laid_omnibus_ident_greatest)], narrowed := true }
def ViewTermsUptoSaid : Prop := viewTermsUptoRow.holds Tryd.pinned (OpenSpec.upto viewTermsSpec)

end Rows
end Go.Proofs.YtfnhcinnlfklbaaDoor
