/-
  No cell of these rows narrows 'for every input' (looked for: loops, veiled, ifaces, maps, wideKeys, modest, calm, conditions, laid).
  DERIVED. THE GIVEN ROWS OF THIS SEAT. 5 by the template 'for every input the law returns true; each argument reads behind the call as it read before'; 0 by the template 'total and deterministic' (their statements: YtdaigbpaggnijaaTotals.lean).
  GIVEN WITH THE SEED: the statements are not yours to turn. If you find one false, say at which input.
  Laid BY PROGRAM, IN A SANDBOX (cutbox-rows.mjs): the forced cells as the released guide's own fill.sh prints them over the translation 5a087e142a60c77d… (all of the seat's roots in one cut). By AI agents, Wed Nov 11 2026. No macro, syntax, notation, axiom, sorry.
-/
import Derived.Test.YtdaigbpaggnijaaChecked
import GoSem.Claim
import GoSem.ClaimJoined
import GoSem.ClaimMapViews
import Derived.JoinedTies
import Derived.KernelRfl
namespace Go.Proofs.Ytdaigbpaggnijaa
/- THE CELL 'sum', in the pinned program and in every row, IS THE sha256 OF THE DUMP (.gsa) THAT YtdaigbpaggnijaaProg.lean LOADS. Nothing in Lean hashes anything: it is a label: what it is worth is what the hold of that sum in a sandbox is worth. -/
noncomputable def Try.pinned : Pinned := { name := "ytdaigbpaggnijaa", sum := "5a087e142a60c77dd5cbd9227a06262fc2ee222f808837e55867f76a0d3fc393", checked := Try.checked }
namespace Rows
def none {H : Type} : Left H := { results := [], args := [] }

/-- 'omnibuslaw15.CreditTells': WHATEVER THE INPUT: true; the input reads as it did. -/
def creditTellsSpec : ChangeSpec := { name := "creditTells", fn := fun _ => fun
  | [d1, d2, d3, d4, d5, d6] => { results := [.lit (.bool true)], args := [d1, d2, d3, d4, d5, d6] }
  | _ => none }
def creditTellsRow : OpenClaim := { program := "ytdaigbpaggnijaa", sum := "5a087e142a60c77dd5cbd9227a06262fc2ee222f808837e55867f76a0d3fc393", func := "omnibus/omnibuslaw15.CreditTells", spec := "creditTells", unfollowed := true, recurses := true, apart := false }
def CreditTellsSaid : Prop := creditTellsRow.holds Try.pinned (OpenSpec.ofChange creditTellsSpec)

/-- ITS FALSE NEIGHBOUR: 'it returns false'. Refute it at one input. -/
def creditTellsWrong : ChangeSpec := { name := "creditTells", fn := fun _ => fun
  | [d1, d2, d3, d4, d5, d6] => { results := [.lit (.bool false)], args := [d1, d2, d3, d4, d5, d6] }
  | _ => none }
def CreditTellsWrongFalsely : Prop := creditTellsRow.holds Try.pinned (OpenSpec.ofChange creditTellsWrong)

/-- 'omnibuslaw15.CreditBounds': WHATEVER THE INPUT: true; the input reads as it did. -/
def creditBoundsSpec : ChangeSpec := { name := "creditBounds", fn := fun _ => fun
  | [d1, d2] => { results := [.lit (.bool true)], args := [d1, d2] }
  | _ => none }
def creditBoundsRow : OpenClaim := { program := "ytdaigbpaggnijaa", sum := "5a087e142a60c77dd5cbd9227a06262fc2ee222f808837e55867f76a0d3fc393", func := "omnibus/omnibuslaw15.CreditBounds", spec := "creditBounds", unfollowed := true, recurses := true, apart := false }
def CreditBoundsSaid : Prop := creditBoundsRow.holds Try.pinned (OpenSpec.ofChange creditBoundsSpec)

/-- ITS FALSE NEIGHBOUR: 'it returns false'. Refute it at one input. -/
def creditBoundsWrong : ChangeSpec := { name := "creditBounds", fn := fun _ => fun
  | [d1, d2] => { results := [.lit (.bool false)], args := [d1, d2] }
  | _ => none }
def CreditBoundsWrongFalsely : Prop := creditBoundsRow.holds Try.pinned (OpenSpec.ofChange creditBoundsWrong)

/-- 'omnibuslaw15.CreditGives': WHATEVER THE INPUT: true; the input reads as it did. -/
def creditGivesSpec : ChangeSpec := { name := "creditGives", fn := fun _ => fun
  | [d1, d2, d3, d4] => { results := [.lit (.bool true)], args := [d1, d2, d3, d4] }
  | _ => none }
def creditGivesRow : OpenClaim := { program := "ytdaigbpaggnijaa", sum := "5a087e142a60c77dd5cbd9227a06262fc2ee222f808837e55867f76a0d3fc393", func := "omnibus/omnibuslaw15.CreditGives", spec := "creditGives", unfollowed := true, recurses := true, apart := false }
def CreditGivesSaid : Prop := creditGivesRow.holds Try.pinned (OpenSpec.ofChange creditGivesSpec)

/-- ITS FALSE NEIGHBOUR: 'it returns false'. Refute it at one input. -/
def creditGivesWrong : ChangeSpec := { name := "creditGives", fn := fun _ => fun
  | [d1, d2, d3, d4] => { results := [.lit (.bool false)], args := [d1, d2, d3, d4] }
  | _ => none }
def CreditGivesWrongFalsely : Prop := creditGivesRow.holds Try.pinned (OpenSpec.ofChange creditGivesWrong)

/-- 'omnibuslaw15.CreditAgain': WHATEVER THE INPUT: true; the input reads as it did. -/
def creditAgainSpec : ChangeSpec := { name := "creditAgain", fn := fun _ => fun
  | [d1, d2, d3] => { results := [.lit (.bool true)], args := [d1, d2, d3] }
  | _ => none }
def creditAgainRow : OpenClaim := { program := "ytdaigbpaggnijaa", sum := "5a087e142a60c77dd5cbd9227a06262fc2ee222f808837e55867f76a0d3fc393", func := "omnibus/omnibuslaw15.CreditAgain", spec := "creditAgain", unfollowed := true, recurses := true, apart := false }
def CreditAgainSaid : Prop := creditAgainRow.holds Try.pinned (OpenSpec.ofChange creditAgainSpec)

/-- ITS FALSE NEIGHBOUR: 'it returns false'. Refute it at one input. -/
def creditAgainWrong : ChangeSpec := { name := "creditAgain", fn := fun _ => fun
  | [d1, d2, d3] => { results := [.lit (.bool false)], args := [d1, d2, d3] }
  | _ => none }
def CreditAgainWrongFalsely : Prop := creditAgainRow.holds Try.pinned (OpenSpec.ofChange creditAgainWrong)

/-- 'omnibuslaw15.CreditAll': WHATEVER THE INPUT: true; the input reads as it did. -/
def creditAllSpec : ChangeSpec := { name := "creditAll", fn := fun _ => fun
  | [d] => { results := [.lit (.bool true)], args := [d] }
  | _ => none }
def creditAllRow : OpenClaim := { program := "ytdaigbpaggnijaa", sum := "5a087e142a60c77dd5cbd9227a06262fc2ee222f808837e55867f76a0d3fc393", func := "omnibus/omnibuslaw15.CreditAll", spec := "creditAll", unfollowed := true, recurses := true, apart := false }
def CreditAllSaid : Prop := creditAllRow.holds Try.pinned (OpenSpec.ofChange creditAllSpec)

/-- ITS FALSE NEIGHBOUR: 'it returns false'. Refute it at one input. -/
def creditAllWrong : ChangeSpec := { name := "creditAll", fn := fun _ => fun
  | [d] => { results := [.lit (.bool false)], args := [d] }
  | _ => none }
def CreditAllWrongFalsely : Prop := creditAllRow.holds Try.pinned (OpenSpec.ofChange creditAllWrong)

/- THE SECOND FORM. 'bulk': how many values and letters a reading holds, each counted each time it is reached (what is shared counts as often as it is met; a slice's spare places count too). A statement '..UptoSaid' is the law's where the arguments, and the package variables that the reading takes, are together of bulk at most 1048576: NARROWER than '..Said'. Prove '..Said' where nothing that the law and all that it calls make is longer than what came in: it says more and counts as full. Else prove '..UptoSaid'. A law counts once. -/
mutual
def uptoBulk {H : Type} : DataW H → Nat
  | .lit (.string bytes) => bytes.length + 1
  | .lit _ => 1
  | .nil => 1
  | .ptr d => uptoBulk d + 1
  | .slice elems spare => uptoBulkAll elems + uptoBulkAll spare + 1
  | .agg parts => uptoBulkAll parts + 1
  | .iface _ d => uptoBulk d + 1
  | .map entries => uptoBulkEntries entries + 1
  | .held _ => 1
def uptoBulkAll {H : Type} : List (DataW H) → Nat
  | [] => 0
  | d :: r => uptoBulk d + uptoBulkAll r
def uptoBulkEntries {H : Type} : List (Lit × DataW H) → Nat
  | [] => 0
  | x :: r => uptoBulkEntry x + uptoBulkEntries r
def uptoBulkEntry {H : Type} : Lit × DataW H → Nat
  | (.string bytes, d) => bytes.length + uptoBulk d + 1
  | (_, d) => uptoBulk d + 1
 end
def uptoSmall : (H : Type) → List (DataW H) → Bool := fun _ ds => decide (uptoBulkAll ds ≤ 1048576)
def OpenSpec.upto (s : _root_.Go.ChangeSpec) : _root_.Go.OpenSpec := { _root_.Go.OpenSpec.ofChange s with cond := some uptoSmall }

/-- 'omnibuslaw15.CreditTells', WHERE WHAT IT READS IS OF BULK AT MOST 1048576: true; the input reads as it did. -/
def creditTellsUptoRow : OpenClaim := { program := "ytdaigbpaggnijaa", sum := "5a087e142a60c77dd5cbd9227a06262fc2ee222f808837e55867f76a0d3fc393", func := "omnibus/omnibuslaw15.CreditTells", spec := "creditTells", unfollowed := true, recurses := true, apart := false, narrowed := true }
def CreditTellsUptoSaid : Prop := creditTellsUptoRow.holds Try.pinned (OpenSpec.upto creditTellsSpec)

/-- 'omnibuslaw15.CreditBounds', WHERE WHAT IT READS IS OF BULK AT MOST 1048576: true; the input reads as it did. -/
def creditBoundsUptoRow : OpenClaim := { program := "ytdaigbpaggnijaa", sum := "5a087e142a60c77dd5cbd9227a06262fc2ee222f808837e55867f76a0d3fc393", func := "omnibus/omnibuslaw15.CreditBounds", spec := "creditBounds", unfollowed := true, recurses := true, apart := false, narrowed := true }
def CreditBoundsUptoSaid : Prop := creditBoundsUptoRow.holds Try.pinned (OpenSpec.upto creditBoundsSpec)

/-- 'omnibuslaw15.CreditGives', WHERE WHAT IT READS IS OF BULK AT MOST 1048576: true; the input reads as it did. -/
def creditGivesUptoRow : OpenClaim := { program := "ytdaigbpaggnijaa", sum := "5a087e142a60c77dd5cbd9227a06262fc2ee222f808837e55867f76a0d3fc393", func := "omnibus/omnibuslaw15.CreditGives", spec := "creditGives", unfollowed := true, recurses := true, apart := false, narrowed := true }
def CreditGivesUptoSaid : Prop := creditGivesUptoRow.holds Try.pinned (OpenSpec.upto creditGivesSpec)

/-- 'omnibuslaw15.CreditAgain', WHERE WHAT IT READS IS OF BULK AT MOST 1048576: true; the input reads as it did. -/
def creditAgainUptoRow : OpenClaim := { program := "ytdaigbpaggnijaa", sum := "5a087e142a60c77dd5cbd9227a06262fc2ee222f808837e55867f76a0d3fc393", func := "omnibus/omnibuslaw15.CreditAgain", spec := "creditAgain", unfollowed := true, recurses := true, apart := false, narrowed := true }
def CreditAgainUptoSaid : Prop := creditAgainUptoRow.holds Try.pinned (OpenSpec.upto creditAgainSpec)

/-- 'omnibuslaw15.CreditAll', WHERE WHAT IT READS IS OF BULK AT MOST 1048576: true; the input reads as it did. -/
def creditAllUptoRow : OpenClaim := { program := "ytdaigbpaggnijaa", sum := "5a087e142a60c77dd5cbd9227a06262fc2ee222f808837e55867f76a0d3fc393", func := "omnibus/omnibuslaw15.CreditAll", spec := "creditAll", unfollowed := true, recurses := true, apart := false, narrowed := true }
def CreditAllUptoSaid : Prop := creditAllUptoRow.holds Try.pinned (OpenSpec.upto creditAllSpec)

end Rows
end Go.Proofs.Ytdaigbpaggnijaa
