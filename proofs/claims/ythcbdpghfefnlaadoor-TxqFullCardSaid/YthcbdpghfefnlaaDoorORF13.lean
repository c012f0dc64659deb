/-
  Layer 13: the row and the card of TxqFull: whatever the input, the law returns true, and the input reads as it did; the package variable ident.greatest as the program's text lays it.
-/
import Derived.Test.YthcbdpghfefnlaaDoorOR13
import Derived.Test.YthcbdpghfefnlaaDoorOK13
set_option linter.unusedVariables false
namespace Go.Proofs.YthcbdpghfefnlaaDoor
open Go Go.Proofs.YthcbdpghfefnlaaDoor.Abs Go.ChangeShapes Go.WideShapes Go.ChangeAt Go.RowKit
theorem sh_r6 {n : Nat} {x : D} (h : ShD Tryd.prog n 23 x) : ∃ r : R6, x = .agg r.L ∧ r.ok := by
  obtain ⟨ls, rfl, hs⟩ := ShD_row (by rw [isRowT_of Tryd.underlying23]; rfl) h
  obtain ⟨r, rfl, hr⟩ := sh_r6' _ _ hs
  exact ⟨r, rfl, hr⟩
theorem txqFull_data (xs : List D) (h : ShDs Tryd.prog 5 Tryd.f5.params.toList xs) : M 5 (xs.map V.d) (.bool true) := by
  rw [Tryd.params5] at h
  obtain ⟨x0, r0, rfl, h0, x1, r1, rfl, h1, rfl⟩ := h
  obtain ⟨a, rfl, w0⟩ := sh_int h0
  obtain ⟨r, rfl, w1⟩ := sh_r6 h1
  exact full_law a r w0 w1
set_option maxRecDepth 100000 in
theorem txqFull_lifted (os : Os) (started : os.Started) (H : Type) (enc : TypeId × Value → H) :
    ReturnsInHanded {} Tryd.checked os 5 .any (fun w args => (Rows.txqFullSpec.pre enc Tryd.prog Tryd.f5 [] false w args ∧ laidMetH Tryd.prog laidL w) ∧ sizedMet enc Tryd.prog Tryd.f5 (OpenSpec.ofChange Rows.txqFullSpec) false w args)
      (Rows.txqFullSpec.post enc Tryd.prog Tryd.f5 false true false false) := by
  refine returnsInHanded_of_change_and (C := Tryd.checked) (X := fun w _ => laidMetH Tryd.prog laidL w) (fun _ _ _ hh h => h.of_heap hh) own started (by kernel_rfl) Tryd.func5
    (ChangeSpec.witness_shaped (enc := enc) (C := Tryd.checked) (os := os) (X := fun w _ => laidMetH Tryd.prog laidL w) false (World.doorLaid Tryd.prog 400 os) #[.int .i64 0, .agg #[.int .i64 0, .int .i64 0, .int .i64 0, .int .i64 0, .int .i64 0, .int .i64 0]] 8 rfl (World.shaped_of_RefB (by kernel_rfl) (by kernel_rfl)) (by kernel_rfl) (by kernel_rfl) (by kernel_rfl) (door_met os _)) ?_
  intro W base args ds gs before hval hW _ _ hL _
  refine row_true (P := Tryd.prog) (gl := gl) (n := 5) (tb := 4) laidOut ?_ rfl Tryd.underlying4 rfl ?_ (fun xs h => (txqFull_data xs h).nil) (of_laid hL) hval hW
  · have h : (Tryd.f5.params.toList.all fun t => dataT Tryd.prog 5 t && Tryd.prog.readableRec t && decide (t < Tryd.prog.types.size)) = true := by kernel_rfl
    intro t ht
    have := List.all_eq_true.1 h t ht
    simp only [Bool.and_eq_true, decide_eq_true_eq] at this
    exact ⟨this.1.1, this.1.2, this.2⟩
  · intro ds h
    rw [Tryd.params5] at h
    match ds, h with
    | [d0, d1], _ => rfl
theorem txqFull_row : Rows.TxqFullSaid :=
  OpenClaim.holds_of_wide 5 Tryd.f5 rfl rfl rfl rfl rfl rfl rfl ⟨rfl, rfl, rfl, rfl, rfl⟩ rfl rfl rfl rfl rfl (by kernel_rfl) Tryd.func5 (by kernel_rfl)
    (of_decide_eq_true (by kernel_rfl)) (by unfold Func.isWrapper; rw [if_neg (by decide +kernel)]; exact ⟨rfl, rfl⟩)
    (fun os started H enc _ => txqFull_lifted os started H enc)
theorem txqFull_holds : Rows.TxqFullCardSaid :=
  Claim7.holds_tied_plain_at .later [] [.data] true (true, "7b0e0875cf57c415a2362fb59c81b69631f3134ceb30fce10e09ea67a8f27b71") false
    txqFull_row (fun _ h => by cases h) (by kernel_rfl) (fun _ h => by cases h) txqFull_row_tie rfl ⟨rfl, rfl⟩ (by kernel_rfl) rfl
    (fun f fn hf hfn => by
      obtain rfl : f = 5 := Option.some.inj ((show Tryd.prog.funcNamed "omnibus/omnibuslaw13.TxqFull" = some 5 by kernel_rfl).symm.trans hf) |>.symm
      obtain rfl : fn = Tryd.f5 := (Option.some.inj (Tryd.func5.symm.trans hfn)).symm
      exact ⟨by kernel_rfl, fun j t ht => by
        have h : (Tryd.f5.params.toList.all fun t => Tryd.prog.wantsStandIn t == false) = true := by kernel_rfl
        have := List.all_eq_true.1 h t (by simpa using Array.mem_of_getElem? ht)
        have h2 : Tryd.prog.wantsStandIn t = false := by simpa using this
        exact h2⟩)
    (by kernel_rfl)
end Go.Proofs.YthcbdpghfefnlaaDoor
