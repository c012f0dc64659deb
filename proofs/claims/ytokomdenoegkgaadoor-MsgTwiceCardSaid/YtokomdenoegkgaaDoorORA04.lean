/-
  Layer 04: the row and the card of MsgTwice: whatever the input, the law returns true, and the input reads as it did; the package variable ident.greatest as the program's text lays it.
-/
import Derived.Test.YtokomdenoegkgaaDoorOR04
import Derived.Test.YtokomdenoegkgaaDoorOA04
set_option linter.unusedVariables false
namespace Go.Proofs.YtokomdenoegkgaaDoor
open Go Go.Proofs.YtokomdenoegkgaaDoor.Abs Go.ChangeShapes Go.WideShapes Go.ChangeAt Go.RowKit
theorem msgTwice_data (xs : List D) (h : ShDs Tryd.prog 5 Tryd.f7.params.toList xs) : M 7 (xs.map V.d) (.bool true) := by
  rw [Tryd.params7] at h
  obtain ⟨x0, q0, rfl, h0, x1, q1, rfl, h1, rfl⟩ := h
  obtain ⟨raw, rfl, b0, w0⟩ := sh_r6s h0
  obtain ⟨a, rfl, w1⟩ := sh_int h1
  exact twice_law raw a w0 w1 b0
set_option maxRecDepth 100000 in
theorem msgTwice_lifted (os : Os) (started : os.Started) (H : Type) (enc : TypeId × Value → H) :
    ReturnsInHanded {} Tryd.checked os 7 .any (fun w args => (Rows.msgTwiceSpec.pre enc Tryd.prog Tryd.f7 [] false w args ∧ laidMetH Tryd.prog laidL w) ∧ sizedMet enc Tryd.prog Tryd.f7 (OpenSpec.ofChange Rows.msgTwiceSpec) false w args)
      (Rows.msgTwiceSpec.post enc Tryd.prog Tryd.f7 false true false false) := by
  refine returnsInHanded_of_change_and (C := Tryd.checked) (X := fun w _ => laidMetH Tryd.prog laidL w) (fun _ _ _ hh h => h.of_heap hh) own started (by kernel_rfl) Tryd.func7
    (ChangeSpec.witness_shaped (enc := enc) (C := Tryd.checked) (os := os) (X := fun w _ => laidMetH Tryd.prog laidL w) false (World.doorLaid Tryd.prog 400 os) #[.slice none 0 0, .int .i64 0] 8 rfl (World.shaped_of_RefB (by kernel_rfl) (by kernel_rfl)) (by kernel_rfl) (by kernel_rfl) (by kernel_rfl) (door_met os _)) ?_
  intro W base args ds gs before hval hW _ _ hL _
  refine row_true (P := Tryd.prog) (gl := gl) (n := 5) (tb := 4) laidOut ?_ rfl Tryd.underlying4 rfl ?_ (fun xs h => (msgTwice_data xs h).nil) (of_laid hL) hval hW
  · have h : (Tryd.f7.params.toList.all fun t => dataT Tryd.prog 5 t && Tryd.prog.readableRec t && decide (t < Tryd.prog.types.size)) = true := by kernel_rfl
    intro t ht
    have := List.all_eq_true.1 h t ht
    simp only [Bool.and_eq_true, decide_eq_true_eq] at this
    exact ⟨this.1.1, this.1.2, this.2⟩
  · intro ds h
    rw [Tryd.params7] at h
    match ds, h with
    | [d0, d1], _ => rfl
theorem msgTwice_row : Rows.MsgTwiceSaid :=
  OpenClaim.holds_of_wide 7 Tryd.f7 rfl rfl rfl rfl rfl rfl rfl ⟨rfl, rfl, rfl, rfl, rfl⟩ rfl rfl rfl rfl rfl (by kernel_rfl) Tryd.func7 (by kernel_rfl)
    (of_decide_eq_true (by kernel_rfl)) (by unfold Func.isWrapper; rw [if_neg (by decide +kernel)]; exact ⟨rfl, rfl⟩)
    (fun os started H enc _ => msgTwice_lifted os started H enc)
theorem msgTwice_holds : Rows.MsgTwiceCardSaid :=
  Claim7.holds_tied_plain_at .later [] [.data] true (true, "97a490169cac236880bc9c9d0bbc44b5355728c7ee516764191a6f5d4b353fad") false
    msgTwice_row (fun _ h => by cases h) (by kernel_rfl) (fun _ h => by cases h) msgTwice_row_tie rfl ⟨rfl, rfl⟩ (by kernel_rfl) rfl
    (fun f fn hf hfn => by
      obtain rfl : f = 7 := Option.some.inj ((show Tryd.prog.funcNamed "omnibus/omnibuslaw04.MsgTwice" = some 7 by kernel_rfl).symm.trans hf) |>.symm
      obtain rfl : fn = Tryd.f7 := (Option.some.inj (Tryd.func7.symm.trans hfn)).symm
      exact ⟨by kernel_rfl, fun j t ht => by
        have h : (Tryd.f7.params.toList.all fun t => Tryd.prog.wantsStandIn t == false) = true := by kernel_rfl
        have := List.all_eq_true.1 h t (by simpa using Array.mem_of_getElem? ht)
        have h2 : Tryd.prog.wantsStandIn t = false := by simpa using this
        exact h2⟩)
    (by kernel_rfl)
end Go.Proofs.YtokomdenoegkgaaDoor
