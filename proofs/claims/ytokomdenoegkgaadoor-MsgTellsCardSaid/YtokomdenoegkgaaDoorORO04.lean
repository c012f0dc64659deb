/-
  Layer 04: the row and the card of MsgTells: whatever the input, the law returns true, and the input reads as it did; the package variable ident.greatest as the program's text lays it.
-/
import Derived.Test.YtokomdenoegkgaaDoorOR04
import Derived.Test.YtokomdenoegkgaaDoorOO04
set_option linter.unusedVariables false
namespace Go.Proofs.YtokomdenoegkgaaDoor
open Go Go.Proofs.YtokomdenoegkgaaDoor.Abs Go.ChangeShapes Go.WideShapes Go.ChangeAt Go.RowKit
theorem msgTells_data (xs : List D) (h : ShDs Tryd.prog 5 Tryd.f3.params.toList xs) : M 3 (xs.map V.d) (.bool true) := by
  rw [Tryd.params3] at h
  obtain ⟨x0, q0, rfl, h0, x1, q1, rfl, h1, x2, q2, rfl, h2, x3, q3, rfl, h3, x4, q4, rfl, h4, x5, q5, rfl, h5, rfl⟩ := h
  obtain ⟨a, rfl⟩ := sh_msg h0
  obtain ⟨b, rfl⟩ := sh_msg h1
  obtain ⟨r, rfl, w2⟩ := sh_r6 h2
  obtain ⟨s, rfl⟩ := sh_str h3
  obtain ⟨c, rfl, w4⟩ := sh_int h4
  obtain ⟨d, rfl, w5⟩ := sh_int h5
  exact tells_law a b r s c d w2 w4 w5
set_option maxRecDepth 100000 in
theorem msgTells_lifted (os : Os) (started : os.Started) (H : Type) (enc : TypeId × Value → H) :
    ReturnsInHanded {} Tryd.checked os 3 .any (fun w args => (Rows.msgTellsSpec.pre enc Tryd.prog Tryd.f3 [] false w args ∧ laidMetH Tryd.prog laidL w) ∧ sizedMet enc Tryd.prog Tryd.f3 (OpenSpec.ofChange Rows.msgTellsSpec) false w args)
      (Rows.msgTellsSpec.post enc Tryd.prog Tryd.f3 false true false false) := by
  refine returnsInHanded_of_change_and (C := Tryd.checked) (X := fun w _ => laidMetH Tryd.prog laidL w) (fun _ _ _ hh h => h.of_heap hh) own started (by kernel_rfl) Tryd.func3
    (ChangeSpec.witness_shaped (enc := enc) (C := Tryd.checked) (os := os) (X := fun w _ => laidMetH Tryd.prog laidL w) false (World.doorLaid Tryd.prog 400 os) #[.agg #[.bool false, .int .i64 0, .int .i64 0, .int .i64 0, .int .i64 0, .int .i64 0, .string ByteArray.empty], .agg #[.bool false, .int .i64 0, .int .i64 0, .int .i64 0, .int .i64 0, .int .i64 0, .string ByteArray.empty], .agg #[.int .i64 0, .int .i64 0, .int .i64 0, .int .i64 0, .int .i64 0, .int .i64 0], .string ByteArray.empty, .int .i64 0, .int .i64 0] 8 rfl (World.shaped_of_RefB (by kernel_rfl) (by kernel_rfl)) (by kernel_rfl) (by kernel_rfl) (by kernel_rfl) (door_met os _)) ?_
  intro W base args ds gs before hval hW _ _ hL _
  refine row_true (P := Tryd.prog) (gl := gl) (n := 5) (tb := 4) laidOut ?_ rfl Tryd.underlying4 rfl ?_ (fun xs h => (msgTells_data xs h).nil) (of_laid hL) hval hW
  · have h : (Tryd.f3.params.toList.all fun t => dataT Tryd.prog 5 t && Tryd.prog.readableRec t && decide (t < Tryd.prog.types.size)) = true := by kernel_rfl
    intro t ht
    have := List.all_eq_true.1 h t ht
    simp only [Bool.and_eq_true, decide_eq_true_eq] at this
    exact ⟨this.1.1, this.1.2, this.2⟩
  · intro ds h
    rw [Tryd.params3] at h
    match ds, h with
    | [d0, d1, d2, d3, d4, d5], _ => rfl
theorem msgTells_row : Rows.MsgTellsSaid :=
  OpenClaim.holds_of_wide 3 Tryd.f3 rfl rfl rfl rfl rfl rfl rfl ⟨rfl, rfl, rfl, rfl, rfl⟩ rfl rfl rfl rfl rfl (by kernel_rfl) Tryd.func3 (by kernel_rfl)
    (of_decide_eq_true (by kernel_rfl)) (by unfold Func.isWrapper; rw [if_neg (by decide +kernel)]; exact ⟨rfl, rfl⟩)
    (fun os started H enc _ => msgTells_lifted os started H enc)
theorem msgTells_holds : Rows.MsgTellsCardSaid :=
  Claim7.holds_tied_plain_at .later [] [.data] true (true, "97a490169cac236880bc9c9d0bbc44b5355728c7ee516764191a6f5d4b353fad") false
    msgTells_row (fun _ h => by cases h) (by kernel_rfl) (fun _ h => by cases h) msgTells_row_tie rfl ⟨rfl, rfl⟩ (by kernel_rfl) rfl
    (fun f fn hf hfn => by
      obtain rfl : f = 3 := Option.some.inj ((show Tryd.prog.funcNamed "omnibus/omnibuslaw04.MsgTells" = some 3 by kernel_rfl).symm.trans hf) |>.symm
      obtain rfl : fn = Tryd.f3 := (Option.some.inj (Tryd.func3.symm.trans hfn)).symm
      exact ⟨by kernel_rfl, fun j t ht => by
        have h : (Tryd.f3.params.toList.all fun t => Tryd.prog.wantsStandIn t == false) = true := by kernel_rfl
        have := List.all_eq_true.1 h t (by simpa using Array.mem_of_getElem? ht)
        have h2 : Tryd.prog.wantsStandIn t = false := by simpa using this
        exact h2⟩)
    (by kernel_rfl)
end Go.Proofs.YtokomdenoegkgaaDoor
