/-
  Layer 16Z: the row and the card of LogTells: whatever the input, the law returns true, and the input reads as it did; the package variable ident.greatest as the program's text lays it.
-/
import Derived.Test.YtelbkabgkcogpaaGreatDoorOP5
set_option linter.unusedVariables false
set_option maxRecDepth 100000
namespace Go.Proofs.YtelbkabgkcogpaaGreatDoor
open Go Go.Proofs.YtelbkabgkcogpaaGreatDoor.Abs Go.ChangeShapes Go.WideShapes Go.ChangeAt Go.RowKit
theorem logTells_data (xs : List D) (h : ShDs Tryz.prog 5 Tryz.f3.params.toList xs) : M 3 (xs.map V.d) (.bool true) := by
  rw [Tryz.params3] at h
  obtain ⟨x0, q0, rfl, h0, x1, q1, rfl, h1, x2, q2, rfl, h2, x3, q3, rfl, h3, x4, q4, rfl, h4, x5, q5, rfl, h5, x6, q6, rfl, h6, x7, q7, rfl, h7, rfl⟩ := h
  obtain ⟨ra, rfl, b0, w0⟩ := sh_r3s h0
  obtain ⟨ms, rfl, b1, w1⟩ := sh_r6s h1
  obtain ⟨e, rfl, bi, bm⟩ := sh_ent h2
  obtain ⟨c, rfl, w3⟩ := sh_int h3
  obtain ⟨r, rfl, w4⟩ := sh_r3 h4
  obtain ⟨a, rfl, w5⟩ := sh_int h5
  obtain ⟨b, rfl, w6⟩ := sh_int h6
  obtain ⟨ak, rfl, b7⟩ := sh_ints h7
  exact tells_law ra ms e c r a b ak w0 w1 b0 b1 w3 w4 w5 w6 b7 bi bm
set_option maxRecDepth 100000 in
theorem logTells_lifted (os : Os) (started : os.Started) (H : Type) (enc : TypeId × Value → H) :
    ReturnsInHanded {} Tryz.checked os 3 .any (fun w args => (Rows.logTellsSpec.pre enc Tryz.prog Tryz.f3 [] false w args ∧ laidMetH Tryz.prog laidL w) ∧ sizedMet enc Tryz.prog Tryz.f3 (OpenSpec.ofChange Rows.logTellsSpec) false w args)
      (Rows.logTellsSpec.post enc Tryz.prog Tryz.f3 false true false false) := by
  refine returnsInHanded_of_change_and (C := Tryz.checked) (X := fun w _ => laidMetH Tryz.prog laidL w) (fun _ _ _ hh h => h.of_heap hh) own started (by kernel_rfl) Tryz.func3
    (ChangeSpec.witness_shaped (enc := enc) (C := Tryz.checked) (os := os) (X := fun w _ => laidMetH Tryz.prog laidL w) false (World.doorLaid Tryz.prog 400 os) #[.slice none 0 0, .slice none 0 0, .agg #[.int .i64 0, .int .i64 0, .int .i64 0, .slice none 0 0, .slice none 0 0], .int .i64 0, .agg #[.int .i64 0, .int .i64 0, .int .i64 0], .int .i64 0, .int .i64 0, .slice none 0 0] 8 rfl (World.shaped_of_RefB (by kernel_rfl) (by kernel_rfl)) (by kernel_rfl) (by kernel_rfl) (by kernel_rfl) (door_met os _)) ?_
  intro W base args ds gs before hval hW _ _ hL _
  refine row_true (P := Tryz.prog) (gl := gl) (n := 5) (tb := 4) laidOut ?_ rfl Tryz.underlying4 rfl ?_ (fun xs h => (logTells_data xs h).nil) (of_laid hL) hval hW
  · have h : (Tryz.f3.params.toList.all fun t => dataT Tryz.prog 5 t && Tryz.prog.readableRec t && decide (t < Tryz.prog.types.size)) = true := by kernel_rfl
    intro t ht
    have := List.all_eq_true.1 h t ht
    simp only [Bool.and_eq_true, decide_eq_true_eq] at this
    exact ⟨this.1.1, this.1.2, this.2⟩
  · intro ds h
    rw [Tryz.params3] at h
    match ds, h with
    | [d0, d1, d2, d3, d4, d5, d6, d7], _ => rfl
theorem logTells_row : Rows.LogTellsSaid :=
  OpenClaim.holds_of_wide 3 Tryz.f3 rfl rfl rfl rfl rfl rfl rfl ⟨rfl, rfl, rfl, rfl, rfl⟩ rfl rfl rfl rfl rfl (by kernel_rfl) Tryz.func3 (by kernel_rfl)
    (of_decide_eq_true (by kernel_rfl)) (by unfold Func.isWrapper; rw [if_neg (by decide +kernel)]; exact ⟨rfl, rfl⟩)
    (fun os started H enc _ => logTells_lifted os started H enc)
theorem logTells_holds : Rows.LogTellsCardSaid :=
  Claim7.holds_tied_plain_at .later [] [.data] true (true, "15411695385f9dcb48c97741d755479de7dd1e042847c1f941185930b8fce702") false
    logTells_row (fun _ h => by cases h) (by kernel_rfl) (fun _ h => by cases h) logTells_row_tie rfl ⟨rfl, rfl⟩ (by kernel_rfl) rfl
    (fun f fn hf hfn => by
      obtain rfl : f = 3 := Option.some.inj ((show Tryz.prog.funcNamed "omnibus/omnibuslaw16.LogTells" = some 3 by kernel_rfl).symm.trans hf) |>.symm
      obtain rfl : fn = Tryz.f3 := (Option.some.inj (Tryz.func3.symm.trans hfn)).symm
      exact ⟨by kernel_rfl, fun j t ht => by
        have h : (Tryz.f3.params.toList.all fun t => Tryz.prog.wantsStandIn t == false) = true := by kernel_rfl
        have := List.all_eq_true.1 h t (by simpa using Array.mem_of_getElem? ht)
        have h2 : Tryz.prog.wantsStandIn t = false := by simpa using this
        exact h2⟩)
    (by kernel_rfl)
end Go.Proofs.YtelbkabgkcogpaaGreatDoor
